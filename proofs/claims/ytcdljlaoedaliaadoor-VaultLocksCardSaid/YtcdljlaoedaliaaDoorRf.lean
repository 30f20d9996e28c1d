/- The contract of lanternref02's step: it is what sha's block is. -/
import Derived.Test.YtcdljlaoedaliaaDoorBk
import Derived.Test.YtcdljlaoedaliaaDoorSq
import Derived.Deep.Cut
set_option linter.unusedVariables false
set_option linter.unusedSimpArgs false
namespace Go.Proofs.YtcdljlaoedaliaaDoor
open Go.RowKit Wd

theorem Tryd.builtW : Tryd.prog.built 97 [] = some (Sha.wv (Sha.filled64 [])).toArray := by kernel_rfl
theorem wpList_build_none {P : Program} {ops : Array Oper} {rest : List Oper} {o : Oper} {a : Act} {w : World} {Q : Exit → Act → World → Prop} (hg : o.guard = none) (t : TypeId) (ho : o.op = .build t #[]) {cells : Array Value} (hb : P.built t [] = some cells)
    (h : wpList P ops Q rest (a.put o.dst (.agg cells)) w) : wpList P ops Q (o :: rest) a w := by
  refine wpList_build hg t #[] ho ?_ ?_
  · simp [hb]
  · simpa [hb] using h
theorem turnq_7 (x : UInt32) (w : World) : Calls Tryd.prog 82 #[.int .u32 (x.toNat : Int), .int .u64 7] w fun e w' => e = .returned (.int .u32 ((U3.rr x 7).toNat : Int)) ∧ w' = w := (turn_7 x w).mono fun _ _ h => ⟨h.1, h.2.symm⟩
theorem turnq_18 (x : UInt32) (w : World) : Calls Tryd.prog 82 #[.int .u32 (x.toNat : Int), .int .u64 18] w fun e w' => e = .returned (.int .u32 ((U3.rr x 18).toNat : Int)) ∧ w' = w := (turn_18 x w).mono fun _ _ h => ⟨h.1, h.2.symm⟩
theorem turnq_17 (x : UInt32) (w : World) : Calls Tryd.prog 82 #[.int .u32 (x.toNat : Int), .int .u64 17] w fun e w' => e = .returned (.int .u32 ((U3.rr x 17).toNat : Int)) ∧ w' = w := (turn_17 x w).mono fun _ _ h => ⟨h.1, h.2.symm⟩
theorem turnq_19 (x : UInt32) (w : World) : Calls Tryd.prog 82 #[.int .u32 (x.toNat : Int), .int .u64 19] w fun e w' => e = .returned (.int .u32 ((U3.rr x 19).toNat : Int)) ∧ w' = w := (turn_19 x w).mono fun _ _ h => ⟨h.1, h.2.symm⟩
theorem turnq_6 (x : UInt32) (w : World) : Calls Tryd.prog 82 #[.int .u32 (x.toNat : Int), .int .u64 6] w fun e w' => e = .returned (.int .u32 ((U3.rr x 6).toNat : Int)) ∧ w' = w := (turn_6 x w).mono fun _ _ h => ⟨h.1, h.2.symm⟩
theorem turnq_11 (x : UInt32) (w : World) : Calls Tryd.prog 82 #[.int .u32 (x.toNat : Int), .int .u64 11] w fun e w' => e = .returned (.int .u32 ((U3.rr x 11).toNat : Int)) ∧ w' = w := (turn_11 x w).mono fun _ _ h => ⟨h.1, h.2.symm⟩
theorem turnq_25 (x : UInt32) (w : World) : Calls Tryd.prog 82 #[.int .u32 (x.toNat : Int), .int .u64 25] w fun e w' => e = .returned (.int .u32 ((U3.rr x 25).toNat : Int)) ∧ w' = w := (turn_25 x w).mono fun _ _ h => ⟨h.1, h.2.symm⟩
theorem Sha.not2_ (E : UInt32) : bits .xor .u32 (E.toNat : Int) 4294967295 = ((Sha.cm E).toNat : Int) := by
  have h := u32_xor_nat E.toNat 4294967295 (U3.lt E) (by decide)
  unfold Sha.cm
  rw [U3.xo_nat]
  exact h
theorem Tryd.sizeW : (Tryd.prog.info? 97).map (·.size) = some 64 := by kernel_rfl
theorem filled64_nil_length : (Sha.wv (Sha.filled64 [])).length = 64 := by rw [Sha.wv_length, Sha.filled64_length _ (by simp)]
set_option maxRecDepth 100000 in
set_option maxHeartbeats 16000000 in
theorem step_any (hh : Sha.V8) (b : List UInt8) (bb bo c : Nat) (w : World) (hlen : b.length = 64) (hb : w.rangeAt bb bo (bv b)) (hbb : bb < w.heap.size) :
    Calls Tryd.prog 65 #[.agg (Sha.wv hh.list).toArray, .agg (Sha.wv Sha.known).toArray, .slice (some ⟨bb, bo, none⟩) 64 c] w fun e w' =>
      e = .returned (.agg (Sha.wv (Sha.block hh b).list).toArray) ∧ Below w.heap.size w w' := by
  have HLEN := Lib.hid hlen
  have HB := Lib.hid hb
  clear hlen hb
  obtain ⟨ks, hks⟩ : ∃ x, x = Sha.known := ⟨_, rfl⟩
  rw [← hks]
  have HKS := Lib.hid hks
  clear hks
  go_enter Tryd.func65, Tryd.ntmps65
  go_upto_region 1 with fail
  refine wp_region_lit ?_
  refine wpList_build_none (by rfl) 97 (by rfl) Tryd.builtW ?_
  have k0 := alloc3 w 96 97 96 (Sha.wv hh.list) (Sha.wv ks) (Sha.wv (List.replicate 8 0))
  generalize hw0 : ((w.alloc (.cells (Sha.wv hh.list).toArray 96)).alloc (.cells (Sha.wv ks).toArray 97)).alloc (.cells (Sha.wv (List.replicate 8 0)).toArray 96) = w0 at k0
  have hw1 : (((w.alloc (.cells (Sha.wv hh.list).toArray 96)).alloc (.cells (Sha.wv ks).toArray 97)).alloc (.cells #[.int .u32 0, .int .u32 0, .int .u32 0, .int .u32 0, .int .u32 0, .int .u32 0, .int .u32 0, .int .u32 0] 96)) = w0 := hw0
  rw [hw1]
  obtain ⟨b0, b1, b2, hbe0⟩ := k0
  clear hw0 hw1
  refine wpList_alloc_blk (by rfl) 97 (by rfl) Tryd.zeroW ?_
  intro w1 hn1 hbe1 hsz1
  simp only [Act.put, List.setIfInBounds_toArray, List.set_cons_zero, List.set_cons_succ]
  refine wpList_store_blk (by rfl) 97 (.tmp 7) (.tmp 22) (by rfl) w0.heap.size 0 (Sha.wv (Sha.filled64 [])) (by rfl) (by rfl) 97 _ hn1 ?_ ?_ (Sha.wv_one _) ?_
  · rw [filled64_nil_length]; simp [Value.cells]
  · rw [filled64_nil_length]; exact Tryd.sizeW
  intro w2 hn2 hk2 hsz2
  refine wpList_nil ?_
  rw [ins_all _ _ (by rw [filled64_nil_length]; simp [Value.cells])] at hn2
  have hbe2 : Below w0.heap.size w0 w2 := (hk2.below (B := w0.heap.size) (by omega) (fun k hk => by omega)).trans_of hbe1
  have hsw := b2.lt
  have b0 := b0.below hbe2 (by omega)
  have b1 := b1.below hbe2 (by omega)
  have b2 := b2.below hbe2 hsw
  have hbe := (hbe2.mono (B' := w.heap.size) hbe0.size).trans_of hbe0
  clear hbe0 hbe1 hbe2 hk2 hn1 hsz1 hsz2
  obtain ⟨g3, hg3⟩ : ∃ x, x = w0.heap.size := ⟨_, rfl⟩
  rw [← hg3] at hn2 hsw ⊢
  clear hg3
  go_wp2
  go_loopw [8] (fun v wr => ∃ i : Nat, i ≤ 64 ∧ v = .int .i64 i ∧ Blk wr w.heap.size 96 (Sha.wv hh.list) ∧ Blk wr (w.heap.size + 1) 97 (Sha.wv ks) ∧ Blk wr (w.heap.size + 1 + 1) 96 (Sha.wv (List.replicate 8 0)) ∧ Blk wr g3 97 (Sha.wv (Sha.filled64 (Sha.upto b i))) ∧ Below w.heap.size w wr) (fun v _ => 64 - (intOf v).toNat)
  case atStart => exact ⟨0, by omega, rfl, b0, b1, b2, hn2, hbe⟩
  case round =>
    clear b0 b1 b2 hn2 hbe
    obtain ⟨i, hi, rfl, b0, b1, b2, b3, hbe⟩ := hrel
    by_cases hlt : i < 64
    · have HBE := Lib.hid hbe
      have HI := Lib.hid hlt
      obtain ⟨OLD, hOLD⟩ : ∃ x : UInt32, wr.cell? ⟨g3, i, none⟩ = some (.int .u32 (x.toNat : Int)) := ⟨_, by
        rw [b3.cell]; exact Sha.wv_at _ _ (by rw [Sha.filled64_length _ (by rw [Sha.upto_length]; omega)]; omega)⟩
      have f3 := b3.frozen i
      by_cases h16 : i < 16
      · have HI6 := Lib.hid h16
        have hbr := rangeAt_below HB.out hbe hbb
        have i0 : (0 : Int) ≤ (i : Int) := by omega
        have i1 : (i : Int) < 16 := by omega
        have i2 : (i : Int) < 64 := by omega
        have w0 : IntKind.i64.wrap (4 * (i : Int)) = 4 * (i : Int) := by rw [IntKind.wrap_i64]; omega
        have l0 : (0 : Int) ≤ 4 * (i : Int) := by omega
        have m0 : 4 * (i : Int) < 64 := by omega
        have t0 : (4 * (i : Int)).toNat = 4 * i := by omega
        obtain ⟨B0, hB0⟩ : ∃ x, x = b.getD (4 * i) 0 := ⟨_, rfl⟩
        have x0 : (B0.toNat : Int) % 4294967296 = ((Sha.w8 B0).toNat : Int) := Sha.w8_mod _
        have HC0 : Hid (∀ w : World, w.rangeAt bb bo (bv b) → w.cell? ⟨bb, bo + (4 * i), none⟩ = some (.int .u8 (B0.toNat : Int))) := fun w h => by rw [hB0]; exact byte_at h HLEN.out (by omega)
        have w1 : IntKind.i64.wrap (4 * (i : Int) + 1) = 4 * (i : Int) + 1 := by rw [IntKind.wrap_i64]; omega
        have l1 : (0 : Int) ≤ 4 * (i : Int) + 1 := by omega
        have m1 : 4 * (i : Int) + 1 < 64 := by omega
        have t1 : (4 * (i : Int) + 1).toNat = 4 * i + 1 := by omega
        obtain ⟨B1, hB1⟩ : ∃ x, x = b.getD (4 * i + 1) 0 := ⟨_, rfl⟩
        have x1 : (B1.toNat : Int) % 4294967296 = ((Sha.w8 B1).toNat : Int) := Sha.w8_mod _
        have HC1 : Hid (∀ w : World, w.rangeAt bb bo (bv b) → w.cell? ⟨bb, bo + (4 * i + 1), none⟩ = some (.int .u8 (B1.toNat : Int))) := fun w h => by rw [hB1]; exact byte_at h HLEN.out (by omega)
        have w2 : IntKind.i64.wrap (4 * (i : Int) + 2) = 4 * (i : Int) + 2 := by rw [IntKind.wrap_i64]; omega
        have l2 : (0 : Int) ≤ 4 * (i : Int) + 2 := by omega
        have m2 : 4 * (i : Int) + 2 < 64 := by omega
        have t2 : (4 * (i : Int) + 2).toNat = 4 * i + 2 := by omega
        obtain ⟨B2, hB2⟩ : ∃ x, x = b.getD (4 * i + 2) 0 := ⟨_, rfl⟩
        have x2 : (B2.toNat : Int) % 4294967296 = ((Sha.w8 B2).toNat : Int) := Sha.w8_mod _
        have HC2 : Hid (∀ w : World, w.rangeAt bb bo (bv b) → w.cell? ⟨bb, bo + (4 * i + 2), none⟩ = some (.int .u8 (B2.toNat : Int))) := fun w h => by rw [hB2]; exact byte_at h HLEN.out (by omega)
        have w3 : IntKind.i64.wrap (4 * (i : Int) + 3) = 4 * (i : Int) + 3 := by rw [IntKind.wrap_i64]; omega
        have l3 : (0 : Int) ≤ 4 * (i : Int) + 3 := by omega
        have m3 : 4 * (i : Int) + 3 < 64 := by omega
        have t3 : (4 * (i : Int) + 3).toNat = 4 * i + 3 := by omega
        obtain ⟨B3, hB3⟩ : ∃ x, x = b.getD (4 * i + 3) 0 := ⟨_, rfl⟩
        have x3 : (B3.toNat : Int) % 4294967296 = ((Sha.w8 B3).toNat : Int) := Sha.w8_mod _
        have HC3 : Hid (∀ w : World, w.rangeAt bb bo (bv b) → w.cell? ⟨bb, bo + (4 * i + 3), none⟩ = some (.int .u8 (B3.toNat : Int))) := fun w h => by rw [hB3]; exact byte_at h HLEN.out (by omega)
        have y0 : ((Sha.w8 B0).toNat : Int) * 16777216 % 4294967296 = ((U3.sl (Sha.w8 B0) 24).toNat : Int) := U3.shl' _ 24 16777216 (by decide) (by decide)
        have y1 : ((Sha.w8 B1).toNat : Int) * 65536 % 4294967296 = ((U3.sl (Sha.w8 B1) 16).toNat : Int) := U3.shl' _ 16 65536 (by decide) (by decide)
        have y2 : ((Sha.w8 B2).toNat : Int) * 256 % 4294967296 = ((U3.sl (Sha.w8 B2) 8).toNat : Int) := U3.shl' _ 8 256 (by decide) (by decide)
        have z1 := U3.add' (U3.sl (Sha.w8 B0) 24) (U3.sl (Sha.w8 B1) 16)
        have z2 := U3.add' (U3.ad (U3.sl (Sha.w8 B0) 24) (U3.sl (Sha.w8 B1) 16)) (U3.sl (Sha.w8 B2) 8)
        have z3 := U3.add' (U3.ad (U3.ad (U3.sl (Sha.w8 B0) 24) (U3.sl (Sha.w8 B1) 16)) (U3.sl (Sha.w8 B2) 8)) (Sha.w8 B3)
        have hWD : Sha.word b i = U3.ad (U3.ad (U3.ad (U3.sl (Sha.w8 B0) 24) (U3.sl (Sha.w8 B1) 16)) (U3.sl (Sha.w8 B2) 8)) (Sha.w8 B3) := by rw [hB0, hB1, hB2, hB3]; exact (Sha.word_add b i).symm
        rw [← hWD] at z3
        clear hWD hB0 hB1 hB2 hB3
        obtain ⟨WD, hWD⟩ : ∃ x, x = Sha.word b i := ⟨_, rfl⟩
        rw [← hWD] at z3
        have HWD := Lib.hid hWD
        clear hWD hlt hbe hi h16
        go_wp2
        refine Pl.wp_plan (fun w' => w'.rangeAt bb bo (bv b)) [0, 1, 2, 3, 4, 5, 6, 7, 8, 9, 10, 11, 12, 13, 14, 15, 16, 17, 18, 19, 20, 21, 22, 23, 24, 25, 26, 27, 28, 29, 30, 31, 32, 33] [] [34, 35] Tryd.mixed (by kernel_rfl) (fun _ _ d _ _ h => by cases d <;> exact h) hbr ?_
        simp only [Pl.pick, List.drop_succ_cons, List.drop_zero]
        clear hbr
        iterate 34 (refine Pl.head_run (v := ?_) (by rfl) ?_ ?_; rotate_left; (focus (intro w' hS; have c0 := HC0.out w' hS; have c1 := HC1.out w' hS; have c2 := HC2.out w' hS; have c3 := HC3.out w' hS; go_simp; with_reducible rfl)); simp only [Act.put, List.setIfInBounds_toArray, List.set_cons_zero, List.set_cons_succ])
        refine Pl.head_nil ?_
        simp only [Pl.Mid]
        go_wp2
        generalize hw3 : World.setCell _ ⟨g3, i, none⟩ (.int .u32 (WD.toNat : Int)) = w3
        have hk3 : Keeps wr w3 (· = g3) := by rw [← hw3]; exact (Keeps.refl wr (· = g3)).setCell (.inl rfl) _
        have hb3 := (hk3.below (B := w.heap.size) HBE.out.size (fun k hk => by omega)).trans_of HBE.out
        have hn3 : Blk w3 g3 97 (Sha.wv (Sha.filled64 (Sha.upto b (i + 1)))) := by
          rw [← hw3]
          have := b3.set_ i (.int .u32 (WD.toNat : Int))
          rw [Sha.wv_set] at this
          have e := Sha.filled64_set (Sha.upto b i) (Sha.word b i) (by rw [Sha.upto_length]; exact HI.out)
          rw [Sha.upto_length, ← Sha.upto_lt b i HI6.out] at e
          rw [← e, ← HWD.out]
          exact this
        have hi := HI.out
        exact ⟨⟨i + 1, by omega, by rw [Int.natCast_add]; rfl, (hk3.blk b0 (by omega)).drew, (hk3.blk b1 (by omega)).drew, (hk3.blk b2 (by omega)).drew, hn3.drew, hb3.drew⟩, by simp [intOf]; omega⟩
      · have HI6 := Lib.hid h16
        have i0 : (0 : Int) ≤ (i : Int) := by omega
        have i1 : (i : Int) < 64 := by omega
        have i3 : (16 : Int) ≤ (i : Int) := by omega
        have w2 : IntKind.i64.wrap ((i : Int) - 2) = (i : Int) - 2 := by rw [IntKind.wrap_i64]; omega
        have l2 : (0 : Int) ≤ (i : Int) - 2 := by omega
        have n2 : (2 : Int) ≤ (i : Int) := by omega
        have m2 : (i : Int) - 2 < 64 := by omega
        have t2 : ((i : Int) - 2).toNat = i - 2 := by omega
        obtain ⟨A2, hA2⟩ : ∃ x, x = (Sha.upto b i).getD (i - 2) 0 := ⟨_, rfl⟩
        have c2 : wr.cell? ⟨g3, i - 2, none⟩ = some (.int .u32 (A2.toNat : Int)) := by
          rw [b3.cell, Sha.wv_at _ _ (by rw [Sha.filled64_length _ (by rw [Sha.upto_length]; omega)]; omega), hA2, Sha.filled64_get _ _ (by rw [Sha.upto_length]; omega)]
        have HA2 := Lib.hid hA2
        clear hA2
        have w7 : IntKind.i64.wrap ((i : Int) - 7) = (i : Int) - 7 := by rw [IntKind.wrap_i64]; omega
        have l7 : (0 : Int) ≤ (i : Int) - 7 := by omega
        have n7 : (7 : Int) ≤ (i : Int) := by omega
        have m7 : (i : Int) - 7 < 64 := by omega
        have t7 : ((i : Int) - 7).toNat = i - 7 := by omega
        obtain ⟨A7, hA7⟩ : ∃ x, x = (Sha.upto b i).getD (i - 7) 0 := ⟨_, rfl⟩
        have c7 : wr.cell? ⟨g3, i - 7, none⟩ = some (.int .u32 (A7.toNat : Int)) := by
          rw [b3.cell, Sha.wv_at _ _ (by rw [Sha.filled64_length _ (by rw [Sha.upto_length]; omega)]; omega), hA7, Sha.filled64_get _ _ (by rw [Sha.upto_length]; omega)]
        have HA7 := Lib.hid hA7
        clear hA7
        have w15 : IntKind.i64.wrap ((i : Int) - 15) = (i : Int) - 15 := by rw [IntKind.wrap_i64]; omega
        have l15 : (0 : Int) ≤ (i : Int) - 15 := by omega
        have n15 : (15 : Int) ≤ (i : Int) := by omega
        have m15 : (i : Int) - 15 < 64 := by omega
        have t15 : ((i : Int) - 15).toNat = i - 15 := by omega
        obtain ⟨A15, hA15⟩ : ∃ x, x = (Sha.upto b i).getD (i - 15) 0 := ⟨_, rfl⟩
        have c15 : wr.cell? ⟨g3, i - 15, none⟩ = some (.int .u32 (A15.toNat : Int)) := by
          rw [b3.cell, Sha.wv_at _ _ (by rw [Sha.filled64_length _ (by rw [Sha.upto_length]; omega)]; omega), hA15, Sha.filled64_get _ _ (by rw [Sha.upto_length]; omega)]
        have HA15 := Lib.hid hA15
        clear hA15
        have w16 : IntKind.i64.wrap ((i : Int) - 16) = (i : Int) - 16 := by rw [IntKind.wrap_i64]; omega
        have l16 : (0 : Int) ≤ (i : Int) - 16 := by omega
        have n16 : (16 : Int) ≤ (i : Int) := by omega
        have m16 : (i : Int) - 16 < 64 := by omega
        have t16 : ((i : Int) - 16).toNat = i - 16 := by omega
        obtain ⟨A16, hA16⟩ : ∃ x, x = (Sha.upto b i).getD (i - 16) 0 := ⟨_, rfl⟩
        have c16 : wr.cell? ⟨g3, i - 16, none⟩ = some (.int .u32 (A16.toNat : Int)) := by
          rw [b3.cell, Sha.wv_at _ _ (by rw [Sha.filled64_length _ (by rw [Sha.upto_length]; omega)]; omega), hA16, Sha.filled64_get _ _ (by rw [Sha.upto_length]; omega)]
        have HA16 := Lib.hid hA16
        clear hA16
        have y1 := U3.xor_ (U3.rr A15 7) (U3.rr A15 18)
        have y2 : (A15.toNat : Int) / 8 = ((U3.sr A15 3).toNat : Int) := U3.shr_ A15 3 8 (by decide) (by decide)
        have y3 := U3.xor_ (U3.xo (U3.rr A15 7) (U3.rr A15 18)) (U3.sr A15 3)
        have y4 := U3.xor_ (U3.rr A2 17) (U3.rr A2 19)
        have y5 : (A2.toNat : Int) / 1024 = ((U3.sr A2 10).toNat : Int) := U3.shr_ A2 10 1024 (by decide) (by decide)
        have y6 := U3.xor_ (U3.xo (U3.rr A2 17) (U3.rr A2 19)) (U3.sr A2 10)
        have y7 := U3.add' (U3.xo (U3.xo (U3.rr A2 17) (U3.rr A2 19)) (U3.sr A2 10)) A7
        have y8 := U3.add' (U3.ad (U3.xo (U3.xo (U3.rr A2 17) (U3.rr A2 19)) (U3.sr A2 10)) A7) (U3.xo (U3.xo (U3.rr A15 7) (U3.rr A15 18)) (U3.sr A15 3))
        have y9 := U3.add' (U3.ad (U3.ad (U3.xo (U3.xo (U3.rr A2 17) (U3.rr A2 19)) (U3.sr A2 10)) A7) (U3.xo (U3.xo (U3.rr A15 7) (U3.rr A15 18)) (U3.sr A15 3))) A16
        have hNX : Sha.nextW (Sha.upto b i) = U3.ad (U3.ad (U3.ad (U3.xo (U3.xo (U3.rr A2 17) (U3.rr A2 19)) (U3.sr A2 10)) A7) (U3.xo (U3.xo (U3.rr A15 7) (U3.rr A15 18)) (U3.sr A15 3))) A16 := by
          unfold Sha.nextW
          rw [Sha.upto_length, ← HA16.out, ← HA15.out, ← HA7.out, ← HA2.out, Sha.next_other]
          rfl
        obtain ⟨NX, hN⟩ : ∃ x, x = Sha.nextW (Sha.upto b i) := ⟨_, rfl⟩
        rw [← hNX, ← hN] at y9
        have HNX := Lib.hid hN
        clear hNX hN hlt hbe hi
        go_wp2
        go_quiet (first | (go_at_call_of 82 (Value.int IntKind.u64 7); exact Calls.quiet_of_same (turnq_7 A15 _)) | (go_at_call_of 82 (Value.int IntKind.u64 18); exact Calls.quiet_of_same (turnq_18 A15 _)))
        obtain ⟨wq, hwq⟩ : ∃ x, x = wr.drewN nq := ⟨_, rfl⟩
        rw [← hwq]
        have c2 : wq.cell? ⟨g3, i - 2, none⟩ = some (.int .u32 (A2.toNat : Int)) := by rw [hwq]; exact c2
        have c7 : wq.cell? ⟨g3, i - 7, none⟩ = some (.int .u32 (A7.toNat : Int)) := by rw [hwq]; exact c7
        have c16 : wq.cell? ⟨g3, i - 16, none⟩ = some (.int .u32 (A16.toNat : Int)) := by rw [hwq]; exact c16
        have hOLD : wq.cell? ⟨g3, i, none⟩ = some (.int .u32 (OLD.toNat : Int)) := by rw [hwq]; exact hOLD
        have b0 : Blk wq w.heap.size 96 (Sha.wv hh.list) := by rw [hwq]; exact b0.drewN _
        have b1 : Blk wq (w.heap.size + 1) 97 (Sha.wv ks) := by rw [hwq]; exact b1.drewN _
        have b2 : Blk wq (w.heap.size + 1 + 1) 96 (Sha.wv (List.replicate 8 0)) := by rw [hwq]; exact b2.drewN _
        have b3 : Blk wq g3 97 (Sha.wv (Sha.filled64 (Sha.upto b i))) := by rw [hwq]; exact b3.drewN _
        have f3 := b3.frozen i
        have HBE : Hid (Below w.heap.size w wq) := by rw [hwq]; exact ⟨HBE.out.os, HBE.out.tape, HBE.out.output, HBE.out.size, HBE.out.block⟩
        clear hwq c15
        go_wp2
        go_quiet (first | (go_at_call_of 82 (Value.int IntKind.u64 17); exact Calls.quiet_of_same (turnq_17 A2 _)) | (go_at_call_of 82 (Value.int IntKind.u64 19); exact Calls.quiet_of_same (turnq_19 A2 _)))
        go_wp2
        refine Pl.wp_plan (fun w' => w'.cell? ⟨g3, i - 16, none⟩ = some (.int .u32 (A16.toNat : Int)) ∧ w'.cell? ⟨g3, i - 7, none⟩ = some (.int .u32 (A7.toNat : Int))) [0, 1, 2, 3, 4, 5, 6, 7, 8, 9, 10, 11, 12, 13] [] [14, 15] Tryd.mixed (by kernel_rfl) (fun _ _ d _ _ h => by cases d <;> exact h) ⟨by simpa using c16, by simpa using c7⟩ ?_
        simp only [Pl.pick, List.drop_succ_cons, List.drop_zero]
        clear c16 c7 c2
        iterate 14 (refine Pl.head_run (v := ?_) (by rfl) ?_ ?_; rotate_left; (focus (intro w' hS; have s0 := hS.1; have s1 := hS.2; go_simp; with_reducible rfl)); simp only [Act.put, List.setIfInBounds_toArray, List.set_cons_zero, List.set_cons_succ])
        refine Pl.head_nil ?_
        simp only [Pl.Mid]
        go_wp2
        generalize hw3 : World.setCell (World.drewN wq _) ⟨g3, i, none⟩ (.int .u32 (NX.toNat : Int)) = w3
        have hk3 : Keeps wq w3 (· = g3) := by rw [← hw3]; exact ((Keeps.refl wq (· = g3)).drewN _).setCell (.inl rfl) _
        have hb3 := (hk3.below (B := w.heap.size) HBE.out.size (fun k hk => by omega)).trans_of HBE.out
        have hn3 : Blk w3 g3 97 (Sha.wv (Sha.filled64 (Sha.upto b (i + 1)))) := by
          rw [← hw3]
          have := (b3.drewN (nq + 1)).set_ i (.int .u32 (NX.toNat : Int))
          rw [Sha.wv_set] at this
          have e := Sha.filled64_set (Sha.upto b i) (Sha.nextW (Sha.upto b i)) (by rw [Sha.upto_length]; exact HI.out)
          rw [Sha.upto_length, ← Sha.upto_ge b i (by have := HI6.out; omega)] at e
          rw [← e, ← HNX.out]
          exact this
        have hi := HI.out
        exact ⟨⟨i + 1, by omega, by rw [Int.natCast_add]; rfl, hk3.blk b0 (by omega), hk3.blk b1 (by omega), hk3.blk b2 (by omega), hn3, hb3⟩, by simp [intOf]; omega⟩
    · obtain rfl : i = 64 := by omega
      clear hi hlt
      have b3 : Blk wr g3 97 (Sha.wv (Sha.filled64 (Sha.sched b))) := b3
      obtain ⟨a0, a1, a2, a3, a4, a5, a6, a7, hH⟩ : ∃ a0 a1 a2 a3 a4 a5 a6 a7, hh = ⟨a0, a1, a2, a3, a4, a5, a6, a7⟩ := ⟨_, _, _, _, _, _, _, _, rfl⟩
      have HH := Lib.hid hH
      clear hH
      have e0 : wr.cell? ⟨w.heap.size, 0, none⟩ = some (.int .u32 (a0.toNat : Int)) := by rw [b0.cell, HH.out]; rfl
      have e1 : wr.cell? ⟨w.heap.size, 1, none⟩ = some (.int .u32 (a1.toNat : Int)) := by rw [b0.cell, HH.out]; rfl
      have e2 : wr.cell? ⟨w.heap.size, 2, none⟩ = some (.int .u32 (a2.toNat : Int)) := by rw [b0.cell, HH.out]; rfl
      have e3 : wr.cell? ⟨w.heap.size, 3, none⟩ = some (.int .u32 (a3.toNat : Int)) := by rw [b0.cell, HH.out]; rfl
      have e4 : wr.cell? ⟨w.heap.size, 4, none⟩ = some (.int .u32 (a4.toNat : Int)) := by rw [b0.cell, HH.out]; rfl
      have e5 : wr.cell? ⟨w.heap.size, 5, none⟩ = some (.int .u32 (a5.toNat : Int)) := by rw [b0.cell, HH.out]; rfl
      have e6 : wr.cell? ⟨w.heap.size, 6, none⟩ = some (.int .u32 (a6.toNat : Int)) := by rw [b0.cell, HH.out]; rfl
      have e7 : wr.cell? ⟨w.heap.size, 7, none⟩ = some (.int .u32 (a7.toNat : Int)) := by rw [b0.cell, HH.out]; rfl
      go_wp2
      go_quiet (fail)
      go_wp2
      go_loopw [11, 12, 13, 14, 15, 16, 17, 18, 19] (fun v0 v1 v2 v3 v4 v5 v6 v7 v wr => ∃ (i : Nat) (A B C D E F G H : UInt32), Sha.rounds ks (Sha.sched b) i hh = ⟨A, B, C, D, E, F, G, H⟩ ∧ i ≤ 64 ∧ v = .int .i64 i ∧ v0 = .int .u32 (A.toNat : Int) ∧ v1 = .int .u32 (B.toNat : Int) ∧ v2 = .int .u32 (C.toNat : Int) ∧ v3 = .int .u32 (D.toNat : Int) ∧ v4 = .int .u32 (E.toNat : Int) ∧ v5 = .int .u32 (F.toNat : Int) ∧ v6 = .int .u32 (G.toNat : Int) ∧ v7 = .int .u32 (H.toNat : Int) ∧ Blk wr w.heap.size 96 (Sha.wv hh.list) ∧ Blk wr (w.heap.size + 1) 97 (Sha.wv ks) ∧ Blk wr (w.heap.size + 1 + 1) 96 (Sha.wv (List.replicate 8 0)) ∧ Blk wr g3 97 (Sha.wv (Sha.filled64 (Sha.sched b))) ∧ Below w.heap.size w wr) (fun _ _ _ _ _ _ _ _ v _ => 64 - (intOf v).toNat)
      case atStart => exact ⟨0, a0, a1, a2, a3, a4, a5, a6, a7, HH.out, by omega, rfl, rfl, rfl, rfl, rfl, rfl, rfl, rfl, rfl, b0.drewN _, b1.drewN _, b2.drewN _, b3.drewN _, ⟨hbe.os, hbe.tape, hbe.output, hbe.size, hbe.block⟩⟩
      case round =>
        clear b0 b1 b2 b3 hbe e0 e1 e2 e3 e4 e5 e6 e7
        obtain ⟨i, A, B, C, D, E, F, G, H, hV, hi, rfl, rfl, rfl, rfl, rfl, rfl, rfl, rfl, rfl, b0, b1, b2, b3, hbe⟩ := hrel
        have HV := Lib.hid hV
        clear hV
        by_cases hlt : i < 64
        · have HI := Lib.hid hlt
          have HBE := Lib.hid hbe
          have i0 : (0 : Int) ≤ (i : Int) := by omega
          have i1 : (i : Int) < 64 := by omega
          obtain ⟨K, hK⟩ : ∃ x, x = ks.getD i 0 := ⟨_, rfl⟩
          obtain ⟨W, hW⟩ : ∃ x, x = (Sha.sched b).getD i 0 := ⟨_, rfl⟩
          have hkl : ks.length = 64 := by rw [HKS.out]; rfl
          have ek : wr.cell? ⟨w.heap.size + 1, i, none⟩ = some (.int .u32 (K.toNat : Int)) := by rw [b1.cell, Sha.wv_at _ _ (by omega), hK]
          have ew : wr.cell? ⟨g3, i, none⟩ = some (.int .u32 (W.toNat : Int)) := by
            have hsl : (Sha.sched b).length = 64 := by unfold Sha.sched; rw [Sha.grow_length, Sha.words_length]
            rw [b3.cell, Sha.wv_at _ _ (by rw [Sha.filled64_length _ (by omega)]; exact hlt), Sha.filled64_get _ _ (by omega), hW]
          have HK := Lib.hid hK
          have HW := Lib.hid hW
          have x1 := U3.xor_ (U3.rr E 6) (U3.rr E 11)
          have x2 := U3.xor_ (U3.xo (U3.rr E 6) (U3.rr E 11)) (U3.rr E 25)
          have y1 := U3.and_ E F
          have y2 : bits .xor .u32 (E.toNat : Int) 4294967295 = ((Sha.cm E).toNat : Int) := Sha.not2_ E
          have y3 := U3.and_ (Sha.cm E) G
          have y4 := U3.xor_ (U3.an E F) (U3.an (Sha.cm E) G)
          have z1 := U3.add' H (U3.xo (U3.xo (U3.rr E 6) (U3.rr E 11)) (U3.rr E 25))
          have z2 := U3.add' (U3.ad H (U3.xo (U3.xo (U3.rr E 6) (U3.rr E 11)) (U3.rr E 25))) (U3.xo (U3.an E F) (U3.an (Sha.cm E) G))
          have z3 := U3.add' (U3.ad (U3.ad H (U3.xo (U3.xo (U3.rr E 6) (U3.rr E 11)) (U3.rr E 25))) (U3.xo (U3.an E F) (U3.an (Sha.cm E) G))) K
          have z4 := U3.add' (U3.ad (U3.ad (U3.ad H (U3.xo (U3.xo (U3.rr E 6) (U3.rr E 11)) (U3.rr E 25))) (U3.xo (U3.an E F) (U3.an (Sha.cm E) G))) K) W
          have hT : Sha.tOf ⟨A, B, C, D, E, F, G, H⟩ K W = U3.ad (U3.ad (U3.ad (U3.ad H (U3.xo (U3.xo (U3.rr E 6) (U3.rr E 11)) (U3.rr E 25))) (U3.xo (U3.an E F) (U3.an (Sha.cm E) G))) K) W := rfl
          obtain ⟨T, hT2⟩ : ∃ x, x = Sha.tOf ⟨A, B, C, D, E, F, G, H⟩ K W := ⟨_, rfl⟩
          rw [← hT, ← hT2] at z4
          have HTT := Lib.hid hT2
          have v1 := U3.xor_ (U3.rr A 2) (U3.rr A 13)
          have v2 := U3.xor_ (U3.xo (U3.rr A 2) (U3.rr A 13)) (U3.rr A 22)
          have v3 := U3.and_ A B
          have v4 := U3.and_ A C
          have v5 := U3.and_ B C
          have v6 := U3.xor_ (U3.an A B) (U3.an A C)
          have v7 := U3.xor_ (U3.xo (U3.an A B) (U3.an A C)) (U3.an B C)
          have v8 := U3.add' (U3.xo (U3.xo (U3.rr A 2) (U3.rr A 13)) (U3.rr A 22)) (U3.xo (U3.xo (U3.an A B) (U3.an A C)) (U3.an B C))
          have hU : Sha.uOf ⟨A, B, C, D, E, F, G, H⟩ = U3.ad (U3.xo (U3.xo (U3.rr A 2) (U3.rr A 13)) (U3.rr A 22)) (U3.xo (U3.xo (U3.an A B) (U3.an A C)) (U3.an B C)) := rfl
          obtain ⟨U, hU2⟩ : ∃ x, x = Sha.uOf ⟨A, B, C, D, E, F, G, H⟩ := ⟨_, rfl⟩
          rw [← hU, ← hU2] at v8
          have HU := Lib.hid hU2
          have t1 := U3.add' T U
          have t2 := U3.add' D T
          clear hT hT2 hU hU2 hK hW hlt hi hbe hkl
          go_wp2
          go_quiet (first | (go_at_call_of 82 (Value.int IntKind.u64 6); exact Calls.quiet_of_same (turnq_6 E _)) | (go_at_call_of 82 (Value.int IntKind.u64 11); exact Calls.quiet_of_same (turnq_11 E _)) | (go_at_call_of 82 (Value.int IntKind.u64 25); exact Calls.quiet_of_same (turnq_25 E _)))
          go_wp2_with fail
          refine (turn_2 A _).mono ?_
          rintro e w' ⟨rfl, rfl⟩
          go_wp2_with fail
          refine (turn_13 A _).mono ?_
          rintro e w' ⟨rfl, rfl⟩
          go_wp2_with fail
          refine (turn_22 A _).mono ?_
          rintro e w' ⟨rfl, rfl⟩
          go_wp2
          refine ⟨⟨_, _, _, _, _, _, _, _, _, _, _, _, _, _, _, _, _, _, _, _, _, _, _, _, _, _, _, _, _, _, _, _, _, _, _, _, _, _, _, _, _, _, _, _, _, _, _, _, _, _, _, _, _, _, _, _, _, _, _, _, _, _, _, _, _, _, _, _, _, _, _, _, _, _, ?rel, rfl⟩, ?measure⟩
          case rel =>
            have hi := HI.out
            have hr : Sha.rounds ks (Sha.sched b) (i + 1) hh = ⟨U3.ad T U, A, B, C, U3.ad D T, E, F, G⟩ := by
              show Sha.round (Sha.rounds ks (Sha.sched b) i hh) _ _ = _
              rw [HV.out, ← HK.out, ← HW.out, HTT.out, HU.out]
              rfl
            exact ⟨i + 1, U3.ad T U, A, B, C, U3.ad D T, E, F, G, hr, by omega, by rw [Int.natCast_add]; rfl, by rw [t1], rfl, rfl, rfl, by rw [t2], rfl, rfl, rfl, b0.drewN _, b1.drewN _, b2.drewN _, b3.drewN _, ⟨HBE.out.os, HBE.out.tape, HBE.out.output, HBE.out.size, HBE.out.block⟩⟩
          case measure => simp [intOf]; have := HI.out; omega
        · obtain rfl : i = 64 := by omega
          clear hi hlt b1 b3
          have hfin : Sha.block hh b = Sha.add8 hh ⟨A, B, C, D, E, F, G, H⟩ := by rw [← HV.out, HKS.out]; rfl
          have HF := Lib.hid hfin
          clear hfin
          have e0 : wr.cell? ⟨w.heap.size, 0, none⟩ = some (.int .u32 (a0.toNat : Int)) := by rw [b0.cell, HH.out]; rfl
          have z0 : wr.cell? ⟨w.heap.size + 1 + 1, 0, none⟩ = some (.int .u32 0) := by rw [b2.cell]; rfl
          have f0 := b2.frozen 0
          have s0 := U3.add' a0 A
          have e1 : wr.cell? ⟨w.heap.size, 1, none⟩ = some (.int .u32 (a1.toNat : Int)) := by rw [b0.cell, HH.out]; rfl
          have z1 : wr.cell? ⟨w.heap.size + 1 + 1, 1, none⟩ = some (.int .u32 0) := by rw [b2.cell]; rfl
          have f1 := b2.frozen 1
          have s1 := U3.add' a1 B
          have e2 : wr.cell? ⟨w.heap.size, 2, none⟩ = some (.int .u32 (a2.toNat : Int)) := by rw [b0.cell, HH.out]; rfl
          have z2 : wr.cell? ⟨w.heap.size + 1 + 1, 2, none⟩ = some (.int .u32 0) := by rw [b2.cell]; rfl
          have f2 := b2.frozen 2
          have s2 := U3.add' a2 C
          have e3 : wr.cell? ⟨w.heap.size, 3, none⟩ = some (.int .u32 (a3.toNat : Int)) := by rw [b0.cell, HH.out]; rfl
          have z3 : wr.cell? ⟨w.heap.size + 1 + 1, 3, none⟩ = some (.int .u32 0) := by rw [b2.cell]; rfl
          have f3 := b2.frozen 3
          have s3 := U3.add' a3 D
          have e4 : wr.cell? ⟨w.heap.size, 4, none⟩ = some (.int .u32 (a4.toNat : Int)) := by rw [b0.cell, HH.out]; rfl
          have z4 : wr.cell? ⟨w.heap.size + 1 + 1, 4, none⟩ = some (.int .u32 0) := by rw [b2.cell]; rfl
          have f4 := b2.frozen 4
          have s4 := U3.add' a4 E
          have e5 : wr.cell? ⟨w.heap.size, 5, none⟩ = some (.int .u32 (a5.toNat : Int)) := by rw [b0.cell, HH.out]; rfl
          have z5 : wr.cell? ⟨w.heap.size + 1 + 1, 5, none⟩ = some (.int .u32 0) := by rw [b2.cell]; rfl
          have f5 := b2.frozen 5
          have s5 := U3.add' a5 F
          have e6 : wr.cell? ⟨w.heap.size, 6, none⟩ = some (.int .u32 (a6.toNat : Int)) := by rw [b0.cell, HH.out]; rfl
          have z6 : wr.cell? ⟨w.heap.size + 1 + 1, 6, none⟩ = some (.int .u32 0) := by rw [b2.cell]; rfl
          have f6 := b2.frozen 6
          have s6 := U3.add' a6 G
          have e7 : wr.cell? ⟨w.heap.size, 7, none⟩ = some (.int .u32 (a7.toNat : Int)) := by rw [b0.cell, HH.out]; rfl
          have z7 : wr.cell? ⟨w.heap.size + 1 + 1, 7, none⟩ = some (.int .u32 0) := by rw [b2.cell]; rfl
          have f7 := b2.frozen 7
          have s7 := U3.add' a7 H
          go_wp2
          generalize hw3 : (((((((wr.setCell ⟨w.heap.size + 1 + 1, 0, none⟩ _).setCell ⟨w.heap.size + 1 + 1, 1, none⟩ _).setCell ⟨w.heap.size + 1 + 1, 2, none⟩ _).setCell ⟨w.heap.size + 1 + 1, 3, none⟩ _).setCell ⟨w.heap.size + 1 + 1, 4, none⟩ _).setCell ⟨w.heap.size + 1 + 1, 5, none⟩ _).setCell ⟨w.heap.size + 1 + 1, 6, none⟩ _).setCell ⟨w.heap.size + 1 + 1, 7, none⟩ _ = w3
          have hk3 : Keeps wr w3 (· = w.heap.size + 1 + 1) := by
            rw [← hw3]
            exact ((((((((Keeps.refl wr (· = w.heap.size + 1 + 1)).setCell (p := ⟨w.heap.size + 1 + 1, 0, none⟩) (.inl rfl) _).setCell (p := ⟨w.heap.size + 1 + 1, 1, none⟩) (.inl rfl) _).setCell (p := ⟨w.heap.size + 1 + 1, 2, none⟩) (.inl rfl) _).setCell (p := ⟨w.heap.size + 1 + 1, 3, none⟩) (.inl rfl) _).setCell (p := ⟨w.heap.size + 1 + 1, 4, none⟩) (.inl rfl) _).setCell (p := ⟨w.heap.size + 1 + 1, 5, none⟩) (.inl rfl) _).setCell (p := ⟨w.heap.size + 1 + 1, 6, none⟩) (.inl rfl) _).setCell (p := ⟨w.heap.size + 1 + 1, 7, none⟩) (.inl rfl) _
          have hb3 := (hk3.below (B := w.heap.size) hbe.size (fun k hk => by omega)).trans_of hbe
          have hn3 : Blk w3 (w.heap.size + 1 + 1) 96 (Sha.wv (Sha.add8 hh ⟨A, B, C, D, E, F, G, H⟩).list) := by
            rw [← hw3, HH.out]
            exact ((((((((b2.set_ 0 _).set_ 1 _).set_ 2 _).set_ 3 _).set_ 4 _).set_ 5 _).set_ 6 _).set_ 7 _)
          refine bodyPost_ret (results_row rfl _ _ _ rfl (hn3.range 0 8 _ rfl) Tryd.underlying96 rfl (by exact Tryd.sizeH)) rfl ?_
          rw [HF.out]
          exact ⟨rfl, hb3⟩
end Go.Proofs.YtcdljlaoedaliaaDoor
