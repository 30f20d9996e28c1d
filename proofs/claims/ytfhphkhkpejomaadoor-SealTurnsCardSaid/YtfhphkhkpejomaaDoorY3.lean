/- SealTurns walked. -/
import Derived.Test.YtfhphkhkpejomaaDoorY2
set_option linter.unusedVariables false
set_option linter.unusedSimpArgs false
namespace Go.Proofs.YtfhphkhkpejomaaDoor
open Go.RowKit Wd
theorem Seal.open_code (key lb s : List UInt8) (h1 : ¬ 256 < lb.length) (h2 : ¬ 4144 < s.length) (h3 : ¬ s.length < 48) (n : Nat) (hn : n = s.length - 32) : ((Seal.openR key lb s).2 == 11) = !(Seal.tag key lb (s.take n) == s.drop n) := by
  subst hn
  unfold Seal.openR
  rw [if_neg (by omega), if_neg h3]
  by_cases h : Seal.tag key lb (s.take (s.length - 32)) = s.drop (s.length - 32)
  · rw [if_pos h, h]
    simp
  · rw [if_neg h]
    have : (Seal.tag key lb (s.take (s.length - 32)) == s.drop (s.length - 32)) = false := by simpa using h
    rw [this]
    rfl
set_option maxRecDepth 100000 in
set_option maxHeartbeats 2000000 in
theorem sealTurns_any {w : World} (ht : Tabs w) {A : Option Addr} {c : Nat} {k : List UInt8} (hA : A = none → c = 0) (hk : RB w A k) (hc : k.length ≤ c) (non lb : List UInt8) (hnl : non.length = 16)
    {C : Option Addr} {f : Nat} {b : List UInt8} (hC : C = none → f = 0) (hb : RB w C b) (hbf : b.length ≤ f) (bit : Nat) (hbit : bit < 65536) :
    Calls Tryd.prog 4 #[.slice A k.length c, .agg (icells non lb C b.length f).toArray, .int .u16 (bit : Int)] w fun e w' => e = .returned (.bool true) ∧ Below w.heap.size w w' := by
  have hsz : (ByteArray.mk lb.toArray).size = lb.length := by show lb.toArray.size = _; simp
  have H := St.start w
  have HAW := Lib.hid (fun (w1 : World) (M : Mem) (L : List Ent) (H1 : St w w1 M L) => awake_any ht H1)
  have hli := fun (w1 : World) (M : Mem) (L : List Ent) (H1 : St w w1 M L) => light_any (lb := lb) (C := C) (n := b.length) (f := f) H1 A c k hnl
  have h16 := icells_16 (lb := lb) (C := C) (n := b.length) (f := f) hnl
  have h17 := icells_17 (lb := lb) (C := C) (n := b.length) (f := f) hnl
  have h0t := icells_take (lb := lb) (C := C) (n := b.length) (f := f) hnl
  have hXl := icells_len (lb := lb) (C := C) (n := b.length) (f := f) hnl
  obtain ⟨X, hX⟩ : ∃ X, X = icells non lb C b.length f := ⟨_, rfl⟩
  rw [← hX] at hli h16 h17 h0t hXl ⊢
  clear hX
  have H1 := H.new X 30
  have HLI := Lib.hid hli
  have HXL := Lib.hid hXl
  have hbl : (bv non).length = 16 := by rw [bv_length, hnl]
  have HBL := Lib.hid hbl
  have r0 := (H1.blk 0 rfl).range 0 18 X (by rw [List.drop_zero, List.take_of_length_le (by omega)])
  have HX16 := Lib.hid h16
  have HX17 := Lib.hid h17
  have HX0 := Lib.hid h0t
  clear hli hXl hbl h16 h17 h0t
  by_cases hbig : k.length ≤ 500 ∧ lb.length ≤ 600 ∧ b.length ≤ 6000
  · have hd : decide (k.length ≤ 500 ∧ lb.length ≤ 600 ∧ b.length ≤ 6000) = true := by simpa using hbig
    obtain ⟨k1, k2, k3⟩ := hbig
    have HD := Lib.hid hd
    have sk : Sr w (w.heap[·]?) [] A k := Sr.of_in (In.oldRB H hk)
    have sb : Sr w (w.heap[·]?) [] C b := Sr.of_in (In.oldRB H hb)
    obtain ⟨R, hR⟩ : ∃ R, R = Seal.sealR k non lb b := ⟨_, rfl⟩
    have hse := fun (w1 : World) (M : Mem) (L : List Ent) (H1 : St w w1 M L) (h3 : Sr w M L C b) (h4 : Sr w M L A k) => seal_any ht H1 hA hc h4 (by omega) non lb hnl (by omega) hC hbf h3 (by omega)
    rw [← hR] at hse
    obtain ⟨Y, E⟩ := R
    have HSE := Lib.hid hse
    have HR := Lib.hid hR
    have HNL := Lib.hid hnl
    clear hR hse hd hnl
    go_enter Tryd.func4, Tryd.ntmps4
    go_wp2_with (refine wpList_load_mid (by rfl) 30 (.tmp 4) (by rfl) w.heap.size 0 (by rfl) X _ r0 Tryd.underlying30 rfl (by rw [HXL.out]; exact Tryd.sizeIn) ?_)
    refine (HLI.out _ _ _ H1).mono ?_
    rintro e w1 ⟨rfl, H2⟩
    rw [HD.out]
    clear H1 r0
    have r2 := (H2.blk 0 rfl).range 0 16 (bv non) HX0.out
    have s16 : w1.cell? ⟨w.heap.size, 16, none⟩ = some (.string ⟨lb.toArray⟩) := by rw [H2.cell 0 rfl 16, HX16.out]
    have s17 : w1.cell? ⟨w.heap.size, 17, none⟩ = some (.slice C b.length f) := by rw [H2.cell 0 rfl 17, HX17.out]
    go_wp2_with (refine wpList_load_mid (by rfl) 28 (.tmp 23) (by rfl) w.heap.size 0 (by rfl) (bv non) _ r2 Tryd.underlying28 rfl (by rw [HBL.out]; exact Tryd.size16) ?_)
    refine (HSE.out _ _ _ H2 (sb.cons _) (sk.cons _)).mono ?_
    rintro e w2 ⟨A2, c2, M2, rfl, hl2, hA2, hM2, hin2, H3⟩
    have hbad3 := HR.out
    by_cases hbad : 256 < lb.length ∨ 4096 < b.length
    · rw [show Seal.sealR k non lb b = ([], 3) from if_pos hbad] at hbad3
      injection hbad3 with e1 e2
      subst e1 e2
      clear hbad H2 r2 s16 s17 HSE hin2
      go_wp2_with fail
      refine (HAW.out _ _ _ H3).mono ?_
      rintro e w5 ⟨rfl, H5⟩
      go_wp2
      go_ret
      exact ⟨rfl, H5.below⟩
    · rw [show Seal.sealR k non lb b = (Seal.sealed k non lb b, 0) from if_neg hbad] at hbad3
      injection hbad3 with e1 e2
      subst e2
      have hYl : Y.length = b.length + 48 := by rw [e1]; exact Seal.sealed_len k non lb b HNL.out
      obtain ⟨n, hn⟩ : ∃ n, n = Y.length := ⟨_, rfl⟩
      rw [← hn] at hl2 hYl ⊢
      have y48 : 48 ≤ n := by omega
      have y1 : ¬ (n : Int) < 48 := by omega
      have y2 : n ≤ 4144 := by omega
      obtain ⟨N, hN⟩ : ∃ N, N = n - 32 := ⟨_, rfl⟩
      obtain ⟨n8, hn8⟩ : ∃ x, x = 8 * n := ⟨_, rfl⟩
      obtain ⟨I, hI⟩ : ∃ x, x = bit % n8 := ⟨_, rfl⟩
      obtain ⟨Q, hQ⟩ : ∃ x, x = I / 8 := ⟨_, rfl⟩
      obtain ⟨r, hr⟩ : ∃ x, x = I % 8 := ⟨_, rfl⟩
      have hI8 : I < n8 := by rw [hI]; exact Nat.mod_lt _ (by omega)
      have i1 : (8 : Int) * (n : Int) = (n8 : Int) := by omega
      have i2 : (bit : Int).tmod (n8 : Int) = (I : Int) := by rw [Int.tmod_eq_emod_of_nonneg (by omega), hI]; rfl
      have i3 : (bit : Int) % (n8 : Int) = (I : Int) := by rw [hI]; rfl
      have i4 : (I : Int).tdiv 8 = (Q : Int) := by rw [Int.tdiv_eq_ediv_of_nonneg (by omega)]; omega
      have i5 : (I : Int) / 8 = (Q : Int) := by omega
      have i6 : (I : Int).tmod 8 = (r : Int) := by rw [Int.tmod_eq_emod_of_nonneg (by omega)]; omega
      have i7 : (I : Int) % 8 = (r : Int) := by omega
      have i8 : (n8 : Int) < 1000000 := by omega
      have i9 : (0 : Int) < (n8 : Int) := by omega
      have i10 : ((n8 : Int) == 0) = false := by simp; omega
      have i11 : ¬ (n8 : Int) = 0 := by omega
      have i12 : (I : Int) < 1000000 := by omega
      have q1 : (Q : Int) < (n : Int) := by omega
      have q2 : (n : Int) - 32 = (N : Int) := by omega
      have HIN2 := Lib.hid hin2
      have HN := Lib.hid (show n = Y.length ∧ N = n - 32 ∧ Q < n ∧ n = b.length + 48 ∧ r < 8 from ⟨hn, hN, by omega, hYl, by omega⟩)
      have hr8 : r = 0 ∨ r = 1 ∨ r = 2 ∨ r = 3 ∨ r = 4 ∨ r = 5 ∨ r = 6 ∨ r = 7 := by omega
      have HBAD := Lib.hid hbad
      have HI1 := Lib.hid (And.intro i1 (And.intro i2 (And.intro i3 (And.intro i8 (And.intro i9 (And.intro i10 i11))))))
      have HI2 := Lib.hid (And.intro i4 (And.intro i5 (And.intro i6 (And.intro i7 (And.intro i12 q1)))))
      have H4 := H3.lit0 5
      have r4 := hin2.now H4
      clear i1 i2 i3 i4 i5 i6 i7 i8 i9 i10 i11 i12 q1 hbad hn hYl hN hn8 hI hQ hr hI8 H2 r2 s16 s17 HSE hin2 e1
      go_wp2_with (at_builtin; refine wpList_append_st H4 (by rfl) (.tmp 38) (.tmp 39) 22 (by rfl) Tryd.info5 Tryd.underlying22 (by rfl) A2 n c2 Y (by rfl) HN.out.1 hA2 r4 (by omega) ?_)
      intro v4 w4 H5
      try simp only [Nat.zero_add, List.nil_append] at H5
      obtain ⟨A5, c5, rfl, hc5, hA5⟩ := H5.shape' 0 rfl
      clear r4 H4
      go_upto_region 9 with fail
      obtain ⟨i1, i2, i3, i8, i9, i10, i11⟩ := HI1.out
      clear i8 i10 i11
      go_upto_region 10 with fail
      go_cut [10] (fun v wx => v = .int .i64 (I : Int) ∧ ∃ T : List UInt8, T.length = n ∧ St w wx M2 [er 5 1 (.slice A5 n c5) n (bv T), eb w.heap.size 30 X])
      case first =>
        obtain ⟨i4, i5, i6, i7, i12, q1⟩ := HI2.out
        obtain ⟨hn, _, hQn, _, _⟩ := HN.out
        obtain ⟨x, hx⟩ : ∃ x, x = Y[Q]'(by omega) := ⟨_, rfl⟩
        have hYQ : Y[Q]? = some x := by rw [hx]; exact List.getElem?_eq_getElem (by omega)
        obtain ⟨g5, rfl, c0, f0⟩ := H5.at_ Q hQn
        rw [bv_get, hYQ, Option.map_some] at c0
        clear hx hYQ hn hQn i1 i2 i3 i9
        rcases hr8 with rfl | rfl | rfl | rfl | rfl | rfl | rfl | rfl
        · have exy : bits .xor .u8 (x.toNat : Int) 1 = ((x ^^^ 1).toNat : Int) := B8.xor_ x 1
          obtain ⟨z, hz⟩ : ∃ z, z = x ^^^ 1 := ⟨_, rfl⟩
          rw [← hz] at exy
          clear hz
          have H6 := H5.store Q (.int .u8 (z.toNat : Int))
          rw [bv_set] at H6
          go_wp2_with fail
          go_meet
          exact ⟨rfl, Y.set Q z, by rw [List.length_set]; exact HN.out.1.symm, H6⟩
        · have exy : bits .xor .u8 (x.toNat : Int) 2 = ((x ^^^ 2).toNat : Int) := B8.xor_ x 2
          obtain ⟨z, hz⟩ : ∃ z, z = x ^^^ 2 := ⟨_, rfl⟩
          rw [← hz] at exy
          clear hz
          have H6 := H5.store Q (.int .u8 (z.toNat : Int))
          rw [bv_set] at H6
          go_wp2_with fail
          go_meet
          exact ⟨rfl, Y.set Q z, by rw [List.length_set]; exact HN.out.1.symm, H6⟩
        · have exy : bits .xor .u8 (x.toNat : Int) 4 = ((x ^^^ 4).toNat : Int) := B8.xor_ x 4
          obtain ⟨z, hz⟩ : ∃ z, z = x ^^^ 4 := ⟨_, rfl⟩
          rw [← hz] at exy
          clear hz
          have H6 := H5.store Q (.int .u8 (z.toNat : Int))
          rw [bv_set] at H6
          go_wp2_with fail
          go_meet
          exact ⟨rfl, Y.set Q z, by rw [List.length_set]; exact HN.out.1.symm, H6⟩
        · have exy : bits .xor .u8 (x.toNat : Int) 8 = ((x ^^^ 8).toNat : Int) := B8.xor_ x 8
          obtain ⟨z, hz⟩ : ∃ z, z = x ^^^ 8 := ⟨_, rfl⟩
          rw [← hz] at exy
          clear hz
          have H6 := H5.store Q (.int .u8 (z.toNat : Int))
          rw [bv_set] at H6
          go_wp2_with fail
          go_meet
          exact ⟨rfl, Y.set Q z, by rw [List.length_set]; exact HN.out.1.symm, H6⟩
        · have exy : bits .xor .u8 (x.toNat : Int) 16 = ((x ^^^ 16).toNat : Int) := B8.xor_ x 16
          obtain ⟨z, hz⟩ : ∃ z, z = x ^^^ 16 := ⟨_, rfl⟩
          rw [← hz] at exy
          clear hz
          have H6 := H5.store Q (.int .u8 (z.toNat : Int))
          rw [bv_set] at H6
          go_wp2_with fail
          go_meet
          exact ⟨rfl, Y.set Q z, by rw [List.length_set]; exact HN.out.1.symm, H6⟩
        · have exy : bits .xor .u8 (x.toNat : Int) 32 = ((x ^^^ 32).toNat : Int) := B8.xor_ x 32
          obtain ⟨z, hz⟩ : ∃ z, z = x ^^^ 32 := ⟨_, rfl⟩
          rw [← hz] at exy
          clear hz
          have H6 := H5.store Q (.int .u8 (z.toNat : Int))
          rw [bv_set] at H6
          go_wp2_with fail
          go_meet
          exact ⟨rfl, Y.set Q z, by rw [List.length_set]; exact HN.out.1.symm, H6⟩
        · have exy : bits .xor .u8 (x.toNat : Int) 64 = ((x ^^^ 64).toNat : Int) := B8.xor_ x 64
          obtain ⟨z, hz⟩ : ∃ z, z = x ^^^ 64 := ⟨_, rfl⟩
          rw [← hz] at exy
          clear hz
          have H6 := H5.store Q (.int .u8 (z.toNat : Int))
          rw [bv_set] at H6
          go_wp2_with fail
          go_meet
          exact ⟨rfl, Y.set Q z, by rw [List.length_set]; exact HN.out.1.symm, H6⟩
        · have exy : bits .xor .u8 (x.toNat : Int) 128 = ((x ^^^ 128).toNat : Int) := B8.xor_ x 128
          obtain ⟨z, hz⟩ : ∃ z, z = x ^^^ 128 := ⟨_, rfl⟩
          rw [← hz] at exy
          clear hz
          have H6 := H5.store Q (.int .u8 (z.toNat : Int))
          rw [bv_set] at H6
          go_wp2_with fail
          go_meet
          exact ⟨rfl, Y.set Q z, by rw [List.length_set]; exact HN.out.1.symm, H6⟩
      case rest =>
        obtain ⟨rfl, T, hTl, H6⟩ := hcut
        clear H5 i1 i2 i3 i9 hr8
        generalize hg : w.heap.size = g at *
        obtain ⟨g5, rfl⟩ : ∃ g5, A5 = some ⟨g5, 0, none⟩ := by
          obtain ⟨g5, h, _⟩ := H6.at_ 0 (by omega)
          exact ⟨g5, h⟩
        obtain ⟨hn, hNn, _, hnb, _⟩ := HN.out
        have hbad := HBAD.out
        have hlb : ¬ 256 < lb.length := by omega
        -- the clash
        obtain ⟨Tg, hTg⟩ : ∃ Tg, Tg = Seal.tag k lb (T.take N) := ⟨_, rfl⟩
        have hTgl : Tg.length = 32 := by rw [hTg, Seal.tag_len]
        have htl1 : (T.take N).length = N := by rw [List.length_take]; omega
        have htd1 : (T.drop N).length = 32 := by rw [List.length_drop]; omega
        obtain ⟨CL, hCL⟩ : ∃ CL, CL = (Tg == T.drop N) := ⟨_, rfl⟩
        have hcode := Seal.open_code k lb T hlb (by omega) (by omega) N (by omega)
        rw [← hTg, ← hCL] at hcode
        have hrt := fun (W : World) (M : Mem) (L : List Ent) (H1 : St w W M L) (h1 : Sr w M L (some ⟨g5, 0, none⟩) T) (h4 : Sr w M L A k) => rtag_any H1 hA hc h4 (by omega) lb (by omega) (B := some ⟨g5, 0, none⟩) (d := c5) (s := T.take N) (by rintro ⟨⟩) (h1.take N) (by rw [htl1]; omega)
        rw [htl1, ← hTg] at hrt
        have hop := fun (W : World) (M : Mem) (L : List Ent) (H1 : St w W M L) (h1 : Sr w M L (some ⟨g5, 0, none⟩) T) (h4 : Sr w M L A k) => open_any ht H1 hA hc h4 (by omega) lb (by omega) (C := some ⟨g5, 0, none⟩) (f := c5) (s := T) (by rintro ⟨⟩) (by omega) h1 (by omega)
        obtain ⟨R2, hR2⟩ : ∃ R2, R2 = Seal.openR k lb T := ⟨_, rfl⟩
        rw [← hR2] at hop hcode
        obtain ⟨X2, E2⟩ := R2
        simp only at hcode
        rw [hTl] at hop
        have HCL := Lib.hid hCL
        have HRT := Lib.hid hrt
        have HOP := Lib.hid hop
        have HCODE := Lib.hid hcode
        have HTG := Lib.hid hTgl
        have HTD := Lib.hid htd1
        have n0 : ¬ c5 = N := by omega
        have n1 : (N : Int) ≤ (n : Int) := by omega
        have n2 : (N : Int) ≤ (c5 : Int) := by omega
        have n3 : (n : Int) - (N : Int) = 32 := by omega
        have n4 : n - N = 32 := by omega
        have n5 : (N : Int) ≤ (c2 : Int) := by omega
        have n6 : ¬ c2 = N := by omega
        have hs6 : Sr w M2 [er 5 1 (.slice (some ⟨g5, 0, none⟩) n c5) n (bv T), eb g 30 X] (some ⟨g5, 0, none⟩) T := by
          have h := Sr.row (w0 := w) (M := M2) (F := [er 5 1 (.slice (some ⟨g5, 0, none⟩) n c5) n (bv T), eb g 30 X]) (A := some ⟨g5, 0, none⟩) (c := c5) (l := T) (n := n) (e := 5) 0 rfl
          exact h
        have hsd : Sr w M2 [er 5 1 (.slice (some ⟨g5, 0, none⟩) n c5) n (bv T), eb g 30 X] (some ⟨g5, N, none⟩) (T.drop N) := by
          have h := hs6.drop N
          rwa [Nat.zero_add] at h
        have hsk : Sr w M2 [er 5 1 (.slice (some ⟨g5, 0, none⟩) n c5) n (bv T), eb g 30 X] A k := ((sk.le hM2).cons _).cons _
        clear hn hNn hnb hbad hTg htl1 htd1 hCL hcode hrt hop hR2 hTgl
        go_wp2
        refine Pt.wp_plan (fun w' => St w w' M2 [er 5 1 (.slice (some ⟨g5, 0, none⟩) n c5) n (bv T), eb g 30 X]) (Pt.prs [0, 1, 3, 4, 5, 8, 9, 10] (Pt.rds [2, 11] (.go 6 (Pt.rds [7] (Pt.prs [12, 13] .fin))))) [] Tryd.mixed (by kernel_rfl) (fun _ _ d _ _ h => by cases d <;> exact h) H6.drew ?_
        have H7 := H6.drew
        simp only [Pt.toL, Pt.rds, Pt.prs, Pt.at_, List.drop_succ_cons, List.drop_zero]
        iterate 8 (refine Pt.pr_run (v := ?_) (by rfl) ?_ ?_; rotate_left; (focus (intro w'; go_simp; with_reducible rfl)); simp only [Act.put, List.setIfInBounds_toArray, List.set_cons_zero, List.set_cons_succ])
        (refine Pt.rd_run (v := ?_) (by rfl) ?_ ?_; rotate_left; (focus (intro w' hS; have s16 : w'.cell? ⟨g, 16, none⟩ = some (.string ⟨lb.toArray⟩) := (by rw [hS.cell 1 rfl 16, HX16.out]); go_simp; with_reducible rfl)); simp only [Act.put, List.setIfInBounds_toArray, List.set_cons_zero, List.set_cons_succ])
        (refine Pt.rd_run (v := ?_) (by rfl) ?_ ?_; rotate_left; (focus (intro w' hS; have cv := conv_RB (P := Tryd.prog) (src := 22) (dst := 9) (c := c5 - N) (n := 32) Tryd.underlying22 Tryd.underlying5 Tryd.underlying9 (hsd.now hS) HTD.out.symm; go_simp; with_reducible rfl)); simp only [Act.put, List.setIfInBounds_toArray, List.set_cons_zero, List.set_cons_succ])
        refine Pt.run_go ?_
        go_wp2_with fail
        refine (HRT.out _ _ _ H7 hs6 hsk).mono ?_
        rintro e w8 ⟨v8, rfl, H8⟩
        obtain ⟨A8, c8, rfl, hc8, hA8⟩ := H8.shape' 0 rfl
        go_wp2_with fail
        refine Pt.more (fun w' => RB w' A8 Tg) H8.d0 (er_RB (by have h := H8.get 0 rfl; rw [← HTG.out] at h; exact h)) ?_
        (refine Pt.rd_run (v := ?_) (by rfl) ?_ ?_; rotate_left; (focus (intro w' hS; have cv := conv_RB (P := Tryd.prog) (src := 22) (dst := 9) (c := c8) (n := 32) Tryd.underlying22 Tryd.underlying5 Tryd.underlying9 hS.2 HTG.out.symm; go_simp; with_reducible rfl)); simp only [Act.put, List.setIfInBounds_toArray, List.set_cons_zero, List.set_cons_succ])
        have hcl : (Tg == T.drop N) = CL := HCL.out.symm
        iterate 2 (refine Pt.pr_run (v := ?_) (by rfl) ?_ ?_; rotate_left; (focus (intro w'; go_simp; with_reducible rfl)); simp only [Act.put, List.setIfInBounds_toArray, List.set_cons_zero, List.set_cons_succ])
        clear hcl
        refine Pt.run_fin ?_
        have H9 := H8.d0
        have s16 : w8.cell? ⟨g, 16, none⟩ = some (.string ⟨lb.toArray⟩) := by rw [H9.cell 1 rfl 16, HX16.out]
        clear H8 H7
        go_wp2_with fail
        refine (HOP.out _ _ _ H9 hs6 hsk).mono ?_
        rintro e w10 ⟨A10, c10, M10, rfl, hl10, hA10, hM10, hin10, H10⟩
        have hcode := HCODE.out
        have s16 : w10.cell? ⟨g, 16, none⟩ = some (.string ⟨lb.toArray⟩) := by rw [H10.cell 1 rfl 16, HX16.out]
        clear H9 hin10
        by_cases h256 : 256 ≤ lb.length
        · have z1 : (256 : Int) ≤ (lb.length : Int) := by omega
          clear h256
          go_wp2_with fail
          refine (HAW.out _ _ _ H10).mono ?_
          rintro e w5 ⟨rfl, H5⟩
          go_wp2
          go_ret
          exact ⟨rfl, H5.below⟩
        · have z1 : ¬ (256 : Int) ≤ (lb.length : Int) := by omega
          obtain ⟨ob, hob⟩ : ∃ ob, ob = lb ++ [120] := ⟨_, rfl⟩
          have hadd : (ByteArray.mk lb.toArray) ++ (ByteArray.mk #[120]) = ByteArray.mk ob.toArray := by
            rw [hob]
            apply Go.WideShapes.bytes_inj
            show (ByteArray.append _ _).data.toList = _
            simp
          have hoz : (ByteArray.mk ob.toArray).size = ob.length := by show ob.toArray.size = _; simp
          have hol : ob.length = lb.length + 1 := by rw [hob]; simp
          obtain ⟨hn, hNn, _, hnb, _⟩ := HN.out
          obtain ⟨Tg2, hTg⟩ : ∃ Tg, Tg = Seal.tag k ob (Y.take N) := ⟨_, rfl⟩
          have hTgl : Tg2.length = 32 := by rw [hTg, Seal.tag_len]
          have htl1 : (Y.take N).length = N := by rw [List.length_take]; omega
          have htd1 : (Y.drop N).length = 32 := by rw [List.length_drop]; omega
          obtain ⟨CM, hCL⟩ : ∃ CL, CL = (Tg2 == Y.drop N) := ⟨_, rfl⟩
          have hcode2 := Seal.open_code k ob Y (by omega) (by omega) (by omega) N (by omega)
          rw [← hTg, ← hCL] at hcode2
          have hrt := fun (W : World) (M : Mem) (L : List Ent) (H1 : St w W M L) (h1 : Sr w M L A2 Y) (h4 : Sr w M L A k) => rtag_any H1 hA hc h4 (by omega) ob (by omega) (B := A2) (d := c2) (s := Y.take N) hA2 (h1.take N) (by rw [htl1]; omega)
          rw [htl1, ← hTg] at hrt
          have hop := fun (W : World) (M : Mem) (L : List Ent) (H1 : St w W M L) (h1 : Sr w M L A2 Y) (h4 : Sr w M L A k) => open_any ht H1 hA hc h4 (by omega) ob (by omega) (C := A2) (f := c2) (s := Y) hA2 (by omega) h1 (by omega)
          obtain ⟨R3, hR3⟩ : ∃ R3, R3 = Seal.openR k ob Y := ⟨_, rfl⟩
          rw [← hR3] at hop hcode2
          obtain ⟨X3, E3⟩ := R3
          simp only at hcode2
          rw [← hn] at hop
          obtain ⟨b2, o2, rfl⟩ : ∃ b o, A2 = some ⟨b, o, none⟩ := by
            obtain ⟨b', o', h, _⟩ := HIN2.out.now (H3.d0) (by rintro rfl; simp at hn; omega)
            exact ⟨b', o', h⟩
          have HCM := Lib.hid hCL
          have HRT2 := Lib.hid hrt
          have HOP2 := Lib.hid hop
          have HTG2 := Lib.hid hTgl
          have HTD2 := Lib.hid htd1
          have HCODE2 := Lib.hid hcode2
          have hs10 : Sr w M10 [er 5 1 (.slice (some ⟨g5, 0, none⟩) n c5) n (bv T), eb g 30 X] (some ⟨b2, o2, none⟩) Y := Sr.of_in (HIN2.out.le hM10)
          have hsk2 := hsk.le hM10
          have hs10d := hs10.drop N
          clear h256 hob hol hn hNn hnb hTg hTgl htl1 htd1 hCL hcode2 hrt hop hR3
          go_wp2
          refine Pt.wp_plan (fun w' => St w w' M10 [er 5 1 (.slice (some ⟨g5, 0, none⟩) n c5) n (bv T), eb g 30 X]) (Pt.prs [0, 1, 2, 3, 4, 7, 8, 9] (Pt.rds [10] (.go 5 (Pt.rds [6] (Pt.prs [11, 12] .fin))))) [] Tryd.mixed (by kernel_rfl) (fun _ _ d _ _ h => by cases d <;> exact h) H10.drew ?_
          have H11 := H10.drew
          simp only [Pt.toL, Pt.rds, Pt.prs, Pt.at_, List.drop_succ_cons, List.drop_zero]
          iterate 8 (refine Pt.pr_run (v := ?_) (by rfl) ?_ ?_; rotate_left; (focus (intro w'; go_simp; with_reducible rfl)); simp only [Act.put, List.setIfInBounds_toArray, List.set_cons_zero, List.set_cons_succ])
          (refine Pt.rd_run (v := ?_) (by rfl) ?_ ?_; rotate_left; (focus (intro w' hS; have cv := conv_RB (P := Tryd.prog) (src := 22) (dst := 9) (c := c2 - N) (n := 32) Tryd.underlying22 Tryd.underlying5 Tryd.underlying9 (hs10d.now hS) HTD2.out.symm; go_simp; with_reducible rfl)); simp only [Act.put, List.setIfInBounds_toArray, List.set_cons_zero, List.set_cons_succ])
          refine Pt.run_go ?_
          go_wp2_with fail
          refine (HRT2.out _ _ _ H11 hs10 hsk2).mono ?_
          rintro e w12 ⟨v12, rfl, H12⟩
          obtain ⟨A12, c12, rfl, hc12, hA12⟩ := H12.shape' 0 rfl
          go_wp2_with fail
          refine Pt.more (fun w' => RB w' A12 Tg2) H12.d0 (er_RB (by have h := H12.get 0 rfl; rw [← HTG2.out] at h; exact h)) ?_
          (refine Pt.rd_run (v := ?_) (by rfl) ?_ ?_; rotate_left; (focus (intro w' hS; have cv := conv_RB (P := Tryd.prog) (src := 22) (dst := 9) (c := c12) (n := 32) Tryd.underlying22 Tryd.underlying5 Tryd.underlying9 hS.2 HTG2.out.symm; go_simp; with_reducible rfl)); simp only [Act.put, List.setIfInBounds_toArray, List.set_cons_zero, List.set_cons_succ])
          have hcl : (Tg2 == Y.drop N) = CM := HCM.out.symm
          iterate 2 (refine Pt.pr_run (v := ?_) (by rfl) ?_ ?_; rotate_left; (focus (intro w'; go_simp; with_reducible rfl)); simp only [Act.put, List.setIfInBounds_toArray, List.set_cons_zero, List.set_cons_succ])
          clear hcl
          refine Pt.run_fin ?_
          have H13 := H12.d0
          clear H12 H11 H10
          go_wp2_with fail
          refine (HOP2.out _ _ _ H13 hs10 hsk2).mono ?_
          rintro e w14 ⟨A14, c14, M14, rfl, hl14, hA14, hM14, hin14, H14⟩
          have hcode2 := HCODE2.out
          clear H13 hin14
          go_wp2_with fail
          refine (HAW.out _ _ _ H14).mono ?_
          rintro e w16 ⟨rfl, H16⟩
          go_wp2
          go_ret
          exact ⟨rfl, H16.below⟩
  · have hd : decide (k.length ≤ 500 ∧ lb.length ≤ 600 ∧ b.length ≤ 6000) = false := by simpa using hbig
    have HD := Lib.hid hd
    clear hd hbig
    go_enter Tryd.func4, Tryd.ntmps4
    go_wp2_with (refine wpList_load_mid (by rfl) 30 (.tmp 4) (by rfl) w.heap.size 0 (by rfl) X _ r0 Tryd.underlying30 rfl (by rw [HXL.out]; exact Tryd.sizeIn) ?_)
    refine (HLI.out _ _ _ H1).mono ?_
    rintro e w1 ⟨rfl, H2⟩
    rw [HD.out]
    go_wp2_with fail
    refine (HAW.out _ _ _ H2).mono ?_
    rintro e w2 ⟨rfl, H3⟩
    go_wp2
    go_ret
    exact ⟨rfl, H3.below⟩
end Go.Proofs.YtfhphkhkpejomaaDoor
