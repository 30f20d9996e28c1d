/- The law BlockNobody, walked. -/
import Derived.Test.YtinhpiggakillaaNo
import Derived.Test.YtinhpiggakillaaCv
set_option linter.unusedVariables false
set_option linter.unusedSimpArgs false
namespace Go.Proofs.Ytinhpiggakillaa
open Go.RowKit Wd

theorem filled_some (c : UInt8) (w : World) : Calls Try.prog 11 #[.int .u8 (c.toNat : Int)] w fun e w' =>
    ∃ g, e = .returned (.slice (some ⟨g, 0, none⟩) 64 64) ∧ Below w.heap.size w w' :=
  (filled_any c w).mono fun e w' ⟨he, hb, hs, hbe⟩ => ⟨_, he, hbe⟩
def acells (d i : Int) (b : UInt8) (k t : Int) : List Value := [.int .i64 d, .int .i64 i, .int .u8 (b.toNat : Int), .int .i64 k, .int .i64 t]
set_option maxRecDepth 100000 in
set_option maxHeartbeats 1600000 in
theorem nobody_any (d i : Int) (b : UInt8) (k t : Int) (w : World) : Calls Try.prog 6 #[.agg (acells d i b k t).toArray] w fun e w' => e = .returned (.bool true) ∧ Below w.heap.size w w' := by
  unfold acells
  go_enter Try.func6, Try.ntmps6
  go_wp2
  have ha0 := Blk.new w 40 (acells d i b k t)
  have hb0 : Below w.heap.size w (w.alloc (.cells (acells d i b k t).toArray 40)) := (Below.refl _ _).alloc (Nat.le_refl _) _
  unfold acells at ha0 hb0
  generalize hw0 : w.alloc _ = w0 at ha0 hb0 ⊢
  have hs0 : w0.heap.size = w.heap.size + 1 := by rw [← hw0]; exact Array.size_push _
  clear hw0
  go_loopw [3] (fun n wr => ∃ q : Nat, q ≤ 2 ∧ n = .int .i64 q ∧ Blk wr w.heap.size 40 (acells d i b k t) ∧ Below (w.heap.size + 1) w0 wr ∧ w.heap.size + 1 ≤ wr.heap.size) (fun n _ => 2 - (intOf n).toNat)
  case atStart => exact ⟨0, by omega, rfl, ha0, Below.refl _ _, by omega⟩
  case round =>
    obtain ⟨q, hq, rfl, ha, hbr, hsr⟩ := hrel
    clear ha0
    have h3 : q = 0 ∨ q = 1 ∨ q = 2 := by omega
    rcases h3 with rfl | rfl | rfl
    rotate_right
    · go_wp2_with fail
      refine (awake_any _).mono ?_
      rintro e w9 ⟨rfl, hb9⟩
      have b9 := ((hb9.mono (B' := w.heap.size + 1) hsr).trans_of hbr |>.mono (B' := w.heap.size) (by omega)).trans_of hb0
      clear hb9
      go_wp2
      go_ret
      exact ⟨rfl, b9⟩
    · go_wp2_with fail
      obtain ⟨w1, hw1⟩ : ∃ w1, w1 = wr := ⟨_, rfl⟩
      rw [← hw1]
      have hz1 : Nob w1 (w.heap.size + 1) (.pointer none) := .inl rfl
      have ha1 : Blk w1 w.heap.size 40 (acells d i b k t) := by rw [hw1]; exact ha
      have hb1 : Below (w.heap.size + 1) w0 w1 := by rw [hw1]; exact hbr
      have hs1 : w.heap.size + 1 ≤ w1.heap.size := by rw [hw1]; exact hsr
      clear hw1
      obtain ⟨zz, hzz⟩ : ∃ zz, zz = Value.pointer none := ⟨_, rfl⟩
      rw [← hzz] at hz1
      have HZ := Lib.hid hzz
      clear ha hbr hsr hb0 hs0 hzz
      rw [← HZ.out]
      refine (sync_nob hz1 hs1).mono ?_
      rintro e w2 ⟨rfl, hz2, hc2⟩
      have hs2 : w.heap.size + 1 ≤ w2.heap.size := Nat.le_trans hs1 hc2.size
      have ha2 := ha1.below hc2 (Nat.lt_succ_self _)
      have hb2 := hc2.trans_of hb1
      clear hc2 hz1 hs1 ha1 hb1
      have e1 : w2.cell? ⟨w.heap.size, 1, none⟩ = some (.int .i64 i) := by rw [ha2.cell]; rfl
      have e3 : w2.cell? ⟨w.heap.size, 3, none⟩ = some (.int .i64 k) := by rw [ha2.cell]; rfl
      have e4 : w2.cell? ⟨w.heap.size, 4, none⟩ = some (.int .i64 t) := by rw [ha2.cell]; rfl
      go_wp2_with fail
      refine (crash_nob hz2 hs2 k t).mono ?_
      rintro e w3 ⟨rfl, hz3, hc3⟩
      have hs3 : w.heap.size + 1 ≤ w3.heap.size := Nat.le_trans hs2 hc3.size
      have ha3 := ha2.below hc3 (Nat.lt_succ_self _)
      have hb3 := hc3.trans_of hb2
      clear e1 e3 e4 hc3 hz2 hs2 ha2 hb2
      have e1 : w3.cell? ⟨w.heap.size, 1, none⟩ = some (.int .i64 i) := by rw [ha3.cell]; rfl
      have e3 : w3.cell? ⟨w.heap.size, 3, none⟩ = some (.int .i64 k) := by rw [ha3.cell]; rfl
      have e4 : w3.cell? ⟨w.heap.size, 4, none⟩ = some (.int .i64 t) := by rw [ha3.cell]; rfl
      go_wp2_with fail
      refine (fuse_nob hz3 hs3 k t).mono ?_
      rintro e w4 ⟨rfl, hz4, hc4⟩
      have hs4 : w.heap.size + 1 ≤ w4.heap.size := Nat.le_trans hs3 hc4.size
      have ha4 := ha3.below hc4 (Nat.lt_succ_self _)
      have hb4 := hc4.trans_of hb3
      clear e1 e3 e4 hc4 hz3 hs3 ha3 hb3
      have e1 : w4.cell? ⟨w.heap.size, 1, none⟩ = some (.int .i64 i) := by rw [ha4.cell]; rfl
      have e3 : w4.cell? ⟨w.heap.size, 3, none⟩ = some (.int .i64 k) := by rw [ha4.cell]; rfl
      have e4 : w4.cell? ⟨w.heap.size, 4, none⟩ = some (.int .i64 t) := by rw [ha4.cell]; rfl
      go_wp2_with fail
      refine (read_nob hz4 i).mono ?_
      rintro e w5 ⟨rfl, rfl⟩
      go_wp2_with fail
      refine Pl.wp_plan (fun w' => Blk w' w.heap.size 40 (acells d i b k t) ∧ Nob w' (w.heap.size + 1) zz ∧ Below (w.heap.size + 1) w0 w') [0, 1, 2, 3, 4, 5, 6, 7] [8, 9, 10, 11, 12, 13, 14, 15, 16, 17, 18, 19, 20, 21, 22, 23, 24, 25, 26, 27] [] Try.mixed (by kernel_rfl) (fun _ _ d _ _ h => by cases d <;> exact h) ⟨ha4, hz4, hb4.drew⟩ ?_
      simp only [Pl.pick, List.drop_succ_cons, List.drop_zero]
      have ha5 : Blk w4.drew w.heap.size 40 (acells d i b k t) := ha4
      have hz5 : Nob w4.drew (w.heap.size + 1) zz := hz4
      have hb5 : Below (w.heap.size + 1) w0 w4.drew := hb4.drew
      have hs5 : w.heap.size + 1 ≤ w4.drew.heap.size := hs4
      clear ha4 hz4 hb4 hs4 e1 e3 e4
      iterate 8 (refine Pl.head_run (v := ?_) (by rfl) ?_ ?_; rotate_left; (focus (intro w' hS; obtain ⟨s0, s1, s2⟩ := hS; have g1 : w'.cell? ⟨w.heap.size, 1, none⟩ = some (.int .i64 i) := s0.cell 1; have g2 : w'.cell? ⟨w.heap.size, 2, none⟩ = some (.int .u8 (b.toNat : Int)) := s0.cell 2; go_simp; with_reducible rfl)); simp only [Act.put, List.setIfInBounds_toArray, List.set_cons_zero, List.set_cons_succ])
      refine Pl.head_nil ?_
      simp only [Pl.Mid]
      go_wp2_with fail
      refine (filled_some b _).mono ?_
      rintro e w6 ⟨g6, rfl, hc6⟩
      have ha6 := ha5.below hc6 ha5.lt
      have hz6 := hz5.keep hc6
      have hb6 := (hc6.mono (B' := w.heap.size + 1) hs5).trans_of hb5
      have hs6 := Nat.le_trans hs5 hc6.size
      clear hc6 hs5 hb5 hz5 ha5
      go_wp2_with fail
      refine (⟨⟨ha6, hz6, hb6⟩, ?_⟩ : (_ ∧ _ ∧ _) ∧ _)
      go_wp2_with fail
      refine (write_nob hz6 i _).mono ?_
      rintro e w7 ⟨rfl, rfl⟩
      go_wp2_with fail
      refine (⟨⟨ha6, hz6, hb6⟩, ?_⟩ : (_ ∧ _ ∧ _) ∧ _)
      go_wp2_with fail
      refine (⟨⟨ha6, hz6, hb6⟩, ?_⟩ : (_ ∧ _ ∧ _) ∧ _)
      go_wp2_with fail
      refine (⟨⟨ha6, hz6, hb6⟩, ?_⟩ : (_ ∧ _ ∧ _) ∧ _)
      go_wp2_with fail
      refine (⟨⟨ha6, hz6, hb6⟩, ?_⟩ : (_ ∧ _ ∧ _) ∧ _)
      go_wp2_with fail
      refine (⟨⟨ha6, hz6, hb6⟩, ?_⟩ : (_ ∧ _ ∧ _) ∧ _)
      go_wp2_with fail
      refine (blocks_nob hz6).mono ?_
      rintro e w7 ⟨rfl, rfl⟩
      go_wp2_with fail
      refine (⟨⟨ha6, hz6, hb6⟩, ?_⟩ : (_ ∧ _ ∧ _) ∧ _)
      go_wp2_with fail
      refine (⟨⟨ha6, hz6, hb6⟩, ?_⟩ : (_ ∧ _ ∧ _) ∧ _)
      go_wp2_with fail
      refine (⟨⟨ha6, hz6, hb6⟩, ?_⟩ : (_ ∧ _ ∧ _) ∧ _)
      go_wp2_with fail
      refine (⟨⟨ha6, hz6, hb6⟩, ?_⟩ : (_ ∧ _ ∧ _) ∧ _)
      go_wp2_with fail
      refine (⟨⟨ha6, hz6, hb6⟩, ?_⟩ : (_ ∧ _ ∧ _) ∧ _)
      go_wp2_with fail
      refine (pending_nob hz6).mono ?_
      rintro e w7 ⟨rfl, rfl⟩
      go_wp2_with fail
      refine (⟨⟨ha6, hz6, hb6⟩, ?_⟩ : (_ ∧ _ ∧ _) ∧ _)
      go_wp2_with fail
      refine (⟨⟨ha6, hz6, hb6⟩, ?_⟩ : (_ ∧ _ ∧ _) ∧ _)
      go_wp2_with fail
      refine (⟨⟨ha6, hz6, hb6⟩, ?_⟩ : (_ ∧ _ ∧ _) ∧ _)
      go_wp2_with fail
      refine (⟨⟨ha6, hz6, hb6⟩, ?_⟩ : (_ ∧ _ ∧ _) ∧ _)
      go_wp2_with fail
      refine (⟨⟨ha6, hz6, hb6⟩, ?_⟩ : (_ ∧ _ ∧ _) ∧ _)
      go_wp2_with fail
      refine (dump_nob hz6).mono ?_
      rintro e w7 ⟨rfl, rfl⟩
      go_wp2_with fail
      refine (⟨⟨ha6, hz6, hb6⟩, ?_⟩ : (_ ∧ _ ∧ _) ∧ _)
      go_wp2_with fail
      refine (⟨⟨ha6, hz6, hb6⟩, ?_⟩ : (_ ∧ _ ∧ _) ∧ _)
      go_wp2_with fail
      refine (⟨⟨ha6, hz6, hb6⟩, ?_⟩ : (_ ∧ _ ∧ _) ∧ _)
      go_wp2_with fail
      refine (⟨⟨ha6, hz6, hb6⟩, ?_⟩ : (_ ∧ _ ∧ _) ∧ _)
      go_wp2
      first
        | exact ⟨⟨1, by omega, rfl, ha6, hb6, hs6⟩, by simp [intOf]⟩
        | exact ⟨⟨2, by omega, rfl, ha6, hb6, hs6⟩, by simp [intOf]⟩
    · go_wp2_with fail
      have hn := Blk.new wr 57 (zcells false false 0 0)
      have ha1 := ha.alloc (.cells (zcells false false 0 0).toArray 57)
      have hb1 := hbr.alloc hsr (.cells (zcells false false 0 0).toArray 57)
      have hs1 : w.heap.size + 1 ≤ (wr.alloc (.cells (zcells false false 0 0).toArray 57)).heap.size := Nat.le_trans hsr (Nat.le_trans (Nat.le_succ _) (Nat.le_of_eq (Array.size_push _).symm))
      unfold zcells at hn ha1 hb1 hs1
      generalize hw1 : wr.alloc _ = w1 at hn ha1 hb1 hs1 ⊢
      have hz1 : Nob w1 (w.heap.size + 1) (.pointer (some ⟨wr.heap.size, 0, none⟩)) := .inr ⟨_, rfl, hsr, _, _, _, _, hn⟩
      clear hw1 hn
      obtain ⟨zz, hzz⟩ : ∃ zz, zz = Value.pointer (some ⟨wr.heap.size, 0, none⟩) := ⟨_, rfl⟩
      rw [← hzz] at hz1
      have HZ := Lib.hid hzz
      clear ha hbr hsr hb0 hs0 hzz
      rw [← HZ.out]
      refine (sync_nob hz1 hs1).mono ?_
      rintro e w2 ⟨rfl, hz2, hc2⟩
      have hs2 : w.heap.size + 1 ≤ w2.heap.size := Nat.le_trans hs1 hc2.size
      have ha2 := ha1.below hc2 (Nat.lt_succ_self _)
      have hb2 := hc2.trans_of hb1
      clear hc2 hz1 hs1 ha1 hb1
      have e1 : w2.cell? ⟨w.heap.size, 1, none⟩ = some (.int .i64 i) := by rw [ha2.cell]; rfl
      have e3 : w2.cell? ⟨w.heap.size, 3, none⟩ = some (.int .i64 k) := by rw [ha2.cell]; rfl
      have e4 : w2.cell? ⟨w.heap.size, 4, none⟩ = some (.int .i64 t) := by rw [ha2.cell]; rfl
      go_wp2_with fail
      refine (crash_nob hz2 hs2 k t).mono ?_
      rintro e w3 ⟨rfl, hz3, hc3⟩
      have hs3 : w.heap.size + 1 ≤ w3.heap.size := Nat.le_trans hs2 hc3.size
      have ha3 := ha2.below hc3 (Nat.lt_succ_self _)
      have hb3 := hc3.trans_of hb2
      clear e1 e3 e4 hc3 hz2 hs2 ha2 hb2
      have e1 : w3.cell? ⟨w.heap.size, 1, none⟩ = some (.int .i64 i) := by rw [ha3.cell]; rfl
      have e3 : w3.cell? ⟨w.heap.size, 3, none⟩ = some (.int .i64 k) := by rw [ha3.cell]; rfl
      have e4 : w3.cell? ⟨w.heap.size, 4, none⟩ = some (.int .i64 t) := by rw [ha3.cell]; rfl
      go_wp2_with fail
      refine (fuse_nob hz3 hs3 k t).mono ?_
      rintro e w4 ⟨rfl, hz4, hc4⟩
      have hs4 : w.heap.size + 1 ≤ w4.heap.size := Nat.le_trans hs3 hc4.size
      have ha4 := ha3.below hc4 (Nat.lt_succ_self _)
      have hb4 := hc4.trans_of hb3
      clear e1 e3 e4 hc4 hz3 hs3 ha3 hb3
      have e1 : w4.cell? ⟨w.heap.size, 1, none⟩ = some (.int .i64 i) := by rw [ha4.cell]; rfl
      have e3 : w4.cell? ⟨w.heap.size, 3, none⟩ = some (.int .i64 k) := by rw [ha4.cell]; rfl
      have e4 : w4.cell? ⟨w.heap.size, 4, none⟩ = some (.int .i64 t) := by rw [ha4.cell]; rfl
      go_wp2_with fail
      refine (read_nob hz4 i).mono ?_
      rintro e w5 ⟨rfl, rfl⟩
      go_wp2_with fail
      refine Pl.wp_plan (fun w' => Blk w' w.heap.size 40 (acells d i b k t) ∧ Nob w' (w.heap.size + 1) zz ∧ Below (w.heap.size + 1) w0 w') [0, 1, 2, 3, 4, 5, 6, 7] [8, 9, 10, 11, 12, 13, 14, 15, 16, 17, 18, 19, 20, 21, 22, 23, 24, 25, 26, 27] [] Try.mixed (by kernel_rfl) (fun _ _ d _ _ h => by cases d <;> exact h) ⟨ha4, hz4, hb4.drew⟩ ?_
      simp only [Pl.pick, List.drop_succ_cons, List.drop_zero]
      have ha5 : Blk w4.drew w.heap.size 40 (acells d i b k t) := ha4
      have hz5 : Nob w4.drew (w.heap.size + 1) zz := hz4
      have hb5 : Below (w.heap.size + 1) w0 w4.drew := hb4.drew
      have hs5 : w.heap.size + 1 ≤ w4.drew.heap.size := hs4
      clear ha4 hz4 hb4 hs4 e1 e3 e4
      iterate 8 (refine Pl.head_run (v := ?_) (by rfl) ?_ ?_; rotate_left; (focus (intro w' hS; obtain ⟨s0, s1, s2⟩ := hS; have g1 : w'.cell? ⟨w.heap.size, 1, none⟩ = some (.int .i64 i) := s0.cell 1; have g2 : w'.cell? ⟨w.heap.size, 2, none⟩ = some (.int .u8 (b.toNat : Int)) := s0.cell 2; go_simp; with_reducible rfl)); simp only [Act.put, List.setIfInBounds_toArray, List.set_cons_zero, List.set_cons_succ])
      refine Pl.head_nil ?_
      simp only [Pl.Mid]
      go_wp2_with fail
      refine (filled_some b _).mono ?_
      rintro e w6 ⟨g6, rfl, hc6⟩
      have ha6 := ha5.below hc6 ha5.lt
      have hz6 := hz5.keep hc6
      have hb6 := (hc6.mono (B' := w.heap.size + 1) hs5).trans_of hb5
      have hs6 := Nat.le_trans hs5 hc6.size
      clear hc6 hs5 hb5 hz5 ha5
      go_wp2_with fail
      refine (⟨⟨ha6, hz6, hb6⟩, ?_⟩ : (_ ∧ _ ∧ _) ∧ _)
      go_wp2_with fail
      refine (write_nob hz6 i _).mono ?_
      rintro e w7 ⟨rfl, rfl⟩
      go_wp2_with fail
      refine (⟨⟨ha6, hz6, hb6⟩, ?_⟩ : (_ ∧ _ ∧ _) ∧ _)
      go_wp2_with fail
      refine (⟨⟨ha6, hz6, hb6⟩, ?_⟩ : (_ ∧ _ ∧ _) ∧ _)
      go_wp2_with fail
      refine (⟨⟨ha6, hz6, hb6⟩, ?_⟩ : (_ ∧ _ ∧ _) ∧ _)
      go_wp2_with fail
      refine (⟨⟨ha6, hz6, hb6⟩, ?_⟩ : (_ ∧ _ ∧ _) ∧ _)
      go_wp2_with fail
      refine (⟨⟨ha6, hz6, hb6⟩, ?_⟩ : (_ ∧ _ ∧ _) ∧ _)
      go_wp2_with fail
      refine (blocks_nob hz6).mono ?_
      rintro e w7 ⟨rfl, rfl⟩
      go_wp2_with fail
      refine (⟨⟨ha6, hz6, hb6⟩, ?_⟩ : (_ ∧ _ ∧ _) ∧ _)
      go_wp2_with fail
      refine (⟨⟨ha6, hz6, hb6⟩, ?_⟩ : (_ ∧ _ ∧ _) ∧ _)
      go_wp2_with fail
      refine (⟨⟨ha6, hz6, hb6⟩, ?_⟩ : (_ ∧ _ ∧ _) ∧ _)
      go_wp2_with fail
      refine (⟨⟨ha6, hz6, hb6⟩, ?_⟩ : (_ ∧ _ ∧ _) ∧ _)
      go_wp2_with fail
      refine (⟨⟨ha6, hz6, hb6⟩, ?_⟩ : (_ ∧ _ ∧ _) ∧ _)
      go_wp2_with fail
      refine (pending_nob hz6).mono ?_
      rintro e w7 ⟨rfl, rfl⟩
      go_wp2_with fail
      refine (⟨⟨ha6, hz6, hb6⟩, ?_⟩ : (_ ∧ _ ∧ _) ∧ _)
      go_wp2_with fail
      refine (⟨⟨ha6, hz6, hb6⟩, ?_⟩ : (_ ∧ _ ∧ _) ∧ _)
      go_wp2_with fail
      refine (⟨⟨ha6, hz6, hb6⟩, ?_⟩ : (_ ∧ _ ∧ _) ∧ _)
      go_wp2_with fail
      refine (⟨⟨ha6, hz6, hb6⟩, ?_⟩ : (_ ∧ _ ∧ _) ∧ _)
      go_wp2_with fail
      refine (⟨⟨ha6, hz6, hb6⟩, ?_⟩ : (_ ∧ _ ∧ _) ∧ _)
      go_wp2_with fail
      refine (dump_nob hz6).mono ?_
      rintro e w7 ⟨rfl, rfl⟩
      go_wp2_with fail
      refine (⟨⟨ha6, hz6, hb6⟩, ?_⟩ : (_ ∧ _ ∧ _) ∧ _)
      go_wp2_with fail
      refine (⟨⟨ha6, hz6, hb6⟩, ?_⟩ : (_ ∧ _ ∧ _) ∧ _)
      go_wp2_with fail
      refine (⟨⟨ha6, hz6, hb6⟩, ?_⟩ : (_ ∧ _ ∧ _) ∧ _)
      go_wp2_with fail
      refine (⟨⟨ha6, hz6, hb6⟩, ?_⟩ : (_ ∧ _ ∧ _) ∧ _)
      go_wp2
      first
        | exact ⟨⟨1, by omega, rfl, ha6, hb6, hs6⟩, by simp [intOf]⟩
        | exact ⟨⟨2, by omega, rfl, ha6, hb6, hs6⟩, by simp [intOf]⟩
end Go.Proofs.Ytinhpiggakillaa
