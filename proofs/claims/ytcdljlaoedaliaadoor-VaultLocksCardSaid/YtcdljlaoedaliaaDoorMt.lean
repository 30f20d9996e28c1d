/- The contracts of mac.Store and mac.Match. -/
import Derived.Test.YtcdljlaoedaliaaDoorMo
import Derived.Test.YtcdljlaoedaliaaDoorMs
import Derived.Test.YtcdljlaoedaliaaDoorMc
import Derived.Test.YtcdljlaoedaliaaDoorSg
import Derived.Test.YtcdljlaoedaliaaDoorRz
set_option linter.unusedVariables false
set_option linter.unusedSimpArgs false
namespace Go.Proofs.YtcdljlaoedaliaaDoor
open Go.RowKit Wd
/-- A secret's tag, as it is stored. -/
def Mac.store (salt s : List UInt8) : List UInt8 := if secretErr s.length = 0 then Mac.mac salt s else List.replicate 32 0
theorem Mac.store_len (salt s : List UInt8) : (Mac.store salt s).length = 32 := by
  unfold Mac.store
  split
  · exact Mac.mac_len _ _
  · exact List.length_replicate
theorem secretErr_is (n : Nat) : secretErr n = 0 ∨ secretErr n = 1 ∨ secretErr n = 3 := by
  unfold secretErr
  split
  · exact .inr (.inl rfl)
  · split
    · exact .inr (.inr rfl)
    · exact .inl rfl
theorem Tryd.size16 : (Tryd.prog.info? 24).map (·.size) = some 16 := by kernel_rfl
section
variable {w0 w : World} {M : Mem} {L : List Ent}
set_option maxRecDepth 100000 in
set_option maxHeartbeats 1000000 in
theorem store_any (ht : Tabs w0) (H : St w0 w M L) (salt s : List UInt8) (hsl : salt.length = 16) (hn : s.length < 140737488355000) :
    Calls Tryd.prog 33 #[.agg (bv salt).toArray, .string ⟨s.toArray⟩] w fun e w' => e = .returned (.tuple #[.agg (bv (Mac.store salt s)).toArray, .int .i64 (secretErr s.length)]) ∧ St w0 w' M L := by
  have hsz : (ByteArray.mk s.toArray).size = s.length := by show s.toArray.size = _; simp
  have hck := fun W => check_any (w := W) ⟨s.toArray⟩
  rw [hsz] at hck
  have hbl : (bv salt).length = 16 := by rw [bv_length, hsl]
  obtain ⟨E, hE⟩ : ∃ E, E = secretErr s.length := ⟨_, rfl⟩
  obtain ⟨D, hD⟩ : ∃ D, D = Mac.store salt s := ⟨_, rfl⟩
  have hE3 := secretErr_is s.length
  rw [← hE] at hck hE3 ⊢
  rw [← hD]
  have HCK := Lib.hid hck
  have HE := Lib.hid hE
  have HD := Lib.hid hD
  have HSL := Lib.hid hsl
  have HBL := Lib.hid hbl
  clear hck hE hD hsl hbl
  go_enter Tryd.func33, Tryd.ntmps33
  go_upto_region 1 with fail
  have H1 := (H.new (bv salt) 24).newg (bv (List.replicate 32 0)) 40 (g := w.heap.size + 1) (by simp)
  rw [obj32]
  generalize hw1 : (w.alloc (.cells (bv salt).toArray 24)).alloc (.cells (bv (List.replicate 32 0)).toArray 40) = w1 at *
  generalize hg1 : w.heap.size + 1 = g1 at *
  generalize hg : w.heap.size = g at *
  clear hw1 hg1 hg
  go_wp2_with fail
  refine (HCK.out _).mono ?_
  rintro e w' ⟨rfl, rfl⟩
  by_cases hE0 : E = 0
  · have hDD := HD.out
    unfold Mac.store at hDD
    rw [if_pos (by rw [← HE.out]; exact hE0)] at hDD
    have HDD := Lib.hid hDD
    subst hE0
    clear hDD hE3
    obtain ⟨g2, c2, w2, hcv, hlc, hcm, H2⟩ := conv_st (P := Tryd.prog) (src := 9) (dst := 42) H1 Tryd.underlying9 Tryd.underlying42 Tryd.underlying5 s (by omega)
    obtain ⟨M', hM', H3, hin⟩ := H2.keepm (l := s) (by rw [List.take_append_of_le_length (by rw [bv_length]; exact Nat.le_refl _), bv_take, List.take_length])
    have hm := mac_any ht H3 (A := some ⟨g, 0, none⟩) (c := 16) (k := salt) (by rintro ⟨⟩) (by rw [HSL.out]; exact Nat.le_refl _) (Sr.blk 1 rfl (by rw [List.drop_zero, List.take_of_length_le (by rw [bv_length]; exact Nat.le_refl _)])) (by rw [HSL.out]; decide) (B := some ⟨g2, 0, none⟩) (d := c2) (b := s) (by rintro ⟨⟩) (Sr.of_in hin) (by omega)
    rw [HSL.out, ← HDD.out] at hm
    have HM := Lib.hid hm
    have HCM := Lib.hid hcm
    have HLC := Lib.hid hlc
    clear hm H2 hin hcm hlc
    go_wp2_with fail
    refine HM.out.mono ?_
    rintro e w3 ⟨rfl, H4⟩
    have hdl : (bv D).length = 32 := by rw [bv_length, HDD.out, Mac.mac_len]
    obtain ⟨w4, hst, H5⟩ := run_store_st (P := Tryd.prog) H4 (cs := bv D) (by rw [hdl, bv_length, List.length_replicate]) (bv_one _)
    go_wp2
    refine ret_row_tmp H5 (by rfl) (by rfl) Tryd.underlying40 (by rfl) (by rw [hdl]; exact Tryd.size24) rfl ?_
    exact ⟨rfl, H5.d0.d0.weak H hM'⟩
  · have hDD := HD.out
    unfold Mac.store at hDD
    rw [if_neg (by rw [← HE.out]; exact hE0)] at hDD
    have e1 : (E != 0) = true := by simpa using hE0
    have HDD := Lib.hid hDD
    clear hDD hE3
    go_wp2_with (first | (refine wpList_build_is (by rfl) 40 _ (by rfl) (cells := (bv (List.replicate 32 0)).toArray) Tryd.builtO ?_) | (refine wpList_store_st H1 (by rfl) 40 (.tmp 4) (.tmp 11) (by rfl) 0 (bv (List.replicate 32 0)) (by rfl) (by rfl) (by exact Nat.le_refl 32) (by exact Tryd.size24) (bv_one _) ?_; intro w4 H5))
    rw [ins_all _ _ rfl] at H5
    rw [HDD.out]
    refine ret_row_tmp H5 (by rfl) (by rfl) Tryd.underlying40 (by rfl) (by rw [bv_length, List.length_replicate]; exact Tryd.size24) rfl ?_
    exact ⟨rfl, H5.d0.d0⟩
set_option maxRecDepth 100000 in
set_option maxHeartbeats 1000000 in
theorem match_any (ht : Tabs w0) (H : St w0 w M L) (salt s tag : List UInt8) (hsl : salt.length = 16) (htl : tag.length = 32) (hn : s.length < 140737488355000) :
    Calls Tryd.prog 41 #[.agg (bv salt).toArray, .string ⟨s.toArray⟩, .agg (bv tag).toArray] w fun e w' => e = .returned (.bool (decide (secretErr s.length = 0 ∧ Mac.mac salt s = tag))) ∧ St w0 w' M L := by
  have hbl : (bv salt).length = 16 := by rw [bv_length, hsl]
  have hbt : (bv tag).length = 32 := by rw [bv_length, htl]
  have HSL := Lib.hid hsl
  have HTL := Lib.hid htl
  have HBL := Lib.hid hbl
  have HBT := Lib.hid hbt
  clear hsl htl hbl hbt
  go_enter Tryd.func41, Tryd.ntmps41
  go_upto_region 1 with fail
  have H1 := (H.new (bv salt) 24).newg (bv tag) 40 (g := w.heap.size + 1) (by simp)
  generalize hw1 : (w.alloc (.cells (bv salt).toArray 24)).alloc (.cells (bv tag).toArray 40) = w1 at *
  generalize hg1 : w.heap.size + 1 = g1 at *
  generalize hg : w.heap.size = g at *
  clear hw1 hg1 hg
  have hrs := (H1.blk 1 rfl).range 0 16 (bv salt) (by rw [List.drop_zero, List.take_of_length_le (by rw [HBL.out]; exact Nat.le_refl _)])
  go_wp2_with (refine wpList_load_mid (by rfl) 24 (.tmp 3) (by rfl) g 0 (by rfl) (bv salt) _ hrs Tryd.underlying24 rfl (by rw [HBL.out]; exact Tryd.size16) ?_)
  refine (store_any ht H1 salt s HSL.out hn).mono ?_
  rintro e w2 ⟨rfl, H2⟩
  obtain ⟨E, hE⟩ : ∃ E, E = secretErr s.length := ⟨_, rfl⟩
  obtain ⟨D, hD⟩ : ∃ D, D = Mac.store salt s := ⟨_, rfl⟩
  rw [← hE, ← hD]
  have hdl : D.length = 32 := by rw [hD, Mac.store_len]
  have hdl2 : (bv D).length = 32 := by rw [bv_length, hdl]
  have H3 := H2.new (bv (List.replicate 32 0)) 40
  obtain ⟨w3, hst, H4⟩ := run_store_st (P := Tryd.prog) H3 (cs := bv D) (by rw [hdl2, bv_length, List.length_replicate]) (bv_one _)
  rw [← obj32] at hst
  have HE := Lib.hid hE
  have HD := Lib.hid hD
  have HDL := Lib.hid hdl
  clear hE hD hdl H1 H2 H3 hrs
  go_wp2
  generalize w2.heap.size = g2 at *
  clear hst
  by_cases hE0 : E = 0
  · have hDD : D = Mac.mac salt s := by rw [HD.out]; unfold Mac.store; rw [if_pos (by rw [← HE.out]; exact hE0)]
    have hsm := fun (W : World) (r1 : RB W (some ⟨g2, 0, none⟩) D) (r2 : RB W (some ⟨g1, 0, none⟩) tag) => same_any (w := W) (c := 32) (d := 32) r1 r2 (by rw [HDL.out]; exact Nat.le_refl _) (by rw [HTL.out]; exact Nat.le_refl _) (by rw [HDL.out]; decide)
    rw [HDL.out, HTL.out] at hsm
    have HSM := Lib.hid hsm
    have HDD := Lib.hid hDD
    subst hE0
    clear hsm hDD
    refine Pt.wp_plan (fun w' => St w0 w' M (eb g2 40 (bv D) :: eb g1 40 (bv tag) :: eb g 24 (bv salt) :: L)) (Pt.prs [0, 1, 2, 3, 4] (.go 5 (Pt.prs [6, 7] .fin))) [] Tryd.mixed (by kernel_rfl) (fun _ _ d _ _ h => by cases d <;> exact h) H4.drew ?_
    simp only [Pt.toL, Pt.rds, Pt.prs, Pt.at_, List.drop_succ_cons, List.drop_zero]
    iterate 5 (refine Pt.pr_run (v := ?_) (by rfl) ?_ ?_; rotate_left; (focus (intro w'; go_simp; with_reducible rfl)); simp only [Act.put, List.setIfInBounds_toArray, List.set_cons_zero, List.set_cons_succ])
    refine Pt.run_go ?_
    go_wp2_with fail
    refine (HSM.out _ ((H4.drew.blk 0 rfl).RB (by rw [List.drop_zero, List.take_of_length_le (by rw [bv_length]; exact Nat.le_refl _)])) ((H4.drew.blk 1 rfl).RB (by rw [List.drop_zero, List.take_of_length_le (by rw [bv_length]; exact Nat.le_refl _)]))).mono ?_
    rintro e w' ⟨rfl, rfl⟩
    have H5 := H4.drew
    go_wp2_with fail
    refine Pt.same H5 ?_
    iterate 2 (refine Pt.pr_run (v := ?_) (by rfl) ?_ ?_; rotate_left; (focus (intro w'; go_simp; with_reducible rfl)); simp only [Act.put, List.setIfInBounds_toArray, List.set_cons_zero, List.set_cons_succ])
    refine Pt.run_fin ?_
    go_wp2
    go_ret
    refine ⟨?_, H5.d0.d0.d0⟩
    rw [show decide (secretErr s.length = 0 ∧ Mac.mac salt s = tag) = decide (D = tag) from by rw [HDD.out]; simp [← HE.out]]
    rfl
  · have e1 : (E == 0) = false := by simpa using hE0
    have HE0 := Lib.hid hE0
    clear hE0
    refine Pt.wp_plan (fun w' => True) (Pt.prs [0, 1, 2, 3, 4, 5, 6, 7] .fin) [] Tryd.mixed (by kernel_rfl) (fun _ _ d _ _ h => by cases d <;> exact h) trivial ?_
    simp only [Pt.toL, Pt.rds, Pt.prs, Pt.at_, List.drop_succ_cons, List.drop_zero]
    iterate 3 (refine Pt.pr_run (v := ?_) (by rfl) ?_ ?_; rotate_left; (focus (intro w'; go_simp; with_reducible rfl)); simp only [Act.put, List.setIfInBounds_toArray, List.set_cons_zero, List.set_cons_succ])
    iterate 3 (refine Pt.pr_skip (by rfl) ?_; simp only [Act.put, List.setIfInBounds_toArray, List.set_cons_zero, List.set_cons_succ])
    iterate 2 (refine Pt.pr_run (v := ?_) (by rfl) ?_ ?_; rotate_left; (focus (intro w'; go_simp; with_reducible rfl)); simp only [Act.put, List.setIfInBounds_toArray, List.set_cons_zero, List.set_cons_succ])
    refine Pt.run_fin ?_
    have H5 := H4.drew
    go_wp2
    go_ret
    refine ⟨?_, H5.d0.d0.d0⟩
    rw [show decide (secretErr s.length = 0 ∧ Mac.mac salt s = tag) = false from by rw [← HE.out]; simp [HE0.out]]
    rfl
end
end Go.Proofs.YtcdljlaoedaliaaDoor
