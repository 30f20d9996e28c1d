/- ShaRoots walked. -/
import Derived.Test.YtcegmakkfhfalaaDoorRx
import Derived.Test.YtcegmakkfhfalaaDoorHv
import Derived.Test.YtcegmakkfhfalaaDoorCo
set_option linter.unusedVariables false
set_option linter.unusedSimpArgs false
namespace Go.Proofs.YtcegmakkfhfalaaDoor
open Go.RowKit Wd
theorem Tryd.zeroH8 : (Tryd.prog.info? 28).map (fun i => (i.zero, i.size)) = some (some (.agg (Array.replicate 8 (.int .u32 0))), 8) := by kernel_rfl
theorem root3_at (i : Nat) (h : i < 64) : rootL 3 (prm i) % 4294967296 = (Sha.known.getD i 0).toNat := by
  have h1 := congrArg (fun l => l[i]?) roots3
  simp only [List.getElem?_map] at h1
  rw [List.getElem?_range h] at h1
  rw [List.getD_eq_getElem?_getD]
  cases hk : Sha.known[i]? with
  | none => rw [hk] at h1; cases h1
  | some y => rw [hk] at h1; simpa using h1
theorem root2_at (i : Nat) (h : i < 8) : rootL 2 (prm i) % 4294967296 = (Sha.first.list.getD i 0).toNat := by
  have h1 := congrArg (fun l => l[i]?) roots2
  simp only [List.getElem?_map] at h1
  rw [List.getElem?_range h] at h1
  rw [List.getD_eq_getElem?_getD]
  cases hk : Sha.first.list[i]? with
  | none => rw [hk] at h1; cases h1
  | some y => rw [hk] at h1; simpa using h1
set_option maxRecDepth 100000 in
set_option maxHeartbeats 1000000 in
theorem shaRoots_any {w : World} (ht : Tabs w) (n0 : UInt8) :
    Calls Tryd.prog 4 #[.int .u8 (n0.toNat : Int)] w fun e w' => e = .returned (.bool true) ∧ Below w.heap.size w w' := by
  have H := St.start w
  obtain ⟨i, hi⟩ : ∃ i, i = n0.toNat % 64 := ⟨_, rfl⟩
  obtain ⟨j, hj⟩ : ∃ j, j = i % 8 := ⟨_, rfl⟩
  have hi64 : i < 64 := by omega
  have hj8 : j < 8 := by omega
  have e8 : (Sha.wv Sha.first.list).length = 8 := by rw [Sha.wv_length]; rfl
  have e64 : (Sha.wv Sha.known).length = 64 := by rw [Sha.wv_length]; rfl
  have hk3 := root3_at i hi64
  have hk2 := root2_at j hj8
  have hw3 : (Sha.wv Sha.known)[i]? = some (.int .u32 ((rootL 3 (prm i) % 4294967296 : Nat) : Int)) := by rw [Sha.wv_at Sha.known i (by show i < 64; exact hi64), hk3]
  have hw2 : (Sha.wv Sha.first.list)[j]? = some (.int .u32 ((rootL 2 (prm j) % 4294967296 : Nat) : Int)) := by rw [Sha.wv_at Sha.first.list j (by rw [Sha.V8.list_length]; exact hj8), hk2]
  have hr3 := fun (w1 : World) (L : List Ent) (H1 : St w w1 (w.heap[·]?) L) => root_any H1 3 (prm i) (.inr rfl) (prm_lt i hi64)
  have hr2 := fun (w1 : World) (L : List Ent) (H1 : St w w1 (w.heap[·]?) L) => root_any H1 2 (prm j) (.inl rfl) (prm_lt j (by omega))
  have hp3 := fun W => prime_any i hi64 W
  have hp2 := fun W => prime_any j (by omega) W
  obtain ⟨K3, hK3⟩ : ∃ K, K = rootL 3 (prm i) % 4294967296 := ⟨_, rfl⟩
  obtain ⟨K2, hK2⟩ : ∃ K, K = rootL 2 (prm j) % 4294967296 := ⟨_, rfl⟩
  obtain ⟨P3, hP3⟩ : ∃ K, K = prm i := ⟨_, rfl⟩
  obtain ⟨P2, hP2⟩ : ∃ K, K = prm j := ⟨_, rfl⟩
  rw [← hK3] at hw3 hr3
  rw [← hK2] at hw2 hr2
  rw [← hP3] at hr3 hp3
  rw [← hP2] at hr2 hp2
  have HW3 := Lib.hid hw3
  have HW2 := Lib.hid hw2
  have HR3 := Lib.hid hr3
  have HR2 := Lib.hid hr2
  have HP3 := Lib.hid hp3
  have HP2 := Lib.hid hp2
  obtain ⟨VH, hVH⟩ : ∃ V, V = Sha.wv Sha.first.list := ⟨_, rfl⟩
  obtain ⟨VW, hVW⟩ : ∃ V, V = Sha.wv Sha.known := ⟨_, rfl⟩
  have hco := consts_any H
  rw [← hVH, ← hVW] at hco
  have o8 : ∀ v ∈ VH, v.oneCell' = true := by rw [hVH]; exact Sha.wv_one _
  have o64 : ∀ v ∈ VW, v.oneCell' = true := by rw [hVW]; exact Sha.wv_one _
  rw [← hVH] at e8
  rw [← hVW] at e64
  have HVH := Lib.hid hVH
  have HVW := Lib.hid hVW
  have HCO := Lib.hid hco
  have HE8 := Lib.hid (And.intro e8 o8)
  have HE64 := Lib.hid (And.intro e64 o64)
  obtain ⟨N, hN⟩ : ∃ N, N = n0.toNat := ⟨_, rfl⟩
  have i1 : (N : Int).tmod 64 = (i : Int) := by rw [Int.tmod_eq_emod_of_nonneg (by omega)]; omega
  have i2 : (N : Int) % 64 = (i : Int) := by omega
  have i3 : (i : Int).tmod 8 = (j : Int) := by rw [Int.tmod_eq_emod_of_nonneg (by omega)]; omega
  have i4 : (i : Int) % 8 = (j : Int) := by omega
  have i5 : (i : Int) < 64 := by omega
  have i6 : (j : Int) < 8 := by omega
  have i7 : (N : Int) < 256 := by have := n0.toNat_lt; omega
  rw [← hN]
  clear hi hj hN hk3 hk2 hw3 hw2 hr3 hr2 hp3 hp2 hK3 hK2 hP3 hP2 hVH hVW hco o8 o64 e8 e64
  go_enter Tryd.func4, Tryd.ntmps4
  go_wp2_with fail
  refine HCO.out.mono ?_
  rintro e w1 ⟨rfl, H1⟩
  go_wp2_with (first
    | (refine wpList_alloc_st H1 (by rfl) 28 (by rfl) Tryd.zeroH8 ?_; intro g3 w3 H3)
    | (refine wpList_alloc_st H3 (by rfl) 29 (by rfl) Tryd.zeroW ?_; intro g4 w4 H4)
    | (refine wpList_store_st H4.f1 (by rfl) 28 (.tmp 3) (.tmp 8) (by rfl) 0 VH (by rfl) (by rfl) (by rw [HE8.out.1]; exact Nat.le_refl 8) (by rw [HE8.out.1]; exact Tryd.sizeH) HE8.out.2 ?_; intro w5 H5)
    | (refine wpList_store_st H5.f1 (by rfl) 29 (.tmp 4) (.tmp 9) (by rfl) 0 VW (by rfl) (by rfl) (by rw [HE64.out.1]; exact Nat.le_refl 64) (by rw [HE64.out.1]; exact Tryd.sizeW) HE64.out.2 ?_; intro w6 H6))
  rw [ins_all (Value.agg (Array.replicate 64 (.int .u32 0))).cells.toList VW (by rw [HE64.out.1]; rfl), ins_all (Value.agg (Array.replicate 8 (.int .u32 0))).cells.toList VH (by rw [HE8.out.1]; rfl)] at H6
  have hcd : ∀ W, St w W (w.heap[·]?) [eb g4 29 VW, eb g3 28 VH] → W.cell? ⟨g4, i, none⟩ = some (.int .u32 (K3 : Int)) ∧ W.cell? ⟨g3, j, none⟩ = some (.int .u32 (K2 : Int)) := fun W hW =>
    ⟨by rw [hW.cell 0 rfl i, HVW.out, HW3.out], by rw [hW.cell 1 rfl j, HVH.out, HW2.out]⟩
  have HCD := Lib.hid hcd
  have H7 : St w w6 (w.heap[·]?) [eb g4 29 VW, eb g3 28 VH] := H6
  clear hcd H6 H5 H4 H3 H1
  have H8 := H7.drew
  refine Pt.wp_plan (fun w' => w'.cell? ⟨g4, i, none⟩ = some (.int .u32 (K3 : Int)) ∧ w'.cell? ⟨g3, j, none⟩ = some (.int .u32 (K2 : Int))) (Pt.prs [0, 1, 3] (Pt.rds [2] (.go 4 (.go 5 (Pt.prs [6, 7, 8, 9, 10, 12, 13] (Pt.rds [11] (.go 14 (.go 15 (Pt.prs [16, 17] .fin))))))))) [] Tryd.mixed (by kernel_rfl) (fun _ _ d _ _ h => by cases d <;> exact h) (HCD.out _ H8) ?_
  simp only [Pt.toL, Pt.rds, Pt.prs, Pt.at_, List.drop_succ_cons, List.drop_zero]
  iterate 3 (refine Pt.pr_run (v := ?_) (by rfl) ?_ ?_; rotate_left; (focus (intro w'; go_simp; with_reducible rfl)); simp only [Act.put, List.setIfInBounds_toArray, List.set_cons_zero, List.set_cons_succ])
  (refine Pt.rd_run (v := ?_) (by rfl) ?_ ?_; rotate_left; (focus (intro w' hS; obtain ⟨s0, s1⟩ := hS; go_simp; with_reducible rfl)); simp only [Act.put, List.setIfInBounds_toArray, List.set_cons_zero, List.set_cons_succ])
  refine Pt.run_go ?_
  go_wp2_with fail
  refine (HP3.out _).mono ?_
  rintro e w' ⟨rfl, rfl⟩
  go_wp2_with fail
  refine Pt.same (HCD.out _ H8) ?_
  refine Pt.run_go ?_
  go_wp2_with fail
  refine (HR3.out _ _ H8).mono ?_
  rintro e w9 ⟨rfl, H9⟩
  go_wp2_with fail
  refine Pt.same (HCD.out _ H9) ?_
  iterate 7 (refine Pt.pr_run (v := ?_) (by rfl) ?_ ?_; rotate_left; (focus (intro w'; go_simp; with_reducible rfl)); simp only [Act.put, List.setIfInBounds_toArray, List.set_cons_zero, List.set_cons_succ])
  (refine Pt.rd_run (v := ?_) (by rfl) ?_ ?_; rotate_left; (focus (intro w' hS; obtain ⟨s0, s1⟩ := hS; go_simp; with_reducible rfl)); simp only [Act.put, List.setIfInBounds_toArray, List.set_cons_zero, List.set_cons_succ])
  refine Pt.run_go ?_
  go_wp2_with fail
  refine (HP2.out _).mono ?_
  rintro e w' ⟨rfl, rfl⟩
  go_wp2_with fail
  refine Pt.same (HCD.out _ H9) ?_
  refine Pt.run_go ?_
  go_wp2_with fail
  refine (HR2.out _ _ H9).mono ?_
  rintro e w10 ⟨rfl, H10⟩
  go_wp2_with fail
  refine Pt.same (HCD.out _ H10) ?_
  iterate 2 (refine Pt.pr_run (v := ?_) (by rfl) ?_ ?_; rotate_left; (focus (intro w'; go_simp; with_reducible rfl)); simp only [Act.put, List.setIfInBounds_toArray, List.set_cons_zero, List.set_cons_succ])
  refine Pt.run_fin ?_
  go_wp2_with fail
  refine (awake_any ht H10).mono ?_
  rintro e w11 ⟨rfl, H11⟩
  go_wp2
  go_ret
  exact ⟨rfl, H11.below⟩
end Go.Proofs.YtcegmakkfhfalaaDoor
