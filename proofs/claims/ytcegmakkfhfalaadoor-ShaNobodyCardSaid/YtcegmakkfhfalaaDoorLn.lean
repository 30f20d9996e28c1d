/- ShaNobody walked. -/
import Derived.Test.YtcegmakkfhfalaaDoorHv
import Derived.Test.YtcegmakkfhfalaaDoorNb
set_option linter.unusedVariables false
set_option linter.unusedSimpArgs false
namespace Go.Proofs.YtcegmakkfhfalaaDoor
open Go.RowKit Wd
theorem Tryd.neq32 (w : World) (D : List UInt8) (hD : D.length = 32) : (Op.equalIn 10000 24 (.agg (bv D).toArray) (.agg (bv D).toArray)).run Tryd.prog w = .ok true w := by
  obtain ⟨i, hi, _⟩ := info_parts Tryd.info5
  exact run_eq_same w 9998 Tryd.underlying24 hi Tryd.underlying5 (by kernel_rfl) (by kernel_rfl) D hD
set_option maxRecDepth 100000 in
set_option maxHeartbeats 1000000 in
theorem shaNobody_any {w : World} (ht : Tabs w) {A : Option Addr} {c : Nat} {l : List UInt8} (hl : RB w A l) :
    Calls Tryd.prog 6 #[.slice A l.length c] w fun e w' => e = .returned (.bool true) ∧ Below w.heap.size w w' := by
  have H := St.start w
  by_cases h4 : 4000 < l.length
  · have h4' : (4000 : Int) < (l.length : Int) := by omega
    have haw := awake_any ht H
    clear h4
    go_enter Tryd.func6, Tryd.ntmps6
    go_wp2_with fail
    refine haw.mono ?_
    rintro e w' ⟨rfl, H1⟩
    go_wp2
    go_ret
    exact ⟨rfl, H1.below⟩
  · have h4' : ¬ (4000 : Int) < (l.length : Int) := by omega
    obtain ⟨D, hD⟩ : ∃ D, D = Sha.sha [] := ⟨_, rfl⟩
    have hdl : D.length = 32 := by rw [hD, sha_len]
    have hof := fun (w1 : World) (L : List Ent) (H1 : St w w1 (w.heap[·]?) L) => of_nil ht H1
    have hno := fun (w1 : World) (L : List Ent) (H1 : St w w1 (w.heap[·]?) L) => no_sum ht H1
    rw [← hD] at hof hno
    have HDL := Lib.hid hdl
    have HOF := Lib.hid hof
    have HNO := Lib.hid hno
    clear hD hdl hof hno
    go_enter Tryd.func6, Tryd.ntmps6
    go_wp2
    go_loopw [3] (fun i wr => ∃ (k : Nat), k ≤ 2 ∧ i = .int .i64 k ∧ St w wr (w.heap[·]?) []) (fun i _ => 2 - (intOf i).toNat)
    case atStart => exact ⟨0, by omega, rfl, H⟩
    case round =>
      obtain ⟨k, hk, rfl, H1⟩ := hrel
      clear H
      have h3 : k = 0 ∨ k = 1 ∨ k = 2 := by omega
      clear hk
      rcases h3 with rfl | rfl | rfl
      · go_wp2_with fail
        refine (nil_write _ _).mono ?_
        rintro e w2 ⟨rfl, rfl⟩
        go_wp2_with fail
        refine (nil_len _).mono ?_
        rintro e w2 ⟨rfl, rfl⟩
        go_wp2_with fail
        refine (HNO.out _ _ H1 none (.inl rfl)).mono ?_
        rintro e w3 ⟨rfl, H2⟩
        go_wp2_with fail
        refine (HOF.out _ _ H2).mono ?_
        rintro e w4 ⟨rfl, H3⟩
        have heq := Tryd.neq32 w4 D HDL.out
        go_wp2
        exact ⟨⟨1, by omega, by rfl, H3⟩, by simp [intOf]⟩
      · have H2 := H1.new zcells 43
        go_wp2_with fail
        refine (z_write H2 (i := 0) rfl _).mono ?_
        rintro e w2 ⟨rfl, rfl⟩
        go_wp2_with fail
        refine (z_len H2 (i := 0) rfl).mono ?_
        rintro e w2 ⟨rfl, rfl⟩
        go_wp2_with fail
        refine (HNO.out _ _ H2 _ (.inr ⟨wr.heap.size, 0, rfl, rfl⟩)).mono ?_
        rintro e w3 ⟨rfl, H3⟩
        go_wp2_with fail
        refine (HOF.out _ _ H3).mono ?_
        rintro e w4 ⟨rfl, H4⟩
        have heq := Tryd.neq32 w4 D HDL.out
        go_wp2
        exact ⟨⟨2, by omega, by rfl, H4.d0⟩, by simp [intOf]⟩
      · go_wp2_with fail
        refine (awake_any ht H1).mono ?_
        rintro e w4 ⟨rfl, H4⟩
        go_wp2
        go_ret
        exact ⟨rfl, H4.below⟩
end Go.Proofs.YtcegmakkfhfalaaDoor
