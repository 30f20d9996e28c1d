/- ShaOf walked. -/
import Derived.Test.YtcegmakkfhfalaaDoorRz
import Derived.Test.YtcegmakkfhfalaaDoorHv
import Derived.Test.YtcegmakkfhfalaaDoorEq
set_option linter.unusedVariables false
set_option linter.unusedSimpArgs false
namespace Go.Proofs.YtcegmakkfhfalaaDoor
open Go.RowKit Wd
theorem Tryd.cells_byte : Tryd.prog.cellsOf 5 = 1 := by kernel_rfl
theorem Tryd.eq32 (w : World) (D : List UInt8) (hD : D.length = 32) : (Op.equalIn 10000 24 (.agg (bv D).toArray) (.agg (bv D).toArray)).run Tryd.prog w = .ok true w := by
  obtain ⟨i, hi, _⟩ := info_parts Tryd.info5
  exact run_eq_same w 9998 Tryd.underlying24 hi Tryd.underlying5 (by kernel_rfl) Tryd.cells_byte D hD
set_option maxRecDepth 100000 in
set_option maxHeartbeats 1000000 in
theorem shaOf_any {w : World} (ht : Tabs w) {A : Option Addr} {c : Nat} {l : List UInt8} (hA : A = none → c = 0) (hl : RB w A l) (hc : l.length ≤ c) :
    Calls Tryd.prog 3 #[.slice A l.length c] w fun e w' => e = .returned (.bool true) ∧ Below w.heap.size w w' := by
  have H := St.start w
  by_cases h4 : 4000 < l.length
  · have h4' : (4000 : Int) < (l.length : Int) := by omega
    have haw := awake_any ht H
    clear h4
    go_enter Tryd.func3, Tryd.ntmps3
    go_wp2_with fail
    refine haw.mono ?_
    rintro e w' ⟨rfl, H1⟩
    go_wp2
    go_ret
    exact ⟨rfl, H1.below⟩
  · have h4' : ¬ (4000 : Int) < (l.length : Int) := by omega
    have hs : Sr w (w.heap[·]?) [] A l := Sr.of_in (In.oldRB H hl)
    have H1 := H.lit0 5
    have r1 := hs.now H1.d0
    obtain ⟨D, hD⟩ : ∃ D, D = Sha.sha l := ⟨_, rfl⟩
    have HD := Lib.hid hD
    clear hD
    go_enter Tryd.func3, Tryd.ntmps3
    go_wp2_with (at_builtin; refine wpList_append_st H1 (by rfl) (.tmp 7) (.tmp 8) 22 (by rfl) Tryd.info5 Tryd.underlying22 (by rfl) A l.length c l (by rfl) rfl hA r1 (by omega) ?_)
    intro v1 w1 H2
    try simp only [Nat.zero_add, List.nil_append] at H2
    obtain ⟨A1, c1, rfl, hc1, hA1⟩ := H2.shape' 0 rfl
    have h1 := of_any ht H2 hA1 hc1 (Sr.row 0 rfl) (by omega)
    rw [← HD.out] at h1
    have HO := Lib.hid h1
    clear h1
    go_wp2_with fail
    refine HO.out.mono ?_
    rintro e w2 ⟨rfl, H3⟩
    have h2 := rof_any H3.d0 (c := c) hA hs (by omega)
    rw [← HD.out] at h2
    have HP := Lib.hid h2
    clear h2
    go_wp2_with fail
    refine HP.out.mono ?_
    rintro e w3 ⟨rfl, H4⟩
    have heq := Tryd.eq32 w3 D (by rw [HD.out, sha_len])
    go_wp2_with fail
    refine (awake_any ht H4).mono ?_
    rintro e w4 ⟨rfl, H5⟩
    go_wp2
    go_ret
    exact ⟨rfl, H5.below⟩
end Go.Proofs.YtcegmakkfhfalaaDoor
