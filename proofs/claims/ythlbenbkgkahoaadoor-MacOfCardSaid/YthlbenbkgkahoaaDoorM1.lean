/- MacOf walked. -/
import Derived.Test.YthlbenbkgkahoaaDoorMw
import Derived.Test.YthlbenbkgkahoaaDoorMr
import Derived.Test.YthlbenbkgkahoaaDoorEa
set_option linter.unusedVariables false
set_option linter.unusedSimpArgs false
namespace Go.Proofs.YthlbenbkgkahoaaDoor
open Go.RowKit Wd
set_option maxRecDepth 100000 in
set_option maxHeartbeats 1000000 in
theorem macOf_any {w : World} (ht : Tabs w) {A B : Option Addr} {c d : Nat} {k b : List UInt8} (hA : A = none → c = 0) (hk : RB w A k) (hc : k.length ≤ c) (hB : B = none → d = 0) (hb : RB w B b) :
    Calls Tryd.prog 3 #[.slice A k.length c, .slice B b.length d] w fun e w' => e = .returned (.bool true) ∧ Below w.heap.size w w' := by
  have H := St.start w
  have haw := fun (w1 : World) (H1 : St w w1 (w.heap[·]?) []) => awake_any ht H1
  have HAW := Lib.hid haw
  clear haw
  by_cases hbig : 2000 < k.length ∨ 2000 < b.length
  · have hx : (2000 : Int) < (k.length : Int) ∨ (¬ (2000 : Int) < (k.length : Int) ∧ (2000 : Int) < (b.length : Int)) := by omega
    clear hbig
    rcases hx with hx | ⟨hx, hx2⟩
    all_goals
      go_enter Tryd.func3, Tryd.ntmps3
      go_wp2_with fail
      refine (HAW.out _ H).mono ?_
      rintro e w' ⟨rfl, H1⟩
      go_wp2
      go_ret
      exact ⟨rfl, H1.below⟩
  · have q1 : ¬ (2000 : Int) < (k.length : Int) := by omega
    have q2 : ¬ (2000 : Int) < (b.length : Int) := by omega
    clear hbig
    have sk : Sr w (w.heap[·]?) [] A k := Sr.of_in (In.oldRB H hk)
    have sb : Sr w (w.heap[·]?) [] B b := Sr.of_in (In.oldRB H hb)
    have H1 := H.lit0 5
    have r1 := (sk.cons (er 5 1 (.slice (some ⟨w.heap.size, 0, none⟩) 0 0) 0 [])).now H1
    obtain ⟨D, hD⟩ : ∃ D, D = Mac.mac k b := ⟨_, rfl⟩
    have HD := Lib.hid hD
    clear hD
    go_enter Tryd.func3, Tryd.ntmps3
    go_wp2_with (at_builtin; refine wpList_append_st H1 (by rfl) (.tmp 14) (.tmp 15) 22 (by rfl) Tryd.info5 Tryd.underlying22 (by rfl) A k.length c k (by rfl) rfl hA r1 (by omega) ?_)
    intro v1 w1 H2
    try simp only [Nat.zero_add, List.nil_append] at H2
    have H3 := H2.lit0 5
    have r3 := (((sb.cons _).cons _)).now H3
    obtain ⟨A1, c1, rfl, hc1, hA1⟩ := H2.shape' 0 rfl
    clear H1 r1 H2
    go_wp2_with (at_builtin; refine wpList_append_st H3 (by rfl) (.tmp 17) (.tmp 18) 22 (by rfl) Tryd.info5 Tryd.underlying22 (by rfl) B b.length d b (by rfl) rfl hB r3 (by omega) ?_)
    intro v2 w2 H4
    try simp only [Nat.zero_add, List.nil_append] at H4
    obtain ⟨A2, c2, rfl, hc2, hA2⟩ := H4.shape' 0 rfl
    have h1 := mac_any ht H4 hA1 hc1 (Sr.row 1 rfl) (by omega) hA2 (Sr.row 0 rfl) (by omega)
    rw [← HD.out] at h1
    have HO := Lib.hid h1
    clear h1 H3 r3
    go_wp2_with fail
    refine HO.out.mono ?_
    rintro e w3 ⟨rfl, H5⟩
    have h2 := rmac_any H5.d0.d0 hA sk (by omega) hc hB sb (by omega)
    rw [← HD.out] at h2
    have HP := Lib.hid h2
    clear h2 HO
    go_wp2_with fail
    refine HP.out.mono ?_
    rintro e w4 ⟨rfl, H6⟩
    have heq := Tryd.eq32 w4 D (by rw [HD.out, Mac.mac_len])
    go_wp2_with fail
    refine (HAW.out _ H6).mono ?_
    rintro e w5 ⟨rfl, H7⟩
    go_wp2
    go_ret
    exact ⟨rfl, H7.below⟩
end Go.Proofs.YthlbenbkgkahoaaDoor
