/- ShaHex, ShaUnhex walked. -/
import Derived.Test.YtcegmakkfhfalaaDoorHv
import Derived.Test.YtcegmakkfhfalaaDoorUj
set_option linter.unusedVariables false
set_option linter.unusedSimpArgs false
namespace Go.Proofs.YtcegmakkfhfalaaDoor
open Go.RowKit Wd
set_option maxRecDepth 100000 in
set_option maxHeartbeats 1000000 in
theorem shaHex_any {w : World} (ht : Tabs w) {A : Option Addr} {c : Nat} {l : List UInt8} (hl : RB w A l) (hc : l.length ≤ c) :
    Calls Tryd.prog 7 #[.slice A l.length c] w fun e w' => e = .returned (.bool true) ∧ Below w.heap.size w w' := by
  have H := St.start w
  by_cases h4 : 4000 < l.length
  · have h4' : (4000 : Int) < (l.length : Int) := by omega
    have haw := awake_any ht H
    clear h4
    go_enter Tryd.func7, Tryd.ntmps7
    go_wp2_with fail
    refine haw.mono ?_
    rintro e w' ⟨rfl, H1⟩
    go_wp2
    go_ret
    exact ⟨rfl, H1.below⟩
  · have h4' : ¬ (4000 : Int) < (l.length : Int) := by omega
    have hin := In.oldRB H hl
    have hs : Sr w (w.heap[·]?) [] A l := Sr.of_in hin
    have hx := hex_any H (c := c) hs (by omega)
    have hlen := hexL_length l
    have hun := unhexL_hexL l
    obtain ⟨X, hX⟩ : ∃ X, X = hexL l := ⟨_, rfl⟩
    rw [← hX] at hx hlen hun
    have HX := Lib.hid hX
    have HLEN := Lib.hid hlen
    have HUN := Lib.hid hun
    have HHX := Lib.hid hx
    clear hX hlen hun hx
    go_enter Tryd.func7, Tryd.ntmps7
    go_wp2_with fail
    refine HHX.out.mono ?_
    rintro e w1 ⟨rfl, H1⟩
    go_wp2_with fail
    refine (unhex_any H1 X (by have := HLEN.out; omega)).mono ?_
    rintro e w2 (⟨h0, _⟩ | ⟨o, Ao, co, M', h0, rfl, hM, hb, H2⟩)
    · rw [HUN.out] at h0; cases h0
    · rw [HUN.out] at h0
      injection h0 with h0
      subst h0
      have hr := rhex_any H2 (c := c) (Sr.of_in (hin.le hM)) (by omega) hc
      rw [← HX.out] at hr
      have HR := Lib.hid hr
      clear hr
      go_wp2_with fail
      refine HR.out.mono ?_
      rintro e w3 ⟨rfl, H3⟩
      have cv1 := conv_RB (P := Tryd.prog) (src := 22) (dst := 9) (c := co) Tryd.underlying22 Tryd.underlying5 Tryd.underlying9 (hb.now H3) rfl
      have cv2 := conv_RB (P := Tryd.prog) (src := 22) (dst := 9) (c := c) Tryd.underlying22 Tryd.underlying5 Tryd.underlying9 ((hin.le hM).now H3) rfl
      go_wp2_with fail
      refine (awake_any ht H3).mono ?_
      rintro e w4 ⟨rfl, H4⟩
      go_wp2
      go_ret
      exact ⟨rfl, H4.below⟩
set_option maxRecDepth 100000 in
set_option maxHeartbeats 1000000 in
theorem shaUnhex_any {w : World} (ht : Tabs w) (l : List UInt8) :
    Calls Tryd.prog 8 #[.string ⟨l.toArray⟩] w fun e w' => e = .returned (.bool true) ∧ Below w.heap.size w w' := by
  have H := St.start w
  have hsz : (ByteArray.mk l.toArray).size = l.length := by show l.toArray.size = _; simp
  by_cases h4 : 8000 < l.length
  · have h4' : (8000 : Int) < (l.length : Int) := by omega
    have haw := awake_any ht H
    clear h4
    go_enter Tryd.func8, Tryd.ntmps8
    go_wp2_with fail
    refine haw.mono ?_
    rintro e w' ⟨rfl, H1⟩
    go_wp2
    go_ret
    exact ⟨rfl, H1.below⟩
  · have h4' : ¬ (8000 : Int) < (l.length : Int) := by omega
    go_enter Tryd.func8, Tryd.ntmps8
    go_wp2_with fail
    refine (unhex_any H l (by omega)).mono ?_
    rintro e w1 (⟨h0, rfl, H1⟩ | ⟨o, Ao, co, M', h0, rfl, hM, hb, H1⟩)
    · go_wp2_with fail
      refine (runhex_any H1 l (by omega)).mono ?_
      rintro e w2 (⟨_, rfl, H2⟩ | ⟨o, _, _, _, h1, _⟩)
      · go_wp2_with fail
        refine (awake_any ht H2).mono ?_
        rintro e w4 ⟨rfl, H4⟩
        go_wp2
        go_ret
        exact ⟨rfl, H4.below⟩
      · rw [h0] at h1; cases h1
    · have H0 := Lib.hid h0
      clear h0
      go_wp2_with fail
      refine (runhex_any H1 l (by omega)).mono ?_
      rintro e w2 (⟨h1, _⟩ | ⟨o2, A2, c2, M2, h1, rfl, hM2, hb2, H2⟩)
      · rw [H0.out] at h1; cases h1
      · rw [H0.out] at h1
        injection h1 with h1
        subst h1
        have cv1 := conv_RB (P := Tryd.prog) (src := 22) (dst := 9) (c := co) Tryd.underlying22 Tryd.underlying5 Tryd.underlying9 ((hb.le hM2).now H2) rfl
        have cv2 := conv_RB (P := Tryd.prog) (src := 22) (dst := 9) (c := c2) Tryd.underlying22 Tryd.underlying5 Tryd.underlying9 (hb2.now H2) rfl
        go_wp2_with fail
        refine (awake_any ht H2).mono ?_
        rintro e w4 ⟨rfl, H4⟩
        go_wp2
        go_ret
        exact ⟨rfl, H4.below⟩
end Go.Proofs.YtcegmakkfhfalaaDoor
