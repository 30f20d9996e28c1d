/- The contract of the reference's Seal. -/
import Derived.Test.YtfhphkhkpejomaaDoorZg
set_option linter.unusedVariables false
set_option linter.unusedSimpArgs false
namespace Go.Proofs.YtfhphkhkpejomaaDoor
open Go.RowKit Wd
section
variable {w0 w : World} {M : Mem} {L : List Ent}
set_option maxRecDepth 100000 in
set_option maxHeartbeats 2000000 in
theorem rseal_any (H : St w0 w M L) {A : Option Addr} {c : Nat} {k : List UInt8} (hA : A = none → c = 0) (hc : k.length ≤ c) (hk : Sr w0 M L A k) (hn : k.length < 1000000)
    (non lb : List UInt8) (hnl : non.length = 16) (hlb : lb.length ≤ 60000)
    {C : Option Addr} {f : Nat} {b : List UInt8} (hC : C = none → f = 0) (hbf : b.length ≤ f) (hb : Sr w0 M L C b) (hbn : b.length ≤ 10000) :
    Calls Tryd.prog 13 #[.slice A k.length c, .agg (bv non).toArray, .string ⟨lb.toArray⟩, .slice C b.length f] w (RetBytes w0 M L (Seal.sealR k non lb b).1 fun v => .returned (.tuple #[v, .int .i64 (Seal.sealR k non lb b).2])) := by
  have hsz : (ByteArray.mk lb.toArray).size = lb.length := by show lb.toArray.size = _; simp
  have hbl : (bv non).length = 16 := by rw [bv_length, hnl]
  have H1 := H.new (bv non) 28
  by_cases hbad : 256 < lb.length ∨ 4096 < b.length
  · have hR : Seal.sealR k non lb b = ([], 3) := if_pos hbad
    rw [hR]
    have hx : (256 : Int) < (lb.length : Int) ∨ (¬ (256 : Int) < (lb.length : Int) ∧ (4096 : Int) < (b.length : Int)) := by omega
    clear hbad hR
    rcases hx with hx | ⟨hx, hx2⟩
    all_goals
      go_enter Tryd.func13, Tryd.ntmps13
      go_wp2
      go_ret2
      exact ⟨none, 0, M, rfl, Nat.le_refl _, fun _ => rfl, Mem.le.refl _, fun _ _ h => absurd rfl h, H1.d0⟩
  · have hR : Seal.sealR k non lb b = (Seal.sealed k non lb b, 0) := if_neg hbad
    rw [hR]
    have q1 : ¬ (256 : Int) < (lb.length : Int) := by omega
    have q2 : ¬ (4096 : Int) < (b.length : Int) := by omega
    obtain ⟨Y, hY⟩ : ∃ Y, Y = Seal.body k non b := ⟨_, rfl⟩
    obtain ⟨T, hT⟩ : ∃ T, T = Seal.tag k lb Y := ⟨_, rfl⟩
    have hS : Seal.sealed k non lb b = Y ++ T := by rw [hT, hY]; rfl
    have hYl : Y.length = 16 + b.length := by rw [hY]; unfold Seal.body; rw [List.length_append, Seal.turned_len, hnl]
    have hTl : T.length = 32 := by rw [hT, Seal.tag_len]
    rw [hS]
    have HY := Lib.hid hY
    have HT := Lib.hid hT
    have HYL := Lib.hid hYl
    have HTL := Lib.hid hTl
    have HNL := Lib.hid hnl
    have H2 := H1.lit0 5
    rw [show (w.alloc (.cells (bv non).toArray 28)).heap.size = w.heap.size + 1 from by simp] at H2
    have b2 : b.length ≤ 4096 := by omega
    clear hbad hR hY hT hS hYl hTl hnl
    go_enter Tryd.func13, Tryd.ntmps13
    go_wp2_with (at_builtin; refine wpList_append_st H2 (by rfl) (.tmp 20) (.tmp 21) 22 (by rfl) Tryd.info5 Tryd.underlying22 (by rfl) (some ⟨w.heap.size, 0, none⟩) 16 16 non (by rfl) HNL.out.symm (by rintro ⟨⟩) ((H2.blk 1 rfl).RB (by rw [List.drop_zero, List.take_of_length_le (by rw [bv_length]; exact Nat.le_refl _)])) (by omega) ?_)
    intro v1 w1 H3
    try simp only [Nat.zero_add, List.nil_append] at H3
    obtain ⟨A3, c3, rfl, hc3, hA3⟩ := H3.shape' 0 rfl
    have H4 := H3.lit0 5
    clear H2 H1
    go_wp2_with (at_builtin; refine wpList_append_st H4 (by rfl) (.tmp 23) (.tmp 24) 22 (by rfl) Tryd.info5 Tryd.underlying22 (by rfl) A3 16 c3 non (by rfl) HNL.out.symm hA3 (er_RB (H4.get 1 rfl)) (by omega) ?_)
    intro v2 w2 H5
    try simp only [Nat.zero_add, List.nil_append] at H5
    have hsn : Sr w0 M (er 5 1 v2 16 (bv non) :: er 5 1 (.slice A3 16 c3) 16 (bv non) :: eb w.heap.size 28 (bv non) :: L) A3 non := by
      have h := Sr.row (w0 := w0) (M := M) (F := er 5 1 v2 16 (bv non) :: er 5 1 (.slice A3 16 c3) 16 (bv non) :: eb w.heap.size 28 (bv non) :: L) (A := A3) (c := c3) (l := non) (n := 16) (e := 5) 1 rfl
      exact h
    have htu := turned_any H5 hA hc (((hk.cons _).cons _).cons _) hn (B := A3) (d := c3) (non := non) hA3 (by rw [HNL.out]; exact hc3) hsn (by rw [HNL.out]; decide) hC hbf (((hb.cons _).cons _).cons _) hbn
    rw [HNL.out] at htu
    have HTU := Lib.hid htu
    clear htu H4 H3 hsn
    go_wp2_with fail
    refine HTU.out.mono ?_
    rintro e w3 ⟨v3, rfl, H6⟩
    obtain ⟨A6, c6, rfl, hc6, hA6⟩ := H6.shape' 0 rfl
    have ht6 : RB w3 A6 (Seal.turned k non b) := er_RB (by have h := H6.get 0 rfl; rw [← Seal.turned_len k non b] at h; exact h)
    clear HTU H5
    go_wp2_with (at_builtin; refine wpList_append_st H6.f1 (by rfl) (.tmp 25) (.tmp 29) 22 (by rfl) Tryd.info5 Tryd.underlying22 (by rfl) A6 b.length c6 (Seal.turned k non b) (by rfl) (Seal.turned_len k non b).symm hA6 ht6 (by omega) ?_)
    intro v4 w4 H7
    rw [← bv_append, show non ++ Seal.turned k non b = Y from HY.out.symm, ← HYL.out] at H7
    obtain ⟨A7, c7, rfl, hc7, hA7⟩ := H7.shape' 0 rfl
    have H8 := H7.lit0 5
    have r8 := er_RB (H8.get 1 rfl)
    clear H6 ht6
    go_wp2_with (at_builtin; refine wpList_append_st H8 (by rfl) (.tmp 31) (.tmp 32) 22 (by rfl) Tryd.info5 Tryd.underlying22 (by rfl) A7 Y.length c7 Y (by rfl) rfl hA7 r8 (by have := HYL.out; omega) ?_)
    intro v5 w5 H9
    try simp only [Nat.zero_add, List.nil_append] at H9
    have hrt := rtag_any H9 hA hc (((((hk.cons _).cons _).cons _).cons _).cons _) hn lb hlb (B := A7) (d := c7) (s := Y) hA7 (Sr.row 1 rfl) (by rw [HYL.out]; omega)
    rw [← HT.out] at hrt
    have HRT := Lib.hid hrt
    clear hrt H8 H7 r8
    go_wp2_with fail
    refine HRT.out.mono ?_
    rintro e w6 ⟨v6, rfl, H10⟩
    obtain ⟨A10, c10, rfl, hc10, hA10⟩ := H10.shape' 0 rfl
    have ht10 : RB w6 A10 T := er_RB (by have h := H10.get 0 rfl; rw [← HTL.out] at h; exact h)
    clear HRT H9
    go_wp2_with (at_builtin; refine wpList_append_st H10.f1 (by rfl) (.tmp 33) (.tmp 37) 22 (by rfl) Tryd.info5 Tryd.underlying22 (by rfl) A10 32 c10 T (by rfl) HTL.out.symm hA10 ht10 (by have := HYL.out; omega) ?_)
    intro v8 w8 H11
    rw [← bv_append] at H11
    obtain ⟨A8, c8, M8, rfl, h1, h2, h3, h4, h5⟩ := H11.rowBytes
    go_wp2
    go_ret2
    exact ⟨A8, c8, M8, rfl, h1, h2, h3, h4, h5.d0.d0.d0.d0.d0⟩
end
end Go.Proofs.YtfhphkhkpejomaaDoor
