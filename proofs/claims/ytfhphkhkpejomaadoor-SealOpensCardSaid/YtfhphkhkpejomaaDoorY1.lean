/- SealSizes and SealOpens walked. -/
import Derived.Test.YtfhphkhkpejomaaDoorZl
import Derived.Test.YtfhphkhkpejomaaDoorZj
import Derived.Test.YtfhphkhkpejomaaDoorEa
set_option linter.unusedVariables false
set_option linter.unusedSimpArgs false
namespace Go.Proofs.YtfhphkhkpejomaaDoor
open Go.RowKit Wd
set_option maxRecDepth 100000 in
set_option maxHeartbeats 1000000 in
theorem sealSizes_any {w : World} (ht : Tabs w) (n : Int) (hn : -9223372036854775808 ≤ n ∧ n ≤ 9223372036854775807) :
    Calls Tryd.prog 6 #[.int .i64 n] w fun e w' => e = .returned (.bool true) ∧ Below w.heap.size w w' := by
  have H := St.start w
  have HAW := Lib.hid (awake_any ht H)
  have hsz := size_any w n hn.2
  by_cases h1 : n < 0
  · rw [show sizeR n = (0, 3) from if_pos (.inl h1)] at hsz
    have HS := Lib.hid hsz
    clear hsz
    go_enter Tryd.func6, Tryd.ntmps6
    go_wp2_with fail
    refine HS.out.mono ?_
    rintro e w' ⟨rfl, rfl⟩
    go_wp2_with fail
    refine HAW.out.mono ?_
    rintro e w2 ⟨rfl, H2⟩
    go_wp2
    go_ret
    exact ⟨rfl, H2.below⟩
  · by_cases h2 : 4096 < n
    · rw [show sizeR n = (0, 3) from if_pos (.inr h2)] at hsz
      have HS := Lib.hid hsz
      clear hsz
      go_enter Tryd.func6, Tryd.ntmps6
      go_wp2_with fail
      refine HS.out.mono ?_
      rintro e w' ⟨rfl, rfl⟩
      go_wp2_with fail
      refine HAW.out.mono ?_
      rintro e w2 ⟨rfl, H2⟩
      go_wp2
      go_ret
      exact ⟨rfl, H2.below⟩
    · rw [show sizeR n = (n + 48, 0) from if_neg (by omega)] at hsz
      have HS := Lib.hid hsz
      have e1 : IntKind.i64.wrap (n + 48) = n + 48 := by rw [IntKind.wrap_i64]; omega
      clear hsz
      go_enter Tryd.func6, Tryd.ntmps6
      go_wp2_with fail
      refine HS.out.mono ?_
      rintro e w' ⟨rfl, rfl⟩
      go_wp2_with fail
      refine HAW.out.mono ?_
      rintro e w2 ⟨rfl, H2⟩
      go_wp2
      go_ret
      exact ⟨rfl, H2.below⟩
set_option maxRecDepth 100000 in
set_option maxHeartbeats 1000000 in
theorem sealOpens_any {w : World} (ht : Tabs w) {A : Option Addr} {c : Nat} {k : List UInt8} (hA : A = none → c = 0) (hk : RB w A k) (hc : k.length ≤ c) (lb : List UInt8)
    {C : Option Addr} {f : Nat} {s : List UInt8} (hC : C = none → f = 0) (hs : RB w C s) (hsf : s.length ≤ f) :
    Calls Tryd.prog 3 #[.slice A k.length c, .string ⟨lb.toArray⟩, .slice C s.length f] w fun e w' => e = .returned (.bool true) ∧ Below w.heap.size w w' := by
  have hsz : (ByteArray.mk lb.toArray).size = lb.length := by show lb.toArray.size = _; simp
  have H := St.start w
  have HAW := Lib.hid (fun (w1 : World) (M : Mem) (L : List Ent) (H1 : St w w1 M L) => awake_any ht H1)
  by_cases hbig : 500 < k.length ∨ 600 < lb.length ∨ 6000 < s.length
  · have hx : (500 : Int) < (k.length : Int) ∨ (¬ (500 : Int) < (k.length : Int) ∧ (600 : Int) < (lb.length : Int)) ∨ (¬ (500 : Int) < (k.length : Int) ∧ ¬ (600 : Int) < (lb.length : Int) ∧ (6000 : Int) < (s.length : Int)) := by omega
    clear hbig
    rcases hx with hx | ⟨hx, hx2⟩ | ⟨hx, hx2, hx3⟩
    all_goals
      go_enter Tryd.func3, Tryd.ntmps3
      go_wp2_with fail
      refine (HAW.out _ _ _ H).mono ?_
      rintro e w' ⟨rfl, H1⟩
      go_wp2
      go_ret
      exact ⟨rfl, H1.below⟩
  · have q1 : ¬ (500 : Int) < (k.length : Int) := by omega
    have q2 : ¬ (600 : Int) < (lb.length : Int) := by omega
    have q3 : ¬ (6000 : Int) < (s.length : Int) := by omega
    have k1 : k.length ≤ 500 := by omega
    have k2 : lb.length ≤ 600 := by omega
    have k3 : s.length ≤ 6000 := by omega
    clear hbig
    have sk : Sr w (w.heap[·]?) [] A k := Sr.of_in (In.oldRB H hk)
    have ss : Sr w (w.heap[·]?) [] C s := Sr.of_in (In.oldRB H hs)
    obtain ⟨R, hR⟩ : ∃ R, R = Seal.openR k lb s := ⟨_, rfl⟩
    have ho := fun (w1 : World) (L : List Ent) (H1 : St w w1 (w.heap[·]?) L) (C' : Option Addr) (f' : Nat) (h1 : C' = none → f' = 0) (h2 : s.length ≤ f') (h3 : Sr w (w.heap[·]?) L C' s) (h4 : Sr w (w.heap[·]?) L A k) => open_any ht H1 hA hc h4 (by omega) lb (by omega) h1 h2 h3 (by omega)
    have hro := fun (w1 : World) (M : Mem) (L : List Ent) (H1 : St w w1 M L) (h3 : Sr w M L C s) (h4 : Sr w M L A k) => ropen_any H1 hA hc h4 (by omega) lb (by omega) hC hsf h3 (by omega)
    rw [← hR] at ho hro
    obtain ⟨X, E⟩ := R
    have HO := Lib.hid ho
    have HRO := Lib.hid hro
    clear hR ho hro
    have H1 := H.lit0 5
    have r1 := (ss.cons (er 5 1 (.slice (some ⟨w.heap.size, 0, none⟩) 0 0) 0 [])).now H1
    go_enter Tryd.func3, Tryd.ntmps3
    go_wp2_with (at_builtin; refine wpList_append_st H1 (by rfl) (.tmp 28) (.tmp 29) 22 (by rfl) Tryd.info5 Tryd.underlying22 (by rfl) C s.length f s (by rfl) rfl hC r1 (by omega) ?_)
    intro v1 w1 H2
    try simp only [Nat.zero_add, List.nil_append] at H2
    obtain ⟨A1, c1, rfl, hc1, hA1⟩ := H2.shape' 0 rfl
    clear H1 r1
    go_wp2_with fail
    refine (HO.out _ _ H2 A1 c1 hA1 hc1 (Sr.row 0 rfl) (sk.cons _)).mono ?_
    rintro e w2 ⟨A2, c2, M2, rfl, hl2, hA2, hM2, hin2, H3⟩
    have HIN2 := Lib.hid hin2
    clear hin2 H2
    go_wp2_with fail
    refine (HRO.out _ _ _ H3.d0 (ss.le hM2) (sk.le hM2)).mono ?_
    rintro e w3 ⟨A3, c3, M3, rfl, hl3, hA3, hM3, hin3, H4⟩
    have cv := conv_RB (P := Tryd.prog) (src := 22) (dst := 9) (c := c2) Tryd.underlying22 Tryd.underlying5 Tryd.underlying9 ((HIN2.out.le hM3).now H4) rfl
    have cv2 := conv_RB (P := Tryd.prog) (src := 22) (dst := 9) (c := c3) Tryd.underlying22 Tryd.underlying5 Tryd.underlying9 (hin3.now H4) rfl
    clear H3 hin3
    go_wp2_with fail
    refine (HAW.out _ _ _ H4).mono ?_
    rintro e w4 ⟨rfl, H5⟩
    go_wp2
    go_ret
    exact ⟨rfl, H5.below⟩
end Go.Proofs.YtfhphkhkpejomaaDoor
