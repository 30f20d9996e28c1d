/- LogReads walked. -/
import Derived.Test.YtnaocjhhnlndmaaGs
import Derived.Test.YtnaocjhhnlndmaaGt
import Derived.Test.YtnaocjhhnlndmaaGl
set_option linter.unusedVariables false
set_option linter.unusedSimpArgs false
namespace Go.Proofs.Ytnaocjhhnlndmaa
open Go.RowKit Wd
theorem Lg.scan_many (g : Nat) (h : List UInt8) : ∀ f e, e ≤ h.length → (Lg.scan g h f e).1.length + e ≤ h.length ∧ (Lg.scan g h f e).2 ≤ h.length ∧ ∀ l ∈ (Lg.scan g h f e).1, l.length ≤ h.length := by
  intro f
  induction f with
  | zero => intro e he; exact ⟨by simpa [Lg.scan] using he, by simpa [Lg.scan] using he, fun l hl => by simp [Lg.scan] at hl⟩
  | succ f ih =>
    intro e he
    simp only [Lg.scan]
    cases ht : Lg.there g h e with
    | none => exact ⟨by simpa using he, he, fun l hl => by simp at hl⟩
    | some n =>
      obtain ⟨_, _, h3, h4, _⟩ := Lg.there_some ht
      obtain ⟨i1, i2, i3⟩ := ih (e + 6 + n) h4
      refine ⟨by simp only [List.length_cons]; omega, i2, fun l hl => ?_⟩
      rcases List.mem_cons.1 hl with rfl | hl
      · rw [List.length_take, List.length_drop]; omega
      · exact i3 l hl
section
set_option maxRecDepth 100000 in
theorem logReads_long {w : World} {A : Option Addr} {c n : Nat} (h1 : 4096 < n) (h2 : n ≤ 262144) :
    Calls Try.prog 4 #[.slice A n c] w fun e w' => e = .returned (.bool true) ∧ Below w.heap.size w w' := by
  have H := St.start w
  have q1 : (4096 : Int) < (n : Int) := by omega
  have q2 : (n : Int) ≤ 262144 := by omega
  clear h1 h2
  go_enter Try.func4, Try.ntmps4
  go_wp2_with fail
  refine (awake18_any H).mono ?_
  rintro e w1 ⟨rfl, hbe⟩
  go_wp2
  go_ret
  exact ⟨rfl, hbe⟩
set_option maxRecDepth 100000 in
theorem logReads_bad {w : World} {A : Option Addr} {c n : Nat} {b : List UInt8} (hb : RB w A b) (hn : n = b.length) (hA : A = none → c = 0) (hc : n ≤ c) (hc2 : c ≤ 140737488351232) (h : n % 64 ≠ 0 ∨ n < 384 ∨ 262144 < n) (h4 : ¬ (4096 < n ∧ n ≤ 262144)) :
    Calls Try.prog 4 #[.slice A n c] w fun e w' => e = .returned (.bool true) ∧ Below w.heap.size w w' := by
  have H := St.start w
  have s0 : Sr w _ [] A b := Sr.of_in (In.oldRB H hb)
  have H1 := H.lit0 5
  have r1 := s0.now (H.alloc (.cells #[] 5))
  obtain ⟨m, hm⟩ : ∃ m, m = n % 64 := ⟨_, rfl⟩
  have e1 : (n : Int) % 64 = (m : Int) := by omega
  have e1' : (n : Int).tmod 64 = (m : Int) := by rw [Int.tmod_eq_emod_of_nonneg (by omega)]; exact e1
  have hcase : (¬ (4096 : Int) < (n : Int) ∧ ¬ 4096 < n) ∨ ((4096 : Int) < (n : Int) ∧ ¬ (n : Int) ≤ 262144 ∧ ¬ n ≤ 262144) := by omega
  have hcase2 : (¬ (m : Int) = 0 ∧ ¬ m = 0) ∨ (m = 0 ∧ (n : Int) < 384) ∨ (m = 0 ∧ ¬ (n : Int) < 384 ∧ (262144 : Int) < (n : Int)) := by omega
  have hbn : n ≤ 140737488351232 := by omega
  have hrd := fun w' M' L' (H : St w w' M' L') A' c' (hl : Sr w M' L' A' b) (hc : n ≤ c') => read_bad H hn hl h hc hbn
  have HRD := Lib.hid hrd
  have HN := Lib.hid hn
  have E1 := Lib.hid e1
  have E1' := Lib.hid e1'
  clear hrd hn hm h h4 e1 e1'
  rcases hcase with ⟨q1, q1'⟩ | ⟨q1, q2, q2'⟩
  all_goals
    go_enter Try.func4, Try.ntmps4
    go_wp2_with (at_builtin; refine wpList_append_st H1 (by rfl) (.tmp 22) (.tmp 23) 22 (by rfl) Try.info5 Try.underlying22 (by rfl) A n c b (by rfl) HN.out hA r1 (by omega) ?_)
    intro v2 w2 H2
    obtain ⟨A2, c2, rfl, hc2', hA2⟩ := H2.shape' 0 rfl
    go_wp2_with fail
    refine (HRD.out _ _ _ H2 _ _ (Sr.row 0 rfl) (by omega)).mono ?_
    rintro e w3 ⟨rfl, H3⟩
    have e1 := E1.out
    have e1' := E1'.out
    rcases hcase2 with ⟨z1, z2⟩ | ⟨rfl, z1⟩ | ⟨rfl, z1, z2⟩
    all_goals
      go_wp2_with fail
      refine (awake18_any H3).mono ?_
      rintro e w4 ⟨rfl, hbe⟩
      go_wp2
      go_ret
      exact ⟨rfl, hbe⟩
end
end Go.Proofs.Ytnaocjhhnlndmaa
