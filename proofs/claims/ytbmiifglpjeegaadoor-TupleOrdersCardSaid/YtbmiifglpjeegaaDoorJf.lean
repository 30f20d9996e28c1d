/- How the library's words on texts and bits meet those of keys. No program is in sight. -/
import Derived.Test.YtbmiifglpjeegaaDoorJb
import Derived.Lib.Replace
import Derived.Lib.ItoaNum
set_option linter.unusedVariables false
set_option linter.unusedSimpArgs false
namespace Go.Proofs.YtbmiifglpjeegaaDoor
namespace Tu
theorem idx0 (s : List UInt8) : (Lib.index s [0] = -1 ∧ ∀ c ∈ s, c ≠ 0) ∨ ∃ i : Nat, Lib.index s [0] = i ∧ i < s.length ∧ (∀ c ∈ s.take i, c ≠ 0) ∧ s = s.take i ++ 0 :: s.drop (i + 1) := by
  induction s with
  | nil => exact .inl ⟨rfl, fun c h => by simp at h⟩
  | cons b l ih =>
    by_cases hb : b = 0
    · subst hb
      exact .inr ⟨0, by simp [Lib.index], by simp, fun c h => by simp at h, by simp⟩
    · have h0 : List.isPrefixOf [0] (b :: l) = false := by
        simp only [List.isPrefixOf, Bool.and_true, beq_eq_false_iff_ne]
        exact fun h => hb h.symm
      rcases ih with ⟨h1, h2⟩ | ⟨i, h1, h2, h3, h4⟩
      · refine .inl ⟨by unfold Lib.index; rw [h0, h1]; rfl, fun c hc => ?_⟩
        rcases List.mem_cons.1 hc with rfl | hc
        · exact hb
        · exact h2 c hc
      · refine .inr ⟨i + 1, ?_, by simpa using h2, fun c hc => ?_, ?_⟩
        · unfold Lib.index
          rw [h0, h1]
          have : ((i : Int) == -1) = false := by rw [beq_eq_false_iff_ne]; omega
          simp [this]
        · rw [List.take_succ_cons] at hc
          rcases List.mem_cons.1 hc with rfl | hc
          · exact hb
          · exact h3 c hc
        · rw [List.take_succ_cons, List.drop_succ_cons, List.cons_append, ← h4]
theorem esc_pass (u : List UInt8) (h : ∀ c ∈ u, c ≠ 0) : esc u = u := by
  induction u with
  | nil => rfl
  | cons c u ih => rw [esc_cons, if_neg (h c (by simp)), ih fun c hc => h c (by simp [hc])]; rfl
theorem esc_append (u v : List UInt8) : esc (u ++ v) = esc u ++ esc v := by simp [esc]
theorem esc_len (u : List UInt8) : (esc u).length ≤ 2 * u.length := by
  induction u with
  | nil => simp [esc]
  | cons c u ih => rw [esc_cons]; split <;> simp <;> omega
theorem repl_from (n : Nat) : ∀ (s : List UInt8) (fuel : Nat), s.length ≤ n → s.length + 1 ≤ fuel → Lib.replaceK [0] [0, 255] (Lib.countFrom [0] fuel s) s = esc s ∧ Lib.countFrom [0] fuel s ≤ s.length := by
  induction n with
  | zero =>
    intro s fuel hn hf
    obtain rfl : s = [] := List.eq_nil_of_length_eq_zero (by omega)
    cases fuel with
    | zero => simp at hf
    | succ fuel => exact ⟨rfl, by simp [Lib.countFrom, Lib.index]⟩
  | succ n ih =>
    intro s fuel hn hf
    cases fuel with
    | zero => omega
    | succ fuel =>
      rcases idx0 s with ⟨h1, h2⟩ | ⟨i, h1, h2, h3, h4⟩
      · rw [Lib.countFrom, h1]
        simp [Lib.replaceK, esc_pass s h2]
      · have hd : (s.drop (i + 1)).length = s.length - (i + 1) := List.length_drop
        obtain ⟨i1, i2⟩ := ih (s.drop (i + 1)) fuel (by omega) (by omega)
        have hc : Lib.countFrom [0] (fuel + 1) s = Lib.countFrom [0] fuel (s.drop (i + 1)) + 1 := by
          rw [Lib.countFrom, h1]
          have : ((i : Int) == -1) = false := by rw [beq_eq_false_iff_ne]; omega
          simp [this]
          omega
        refine ⟨?_, by omega⟩
        rw [hc, Lib.replaceK_hit [0] [0, 255] _ s i h1]
        simp only [List.length_singleton]
        rw [i1]
        conv => rhs; rw [h4, esc_append, esc_pass _ h3, esc_cons, if_pos rfl]
        simp
theorem repl_all (s : List UInt8) : Lib.replaceAll s [0] [0, 255] = esc s := by
  unfold Lib.replaceAll Lib.replace
  have h1 : ([0] == ([0, 255] : List UInt8)) = false := by decide
  rw [h1]
  simp only [Bool.false_eq_true, if_false]
  unfold Lib.replaceNum Lib.count
  rw [if_pos (.inl (by decide))]
  exact (repl_from s.length s (s.length + 1) (Nat.le_refl _) (Nat.le_refl _)).1
theorem count_all (s : List UInt8) : Lib.count s [0] ≤ s.length := (repl_from s.length s (s.length + 1) (Nat.le_refl _) (Nat.le_refl _)).2
/-- How many bytes a number takes, by its bits. -/
theorem digs_bits (n : Nat) (h : n < 18446744073709551616) : (Lib.bitLen n + 7) / 8 = (digs n).length := by
  by_cases h0 : n = 0
  · subst h0; rw [digs_zero]; rfl
  · obtain ⟨b1, b2, b3⟩ := Lib.bitLenAux_bounds 64 n (by simpa using h) h0
    rw [show Lib.bitLenAux 64 n = Lib.bitLen n from rfl] at b1 b2 b3
    obtain ⟨B, hB⟩ : ∃ B, B = Lib.bitLen n := ⟨_, rfl⟩
    rw [← hB] at b1 b2 b3 ⊢
    obtain ⟨w, hw⟩ : ∃ w, w = (B + 7) / 8 := ⟨_, rfl⟩
    rw [← hw]
    have e : ∀ k, 256 ^ k = 2 ^ (8 * k) := fun k => by rw [Nat.pow_mul]
    have h1 : (digs n).length ≤ w := (digs_len n w).2 (by rw [e]; exact Nat.lt_of_lt_of_le b3 (Nat.pow_le_pow_right (by decide) (by omega)))
    have h2 : ¬ (digs n).length ≤ w - 1 := fun hc => by
      have := (digs_len n (w - 1)).1 hc
      rw [e] at this
      have h3 : 2 ^ (8 * (w - 1)) ≤ 2 ^ (B - 1) := Nat.pow_le_pow_right (by decide) (by omega)
      omega
    omega
end Tu
end Go.Proofs.YtbmiifglpjeegaaDoor
