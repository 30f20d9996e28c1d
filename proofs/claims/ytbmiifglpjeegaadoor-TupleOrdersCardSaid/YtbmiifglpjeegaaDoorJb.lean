/- Keys made of parts, in plain Lean: which bytes are a part, which are a key. No program is in sight. -/
import Derived.Test.YtbmiifglpjeegaaDoorJa
set_option linter.unusedVariables false
set_option linter.unusedSimpArgs false
namespace Go.Proofs.YtbmiifglpjeegaaDoor
namespace Tu
/-- A text as it is written, up to its end; what follows. -/
def unesc : List UInt8 → Option (List UInt8 × List UInt8)
  | [] => none
  | [_] => none
  | c :: d :: r => if c = 0 then (if d = 1 then some ([], r) else if d = 255 then (unesc r).map (fun x => (0 :: x.1, x.2)) else none) else (unesc (d :: r)).map (fun x => (c :: x.1, x.2))
theorem esc_cons (c : UInt8) (l : List UInt8) : esc (c :: l) = (if c = 0 then [0, 255] else [c]) ++ esc l := by simp [esc]
theorem unesc_esc (t r : List UInt8) : unesc (esc t ++ 0 :: 1 :: r) = some (t, r) := by
  induction t with
  | nil => simp [esc, unesc]
  | cons c t ih =>
    rw [esc_cons]
    by_cases hc : c = 0
    · subst hc
      simp only [if_true, List.cons_append, List.nil_append]
      rw [unesc]
      simp [ih]
    · rw [if_neg hc]
      simp only [List.cons_append, List.nil_append]
      cases he : esc t ++ 0 :: 1 :: r with
      | nil => simp at he
      | cons x y =>
        rw [unesc, if_neg hc, ← he, ih]
        rfl
theorem unesc_some (s t r : List UInt8) (h : unesc s = some (t, r)) : s = esc t ++ 0 :: 1 :: r := by
  suffices H : ∀ (n : Nat) (s t r : List UInt8), s.length ≤ n → unesc s = some (t, r) → s = esc t ++ 0 :: 1 :: r from H s.length s t r (Nat.le_refl _) h
  intro n
  induction n with
  | zero => intro s t r hn h; cases s with
    | nil => simp [unesc] at h
    | cons c s => simp at hn
  | succ n ih =>
    intro s t r hn h
    cases s with
    | nil => simp [unesc] at h
    | cons c s =>
      cases s with
      | nil => simp [unesc] at h
      | cons d s =>
        simp only [List.length_cons] at hn
        rw [unesc] at h
        by_cases hc : c = 0
        · subst hc
          rw [if_pos rfl] at h
          by_cases hd : d = 1
          · subst hd
            rw [if_pos rfl] at h
            injection h with h
            injection h with h1 h2
            subst h1 h2
            simp [esc]
          · rw [if_neg hd] at h
            by_cases hd2 : d = 255
            · subst hd2
              rw [if_pos rfl] at h
              cases hu : unesc s with
              | none => rw [hu] at h; cases h
              | some x =>
                rw [hu] at h
                injection h with h
                injection h with h1 h2
                have := ih s x.1 x.2 (by omega) hu
                rw [← h1, ← h2, esc_cons, if_pos rfl, this]
                simp
            · rw [if_neg hd2] at h; cases h
        · rw [if_neg hc] at h
          cases hu : unesc (d :: s) with
          | none => rw [hu] at h; cases h
          | some x =>
            rw [hu] at h
            injection h with h
            injection h with h1 h2
            have := ih (d :: s) x.1 x.2 (by simp only [List.length_cons]; omega) hu
            rw [← h1, ← h2, esc_cons, if_neg hc, this]
            simp
theorem unesc_pass (u s : List UInt8) (hu : ∀ c ∈ u, c ≠ 0) (hs : s ≠ []) : unesc (u ++ s) = (unesc s).map (fun x => (u ++ x.1, x.2)) := by
  induction u with
  | nil => rw [List.nil_append]; cases unesc s <;> rfl
  | cons c u ih =>
    have hc := hu c (by simp)
    cases he : u ++ s with
    | nil => simp at he; exact absurd he.2 hs
    | cons x y =>
      rw [List.cons_append, he, unesc, if_neg hc, ← he, ih fun c h => hu c (by simp [h])]
      cases unesc s <;> rfl
theorem unesc_none (s : List UInt8) (h : ∀ c ∈ s, c ≠ 0) : unesc s = none := by
  cases hu : unesc s with
  | none => rfl
  | some x =>
    have := unesc_some s x.1 x.2 hu
    exact absurd rfl (h 0 (by rw [this]; simp))
/-- The part at the head; what follows. -/
def take : List UInt8 → Option (Part × List UInt8)
  | [] => none
  | c :: s => if c = 32 then (unesc s).map (fun x => (⟨x.1, 0, true⟩, x.2))
    else if 16 ≤ c.toNat ∧ c.toNat ≤ 24 ∧ c.toNat - 16 ≤ s.length ∧ ¬ s.take (min (c.toNat - 16) 1) = [0] then some (⟨[], val (s.take (c.toNat - 16)), false⟩, s.drop (c.toNat - 16)) else none
theorem take_one {p : Part} (hp : ok p) (r : List UInt8) : take (one p ++ r) = some (p, r) := by
  unfold one
  cases ht : p.isText with
  | true =>
    rw [if_pos rfl]
    simp only [List.cons_append, List.append_assoc, List.nil_append]
    rw [take, if_pos rfl, unesc_esc]
    have := ok_text hp ht
    simp only [Option.map_some, Option.some.injEq, Prod.mk.injEq, and_true]
    exact Part.ext' rfl this.symm ht.symm
  | false =>
    rw [if_neg (by simp)]
    have h8 := digs_len8 hp.2
    obtain ⟨d, hd⟩ : ∃ d, d = digs p.num := ⟨_, rfl⟩
    have hv : val d = p.num := by rw [hd, val_digs]
    have hh := digs_head p.num
    rw [← hd] at h8 hh ⊢
    have hc : (UInt8.ofNat (16 + d.length)).toNat = 16 + d.length := by simp; omega
    have h32 : UInt8.ofNat (16 + d.length) ≠ 32 := by
      intro he
      rw [he] at hc
      have : (32 : UInt8).toNat = 32 := rfl
      omega
    have e1 : (d ++ r).take d.length = d := by simp
    have e2 : (d ++ r).drop d.length = r := by simp
    rw [List.cons_append, take, if_neg h32, hc, Nat.add_sub_cancel_left, if_pos, e1, e2, hv]
    · simp only [Option.some.injEq, Prod.mk.injEq, and_true]
      exact Part.ext' (ok_num hp ht).symm rfl ht.symm
    · refine ⟨by omega, by omega, by simp, ?_⟩
      cases d with
      | nil => simp
      | cons x y =>
        have := hh x y rfl
        simp
        exact this
theorem take_some {s r : List UInt8} {p : Part} (h : take s = some (p, r)) : ok p ∧ s = one p ++ r := by
  cases s with
  | nil => simp [take] at h
  | cons c s =>
    rw [take] at h
    by_cases hc : c = 32
    · subst hc
      rw [if_pos rfl] at h
      cases hu : unesc s with
      | none => rw [hu] at h; cases h
      | some x =>
        rw [hu] at h
        injection h with h
        injection h with h1 h2
        subst h1 h2
        refine ⟨⟨by simp [may], by simp⟩, ?_⟩
        rw [unesc_some s x.1 x.2 hu]
        simp [one]
    · rw [if_neg hc] at h
      split at h
      · rename_i h1
        injection h with h
        injection h with h2 h3
        subst h2 h3
        obtain ⟨a, b, d, e⟩ := h1
        have hl : (s.take (c.toNat - 16)).length = c.toNat - 16 := by rw [List.length_take]; omega
        have hd : digs (val (s.take (c.toNat - 16))) = s.take (c.toNat - 16) := by
          refine digs_val _ fun x y he hx => e ?_
          subst hx
          have h1 : 1 ≤ c.toNat - 16 := by
            have := congrArg List.length he
            rw [hl] at this
            simp at this
            omega
          rw [Nat.min_eq_right h1]
          have h2 : s.take 1 = (s.take (c.toNat - 16)).take 1 := by rw [List.take_take, Nat.min_eq_left h1]
          rw [h2, he]
          rfl
        refine ⟨⟨by simp [may], val_lt8 (by rw [hl]; omega)⟩, ?_⟩
        unfold one
        simp only [Bool.false_eq_true, if_false]
        rw [hd, hl, List.cons_append, List.take_append_drop]
        congr 1
        apply UInt8.toNat_inj.1
        simp
        omega
      · cases h
theorem take_none {s : List UInt8} (h : take s = none) : ∀ p r, ok p → s ≠ one p ++ r := by
  rintro p r hp rfl
  rw [take_one hp] at h
  cases h
/-- Parts, of which these bytes are the key. -/
def Key (s : List UInt8) (l : List Part) : Prop := (∀ p ∈ l, ok p) ∧ l.length ≤ 8 ∧ enc l = s
theorem Key.one {s : List UInt8} {l m : List Part} (h : Key s l) (k : Key s m) : l = m := enc_inj h.1 k.1 (h.2.2.trans k.2.2.symm)
/-- Parts have been read; there is no further one: no key. -/
theorem no_key {l : List Part} (hl : ∀ p ∈ l, ok p) {s : List UInt8} (hs : s ≠ []) (hn : take s = none ∨ 8 ≤ l.length) : ∀ m, ¬ Key (enc l ++ s) m := by
  rintro m ⟨h1, h2, h3⟩
  rcases tri h1 hl with ⟨rfl, _⟩ | ⟨_, c, r, rfl⟩ | ⟨_, c, r, rfl⟩ | ⟨_, h4, _⟩ | ⟨_, h4, _⟩
  · have := congrArg List.length h3
    simp at this
    exact hs this
  · obtain ⟨x, y, hx⟩ := enc_ext m c r
    rw [hx] at h3
    have := congrArg List.length h3
    simp at this
  · rw [enc_append, enc_cons] at h3
    have h4 := List.append_cancel_left h3
    rcases hn with hn | hn
    · exact take_none hn c (enc r) (h1 c (by simp)) h4.symm
    · simp at h2; omega
  · exact h4.ne [] s (by simpa using h3)
  · exact h4.ne s [] (by simpa using h3.symm)
end Tu
end Go.Proofs.YtbmiifglpjeegaaDoor
