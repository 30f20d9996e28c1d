/- The reference's Decode (layer 19). -/
import Derived.Test.YtbmiifglpjeegaaDoorJo
set_option linter.unusedVariables false
set_option linter.unusedSimpArgs false
namespace Go.Proofs.YtbmiifglpjeegaaDoor
open Go.RowKit Wd
namespace Tu
/-- A text read loosely, up to its end or the whole's; what follows. -/
def loose : List UInt8 → List UInt8 × List UInt8
  | [] => ([], [])
  | [_] => ([], [])
  | c :: d :: r => if c = 0 then (if d = 1 then ([], r) else (0 :: (loose r).1, (loose r).2)) else (c :: (loose (d :: r)).1, (loose (d :: r)).2)
theorem loose_esc (t r : List UInt8) : loose (esc t ++ 0 :: 1 :: r) = (t, r) := by
  induction t with
  | nil => simp [esc, loose]
  | cons c t ih =>
    rw [esc_cons]
    by_cases hc : c = 0
    · subst hc
      simp only [if_true, List.cons_append, List.nil_append]
      rw [loose, if_pos rfl, if_neg (by decide), ih]
    · rw [if_neg hc]
      simp only [List.cons_append, List.nil_append]
      cases he : esc t ++ 0 :: 1 :: r with
      | nil => simp at he
      | cons x y => rw [loose, if_neg hc, ← he, ih]
theorem loose_short {l : List UInt8} (h : l.length ≤ 1) : loose l = ([], []) := by
  cases l with
  | nil => rfl
  | cons c l => cases l with
    | nil => rfl
    | cons d r => simp at h
/-- What has been read: so many parts, up to a place; if it is a key, those are its first. -/
def Read (s : List UInt8) (l : List Part) (at_ : Nat) : Prop := (∀ p ∈ l, ok p ∧ p.text.length ≤ 2000) ∧ ∀ m, Key s m → ∃ k, l = m.take k ∧ s.drop at_ = enc (m.drop k)
theorem Read.start (s : List UInt8) : Read s [] 0 := ⟨by simp, fun m hm => ⟨0, rfl, hm.2.2.symm⟩⟩
theorem Read.next {s : List UInt8} {l : List Part} {at_ : Nat} (h : Read s l at_) {m : List Part} (hm : Key s m) (hne : s.drop at_ ≠ []) : ∃ k q, l = m.take k ∧ m.take (k + 1) = l ++ [q] ∧ ok q ∧ s.drop at_ = one q ++ enc (m.drop (k + 1)) := by
  obtain ⟨k, h1, h2⟩ := h.2 m hm
  rcases Nat.lt_or_ge k m.length with hk | hk
  · refine ⟨k, m[k], h1, by rw [List.take_succ_eq_append_getElem hk, h1], hm.1 _ (List.getElem_mem hk), ?_⟩
    rw [h2, List.drop_eq_getElem_cons hk, enc_cons]
  · rw [List.drop_eq_nil_of_le hk] at h2
    exact absurd h2 hne
theorem Read.text {s : List UInt8} {l : List Part} {at_ at' : Nat} {r : List UInt8} {t : List UInt8} (h : Read s l at_) (hs : s.length ≤ 1100) (hd : s.drop at_ = 32 :: r) (ht : t.length ≤ 2000) (hl : loose r = (t, s.drop at')) : Read s (l ++ [⟨t, 0, true⟩]) at' := by
  refine ⟨fun p hp => ?_, fun m hm => ?_⟩
  · rcases List.mem_append.1 hp with hp | hp
    · exact h.1 p hp
    · simp only [List.mem_singleton] at hp; subst hp; exact ⟨⟨by simp [may], by simp⟩, ht⟩
  · obtain ⟨k, q, h1, h2, h3, h4⟩ := h.next hm (by rw [hd]; simp)
    refine ⟨k + 1, ?_, ?_⟩
    · rw [h2]
      congr 2
      rw [hd] at h4
      unfold one at h4
      cases hq : q.isText with
      | true =>
        rw [hq, if_pos rfl] at h4
        simp only [List.cons_append, List.cons.injEq, true_and, List.append_assoc, List.nil_append] at h4
        rw [h4, loose_esc] at hl
        injection hl with h5 h6
        exact Part.ext' h5.symm (ok_text h3 hq).symm hq.symm
      | false =>
        rw [hq] at h4
        simp only [Bool.false_eq_true, if_false, List.cons_append, List.cons.injEq] at h4
        have h8 := digs_len8 h3.2
        have h9 := congrArg UInt8.toNat h4.1
        simp at h9
        omega
    · rw [hd] at h4
      unfold one at h4
      cases hq : q.isText with
      | true =>
        rw [hq, if_pos rfl] at h4
        simp only [List.cons_append, List.cons.injEq, true_and, List.append_assoc, List.nil_append] at h4
        rw [h4, loose_esc] at hl
        injection hl with h5 h6
        exact h6.symm
      | false =>
        rw [hq] at h4
        simp only [Bool.false_eq_true, if_false, List.cons_append, List.cons.injEq] at h4
        have h8 := digs_len8 h3.2
        have h9 := congrArg UInt8.toNat h4.1
        simp at h9
        omega
theorem Read.num_shape {s : List UInt8} {l : List Part} {at_ : Nat} {c : UInt8} {r : List UInt8} (h : Read s l at_) (hd : s.drop at_ = c :: r) (hc : c ≠ 32) {m : List Part} (hm : Key s m) : ∃ k q, m.take (k + 1) = l ++ [q] ∧ q = ⟨[], q.num, false⟩ ∧ c.toNat = 16 + (digs q.num).length ∧ (digs q.num).length ≤ 8 ∧ r = digs q.num ++ enc (m.drop (k + 1)) := by
  obtain ⟨k, q, h1, h2, h3, h4⟩ := h.next hm (by rw [hd]; simp)
  rw [hd] at h4
  unfold one at h4
  cases hq : q.isText with
  | true =>
    rw [hq, if_pos rfl] at h4
    simp only [List.cons_append, List.cons.injEq] at h4
    exact absurd h4.1 hc
  | false =>
    rw [hq] at h4
    simp only [Bool.false_eq_true, if_false, List.cons_append, List.cons.injEq] at h4
    have h8 := digs_len8 h3.2
    have h9 := congrArg UInt8.toNat h4.1
    simp at h9
    exact ⟨k, q, h2, Part.ext' (ok_num h3 hq) rfl hq, by omega, h8, h4.2⟩
theorem Read.num {s : List UInt8} {l : List Part} {at_ : Nat} {c : UInt8} {r : List UInt8} (h : Read s l at_) (hd : s.drop at_ = c :: r) (hc : c ≠ 32) {n : Nat} (hn : c.toNat = 16 + n) (h8 : n ≤ 8) (hr : n ≤ r.length) : Read s (l ++ [⟨[], val (r.take n), false⟩]) (at_ + 1 + n) := by
  refine ⟨fun p hp => ?_, fun m hm => ?_⟩
  · rcases List.mem_append.1 hp with hp | hp
    · exact h.1 p hp
    · simp only [List.mem_singleton] at hp; subst hp
      exact ⟨⟨by simp [may], val_lt8 (by rw [List.length_take]; omega)⟩, by simp⟩
  · obtain ⟨k, q, h1, h2, h3, h4, h5⟩ := h.num_shape hd hc hm
    have e : (digs q.num).length = n := by omega
    have hrt : r.take n = digs q.num := by rw [h5, ← e]; simp
    refine ⟨k + 1, ?_, ?_⟩
    · rw [h1, hrt, val_digs, ← h2]
    · have hdd : s.drop (at_ + 1 + n) = r.drop n := by
        rw [← List.drop_drop, ← List.drop_drop, hd]
        rfl
      rw [hdd, h5, ← e]
      simp
theorem Read.no_num {s : List UInt8} {l : List Part} {at_ : Nat} {c : UInt8} {r : List UInt8} (h : Read s l at_) (hd : s.drop at_ = c :: r) (hc : c ≠ 32) (hb : c.toNat < 16 ∨ 24 < c.toNat ∨ r.length < c.toNat - 16) : ∀ m, ¬ Key s m := by
  intro m hm
  obtain ⟨k, q, h1, h2, h3, h4, h5⟩ := h.num_shape hd hc hm
  have := congrArg List.length h5
  rw [List.length_append] at this
  omega
theorem Read.done {s : List UInt8} {l : List Part} {at_ : Nat} (h : Read s l at_) (hd : s.length ≤ at_) : (∃ m, Key s m) → Key s l := by
  rintro ⟨m, hm⟩
  obtain ⟨k, h1, h2⟩ := h.2 m hm
  rw [List.drop_eq_nil_of_le hd] at h2
  rcases Nat.lt_or_ge k m.length with hk | hk
  · rw [List.drop_eq_getElem_cons hk, enc_cons] at h2
    have := congrArg List.length h2
    rw [List.length_append] at this
    have h3 : 0 < (one m[k]).length := List.length_pos_iff.2 (one_ne _)
    simp at this
    omega
  · rw [List.take_of_length_le hk] at h1
    rw [h1]
    exact hm
end Tu
end Go.Proofs.YtbmiifglpjeegaaDoor
