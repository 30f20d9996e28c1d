/- The least text above all that begin with a prefix, in plain Lean. No program is in sight. -/
import Derived.Test.YtbmiifglpjeegaaDoorJb
set_option linter.unusedVariables false
set_option linter.unusedSimpArgs false
namespace Go.Proofs.YtbmiifglpjeegaaDoor
namespace Tu
theorem bytesLess_tlt (x y : List UInt8) : Op.bytesLess x y = tlt x y := by
  induction x generalizing y with
  | nil => cases y <;> rfl
  | cons a x ih =>
    cases y with
    | nil => rfl
    | cons b y =>
      simp only [Op.bytesLess, tlt, ih]
      rcases Nat.lt_trichotomy a.toNat b.toNat with h | h | h
      · have h1 : a < b := UInt8.lt_iff_toNat_lt.2 h
        simp [h1, h]
      · have hab : a = b := UInt8.toNat_inj.1 h
        subst hab
        have h1 : ¬ a < a := fun h2 => by have := UInt8.lt_iff_toNat_lt.1 h2; omega
        simp [h1]
      · have h1 : ¬ a < b := fun h2 => by have := UInt8.lt_iff_toNat_lt.1 h2; omega
        have h2 : (a == b) = false := by
          simp only [beq_eq_false_iff_ne]
          rintro rfl
          omega
        have h3 : ¬ a.toNat < b.toNat := by omega
        simp [h1, h2, h3, h]
/-- Two texts: one begins with the other, or they part. -/
theorem parts (x y : List UInt8) : (∃ r, y = x ++ r) ∨ (∃ c r, x = y ++ c :: r) ∨ Bef x y ∨ Bef y x := by
  induction x generalizing y with
  | nil => exact .inl ⟨y, rfl⟩
  | cons a x ih =>
    cases y with
    | nil => exact .inr (.inl ⟨a, x, rfl⟩)
    | cons b y =>
      rcases Nat.lt_trichotomy a.toNat b.toNat with h | h | h
      · exact .inr (.inr (.inl (Bef.here h)))
      · have hab : a = b := UInt8.toNat_inj.1 h
        subst hab
        rcases ih y with ⟨r, h1⟩ | ⟨c, r, h1⟩ | h1 | h1
        · exact .inl ⟨r, by rw [h1]; rfl⟩
        · exact .inr (.inl ⟨c, r, by rw [h1]; rfl⟩)
        · exact .inr (.inr (.inl (h1.cons a)))
        · exact .inr (.inr (.inr (h1.cons a)))
      · exact .inr (.inr (.inr (Bef.here h)))
/-- All are 255, or there is a last one that is not. -/
theorem trim (p : List UInt8) : (p = List.replicate p.length 255) ∨ ∃ u x k, p = u ++ x :: List.replicate k 255 ∧ x ≠ 255 := by
  refine snocInd (P := fun p => (p = List.replicate p.length 255) ∨ ∃ u x k, p = u ++ x :: List.replicate k 255 ∧ x ≠ 255) (.inl rfl) ?_ p
  intro p c ih
  by_cases hc : c = 255
  · subst hc
    rcases ih with h | ⟨u, x, k, h, hx⟩
    · left
      rw [List.length_append, List.length_singleton, List.replicate_succ', ← h]
    · right
      refine ⟨u, x, k + 1, ?_, hx⟩
      rw [List.replicate_succ', h]
      simp
  · exact .inr ⟨p, c, 0, by simp, hc⟩
section
variable {p u : List UInt8} {x : UInt8} {k : Nat}
theorem after_succ (hx : x ≠ 255) : (x + 1).toNat = x.toNat + 1 := by
  have h := x.toNat_lt
  have h2 : x.toNat ≠ 255 := fun h => hx (UInt8.toNat_inj.1 (by simpa using h))
  rw [UInt8.toNat_add]
  show (x.toNat + 1) % 256 = _
  omega
theorem after_bef (hp : p = u ++ x :: List.replicate k 255) (hx : x ≠ 255) (s : List UInt8) : Bef (p ++ s) (u ++ [x + 1]) := by
  rw [hp, List.append_assoc, List.cons_append]
  exact (Bef.here (by rw [after_succ hx]; omega)).pre u
theorem after_begins (hp : p = u ++ x :: List.replicate k 255) (hx : x ≠ 255) (s : List UInt8) : decide (p <+: s) = (!tlt s p && tlt s (u ++ [x + 1])) := by
  rcases parts p s with ⟨r, rfl⟩ | ⟨c, r, h⟩ | h | h
  · have h1 := (after_bef hp hx r).tlt
    have h2 : tlt (p ++ r) p = false := by
      cases r with
      | nil => rw [List.append_nil, tlt_irrefl]
      | cons c r => exact tlt_asymm (tlt_ext p c r)
    rw [h1, h2]
    simp
  · have h1 : tlt s p = true := by rw [h]; exact tlt_ext s c r
    have h2 : ¬ p <+: s := fun h3 => by
      have := h3.length_le
      rw [h] at this
      simp at this
      omega
    rw [h1]
    simp [h2]
  · have h2 : ¬ p <+: s := fun ⟨t, ht⟩ => h.ne t [] (by rw [ht, List.append_nil])
    have h3 : tlt s (u ++ [x + 1]) = false := by
      obtain ⟨q, a, b, p', s', h4, h5, hab⟩ := h
      have hlen : q.length ≤ u.length := by
        rcases Nat.lt_or_ge u.length q.length with hl | hl
        · exfalso
          have e : p[q.length]? = some a := by rw [h4]; simp
          rw [hp, List.getElem?_append_right (by omega)] at e
          obtain ⟨j, hj⟩ : ∃ j, q.length - u.length = j + 1 := ⟨q.length - u.length - 1, by omega⟩
          rw [hj, List.getElem?_cons_succ, List.getElem?_replicate] at e
          split at e
          · injection e with e
            have := b.toNat_lt
            rw [← e] at hab
            have : (255 : UInt8).toNat = 255 := rfl
            omega
          · cases e
        · exact hl
      have hq : q = u.take q.length := by
        have e : p.take q.length = q := by rw [h4]; simp
        rw [hp, List.take_append_of_le_length hlen] at e
        exact e.symm
      rcases Nat.lt_or_ge q.length u.length with hl | hl
      · have ha : u.drop q.length = a :: u.drop (q.length + 1) := by
          have e : p[q.length]? = some a := by rw [h4]; simp
          rw [hp, List.getElem?_append_left hl, List.getElem?_eq_getElem hl] at e
          injection e with e
          rw [List.drop_eq_getElem_cons hl, e]
        have hu : u = q ++ a :: u.drop (q.length + 1) := by
          rw [← ha]
          conv => lhs; rw [← List.take_append_drop q.length u]
          rw [← hq]
        have hb : Bef (u ++ [x + 1]) s := by
          rw [hu, h5, List.append_assoc]
          exact ⟨q, a, b, _, _, rfl, rfl, hab⟩
        exact tlt_asymm hb.tlt
      · have hqu : q = u := by
          have : q.length = u.length := by omega
          rw [hq, this, List.take_length]
        have hax : a = x := by
          have e : p[q.length]? = some a := by rw [h4]; simp
          rw [hp, hqu, List.getElem?_append_right (Nat.le_refl _)] at e
          simpa using e.symm
        rw [h5, hqu]
        rcases Nat.lt_or_ge (x.toNat + 1) b.toNat with hb | hb
        · exact tlt_asymm (((Bef.here (by rw [after_succ hx]; exact hb)).pre u : Bef (u ++ [x + 1]) (u ++ b :: s')).tlt)
        · have hbx : b = x + 1 := UInt8.toNat_inj.1 (by rw [after_succ hx, ← hax]; rw [← hax] at hb; omega)
          rw [hbx]
          cases s' with
          | nil => exact tlt_irrefl _
          | cons c r =>
            refine tlt_asymm ?_
            have := tlt_ext (u ++ [x + 1]) c r
            simpa using this
    rw [h3]
    simp [h2]
  · have h2 : ¬ p <+: s := fun ⟨t, ht⟩ => h.ne [] t (by rw [ht, List.append_nil])
    rw [h.tlt]
    simp [h2]
end
end Tu
end Go.Proofs.YtbmiifglpjeegaaDoor
