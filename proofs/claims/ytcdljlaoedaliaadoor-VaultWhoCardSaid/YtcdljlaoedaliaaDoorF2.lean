/- The theorem of tokens in plain Lean. -/
import Derived.Test.YtcdljlaoedaliaaDoorT6
import Derived.Test.YtcdljlaoedaliaaDoorT4
set_option linter.unusedVariables false
set_option linter.unusedSimpArgs false
namespace Go.Proofs.YtcdljlaoedaliaaDoor
open Go.RowKit Wd
namespace Va
theorem swap_len (a : Acc) (l : List Acc) : (swap a l).length = l.length := by simp [swap]
theorem swap_t (a : Acc) (l : List Acc) (j : Nat) (h : j < l.length) : ((swap a l)[j]'(by rw [swap_len]; exact h)).t = l[j].t := by
  simp only [swap, List.getElem_map]
  split
  · rename_i e; exact e.symm
  · rfl
theorem swap_may {a : Acc} {l : List Acc} (h : May l) : May (swap a l) := by
  refine ⟨fun j hj hl => ?_, by rw [swap_len]; exact h.2⟩
  rw [swap_len] at hl
  obtain ⟨h1, h2⟩ := h.1 j hl hl
  refine ⟨by rw [swap_t a l j hl]; exact h1, fun h0 => ?_⟩
  rw [swap_t a l j hl, swap_t a l (j - 1) (by omega)]
  exact h2 h0
theorem swap_has {a : Acc} {l : List Acc} (t : Nat) : has t (swap a l) = has t l := by
  unfold has swap
  rw [List.any_map]
  congr 1
  funext x
  simp only [Function.comp_apply]
  split
  · rename_i e; rw [e]
  · rfl
theorem swap_one {a x : Acc} {l : List Acc} (hx : x ∈ swap a l) (ht : x.t = a.t) : x = a := by
  obtain ⟨y, hy, he⟩ := List.mem_map.1 hx
  split at he
  · exact he.symm
  · rename_i hn
    subst he
    exact absurd ht hn
theorem swap_in {a : Acc} {l : List Acc} (h : has a.t l = true) : a ∈ swap a l := by
  unfold has at h
  rw [List.any_eq_true] at h
  obtain ⟨x, hx, he⟩ := h
  have he : x.t = a.t := by simpa using he
  exact List.mem_map.2 ⟨x, hx, by rw [if_pos he]⟩
theorem rotate_yes {l : List Acc} {t : Nat} {salt s : List UInt8} (hs : salt.length = 16) (h : May l) (he : secretErr s.length = 0) (ht : has t l = true) : rotate l t salt s hs = (swap (acct t salt s hs) l, 0) := by
  unfold rotate with_
  rw [if_pos h, if_pos he, if_pos (by exact ht)]
theorem revoke_yes {l : List Acc} {t : Nat} (h : May l) (ht : has t l = true) : revoke l t = (swap (gone t) l, 0) := by
  unfold revoke with_
  rw [if_pos h, if_pos (by exact ht)]
theorem who_some {s : List UInt8} {l : List Acc} {x : Nat} (h : whoL s l = (x, true)) : ∃ a ∈ l, hit s a = true ∧ a.t = x := by
  unfold whoL at h
  cases hf : l.find? (hit s) with
  | none => rw [hf] at h; cases h
  | some a =>
    rw [hf] at h
    injection h with h1 h2
    exact ⟨a, List.mem_of_find?_eq_some hf, List.find?_some hf, h1⟩
theorem who_le {s : List UInt8} {l : List Acc} {a : Acc} (hm : May l) (ha : a ∈ l) (hh : hit s a = true) : ∃ x, whoL s l = (x, true) ∧ x ≤ a.t := by
  cases hf : l.find? (hit s) with
  | none => exact absurd hh (by rw [List.find?_eq_none] at hf; exact hf a ha)
  | some b =>
    refine ⟨b.t, by unfold whoL; rw [hf], ?_⟩
    rw [List.find?_eq_some_iff_getElem] at hf
    obtain ⟨_, i, hi, he, hmin⟩ := hf
    obtain ⟨j, hj, rfl⟩ := List.getElem_of_mem ha
    rcases Nat.lt_trichotomy i j with h1 | h1 | h1
    · have := List.pairwise_iff_getElem.1 hm.pair i j hi hj h1
      rw [← he]
      omega
    · subst h1
      rw [← he]
      exact Nat.le_refl _
    · have := hmin j h1
      rw [hh] at this
      cases this
/-- THE THEOREM OF TOKENS. -/
theorem tokens {l : List Acc} {t : Nat} {salt s next : List UInt8} (hs : salt.length = 16) (hm : May l) (h1 : secretErr s.length = 0) (h2 : secretErr next.length = 0) (ht : has t l = true) :
    ∃ a b c : List Acc, rotate l t salt s hs = (a, 0) ∧ rotate a t salt next hs = (b, 0) ∧ revoke b t = (c, 0) ∧ a.length = l.length ∧ b.length = l.length ∧ c.length = l.length ∧
      (who a s).2 = true ∧ (who a s).1 ≤ t ∧ ((who b s).2 = true → (who b s).1 = t → Mac.mac salt next = Mac.mac salt s) ∧ ((who c next).2 = true → (who c next).1 = t → False) := by
  have ma : May (swap (acct t salt s hs) l) := swap_may hm
  have hta : has t (swap (acct t salt s hs) l) = true := by rw [swap_has]; exact ht
  have mb : May (swap (acct t salt next hs) (swap (acct t salt s hs) l)) := swap_may ma
  have htb : has t (swap (acct t salt next hs) (swap (acct t salt s hs) l)) = true := by rw [swap_has]; exact hta
  have mc : May (swap (gone t) (swap (acct t salt next hs) (swap (acct t salt s hs) l))) := swap_may mb
  have st : ∀ q : List UInt8, secretErr q.length = 0 → Mac.store salt q = Mac.mac salt q := fun q hq => by unfold Mac.store; rw [if_pos hq]
  refine ⟨_, _, _, rotate_yes hs hm h1 ht, rotate_yes hs ma h2 hta, revoke_yes mb htb, swap_len _ _, by rw [swap_len, swap_len], by rw [swap_len, swap_len, swap_len], ?_⟩
  have wa : who (swap (acct t salt s hs) l) s = whoL s (swap (acct t salt s hs) l) := by unfold who; rw [if_pos ma]
  have wb : who (swap (acct t salt next hs) (swap (acct t salt s hs) l)) s = whoL s (swap (acct t salt next hs) (swap (acct t salt s hs) l)) := by unfold who; rw [if_pos mb]
  have wc : who (swap (gone t) (swap (acct t salt next hs) (swap (acct t salt s hs) l))) next = whoL next (swap (gone t) (swap (acct t salt next hs) (swap (acct t salt s hs) l))) := by unfold who; rw [if_pos mc]
  rw [wa, wb, wc]
  obtain ⟨x, hx, hxt⟩ := who_le (s := s) ma (swap_in (a := acct t salt s hs) ht) (by
    show (!false && decide (secretErr s.length = 0 ∧ Mac.mac salt s = Mac.store salt s)) = true
    rw [st s h1]
    simp [h1])
  refine ⟨by rw [hx], by rw [hx]; exact hxt, fun hq hy => ?_, fun hq hz => ?_⟩
  · obtain ⟨a, ha, hh, hat⟩ := who_some (s := s) (x := (whoL s (swap (acct t salt next hs) (swap (acct t salt s hs) l))).1) (by rw [← hq])
    have he := swap_one ha (by rw [hat, hy]; rfl)
    subst he
    have h3 : (!false && decide (secretErr s.length = 0 ∧ Mac.mac salt s = Mac.store salt next)) = true := hh
    rw [st next h2] at h3
    simp at h3
    exact h3.2.symm
  · obtain ⟨a, ha, hh, hat⟩ := who_some (s := next) (x := (whoL next (swap (gone t) (swap (acct t salt next hs) (swap (acct t salt s hs) l)))).1) (by rw [← hq])
    have he := swap_one ha (by rw [hat, hz]; rfl)
    subst he
    have h3 : (!true && decide (secretErr next.length = 0 ∧ Mac.mac (List.replicate 16 0) next = List.replicate 32 0)) = true := hh
    simp at h3
end Va
end Go.Proofs.YtcdljlaoedaliaaDoor
