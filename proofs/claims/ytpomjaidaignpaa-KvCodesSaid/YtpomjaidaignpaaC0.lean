/- Lists of acts bit by bit: what a round adds. No program is in sight. -/
import Derived.Test.YtpomjaidaignpaaC3
set_option linter.unusedVariables false
set_option linter.unusedSimpArgs false
namespace Go.Proofs.Ytpomjaidaignpaa
open Go.RowKit Wd
def Kv.enc (l : List Kv.Act) : List UInt8 × Int := if Kv.check l = 0 then (Kv.bytes l, 0) else ([], Kv.check l)
theorem Kv.enc_bad {l : List Kv.Act} (h : l.any Kv.bad = true) : Kv.enc l = ([], 1) := by
  have : Kv.check l = 1 := by unfold Kv.check; rw [if_pos h]
  unfold Kv.enc
  rw [this]
  rfl
theorem Kv.enc_long {l : List Kv.Act} (h : l.any Kv.bad = false) (h2 : 255 < l.length ∨ l.any Kv.long = true ∨ 65535 < (Kv.bytes l).length) : Kv.enc l = ([], 3) := by
  have : Kv.check l = 3 := by
    unfold Kv.check
    rw [if_neg (by simp [h]), if_pos]
    simp only [Bool.or_eq_true, decide_eq_true_eq]
    rcases h2 with h | h | h
    · exact .inl (.inl h)
    · exact .inl (.inr h)
    · exact .inr h
  unfold Kv.enc
  rw [this]
  rfl
theorem Kv.enc_ok {l : List Kv.Act} (h : l.any Kv.bad = false) (h2 : ¬ 255 < l.length) (h3 : l.any Kv.long = false) (h4 : ¬ 65535 < (Kv.bytes l).length) : Kv.enc l = (Kv.bytes l, 0) := by
  have : Kv.check l = 0 := by
    unfold Kv.check
    rw [if_neg (by simp [h]), if_neg]
    simp [h3]
    omega
  unfold Kv.enc
  rw [this]
  rfl
theorem Kv.any_snoc {l : List Ac} {f : Kv.Act → Bool} {k : Nat} (hk : k < l.length) (h : ((l.take k).map Ac.act).any f = false) (h2 : f l[k].act = false) : ((l.take (k + 1)).map Ac.act).any f = false := by
  rw [List.take_succ_eq_append_getElem hk, List.map_append, List.any_append, h]
  simp [h2]
theorem Kv.any_here {l : List Ac} {f : Kv.Act → Bool} {k : Nat} (hk : k < l.length) (h2 : f l[k].act = true) : (l.map Ac.act).any f = true :=
  List.any_eq_true.2 ⟨_, List.mem_map.2 ⟨_, List.getElem_mem hk, rfl⟩, h2⟩
theorem Kv.all_snoc {l : List Ac} {k : Nat} (hk : k < l.length) : Kv.all ((l.take (k + 1)).map Ac.act) = Kv.all ((l.take k).map Ac.act) ++ Kv.one l[k].act := by
  rw [List.take_succ_eq_append_getElem hk, List.map_append]
  simp [Kv.all]
theorem str_toList (k : List UInt8) : (str k).toList = k := by simp
theorem Kv.bad_cases (k : List UInt8) (b : Bool) (p : Pc) (n : Nat) (hn : n = p.l.length) : (Kv.bad (Ac.act ⟨k, b, p⟩) = true ∧ ((str k).toList = [] ∨ ((∃ x r, (str k).toList = x :: r) ∧ b = false ∧ 0 < n))) ∨ (Kv.bad (Ac.act ⟨k, b, p⟩) = false ∧ (∃ x r, (str k).toList = x :: r) ∧ (b = true ∨ (b = false ∧ ¬ 0 < n))) := by
  rw [str_toList]
  unfold Kv.bad Ac.act
  cases k with
  | nil => exact .inl ⟨by simp, .inl rfl⟩
  | cons x r =>
    cases b with
    | true => exact .inr ⟨by simp, ⟨x, r, rfl⟩, .inl rfl⟩
    | false =>
      by_cases h0 : 0 < n
      · refine .inl ⟨?_, .inr ⟨⟨x, r, rfl⟩, rfl, h0⟩⟩
        have : p.l ≠ [] := fun h => by rw [h] at hn; simp at hn; omega
        simp [this]
      · refine .inr ⟨?_, ⟨x, r, rfl⟩, .inr ⟨rfl, h0⟩⟩
        have : p.l = [] := List.eq_nil_of_length_eq_zero (by omega)
        simp [this]
end Go.Proofs.Ytpomjaidaignpaa
