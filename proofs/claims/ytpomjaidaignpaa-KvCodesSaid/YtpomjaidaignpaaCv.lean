/- Words: a slice of bytes as a string; a file's blocks behind a write. -/
import Derived.Test.YtpomjaidaignpaaAx
import Derived.Laws.IdiomStrings
set_option linter.unusedVariables false
set_option linter.unusedSimpArgs false
namespace Go.Proofs.Ytpomjaidaignpaa
open Go.RowKit Wd

theorem conv_range {P : Program} {w : World} {src dst e : TypeId} {b o c n : Nat} {l : List UInt8} (hs : P.underlying src = some (.slice e)) (he : P.underlying e = some (.int .u8)) (hd : P.underlying dst = some .string)
    (h : w.rangeAt b o (bv l)) (hn : n = l.length) : (convert src dst (.slice (some ⟨b, o, none⟩) n c)).run P w = .ok (.string ⟨l.toArray⟩) w := by
  subst hn
  refine run_convert_bytes_back w src dst e ⟨b, o, none⟩ c l hs he hd fun j hj => ?_
  rw [Addr.add_mid]
  refine h j _ ?_
  rw [bv_get, List.getElem?_eq_getElem hj]
  rfl
theorem conv_nil {P : Program} {w : World} {src dst e : TypeId} {A : Option Addr} {c : Nat} (hs : P.underlying src = some (.slice e)) (he : P.underlying e = some (.int .u8)) (hd : P.underlying dst = some .string) :
    (convert src dst (.slice A 0 c)).run P w = .ok (.string ⟨#[]⟩) w := by
  cases A with
  | none =>
    rw [run_convert_bytes_string w src dst e none 0 c hs he hd]
    simp [Conv.bytesToString, Sem.run_pure]
    rfl
  | some a => exact run_convert_bytes_back w src dst e a c [] hs he hd fun j hj => absurd hj (by simp)
theorem conv_RB {P : Program} {w : World} {src dst e : TypeId} {A : Option Addr} {c n : Nat} {l : List UInt8} (hs : P.underlying src = some (.slice e)) (he : P.underlying e = some (.int .u8)) (hd : P.underlying dst = some .string)
    (h : RB w A l) (hn : n = l.length) : (convert src dst (.slice A n c)).run P w = .ok (.string ⟨l.toArray⟩) w := by
  by_cases hl : l = []
  · subst hl; subst hn; exact conv_nil hs he hd
  · obtain ⟨b, o, rfl, _, hr⟩ := h hl
    exact conv_range hs he hd hr hn

theorem FM.at_eq (F : FM) (i : Nat) : F.at_ i = (F.l.drop (64 * i)).take 64 := rfl
theorem spl_at (l m : List UInt8) (i : Nat) (hm : m.length = 64) (hl : 64 * i + 64 ≤ l.length) : ((spl l (64 * i) m).drop (64 * i)).take 64 = m := by
  unfold spl
  rw [List.append_assoc, List.drop_left' (by simp; omega), List.take_left' hm]
theorem spl_at_ne (l m : List UInt8) (i j : Nat) (hm : m.length ≤ 64) (hl : 64 * i + 64 ≤ l.length) (hij : j ≠ i) : ((spl l (64 * i) m).drop (64 * j)).take 64 = (l.drop (64 * j)).take 64 := by
  unfold spl
  apply List.ext_getElem?
  intro k
  rw [List.getElem?_take, List.getElem?_take]
  split
  · rw [List.getElem?_drop, List.getElem?_drop]
    rcases Nat.lt_or_gt_of_ne hij with h | h
    · rw [List.append_assoc, List.getElem?_append_left (by simp; omega), List.getElem?_take_of_lt (by omega)]
    · rw [List.getElem?_append_right (by simp; omega), List.getElem?_drop]
      congr 1
      simp
      omega
  · rfl
theorem FM.write_new {n : Nat} (h1 : 1 ≤ n) (m : List UInt8) (hm : m.length = 64) : ((FM.new n).write 0 m).at_ 0 = m := by
  have : (FM.new n).write 0 m = (FM.new n).put 0 m := by simp [FM.write, FM.new]
  rw [this]
  exact spl_at _ _ 0 hm (by simp [FM.new]; omega)
end Go.Proofs.Ytpomjaidaignpaa
