/- Words: a slice of bytes as a string; a byte of a string. No program is in sight. -/
import Derived.Test.YtcdljlaoedaliaaDoorWd
import Derived.Laws.IdiomStrings
import Derived.Laws.Strings
set_option linter.unusedVariables false
set_option linter.unusedSimpArgs false
namespace Go.Proofs.YtcdljlaoedaliaaDoor
open Go.RowKit Wd
theorem conv_range {P : Program} {w : World} {src dst e : TypeId} {b o c n : Nat} {l : List UInt8} (hs : P.underlying src = some (.slice e)) (he : P.underlying e = some (.int .u8)) (hd : P.underlying dst = some .string)
    (h : w.rangeAt b o (bv l)) (hn : n = l.length) : (convert src dst (.slice (some ⟨b, o, none⟩) n c)).run P w = .ok (.string ⟨l.toArray⟩) w := by
  subst hn
  refine run_convert_bytes_back w src dst e ⟨b, o, none⟩ c l hs he hd fun j hj => ?_
  rw [Addr.add_mid]
  refine h j _ ?_
  rw [bv_get, List.getElem?_eq_getElem hj]
  rfl
theorem conv_nil {P : Program} {w : World} {src dst e : TypeId} {A : Option Addr} {c : Nat} (hs : P.underlying src = some (.slice e)) (he : P.underlying e = some (.int .u8)) (hd : P.underlying dst = some .string) :
    (convert src dst (.slice A 0 c)).run P w = .ok (.string ⟨#[]⟩) w := by
  cases A with
  | none =>
    rw [run_convert_bytes_string w src dst e none 0 c hs he hd]
    simp [Conv.bytesToString, Sem.run_pure]
    rfl
  | some a => exact run_convert_bytes_back w src dst e a c [] hs he hd fun j hj => absurd hj (by simp)
theorem conv_RB {P : Program} {w : World} {src dst e : TypeId} {A : Option Addr} {c n : Nat} {l : List UInt8} (hs : P.underlying src = some (.slice e)) (he : P.underlying e = some (.int .u8)) (hd : P.underlying dst = some .string)
    (h : RB w A l) (hn : n = l.length) : (convert src dst (.slice A n c)).run P w = .ok (.string ⟨l.toArray⟩) w := by
  by_cases hl : l = []
  · subst hl; subst hn; exact conv_nil hs he hd
  · obtain ⟨b, o, rfl, _, hr⟩ := h hl
    exact conv_range hs he hd hr hn

/-- A byte of a string of known bytes. -/
theorem run_index_list {P : Program} (w : World) {t : TypeId} (l : List UInt8) {k : IntKind} {i : Int} (q : Nat) (h : P.underlying t = some .string) (hq : q < l.length) (hi : i = (q : Int)) :
    (Instr.index t (.string ⟨l.toArray⟩) (.int k i)).run P w = .ok (.int .u8 ((l[q]).toNat : Int)) w := by
  subst hi
  have hs : (ByteArray.mk l.toArray).size = l.length := by show l.toArray.size = _; simp
  rw [run_index_string w t _ k _ h, dif_pos (by rw [hs]; omega)]
  rfl
/-- The hexadecimal digits. -/
def hexs : List UInt8 := [48, 49, 50, 51, 52, 53, 54, 55, 56, 57, 97, 98, 99, 100, 101, 102]
def hexd (n : Nat) : UInt8 := hexs.getD n 0
@[go_sem high] theorem run_index_digits {P : Program} (w : World) (t : TypeId) (k : IntKind) (i : Int) (h : P.underlying t = some .string) (h0 : 0 ≤ i) (h1 : i ≤ 15) :
    (Instr.index t (.string ⟨#[48, 49, 50, 51, 52, 53, 54, 55, 56, 57, 97, 98, 99, 100, 101, 102]⟩) (.int k i)).run P w = .ok (.int .u8 ((hexd i.toNat).toNat : Int)) w := by
  obtain ⟨q, rfl⟩ := Int.eq_ofNat_of_zero_le h0
  have := run_index_list (P := P) w (t := t) hexs (k := k) (i := (q : Int)) q h (by show q < 16; omega) rfl
  rw [show ((q : Int)).toNat = q from rfl]
  unfold hexd
  rw [List.getD_eq_getElem?_getD, List.getElem?_eq_getElem (by show q < 16; omega)]
  exact this
/-- Bytes as digits. -/
def hexL (l : List UInt8) : List UInt8 := l.flatMap fun b => [hexd (b.toNat / 16), hexd (b.toNat % 16)]
theorem hexL_length (l : List UInt8) : (hexL l).length = 2 * l.length := by
  induction l with
  | nil => rfl
  | cons b l ih =>
    show (hexd (b.toNat / 16) :: hexd (b.toNat % 16) :: hexL l).length = _
    simp [ih]
    omega
theorem hexL_succ (l : List UInt8) (k : Nat) (h : k < l.length) : hexL (l.take (k + 1)) = hexL (l.take k) ++ [hexd ((l[k]).toNat / 16), hexd ((l[k]).toNat % 16)] := by
  rw [List.take_succ_eq_append_getElem h]
  unfold hexL
  rw [List.flatMap_append]
  rfl
end Go.Proofs.YtcdljlaoedaliaaDoor
