/- Sealed texts in plain Lean. No program is in sight. -/
import Derived.Test.YtfhphkhkpejomaaDoorMd
set_option linter.unusedVariables false
set_option linter.unusedSimpArgs false
namespace Go.Proofs.YtfhphkhkpejomaaDoor
open Go.RowKit Wd
namespace Seal
def ctr (n : Nat) : List UInt8 := [UInt8.ofNat (n / 16777216), UInt8.ofNat (n / 65536), UInt8.ofNat (n / 256), UInt8.ofNat n]
/-- The i-th piece of the stream. -/
def blk (k nonce : List UInt8) (i : Nat) : List UInt8 := Mac.mac k (nonce ++ ctr i)
theorem blk_len (k nonce : List UInt8) (i : Nat) : (blk k nonce i).length = 32 := Mac.mac_len _ _
/-- A byte turned. -/
def tb (k nonce b : List UInt8) (j : Nat) : UInt8 := b.getD j 0 ^^^ (blk k nonce (j / 32)).getD (j % 32) 0
def turn (k nonce b : List UInt8) : List UInt8 := (List.range b.length).map (tb k nonce b)
theorem turn_len (k nonce b : List UInt8) : (turn k nonce b).length = b.length := by simp [turn]
theorem turn_at (k nonce b : List UInt8) (j : Nat) (h : j < b.length) : (turn k nonce b)[j]'(by rw [turn_len]; exact h) = tb k nonce b j := by simp [turn]
theorem turn_take (k nonce b : List UInt8) (j : Nat) (h : j < b.length) : (turn k nonce b).take (j + 1) = (turn k nonce b).take j ++ [tb k nonce b j] := by
  rw [List.take_succ_eq_append_getElem (by rw [turn_len]; exact h), turn_at k nonce b j h]
/-- Turned twice: as it was. -/
theorem turn_turn (k nonce b : List UInt8) : turn k nonce (turn k nonce b) = b := by
  apply List.ext_getElem (by rw [turn_len, turn_len])
  intro j h1 h2
  rw [turn_at k nonce (turn k nonce b) j (by rw [turn_len]; exact h2)]
  unfold tb
  rw [List.getD_eq_getElem?_getD, List.getElem?_eq_getElem (by rw [turn_len]; exact h2), turn_at k nonce b j h2]
  unfold tb
  rw [List.getD_eq_getElem?_getD, List.getElem?_eq_getElem h2]
  simp only [Option.getD_some]
  rw [UInt8.xor_assoc, UInt8.xor_self, UInt8.xor_zero]
/-- The first j bytes turned, the others as they were. -/
def upTo (k nonce b : List UInt8) (j : Nat) : List UInt8 := (turn k nonce b).take j ++ b.drop j
theorem upTo_zero (k nonce b : List UInt8) : upTo k nonce b 0 = b := by simp [upTo]
theorem upTo_end (k nonce b : List UInt8) (j : Nat) (h : b.length ≤ j) : upTo k nonce b j = turn k nonce b := by
  unfold upTo
  rw [List.take_of_length_le (by rw [turn_len]; exact h), List.drop_of_length_le h, List.append_nil]
theorem upTo_len (k nonce b : List UInt8) (j : Nat) : (upTo k nonce b j).length = b.length := by
  unfold upTo
  rw [List.length_append, List.length_take, turn_len, List.length_drop]
  omega
theorem upTo_get (k nonce b : List UInt8) (j : Nat) (h : j < b.length) : (upTo k nonce b j)[j]? = some b[j] := by
  unfold upTo
  rw [List.getElem?_append_right (by rw [List.length_take, turn_len]; omega), List.length_take, turn_len, Nat.min_eq_left (by omega), Nat.sub_self, List.getElem?_drop, Nat.add_zero]
  exact List.getElem?_eq_getElem h
theorem upTo_set (k nonce b : List UInt8) (j : Nat) (h : j < b.length) : (upTo k nonce b j).set j (tb k nonce b j) = upTo k nonce b (j + 1) := by
  unfold upTo
  have hl : ((turn k nonce b).take j).length = j := by rw [List.length_take, turn_len]; omega
  rw [List.set_append_right _ _ (by omega), hl, Nat.sub_self, List.drop_eq_getElem_cons h, List.set_cons_zero, turn_take k nonce b j h, List.append_assoc]
  rfl
theorem tb_at (k nonce b D : List UInt8) (m i : Nat) (hD : D = blk k nonce m) (hi : i < 32) (hj : 32 * m + i < b.length) : tb k nonce b (32 * m + i) = b[32 * m + i] ^^^ D[i]'(by rw [hD, blk_len]; exact hi) := by
  subst hD
  unfold tb
  rw [List.getD_eq_getElem?_getD, List.getElem?_eq_getElem hj, show (32 * m + i) / 32 = m from by omega, show (32 * m + i) % 32 = i from by omega, List.getD_eq_getElem?_getD, List.getElem?_eq_getElem (by rw [blk_len]; exact hi)]
  rfl
def streamL : List UInt8 := [115, 116, 114, 101, 97, 109]
def tagL : List UInt8 := [116, 97, 103]
/-- BYTES TURNED by a key and a nonce. -/
def turned (key nonce b : List UInt8) : List UInt8 := turn (Mac.derive key streamL 32) nonce b
theorem turned_len (key nonce b : List UInt8) : (turned key nonce b).length = b.length := turn_len _ _ _
theorem turned_turned (key nonce b : List UInt8) : turned key nonce (turned key nonce b) = b := turn_turn _ _ _
/-- THE TAG of what is sealed. -/
def tag (key lb s : List UInt8) : List UInt8 := Mac.mac (Mac.derive key tagL 32) ([UInt8.ofNat (lb.length / 256), UInt8.ofNat lb.length] ++ lb ++ s)
theorem tag_len (key lb s : List UInt8) : (tag key lb s).length = 32 := Mac.mac_len _ _
def body (key nonce b : List UInt8) : List UInt8 := nonce ++ turned key nonce b
def sealed (key nonce lb b : List UInt8) : List UInt8 := body key nonce b ++ tag key lb (body key nonce b)
theorem sealed_len (key nonce lb b : List UInt8) (hn : nonce.length = 16) : (sealed key nonce lb b).length = b.length + 48 := by
  unfold sealed body
  rw [List.length_append, List.length_append, turned_len, tag_len, hn]
  omega
/-- A SEALED TEXT, and the error. -/
def sealR (key nonce lb b : List UInt8) : List UInt8 × Int := if 256 < lb.length ∨ 4096 < b.length then ([], 3) else (sealed key nonce lb b, 0)
/-- WHAT A TEXT IS, opened. -/
def openR (key lb s : List UInt8) : List UInt8 × Int :=
  if 256 < lb.length ∨ 4144 < s.length then ([], 3)
  else if s.length < 48 then ([], 5)
  else if tag key lb (s.take (s.length - 32)) = s.drop (s.length - 32) then (turned key (s.take 16) ((s.drop 16).take (s.length - 48)), 0)
  else ([], 11)
theorem open_sealed (key nonce lb b : List UInt8) (hn : nonce.length = 16) (h1 : ¬ 256 < lb.length) (h2 : ¬ 4096 < b.length) : openR key lb (sealed key nonce lb b) = (b, 0) := by
  have hl := sealed_len key nonce lb b hn
  have hbl : (body key nonce b).length = b.length + 16 := by unfold body; rw [List.length_append, turned_len, hn]; omega
  have e1 : (sealed key nonce lb b).take (b.length + 16) = body key nonce b := by unfold sealed; rw [← hbl]; exact List.take_left
  have e2 : (sealed key nonce lb b).drop (b.length + 16) = tag key lb (body key nonce b) := by unfold sealed; rw [← hbl]; exact List.drop_left
  have e3 : (sealed key nonce lb b).take 16 = nonce := by
    rw [show (16 : Nat) = min 16 (b.length + 16) from by omega, ← List.take_take, e1]
    unfold body
    rw [← hn]
    exact List.take_left
  have e4 : ((sealed key nonce lb b).drop 16).take b.length = turned key nonce b := by
    rw [List.take_drop, show 16 + b.length = b.length + 16 from by omega, e1]
    unfold body
    rw [← hn]
    exact List.drop_left
  unfold openR
  rw [if_neg (by omega), if_neg (by omega), hl, show b.length + 48 - 32 = b.length + 16 from by omega, e1, e2, if_pos rfl, e3, show b.length + 48 - 48 = b.length from by omega, e4, turned_turned]
end Seal
end Go.Proofs.YtfhphkhkpejomaaDoor
