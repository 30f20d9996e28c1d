/- Strings as lists of bytes: index, slice, IndexByte; a string copied into a block; integers' bits. -/
import Derived.Test.YtcdljlaoedaliaaDoorSg
import Derived.Test.YtcdljlaoedaliaaDoorBk
import Derived.Lib.Bytealg
import Derived.Lib.LazyBuf
import Derived.Laws.Externs
import Derived.Laws.DeepStrings4
import Derived.Laws.BitsAllLaws
set_option linter.unusedVariables false
set_option linter.unusedSimpArgs false
namespace Go.Proofs.YtcdljlaoedaliaaDoor
open Go.RowKit Wd
abbrev str (l : List UInt8) : ByteArray := ⟨l.toArray⟩
theorem str_size (l : List UInt8) : (str l).size = l.length := by show l.toArray.size = _; simp
theorem str_list (s : ByteArray) : ∃ l, s = str l := ⟨s.data.toList, by cases s; simp⟩
theorem str_extract (l : List UInt8) (a b : Nat) : (str l).extract a b = str ((l.take b).drop a) := by
  apply ByteArray.ext
  rw [ByteArray.data_extract]
  simp [List.extract_toArray, List.extract_eq_take_drop, List.drop_take]
section
variable {P : Program} {t : TypeId} {k k' : IntKind}
theorem str_index (h : P.underlying t = some .string) (l : List UInt8) (q : Nat) (hq : q < l.length) {i : Int} (hi : i = (q : Int)) (w : World) : (Instr.index t (.string (str l)) (.int k i)).run P w = .ok (.int .u8 ((l[q]).toNat : Int)) w := by
  subst hi
  have hs : (ByteArray.mk l.toArray).size = l.length := by show l.toArray.size = _; simp
  rw [run_index_string w t _ k _ h, dif_pos (by rw [hs]; omega)]
  rfl
theorem str_from (h : P.underlying t = some .string) (l : List UInt8) (a : Nat) (ha : a ≤ l.length) {i : Int} (hi : i = (a : Int)) (w : World) : (Instr.slice t (.string (str l)) (some (.int k i)) none none).run P w = .ok (.string (str (l.drop a))) w := by
  subst hi
  rw [run_slice_string_l (ht := h) (h0 := by omega) (h1 := by rw [str_size]; omega), str_extract, str_size, List.take_length, Int.toNat_natCast]
theorem str_to (h : P.underlying t = some .string) (l : List UInt8) (b : Nat) (hb : b ≤ l.length) {i : Int} (hi : i = (b : Int)) (w : World) : (Instr.slice t (.string (str l)) none (some (.int k i)) none).run P w = .ok (.string (str (l.take b))) w := by
  subst hi
  rw [run_slice_string_h (ht := h) (h0 := by omega) (h2 := by rw [str_size]; omega), str_extract, List.drop_zero, Int.toNat_natCast]
theorem str_mid (h : P.underlying t = some .string) (l : List UInt8) (a b : Nat) (hab : a ≤ b) (hb : b ≤ l.length) {i j : Int} (hi : i = (a : Int)) (hj : j = (b : Int)) (w : World) : (Instr.slice t (.string (str l)) (some (.int k i)) (some (.int k' j)) none).run P w = .ok (.string (str ((l.take b).drop a))) w := by
  subst hi hj
  rw [run_slice_string_if w t _ k k' _ _ h, if_pos ⟨by omega, by rw [str_size]; omega⟩, if_pos ⟨by omega, by omega⟩, str_extract, Int.toNat_natCast, Int.toNat_natCast]
end
set_option maxRecDepth 100000 in
theorem slite_any (s : ByteArray) (c : Int) (w : World) : Calls Tryd.prog 91 #[.string s, .int .u8 c] w fun e w' => e = .returned (.int .i64 (Lib.indexByte s.data.toList c.toNat.toUInt8)) ∧ w = w' := by
  go_enter Tryd.func91, Tryd.ntmps91
  go_wp2
  rw [run_callFunc_extern Tryd.func100 (by kernel_rfl) (by kernel_rfl) (by kernel_rfl) (e := Extern.BytealgIndexByte.indexByte) (by kernel_rfl), Lib.run_indexByteString]
  simp only [Result.andThen]
  rw [Oper.upon_value]
  go_wp2
  go_ret
  exact ⟨rfl, rfl⟩
section
variable {P : Program} {ops : Array Oper} {rest : List Oper} {op : Oper} {a : Act} {w0 w : World} {M : Mem} {Q : Exit → Act → World → Prop} {F : List Ent}
/-- copy of a string into the first entry's block, from its head on. -/
theorem wpList_copy_str_st {g : Nat} {t : TypeId} {cur : List Value} (H : St w0 w M (eb g t cur :: F)) (hgd : op.guard = none) (d s : Operand) (dT sT : TypeId) (ho : op.op = .call { callee := .builtin .copy, args := #[d, s], argTypes := #[dT, sT] }) (elem : TypeId) (hu : P.underlying dT = some (.slice elem)) (hsz : (P.info? elem).map (·.size) = some 1)
    (dLen dCap : Nat) (l : List UInt8) (hd : a.eval d = .slice (some ⟨g, 0, none⟩) dLen dCap) (hs : a.eval s = .string (str l)) (hle : l.length ≤ dLen) (hfit : l.length ≤ cur.length)
    (h : ∀ w', St w0 w' M (eb g t (ins cur 0 (bv l)) :: F) → wpList P ops Q rest (a.put op.dst (goInt l.length)) w') : wpList P ops Q (op :: rest) a w := by
  refine wpList_plain hgd fun K hK => ?_
  have hb := H.blk 0 rfl
  have hz : ∀ w, (Go.sizeOf elem).run P w = .ok 1 w := fun w => by
    cases hq : P.info? elem with
    | none => simp [hq] at hsz
    | some i =>
      have hi : i.size = 1 := by simpa [hq] using hsz
      simp [sizeOf, typeInfo, hq, hi]
  have hrun : (Builtin.copy_ #[dT, sT] op.type #[.slice (some ⟨g, 0, none⟩) dLen dCap, .string (str l)]).run P w = .ok (goInt l.length) (w.setCells g 0 (bv l)) := by
    have h := run_copy_string (P := P) w dT sT op.type elem g 0 dLen dCap (str l) hu hz (by rw [str_size]; exact hle) (fun j hj => by
      rw [str_size] at hj
      rw [Nat.zero_add, hb.cell, List.getElem?_eq_getElem (by omega)]
      rfl) (fun j hj => hb.frozen _)
    rw [str_size] at h
    exact h
  unfold Oper.wp execOp
  simp only [ho, resolve, invoke, builtin, Sem.run_bind, Sem.run_pure, Result.andThen_ok, List.map_toArray, List.map_cons, List.map_nil, hd, hs, hrun]
  refine hK _ _ (h _ (H.turnBlk ((Keeps.refl w (· = g)).setCells (.inl rfl) 0 (bv l)) (hb.setCells 0 (bv l) (by rw [bv_length]; omega))))
end
theorem ofInt_i64 (a : Nat) (ha : a < 9223372036854775808) : (BitVec.ofInt 64 (a : Int)).toNat = a := by
  rw [BitVec.ofInt_natCast, BitVec.toNat_ofNat]; exact Nat.mod_eq_of_lt (by omega)
theorem i64_or_nat (a b : Nat) (ha : a < 9223372036854775808) (hb : b < 9223372036854775808) : bits .or .i64 (a : Int) (b : Int) = ((a ||| b : Nat) : Int) := by
  have hx : a ||| b < 2 ^ 63 := Nat.or_lt_two_pow (by omega) (by omega)
  show IntKind.i64.wrap ((BitVec.ofInt 64 (a : Int) ||| BitVec.ofInt 64 (b : Int)).toNat : Int) = _
  rw [BitVec.toNat_or, ofInt_i64 a ha, ofInt_i64 b hb, IntKind.wrap_i64]
  omega
theorem i64_and_nat (a b : Nat) (ha : a < 9223372036854775808) (hb : b < 9223372036854775808) : bits .and .i64 (a : Int) (b : Int) = ((a &&& b : Nat) : Int) := by
  have hx : a &&& b < 2 ^ 63 := Nat.and_lt_two_pow _ (by omega)
  show IntKind.i64.wrap ((BitVec.ofInt 64 (a : Int) &&& BitVec.ofInt 64 (b : Int)).toNat : Int) = _
  rw [BitVec.toNat_and, ofInt_i64 a ha, ofInt_i64 b hb, IntKind.wrap_i64]
  omega
theorem i64_and63 (a : Nat) (ha : a < 9223372036854775808) : bits .and .i64 (a : Int) 63 = ((a % 64 : Nat) : Int) := by
  have h := i64_and_nat a 63 ha (by decide)
  rw [show a &&& 63 = a % 64 from Nat.and_two_pow_sub_one_eq_mod a 6] at h
  exact h
end Go.Proofs.YtcdljlaoedaliaaDoor
/- Base64 in plain Lean. No program is in sight. -/
set_option linter.unusedVariables false
set_option linter.unusedSimpArgs false
namespace Go.Proofs.YtcdljlaoedaliaaDoor
open Go.RowKit Wd
namespace B64
def tab : List UInt8 := [65, 66, 67, 68, 69, 70, 71, 72, 73, 74, 75, 76, 77, 78, 79, 80, 81, 82, 83, 84, 85, 86, 87, 88, 89, 90, 97, 98, 99, 100, 101, 102, 103, 104, 105, 106, 107, 108, 109, 110, 111, 112, 113, 114, 115, 116, 117, 118, 119, 120, 121, 122, 48, 49, 50, 51, 52, 53, 54, 55, 56, 57, 43, 47]
theorem tab_len : tab.length = 64 := rfl
def dig (n : Nat) : UInt8 := tab.getD n 0
theorem dig_at (n : Nat) (h : n < 64) : ∃ hn : n < tab.length, tab[n] = dig n := ⟨by rw [tab_len]; exact h, by unfold dig; rw [List.getD_eq_getElem?_getD, List.getElem?_eq_getElem (by rw [tab_len]; exact h)]; rfl⟩
def val (a b c : UInt8) : Nat := a.toNat * 65536 + b.toNat * 256 + c.toNat
def d1 (a b c : UInt8) : UInt8 := dig (val a b c / 262144)
def d2 (a b c : UInt8) : UInt8 := dig (val a b c / 4096 % 64)
def d3 (a b c : UInt8) : UInt8 := dig (val a b c / 64 % 64)
def d4 (a b c : UInt8) : UInt8 := dig (val a b c % 64)
def enc : List UInt8 → List UInt8
  | [] => []
  | [a] => [d1 a 0 0, d2 a 0 0, 61, 61]
  | [a, b] => [d1 a b 0, d2 a b 0, d3 a b 0, 61]
  | a :: b :: c :: r => d1 a b c :: d2 a b c :: d3 a b c :: d4 a b c :: enc r
theorem w_small (n : Nat) (h : n < 4294967296) : wrap64 (n : Int) = (n : Int) := by
  unfold wrap64
  omega
theorem rec3 (a b c : UInt8) : bits .or .i64 (bits .or .i64 (wrap64 (wrap64 (a.toNat : Int) * 65536)) (wrap64 (wrap64 (b.toNat : Int) * 256))) (wrap64 (c.toNat : Int)) = (val a b c : Int) := by
  have ha := a.toNat_lt
  have hb := b.toNat_lt
  have hc := c.toNat_lt
  rw [w_small a.toNat (by omega), w_small b.toNat (by omega), w_small c.toNat (by omega), show (a.toNat : Int) * 65536 = ((a.toNat * 65536 : Nat) : Int) from by omega, show (b.toNat : Int) * 256 = ((b.toNat * 256 : Nat) : Int) from by omega, w_small _ (by omega), w_small _ (by omega)]
  rw [i64_or_nat _ _ (by omega) (by omega), nat_join 16 (a.toNat * 65536) (b.toNat * 256) (by omega) (by omega), i64_or_nat _ _ (by omega) (by omega), nat_join 8 (a.toNat * 65536 + b.toNat * 256) c.toNat (by omega) (by omega)]
  rfl
theorem rec2 (a b : UInt8) : bits .or .i64 (bits .or .i64 (wrap64 (wrap64 (a.toNat : Int) * 65536)) (wrap64 (wrap64 (b.toNat : Int) * 256))) 0 = (val a b 0 : Int) := by
  have h := rec3 a b 0
  rw [show (((0 : UInt8).toNat : Nat) : Int) = ((0 : Nat) : Int) from rfl, w_small 0 (by omega)] at h
  exact h
theorem rec1 (a : UInt8) : bits .or .i64 (bits .or .i64 (wrap64 (wrap64 (a.toNat : Int) * 65536)) 0) 0 = (val a 0 0 : Int) := by
  have h := rec2 a 0
  rw [show (((0 : UInt8).toNat : Nat) : Int) = ((0 : Nat) : Int) from rfl, w_small 0 (by omega), show ((0 : Nat) : Int) * 256 = ((0 : Nat) : Int) from rfl, w_small 0 (by omega)] at h
  exact h
/-- What the walk reckons with three bytes. -/
theorem reckon (a b c : UInt8) : ∃ v q1 q2 q3 q4 p2 p3 : Nat, v = val a b c ∧ v < 16777216 ∧ (v : Int) / 262144 = (q1 : Int) ∧ (v : Int) / 4096 = (p2 : Int) ∧ (v : Int) / 64 = (p3 : Int) ∧
    bits .and .i64 (p2 : Int) 63 = (q2 : Int) ∧ bits .and .i64 (p3 : Int) 63 = (q3 : Int) ∧ bits .and .i64 (v : Int) 63 = (q4 : Int) ∧
    q1 < 64 ∧ q2 < 64 ∧ q3 < 64 ∧ q4 < 64 ∧ dig q1 = d1 a b c ∧ dig q2 = d2 a b c ∧ dig q3 = d3 a b c ∧ dig q4 = d4 a b c := by
  have ha := a.toNat_lt
  have hb := b.toNat_lt
  have hc := c.toNat_lt
  refine ⟨val a b c, val a b c / 262144, val a b c / 4096 % 64, val a b c / 64 % 64, val a b c % 64, val a b c / 4096, val a b c / 64, rfl, ?_, ?_, ?_, ?_, ?_, ?_, ?_, ?_, ?_, ?_, ?_, rfl, rfl, rfl, rfl⟩
  · unfold val; omega
  · unfold val; omega
  · unfold val; omega
  · unfold val; omega
  · exact i64_and63 _ (by unfold val; omega)
  · exact i64_and63 _ (by unfold val; omega)
  · exact i64_and63 _ (by unfold val; omega)
  · unfold val; omega
  · omega
  · omega
  · omega
theorem enc_len (l : List UInt8) : (enc l).length ≤ 2 * l.length + 4 := by
  match l with
  | [] => simp [enc]
  | [a] => simp [enc]
  | [a, b] => simp [enc]
  | a :: b :: c :: r =>
    have := enc_len r
    simp only [enc, List.length_cons] at this ⊢
    omega
end B64
end Go.Proofs.YtcdljlaoedaliaaDoor
