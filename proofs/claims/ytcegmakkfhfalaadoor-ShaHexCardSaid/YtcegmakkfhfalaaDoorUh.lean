/- Digits as bytes, in plain Lean; both packages' digit. -/
import Derived.Test.YtcegmakkfhfalaaDoorCs
import Derived.Test.YtcegmakkfhfalaaDoorChecked
import Derived.Lib.Bytealg
import Derived.WalkKit
set_option linter.unusedVariables false
set_option linter.unusedSimpArgs false
namespace Go.Proofs.YtcegmakkfhfalaaDoor
open Go.RowKit Wd
/-- A digit's value; -1: it is none. -/
def dig (c : UInt8) : Int := if 48 ≤ c.toNat ∧ c.toNat ≤ 57 then (c.toNat : Int) - 48 else if 97 ≤ c.toNat ∧ c.toNat ≤ 102 then (c.toNat : Int) - 87 else if 65 ≤ c.toNat ∧ c.toNat ≤ 70 then (c.toNat : Int) - 55 else -1
theorem dig_lo (c : UInt8) : -1 ≤ dig c ∧ dig c ≤ 15 := by unfold dig; split; omega; split; omega; split <;> omega
/-- Digits as bytes. -/
def unhexL : List UInt8 → Option (List UInt8)
  | [] => some []
  | [_] => none
  | a :: b :: r => if dig a < 0 ∨ dig b < 0 then none else (unhexL r).map fun o => UInt8.ofNat (16 * dig a + dig b).toNat :: o
theorem unhexL_append (l : List UInt8) (o : List UInt8) (h : unhexL l = some o) (r : List UInt8) : unhexL (l ++ r) = (unhexL r).map (o ++ ·) := by
  match l with
  | [] => simp only [unhexL, Option.some.injEq] at h; subst h; simp
  | [_] => simp [unhexL] at h
  | a :: b :: t =>
    simp only [List.cons_append, unhexL] at h ⊢
    split at h
    · cases h
    · rename_i hd
      rw [if_neg hd]
      obtain ⟨o', ho, rfl⟩ := Option.map_eq_some_iff.1 h
      rw [unhexL_append t o' ho r]
      cases unhexL r <;> rfl
theorem unhexL_hexL (l : List UInt8) : unhexL (hexL l) = some l := by
  have h1 : ∀ n : Nat, n < 16 → dig (hexd n) = (n : Int) := by decide
  induction l with
  | nil => rfl
  | cons b l ih =>
    have hb := b.toNat_lt
    show unhexL (hexd (b.toNat / 16) :: hexd (b.toNat % 16) :: hexL l) = _
    unfold unhexL
    rw [h1 _ (by omega), h1 _ (by omega), if_neg (by omega), ih]
    simp only [Option.map_some, Option.some.injEq, List.cons.injEq, and_true]
    rw [show ((16 * ((b.toNat / 16 : Nat) : Int) + ((b.toNat % 16 : Nat) : Int)).toNat) = b.toNat from by omega]
    exact UInt8.ofNat_toNat
theorem slite_any (s : ByteArray) (c : Int) (w : World) : Calls Tryd.prog 33 #[.string s, .int .u8 c] w fun e w' => e = .returned (.int .i64 (Lib.indexByte s.data.toList c.toNat.toUInt8)) ∧ w = w' := by
  go_enter Tryd.func33, Tryd.ntmps33
  go_wp2
  rw [run_callFunc_extern Tryd.func34 (by kernel_rfl) (by kernel_rfl) (by kernel_rfl) (e := Extern.BytealgIndexByte.indexByte) (by kernel_rfl), Lib.run_indexByteString]
  simp only [Result.andThen]
  rw [Oper.upon_value]
  go_wp2
  go_ret
  exact ⟨rfl, rfl⟩
theorem strs_any (s : ByteArray) (c : Int) (w : World) : Calls Tryd.prog 32 #[.string s, .int .u8 c] w fun e w' => e = .returned (.int .i64 (Lib.indexByte s.data.toList c.toNat.toUInt8)) ∧ w = w' := by
  go_enter Tryd.func32, Tryd.ntmps32
  go_wp2_with fail
  refine (slite_any s c w).mono ?_
  rintro e w' ⟨rfl, rfl⟩
  go_wp2
  go_ret
  exact ⟨rfl, rfl⟩
theorem index_hex (n : Nat) (h : n < 256) : Lib.indexByte hexs (((n : Int)).toNat.toUInt8) = (if 48 ≤ n ∧ n ≤ 57 then (n : Int) - 48 else if 97 ≤ n ∧ n ≤ 102 then (n : Int) - 87 else -1) := by
  have : ∀ n : Nat, n < 256 → Lib.indexByte hexs (((n : Int)).toNat.toUInt8) = (if 48 ≤ n ∧ n ≤ 57 then (n : Int) - 48 else if 97 ≤ n ∧ n ≤ 102 then (n : Int) - 87 else -1) := by decide +kernel
  exact this n h
theorem digit_any (c : UInt8) (w : World) : Calls Tryd.prog 26 #[.int .u8 (c.toNat : Int)] w fun e w' => e = .returned (.int .i64 (dig c)) ∧ w = w' := by
  have hc := c.toNat_lt
  by_cases hu : 65 ≤ c.toNat ∧ c.toNat ≤ 70
  · have u1 : (65 : Int) ≤ (c.toNat : Int) := by omega
    have u2 : (c.toNat : Int) ≤ 70 := by omega
    have hs := strs_any ⟨hexs.toArray⟩ ((c.toNat + 32 : Nat) : Int) w
    rw [show (ByteArray.mk hexs.toArray).data.toList = hexs from rfl, index_hex _ (by omega), if_neg (by omega), if_pos (by omega), show ((c.toNat + 32 : Nat) : Int) - 87 = dig c from by unfold dig; rw [if_neg (by omega), if_neg (by omega), if_pos hu]; omega] at hs
    have e1 : ((c.toNat + 32 : Nat) : Int) = (c.toNat : Int) + 32 := by omega
    rw [e1] at hs
    have HS := Lib.hid hs
    clear hs e1 hu
    go_enter Tryd.func26, Tryd.ntmps26
    go_wp2_with fail
    refine HS.out.mono ?_
    rintro e w' ⟨rfl, rfl⟩
    go_wp2
    go_ret
    exact ⟨rfl, rfl⟩
  · have hs := strs_any ⟨hexs.toArray⟩ (c.toNat : Int) w
    rw [show (ByteArray.mk hexs.toArray).data.toList = hexs from rfl, index_hex _ (by omega)] at hs
    have hd : dig c = (if 48 ≤ c.toNat ∧ c.toNat ≤ 57 then (c.toNat : Int) - 48 else if 97 ≤ c.toNat ∧ c.toNat ≤ 102 then (c.toNat : Int) - 87 else -1) := by
      unfold dig
      split
      · rfl
      · split
        · rfl
        · first | rfl | rw [if_neg hu]
    rw [← hd] at hs
    have HS := Lib.hid hs
    clear hs hd
    have u : ¬ (65 : Int) ≤ (c.toNat : Int) ∨ ((65 : Int) ≤ (c.toNat : Int) ∧ ¬ (c.toNat : Int) ≤ 70) := by omega
    clear hu
    rcases u with u | ⟨u, u2⟩
    all_goals
      go_enter Tryd.func26, Tryd.ntmps26
      go_wp2_with fail
      refine HS.out.mono ?_
      rintro e w' ⟨rfl, rfl⟩
      go_wp2
      go_ret
      exact ⟨rfl, rfl⟩
theorem rdigit_any (c : UInt8) (w : World) : Calls Tryd.prog 27 #[.int .u8 (c.toNat : Int)] w fun e w' => e = .returned (.int .i64 (dig c)) ∧ w = w' := by
  have hc := c.toNat_lt
  obtain ⟨d, hd⟩ : ∃ d, d = dig c := ⟨_, rfl⟩
  rw [← hd]
  unfold dig at hd
  obtain ⟨n, hn⟩ : ∃ n, n = c.toNat := ⟨_, rfl⟩
  rw [← hn] at hd hc ⊢
  clear hn
  have cs : (48 ≤ n ∧ n ≤ 57) ∨ (97 ≤ n ∧ n ≤ 102) ∨ (65 ≤ n ∧ n ≤ 70) ∨ (n < 48) ∨ (57 < n ∧ n < 65) ∨ (70 < n ∧ n < 97) ∨ (102 < n) := by omega
  rcases cs with h | h | h | h | h | h | h
  · have hd2 : d = (n : Int) - 48 := by rw [hd]; repeat (first | rw [if_pos (by omega)] | rw [if_neg (by omega)]); try omega
    have u0 : (48 : Int) ≤ (n : Int) := by omega
    have u1 : (n : Int) ≤ 57 := by omega
    have v : ((n : Int) - 48) % 256 = (n : Int) - 48 := by omega
    have v1 : 0 ≤ (n : Int) - 48 := by omega
    have HD2 := Lib.hid hd2
    clear hd h hd2
    go_enter Tryd.func27, Tryd.ntmps27
    go_wp2
    go_ret
    exact ⟨by rw [HD2.out]; first | rfl | exact congrArg (fun x : Int => Ending.returned (.int .i64 x)) (by omega), rfl⟩
  · have hd2 : d = (n : Int) - 87 := by rw [hd]; repeat (first | rw [if_pos (by omega)] | rw [if_neg (by omega)]); try omega
    have u0 : (48 : Int) ≤ (n : Int) := by omega
    have u1 : ¬ (n : Int) ≤ 57 := by omega
    have u2 : (97 : Int) ≤ (n : Int) := by omega
    have u3 : (n : Int) ≤ 102 := by omega
    have v : ((n : Int) - 97) % 256 = (n : Int) - 97 := by omega
    have v1 : 0 ≤ (n : Int) - 97 := by omega
    have HD2 := Lib.hid hd2
    clear hd h hd2
    go_enter Tryd.func27, Tryd.ntmps27
    go_wp2
    go_ret
    exact ⟨by rw [HD2.out]; first | rfl | exact congrArg (fun x : Int => Ending.returned (.int .i64 x)) (by omega), rfl⟩
  · have hd2 : d = (n : Int) - 55 := by rw [hd]; repeat (first | rw [if_pos (by omega)] | rw [if_neg (by omega)]); try omega
    have u0 : (48 : Int) ≤ (n : Int) := by omega
    have u1 : ¬ (n : Int) ≤ 57 := by omega
    have u2 : ¬ (97 : Int) ≤ (n : Int) := by omega
    have u3 : (65 : Int) ≤ (n : Int) := by omega
    have u4 : (n : Int) ≤ 70 := by omega
    have v : ((n : Int) - 65) % 256 = (n : Int) - 65 := by omega
    have v1 : 0 ≤ (n : Int) - 65 := by omega
    have HD2 := Lib.hid hd2
    clear hd h hd2
    go_enter Tryd.func27, Tryd.ntmps27
    go_wp2
    go_ret
    exact ⟨by rw [HD2.out]; first | rfl | exact congrArg (fun x : Int => Ending.returned (.int .i64 x)) (by omega), rfl⟩
  · have hd2 : d = -1 := by rw [hd]; repeat (first | rw [if_pos (by omega)] | rw [if_neg (by omega)]); try omega
    have u0 : ¬ (48 : Int) ≤ (n : Int) := by omega
    have u1 : ¬ (97 : Int) ≤ (n : Int) := by omega
    have u2 : ¬ (65 : Int) ≤ (n : Int) := by omega
    have HD2 := Lib.hid hd2
    clear hd h hd2
    go_enter Tryd.func27, Tryd.ntmps27
    go_wp2
    go_ret
    exact ⟨by rw [HD2.out]; first | rfl | exact congrArg (fun x : Int => Ending.returned (.int .i64 x)) (by omega), rfl⟩
  · have hd2 : d = -1 := by rw [hd]; repeat (first | rw [if_pos (by omega)] | rw [if_neg (by omega)]); try omega
    have u0 : (48 : Int) ≤ (n : Int) := by omega
    have u1 : ¬ (n : Int) ≤ 57 := by omega
    have u2 : ¬ (97 : Int) ≤ (n : Int) := by omega
    have u3 : ¬ (65 : Int) ≤ (n : Int) := by omega
    have HD2 := Lib.hid hd2
    clear hd h hd2
    go_enter Tryd.func27, Tryd.ntmps27
    go_wp2
    go_ret
    exact ⟨by rw [HD2.out]; first | rfl | exact congrArg (fun x : Int => Ending.returned (.int .i64 x)) (by omega), rfl⟩
  · have hd2 : d = -1 := by rw [hd]; repeat (first | rw [if_pos (by omega)] | rw [if_neg (by omega)]); try omega
    have u0 : (48 : Int) ≤ (n : Int) := by omega
    have u1 : ¬ (n : Int) ≤ 57 := by omega
    have u2 : ¬ (97 : Int) ≤ (n : Int) := by omega
    have u3 : (65 : Int) ≤ (n : Int) := by omega
    have u4 : ¬ (n : Int) ≤ 70 := by omega
    have HD2 := Lib.hid hd2
    clear hd h hd2
    go_enter Tryd.func27, Tryd.ntmps27
    go_wp2
    go_ret
    exact ⟨by rw [HD2.out]; first | rfl | exact congrArg (fun x : Int => Ending.returned (.int .i64 x)) (by omega), rfl⟩
  · have hd2 : d = -1 := by rw [hd]; repeat (first | rw [if_pos (by omega)] | rw [if_neg (by omega)]); try omega
    have u0 : (48 : Int) ≤ (n : Int) := by omega
    have u1 : ¬ (n : Int) ≤ 57 := by omega
    have u2 : (97 : Int) ≤ (n : Int) := by omega
    have u3 : ¬ (n : Int) ≤ 102 := by omega
    have u4 : (65 : Int) ≤ (n : Int) := by omega
    have u5 : ¬ (n : Int) ≤ 70 := by omega
    have HD2 := Lib.hid hd2
    clear hd h hd2
    go_enter Tryd.func27, Tryd.ntmps27
    go_wp2
    go_ret
    exact ⟨by rw [HD2.out]; first | rfl | exact congrArg (fun x : Int => Ending.returned (.int .i64 x)) (by omega), rfl⟩
end Go.Proofs.YtcegmakkfhfalaaDoor
