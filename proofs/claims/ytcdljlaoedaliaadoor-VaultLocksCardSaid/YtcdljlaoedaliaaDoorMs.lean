/- The contract of mac.Same. -/
import Derived.Test.YtcdljlaoedaliaaDoorChecked
import Derived.Test.YtcdljlaoedaliaaDoorSl
import Derived.Test.YtcdljlaoedaliaaDoorB8
set_option linter.unusedVariables false
set_option linter.unusedSimpArgs false
namespace Go.Proofs.YtcdljlaoedaliaaDoor
open Go.RowKit Wd
theorem take_eq_succ (a b : List UInt8) (i : Nat) (ha : i < a.length) (hb : i < b.length) : a.take (i + 1) = b.take (i + 1) ↔ a.take i = b.take i ∧ a[i] = b[i] := by
  rw [List.take_succ_eq_append_getElem ha, List.take_succ_eq_append_getElem hb]
  constructor
  · intro h
    have h1 := List.append_inj h (by rw [List.length_take, List.length_take]; omega)
    exact ⟨h1.1, by simpa using h1.2⟩
  · rintro ⟨h1, h2⟩
    rw [h1, h2]
section
variable {w : World}
set_option maxRecDepth 100000 in
set_option maxHeartbeats 1000000 in
theorem same_any {A B : Option Addr} {c d : Nat} {a b : List UInt8} (hA : RB w A a) (hB : RB w B b) (hac : a.length ≤ c) (hbd : b.length ≤ d) (hn : a.length ≤ 9223372036854775807) :
    Calls Tryd.prog 63 #[.slice A a.length c, .slice B b.length d] w fun e w' => e = .returned (.bool (decide (a = b))) ∧ w' = w := by
  by_cases hl : a.length = b.length
  · have q0 : ((a.length : Int) != (b.length : Int)) = false := by simp; omega
    have HL := Lib.hid hl
    clear hl
    go_enter Tryd.func63, Tryd.ntmps63
    go_wp2
    go_loopw [5, 15] (fun x i wr => ∃ (k : Nat) (u : UInt8), k ≤ a.length ∧ i = .int .i64 k ∧ x = .int .u8 (u.toNat : Int) ∧ (u = 0 ↔ a.take k = b.take k) ∧ wr = w) (fun _ i _ => a.length - (intOf i).toNat)
    case atStart => exact ⟨0, 0, by omega, rfl, rfl, by simp, rfl⟩
    case round =>
      obtain ⟨k, u, hk, rfl, rfl, hu, rfl⟩ := hrel
      have hl := HL.out
      by_cases hlt : k < a.length
      · obtain ⟨ba, oa, rfl, ca⟩ := hA.at k hlt
        obtain ⟨bb, ob, rfl, cb⟩ := hB.at k (by omega)
        have ht := take_eq_succ a b k hlt (by omega)
        obtain ⟨x, hx⟩ : ∃ x, x = a[k] := ⟨_, rfl⟩
        obtain ⟨y, hy⟩ : ∃ y, y = b[k]'(by omega) := ⟨_, rfl⟩
        rw [← hx] at ca
        rw [← hy] at cb
        rw [← hx, ← hy] at ht
        have e1 := B8.xor_ x y
        obtain ⟨z, hz⟩ : ∃ z, z = x ^^^ y := ⟨_, rfl⟩
        rw [← hz] at e1
        have e2 := B8.or_ u z
        obtain ⟨v, hv⟩ : ∃ v, v = u ||| z := ⟨_, rfl⟩
        rw [← hv] at e2
        have hvz : v = 0 ↔ a.take (k + 1) = b.take (k + 1) := by rw [hv, B8.or_zero, hz, B8.xor_zero, hu, ht]
        have hkb : (k : Int) < (b.length : Int) := by omega
        have HV := Lib.hid hvz
        have HLT := Lib.hid hlt
        clear hx hy hz hv hvz hu ht hl
        go_wp2
        exact ⟨⟨k + 1, v, by have := HLT.out; omega, by go_num, rfl, HV.out, by trivial⟩, by have := HLT.out; simp [intOf]; omega⟩
      · obtain rfl : k = a.length := by omega
        rw [List.take_length, hl, List.take_length] at hu
        clear hl
        by_cases hab : a = b
        · obtain rfl : u = 0 := hu.2 hab
          have HAB := Lib.hid hab
          clear hu hab
          go_wp2
          go_ret
          exact ⟨by rw [decide_eq_true HAB.out]; rfl, rfl⟩
        · have hu0 : (u.toNat : Int) ≠ 0 := fun h0 => hab (hu.1 (by apply UInt8.toNat_inj.1; simpa using h0))
          have hf : ((u.toNat : Int) == 0) = false := by simpa using hu0
          have HAB := Lib.hid hab
          clear hu hab hu0
          go_wp2
          go_ret
          exact ⟨by rw [decide_eq_false HAB.out]; rfl, rfl⟩
  · have hab : a ≠ b := fun h => hl (by rw [h])
    have h1 : ((a.length : Int) != (b.length : Int)) = true := by simp; omega
    have HAB := Lib.hid hab
    clear hl hab
    go_enter Tryd.func63, Tryd.ntmps63
    go_wp2
    go_ret
    exact ⟨by rw [decide_eq_false HAB.out]; rfl, rfl⟩
end
end Go.Proofs.YtcdljlaoedaliaaDoor
