/- LogSums walked. -/
import Derived.Test.YtnaocjhhnlndmaaGl
set_option linter.unusedVariables false
set_option linter.unusedSimpArgs false
namespace Go.Proofs.Ytnaocjhhnlndmaa
open Go.RowKit Wd
theorem crc_nine : Lg.crc [49, 50, 51, 52, 53, 54, 55, 56, 57] = 3421780262 := by decide +kernel
set_option maxRecDepth 100000 in
theorem logSums_any {w : World} {A : Option Addr} {c : Nat} {b : List UInt8} (hb : RB w A b) :
    Calls Try.prog 3 #[.slice A b.length c] w fun e w' => e = .returned (.bool true) ∧ Below w.heap.size w w' := by
  have H := St.start w
  have kc := fun (w : World) (C : Array Value) (n c : Nat) => Lib.run_convert_bytes_const (P := Try.prog) w 22 5 C n c Try.underlying22 Try.underlying5
  by_cases hbig : 4000 < b.length
  · have q1 : (4000 : Int) < (b.length : Int) := by omega
    clear hbig
    go_enter Try.func3, Try.ntmps3
    go_wp2_with fail
    refine (awake18_any H).mono ?_
    rintro e w1 ⟨rfl, hbe⟩
    go_wp2
    go_ret
    exact ⟨rfl, hbe⟩
  · have q1 : ¬ (4000 : Int) < (b.length : Int) := by omega
    have hs1 := sum_any (c := c) hb (by omega)
    have hs2 := rsum_any (c := c) hb (by omega)
    obtain ⟨M1, hM1, H1, in1⟩ := H.constBytes [49, 50, 51, 52, 53, 54, 55, 56, 57] 5 (9, 10)
    have hs3 := sum_any (c := 9) (in1.now H1) (by decide)
    rw [crc_nine] at hs3
    obtain ⟨C, hC⟩ : ∃ C, C = Lg.crc b := ⟨_, rfl⟩
    rw [← hC] at hs1 hs2
    have HS1 := Lib.hid hs1
    have HS2 := Lib.hid hs2
    have HS3 := Lib.hid hs3
    clear hbig hs1 hs2 hs3 hC
    go_enter Try.func3, Try.ntmps3
    go_wp2_with fail
    refine HS1.out.mono ?_
    rintro e w1 ⟨rfl, rfl⟩
    go_wp2_with fail
    refine HS2.out.mono ?_
    rintro e w1 ⟨rfl, rfl⟩
    go_wp2_with fail
    refine HS3.out.mono ?_
    rintro e w1 ⟨rfl, rfl⟩
    go_wp2_with fail
    refine (awake18_any H1).mono ?_
    rintro e w1 ⟨rfl, hbe⟩
    go_wp2
    go_ret
    exact ⟨rfl, hbe⟩
end Go.Proofs.Ytnaocjhhnlndmaa
