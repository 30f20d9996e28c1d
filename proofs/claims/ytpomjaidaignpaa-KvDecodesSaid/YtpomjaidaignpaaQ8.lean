/- KvDecodes walked. -/
import Derived.Test.YtpomjaidaignpaaG3
import Derived.Test.YtpomjaidaignpaaG8
import Derived.Test.YtpomjaidaignpaaK4
set_option linter.unusedVariables false
set_option linter.unusedSimpArgs false
namespace Go.Proofs.Ytpomjaidaignpaa
open Go.RowKit Wd
set_option maxRecDepth 100000 in
set_option maxHeartbeats 1000000 in
theorem kvDecodes_any {w : World} {A : Option Addr} {c n : Nat} {b : List UInt8} (hb : RB w A b) (hn : n = b.length) (hA : A = none → c = 0) (hc : n ≤ c) :
    Calls Try.prog 4 #[.slice A n c] w fun e w' => e = .returned (.bool true) ∧ Below w.heap.size w w' := by
  have H := St.start w
  by_cases h7 : 70000 < n
  · have q1 : (70000 : Int) < (n : Int) := by omega
    have HAW := Lib.hid (awake20_any H)
    clear h7 hn hb hA hc H
    go_enter Try.func4, Try.ntmps4
    go_wp2_with fail
    refine HAW.out.mono ?_
    rintro e w1 ⟨rfl, H1⟩
    go_wp2
    go_ret
    exact ⟨rfl, H1.below⟩
  · have q1 : ¬ (70000 : Int) < (n : Int) := by omega
    have hin := In.oldRB H hb
    have H1 := H.lit0 5
    have HH := Lib.hid (And.intro hin (And.intro hn (And.intro hA (And.intro hc h7))))
    have hrb := Lib.hid (hin.now H1)
    clear hin hn hA hc h7 hb H
    go_enter Try.func4, Try.ntmps4
    go_wp2_with (at_builtin; refine wpList_append_st H1 (by rfl) (.tmp 12) (.tmp 13) 25 (by rfl) Try.info5 Try.underlying25 (by rfl) A n c b (by rfl) HH.out.2.1 HH.out.2.2.1 hrb.out (by have := HH.out.2.2.2.2; omega) ?_)
    intro v1 w1 H2
    obtain ⟨A1, c1, rfl, hc1, hA1⟩ := H2.shape' 0 rfl
    have H2b : St w w1 _ [er 5 1 (.slice A1 n c1) n (bv b)] := H2
    obtain ⟨M1, hM1, H3, hin1⟩ := H2b.keepRow
    have hd := decode_any H3 HH.out.2.1 hin1 hc1 (by have := HH.out.2.2.2.2; omega)
    have HD := Lib.hid hd
    have HM1 := Lib.hid hM1
    clear hd hM1 hin1 hc1 hA1 H3 H2 H2b hrb H1
    go_wp2_with fail
    refine HD.out.mono ?_
    rintro e w2 (⟨hno, rfl, H4⟩ | ⟨ps, v, M2, hso, rfl, hM2, hps, H4⟩)
    · have hr := rdecode_any H4 (A := A) (c := c) HH.out.2.1 (HH.out.1.le HM1.out) HH.out.2.2.2.1 (by have := HH.out.2.2.2.2; omega)
      have HR := Lib.hid hr
      have HNO := Lib.hid hno
      clear hr hno H4 HD
      go_wp2_with fail
      refine HR.out.mono ?_
      rintro e w3 (⟨-, rfl, H5⟩ | ⟨ps, v, M2, hso, -⟩)
      · have HAW := Lib.hid (awake20_any H5)
        clear HR H5
        go_wp2_with fail
        refine HAW.out.mono ?_
        rintro e w4 ⟨rfl, H6⟩
        go_wp2
        go_ret
        exact ⟨rfl, H6.below⟩
      · rw [HNO.out] at hso
        cases hso
    · obtain ⟨A4, c4, rfl, -⟩ := H4.shape 0 rfl
      have hr := rdecode_any H4 (A := A) (c := c) HH.out.2.1 (HH.out.1.le (HM1.out.trans hM2)) HH.out.2.2.2.1 (by have := HH.out.2.2.2.2; omega)
      have HR := Lib.hid hr
      have HSO := Lib.hid (And.intro hso hps)
      clear hr hso hps hM2 H4 HD
      go_wp2_with fail
      refine HR.out.mono ?_
      rintro e w3 (⟨hno, -, -⟩ | ⟨qs, v, M3, hso, rfl, hM3, hqs, H5⟩)
      · rw [HSO.out.1] at hno
        cases hno
      · rw [HSO.out.1] at hso
        injection hso with hso
        have hql : qs.length = ps.length := by simpa using (congrArg List.length hso).symm
        rw [hql] at H5
        obtain ⟨A5, c5, rfl, -⟩ := H5.shape 0 rfl
        have hpl : ps.length ≤ 1000000 := by
          have := (Kv.check_zero (Kv.decode_check HSO.out.1).1).2.1
          rw [List.length_map] at this
          omega
        have hsa := same_acts H5 (A1 := A4) (A2 := A5) (c1 := c4) (c2 := c5) (n := ps.length) rfl hso (SrA.row 1 rfl) (SrA.row 0 rfl) (HSO.out.2.le hM3) hqs hpl
        have HSA := Lib.hid hsa
        clear hsa hql hso hM3 hqs hpl H5 HR
        go_wp2_with fail
        refine HSA.out.mono ?_
        rintro e w4 ⟨rfl, H6⟩
        have HAW := Lib.hid (awake20_any H6)
        clear HSA H6
        go_wp2_with fail
        refine HAW.out.mono ?_
        rintro e w5 ⟨rfl, H7⟩
        go_wp2
        go_ret
        exact ⟨rfl, H7.below⟩
end Go.Proofs.Ytpomjaidaignpaa
