/- TupleDecodes and TupleCodes walked. -/
import Derived.Test.YtbmiifglpjeegaaDoorJr
set_option linter.unusedVariables false
set_option linter.unusedSimpArgs false
namespace Go.Proofs.YtbmiifglpjeegaaDoor
open Go.RowKit Wd
theorem start19 {w : World} (hw : MaxI w) : ∃ M0, St w w M0 [] ∧ In M0 MaxI := by
  obtain ⟨m, hm⟩ := hw
  exact ⟨_, St.start w, fun W hW => ⟨m, In.oldCell (St.start w) hm W hW⟩⟩
section
set_option maxRecDepth 100000 in
set_option maxHeartbeats 1000000 in
theorem tupleDecodes_any {w : World} (hw : MaxI w) (s : List UInt8) :
    Calls Tryd.prog 3 #[.string (str s)] w fun e w' => e = .returned (.bool true) ∧ Below w.heap.size w w' := by
  obtain ⟨M0, H, hx⟩ := start19 hw
  by_cases h1 : 3000 < s.length
  · have q1 : (3000 : Int) < (s.length : Int) := by omega
    clear h1
    go_enter Tryd.func3, Tryd.ntmps3
    go_wp2_with fail
    refine (awake19_any H hx).mono ?_
    rintro e w1 ⟨rfl, H1⟩
    go_wp2
    go_ret
    exact ⟨rfl, H1.below⟩
  · have q1 : ¬ (3000 : Int) < (s.length : Int) := by omega
    by_cases h2 : 1024 < s.length
    · have q2 : (1024 : Int) < (s.length : Int) := by omega
      have hd := fun w => decode_long (w := w) s h2
      have HD := Lib.hid hd
      clear h1 h2 hd
      go_enter Tryd.func3, Tryd.ntmps3
      go_wp2_with fail
      refine (HD.out _).mono ?_
      rintro e w1 ⟨rfl, rfl⟩
      go_wp2_with fail
      refine (awake19_any H hx).mono ?_
      rintro e w1 ⟨rfl, H1⟩
      go_wp2
      go_ret
      exact ⟨rfl, H1.below⟩
    · have q2 : ¬ (1024 : Int) < (s.length : Int) := by omega
      have hd := decode_any H s (by omega)
      have hrd := fun w' L' (H : St w w' M0 L') => rdecode_any H s (by omega)
      have HD := Lib.hid hd
      have HRD := Lib.hid hrd
      clear h1 h2 hd hrd
      go_enter Tryd.func3, Tryd.ntmps3
      go_wp2_with fail
      refine HD.out.mono ?_
      rintro e w1 (⟨l, v, hk, rfl, H1⟩ | ⟨hno, rfl, H1⟩)
      · obtain ⟨A1, c1, rfl, hc1⟩ := H1.shape 0 rfl
        have HK := Lib.hid hk
        clear hk
        go_wp2_with fail
        refine (HRD.out _ _ H1).mono ?_
        rintro e w2 (⟨l2, v2, hk2, rfl, H2⟩ | ⟨hno, -, -⟩)
        · obtain rfl : l2 = l := hk2.one HK.out
          obtain ⟨A2, c2, rfl, hc2⟩ := H2.shape 0 rfl
          have hl8 : l2.length ≤ 8 := hk2.2.1
          have hsame := rsame_any H2 (A := A1) (B := A2) (c := c1) (d := c2) (ps := l2) (qs := l2) rfl rfl (SrA.row 1 rfl) (SrA.row 0 rfl) (by omega)
          rw [decide_eq_true (rfl : l2 = l2)] at hsame
          have HSAME := Lib.hid hsame
          clear hsame hk2
          go_wp2_with fail
          refine HSAME.out.mono ?_
          rintro e w3 ⟨rfl, H3⟩
          go_wp2_with fail
          refine (awake19_any H3 hx).mono ?_
          rintro e w4 ⟨rfl, H4⟩
          go_wp2
          go_ret
          exact ⟨rfl, H4.below⟩
        · exact absurd HK.out (hno l)
      · have HNO := Lib.hid hno
        clear hno
        go_wp2_with fail
        refine (HRD.out _ _ H1).mono ?_
        rintro e w2 (⟨l2, v2, hk2, -, -⟩ | ⟨hno, rfl, H2⟩)
        · exact absurd hk2 (HNO.out l2)
        · clear hno
          go_wp2_with fail
          refine (awake19_any H2 hx).mono ?_
          rintro e w4 ⟨rfl, H4⟩
          go_wp2
          go_ret
          exact ⟨rfl, H4.below⟩
theorem check_cases (l : List Tu.Part) : Tu.check l = 0 ∨ Tu.check l = 1 ∨ Tu.check l = 3 := by
  unfold Tu.check
  split
  · split
    · exact .inr (.inr rfl)
    · exact .inl rfl
  · exact .inr (.inl rfl)
theorem check_ok {l : List Tu.Part} (h : Tu.check l = 0) : l.all Tu.may = true ∧ l.length ≤ 8 ∧ (Tu.enc l).length ≤ 1024 := by
  unfold Tu.check at h
  split at h
  · split at h
    · cases h
    · rename_i h1 h2
      exact ⟨h1, by omega, by omega⟩
  · cases h
theorem check_key {l : List Tu.Part} (h : Tu.check l = 0) (ht : ∀ p ∈ l, p.num < 18446744073709551616) : Tu.Key (Tu.enc l) l :=
  ⟨fun p hp => ⟨List.all_eq_true.1 (check_ok h).1 p hp, ht p hp⟩, (check_ok h).2.1, rfl⟩
set_option maxRecDepth 100000 in
set_option maxHeartbeats 1000000 in
theorem tupleCodes_any {w : World} (hw : MaxI w) {A : Option Addr} {c n : Nat} {l : List Tu.Part} (hr : RA w A (pcs l)) (hn : n = l.length) (hnum : ∀ p ∈ l, p.num < 18446744073709551616) :
    Calls Tryd.prog 4 #[.slice A n c] w fun e w' => e = .returned (.bool true) ∧ Below w.heap.size w w' := by
  obtain ⟨M0, H, hx⟩ := start19 hw
  have s0 : SrA w _ [] A (pcs l) := SrA.of_in (In.oldRA H hr)
  have hli := light_any (c := c) H hn s0
  have HLI := Lib.hid hli
  have HN := Lib.hid hn
  have HNUM := Lib.hid hnum
  clear hli hn hnum
  go_enter Tryd.func4, Tryd.ntmps4
  go_wp2_with fail
  refine HLI.out.mono ?_
  rintro e w1 ⟨b, rfl, hb, H1⟩
  cases b with
  | false =>
    clear hb
    go_wp2_with fail
    refine (awake19_any H1 hx).mono ?_
    rintro e w2 ⟨rfl, H2⟩
    go_wp2
    go_ret
    exact ⟨rfl, H2.below⟩
  | true =>
    obtain ⟨hb1, hb2⟩ := hb rfl
    have ht : Tame l := ⟨by omega, fun p hp => ⟨by have := hb2 p hp; omega, HNUM.out p hp⟩⟩
    have henc := fun w' (H : St w w' M0 []) => encode_any (c := c) H hx HN.out s0 ht
    have hck := fun w' (H : St w w' M0 []) => check_any (c := c) H hx HN.out s0 ht
    have hrck := fun w' (H : St w w' M0 []) => rcheck_any (c := c) H HN.out s0 ht
    have hrenc := fun w' L' (H : St w w' M0 L') (hl : SrA w M0 L' A (pcs l)) => rencode_any (c := c) H HN.out hl ht
    have hok := fun h => check_ok (l := l) h
    have hkey := fun h => check_key (l := l) h HNUM.out
    have hcc := check_cases l
    obtain ⟨C, hC⟩ : ∃ C, C = Tu.check l := ⟨_, rfl⟩
    obtain ⟨E, hE⟩ : ∃ E, E = Tu.enc l := ⟨_, rfl⟩
    obtain ⟨S, hS⟩ : ∃ S, S = encS l := ⟨_, rfl⟩
    have hS2 : S = if C = 0 then E else [] := by rw [hS, hC, hE]; rfl
    rw [← hC, ← hS] at henc
    rw [← hC] at hck hrck hcc
    rw [← hE] at hrenc
    have hkey2 : C = 0 → Tu.Key E l ∧ E.length ≤ 1024 := fun h => by rw [hE]; exact ⟨hkey (by rw [← hC]; exact h), (hok (by rw [← hC]; exact h)).2.2⟩
    have HENC := Lib.hid henc
    have HCK := Lib.hid hck
    have HRCK := Lib.hid hrck
    have HRENC := Lib.hid hrenc
    have HKEY := Lib.hid hkey2
    have HS := Lib.hid hS2
    have HB := Lib.hid hb1
    clear henc hck hrck hrenc hok hkey hC hE hS hS2 hkey2 hb1 hb2 hb ht
    go_wp2_with fail
    refine (HENC.out _ H1).mono ?_
    rintro e w2 ⟨rfl, H2⟩
    go_wp2_with fail
    refine (HRCK.out _ H2).mono ?_
    rintro e w3 ⟨rfl, H3⟩
    go_wp2_with fail
    refine (HCK.out _ H3).mono ?_
    rintro e w4 ⟨rfl, H4⟩
    rcases hcc with rfl | rfl | rfl
    · have hs := HS.out
      simp only [if_true] at hs
      subst hs
      obtain ⟨hk, hE1⟩ := HKEY.out rfl
      have hdec := decode_any H4 S hE1
      have HK := Lib.hid hk
      have HDEC := Lib.hid hdec
      clear hdec hk
      go_wp2_with fail
      refine HDEC.out.mono ?_
      rintro e w5 (⟨l2, v, hk2, rfl, H5⟩ | ⟨hno, -, -⟩)
      · obtain rfl : l2 = l := hk2.one HK.out
        obtain ⟨A5, c5, rfl, hc5⟩ := H5.shape 0 rfl
        clear hk2
        go_wp2_with fail
        refine (HRENC.out _ _ H5 (s0.cons _)).mono ?_
        rintro e w6 ⟨rfl, H6⟩
        have hl8 : l2.length ≤ 40 := HB.out
        have hsame := rsame_any H6 (A := A5) (B := A) (c := c5) (d := c) (n := l2.length) (m := n) (ps := l2) (qs := l2) rfl HN.out (SrA.row 0 rfl) (s0.cons _) (by omega)
        rw [decide_eq_true (rfl : l2 = l2)] at hsame
        have HSAME := Lib.hid hsame
        clear hsame
        go_wp2_with fail
        refine HSAME.out.mono ?_
        rintro e w7 ⟨rfl, H7⟩
        go_wp2_with fail
        refine (awake19_any H7 hx).mono ?_
        rintro e w8 ⟨rfl, H8⟩
        go_wp2
        go_ret
        exact ⟨rfl, H8.below⟩
      · exact absurd HK.out (hno l)
    · have hs := HS.out
      simp only [Nat.one_ne_zero, if_false] at hs
      subst hs
      go_wp2_with fail
      refine (awake19_any H4 hx).mono ?_
      rintro e w8 ⟨rfl, H8⟩
      go_wp2
      go_ret
      exact ⟨rfl, H8.below⟩
    · have hs := HS.out
      simp only [Nat.succ_ne_zero, if_false] at hs
      subst hs
      go_wp2_with fail
      refine (awake19_any H4 hx).mono ?_
      rintro e w8 ⟨rfl, H8⟩
      go_wp2
      go_ret
      exact ⟨rfl, H8.below⟩
end
end Go.Proofs.YtbmiifglpjeegaaDoor
