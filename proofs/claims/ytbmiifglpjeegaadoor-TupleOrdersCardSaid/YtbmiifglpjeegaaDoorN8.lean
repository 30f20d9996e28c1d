/- TupleOrders walked. -/
import Derived.Test.YtbmiifglpjeegaaDoorN7
set_option linter.unusedVariables false
set_option linter.unusedSimpArgs false
namespace Go.Proofs.YtbmiifglpjeegaaDoor
open Go.RowKit Wd
theorem RA.left {w : World} {A : Option Addr} {x y : List Value} (h : RA w A (x ++ y)) : RA w A x := fun hne => by
  obtain ⟨b, o, rfl, hlt, hr⟩ := h (fun h0 => hne (List.append_eq_nil_iff.1 h0).1)
  exact ⟨b, o, rfl, hlt, fun j v hj => hr j v (by rw [List.getElem?_append_left (List.getElem?_eq_some_iff.1 hj).1]; exact hj)⟩
theorem SrA.takeP {w0 : World} {M : Mem} {L : List Ent} {A : Option Addr} {l : List Tu.Part} (h : SrA w0 M L A (pcs l)) (k : Nat) : SrA w0 M L A (pcs (l.take k)) := fun w' M' hM H => by
  have := h w' M' hM H
  rw [← List.take_append_drop k l, pcs_append] at this
  exact RA.left this
section
/-- What the law compares, at parts that may be. -/
theorem orders_plain {ps qs : List Tu.Part} (hp : ∀ p ∈ ps, Tu.ok p) (hq : ∀ p ∈ qs, Tu.ok p) :
    Op.bytesLess (Tu.enc ps) (Tu.enc qs) = decide (Tu.cmp ps qs < 0) ∧ (Tu.enc ps == Tu.enc qs) = decide (Tu.cmp ps qs = 0) ∧
      ((Tu.enc qs).take (Tu.enc ps).length == Tu.enc ps) = decide (ps <+: qs) ∧ (ps <+: qs → (Tu.enc ps).length ≤ (Tu.enc qs).length) := by
  obtain ⟨h1, h2, h3⟩ := Tu.keys hp hq
  refine ⟨by rw [Tu.bytesLess_tlt]; exact h1, ?_, ?_, fun h => (h3.2 h).length_le⟩
  · rw [← h2, Bool.eq_iff_iff]; simp
  · rw [Tu.begins, Bool.eq_iff_iff, decide_eq_true_eq, decide_eq_true_eq]
    exact h3
set_option maxRecDepth 100000 in
set_option maxHeartbeats 4000000 in
theorem tupleOrders_any {w : World} (hw : MaxI w) {A B : Option Addr} {c d n m : Nat} {ps qs : List Tu.Part} (hra : RA w A (pcs ps)) (hrb : RA w B (pcs qs)) (hn : n = ps.length) (hm : m = qs.length)
    (hpn : ∀ p ∈ ps, p.num < 18446744073709551616) (hqn : ∀ p ∈ qs, p.num < 18446744073709551616) (oA : (A = none → c = 0) ∧ n ≤ c) (oB : (B = none → d = 0) ∧ m ≤ d) :
    Calls Tryd.prog 6 #[.slice A n c, .slice B m d] w fun e w' => e = .returned (.bool true) ∧ Below w.heap.size w w' := by
  obtain ⟨M0, H, hx⟩ := start19 hw
  have sA : SrA w _ [] A (pcs ps) := SrA.of_in (In.oldRA H hra)
  have sB : SrA w _ [] B (pcs qs) := SrA.of_in (In.oldRA H hrb)
  have HLA := Lib.hid (light_any (c := c) H hn sA)
  have hlb := fun w' (H : St w w' M0 []) => light_any (c := d) H hm sB
  have HLB := Lib.hid hlb
  have HN := Lib.hid hn
  have HM := Lib.hid hm
  have HPN := Lib.hid hpn
  have HQN := Lib.hid hqn
  clear hlb hn hm hpn hqn
  go_enter Tryd.func6, Tryd.ntmps6
  go_wp2_with fail
  refine HLA.out.mono ?_
  rintro e w1 ⟨b, rfl, hb, H1⟩
  cases b with
  | false =>
    clear hb
    go_wp2_with fail
    refine (awake19_any H1 hx).mono ?_
    rintro e w2 ⟨rfl, H2⟩
    go_wp2
    go_ret
    exact ⟨rfl, H2.below⟩
  | true =>
    obtain ⟨hb1, hb2⟩ := hb rfl
    have htA : Tame ps := ⟨by omega, fun p hp => ⟨by have := hb2 p hp; omega, HPN.out p hp⟩⟩
    have HTA := Lib.hid htA
    have HB1 := Lib.hid hb1
    clear htA hb1 hb2 hb
    go_wp2_with fail
    refine (HLB.out _ H1).mono ?_
    rintro e w2 ⟨b, rfl, hb, H2⟩
    cases b with
    | false =>
      clear hb
      go_wp2_with fail
      refine (awake19_any H2 hx).mono ?_
      rintro e w3 ⟨rfl, H3⟩
      go_wp2
      go_ret
      exact ⟨rfl, H3.below⟩
    | true =>
      obtain ⟨hb1, hb2⟩ := hb rfl
      have htB : Tame qs := ⟨by omega, fun p hp => ⟨by have := hb2 p hp; omega, HQN.out p hp⟩⟩
      have HTB := Lib.hid htB
      have HB2 := Lib.hid hb1
      have hca := rcheck_any (c := c) H2 HN.out sA HTA.out
      have hcb := fun w' (H : St w w' M0 []) => rcheck_any (c := d) H HM.out sB htB
      have cca := check_cases ps
      have ccb := check_cases qs
      obtain ⟨CA, hCA⟩ : ∃ C, C = Tu.check ps := ⟨_, rfl⟩
      obtain ⟨CB, hCB⟩ : ∃ C, C = Tu.check qs := ⟨_, rfl⟩
      rw [← hCA] at hca cca
      rw [← hCB] at hcb ccb
      have HCA := Lib.hid hca
      have HCB := Lib.hid hcb
      have KA := Lib.hid hCA
      have KB := Lib.hid hCB
      clear htB hb1 hb2 hb hca hcb hCA hCB
      go_wp2_with fail
      refine HCA.out.mono ?_
      rintro e w3 ⟨rfl, H3⟩
      by_cases za : CA = 0
      · subst za
        clear cca
        go_wp2_with fail
        refine (HCB.out _ H3).mono ?_
        rintro e w4 ⟨rfl, H4⟩
        by_cases zb : CB = 0
        · subst zb
          have hok1 := check_ok KA.out.symm
          have hok2 := check_ok KB.out.symm
          have okA : ∀ p ∈ ps, Tu.ok p := fun p hp => ⟨List.all_eq_true.1 hok1.1 p hp, HPN.out p hp⟩
          have okB : ∀ p ∈ qs, Tu.ok p := fun p hp => ⟨List.all_eq_true.1 hok2.1 p hp, HQN.out p hp⟩
          have hea := fun w' (H : St w w' M0 []) => encode_any (c := c) H hx HN.out sA HTA.out
          have heb := fun w' (H : St w w' M0 []) => encode_any (c := d) H hx HM.out sB HTB.out
          have e1 : encS ps = Tu.enc ps := by unfold encS; rw [if_pos KA.out.symm]
          have e2 : encS qs = Tu.enc qs := by unfold encS; rw [if_pos KB.out.symm]
          rw [e1, ← KA.out] at hea
          rw [e2, ← KB.out] at heb
          have hcmp := fun w' (H : St w w' M0 []) => compare_any (c := c) (d := d) H HN.out HM.out sA sB (by have := HN.out; have := HB1.out; omega) (by have := HM.out; have := HB2.out; omega) oA oB hok1.1 hok2.1
          have hrc := fun w' (H : St w w' M0 []) => rcompare_any (c := c) (d := d) H HN.out HM.out sA sB (by have := HN.out; have := HB1.out; omega) (by have := HM.out; have := HB2.out; omega) okA okB
          have hsm := fun w' (H : St w w' M0 []) (h : n ≤ m) => rsame_any (A := B) (B := A) (c := d) (d := c) (ps := qs.take n) (qs := ps) H (show n = (qs.take n).length by rw [List.length_take]; have := HM.out; omega) HN.out (sB.takeP n) sA (by have := HN.out; have := HB1.out; omega)
          have e3 : decide (qs.take n = ps) = decide (ps <+: qs) := by rw [HN.out]; exact Tu.beginsP ps qs
          rw [e3] at hsm
          obtain ⟨g1, g2, g3, g4⟩ := orders_plain okA okB
          have g5 : ps <+: qs → n ≤ m := fun h => by rw [HN.out, HM.out]; exact h.length_le
          have hrng := Tu.cmp_rng ps qs
          have hla : (Tu.enc ps).length ≤ 1024 := hok1.2.2
          have hlb : (Tu.enc qs).length ≤ 1024 := hok2.2.2
          have hlA := HB1.out
          have hlB := HB2.out
          rw [← HN.out] at hlA
          rw [← HM.out] at hlB
          obtain ⟨EA, hEA⟩ : ∃ E, E = Tu.enc ps := ⟨_, rfl⟩
          obtain ⟨EB, hEB⟩ : ∃ E, E = Tu.enc qs := ⟨_, rfl⟩
          obtain ⟨C, hC⟩ : ∃ C, C = Tu.cmp ps qs := ⟨_, rfl⟩
          obtain ⟨Y, hY⟩ : ∃ Y, Y = decide (ps <+: qs) := ⟨_, rfl⟩
          have hYt : Y = true → ps <+: qs := fun h => by rw [hY] at h; exact of_decide_eq_true h
          rw [← hEA] at hea g1 g2 g3 g4 hla
          rw [← hEB] at heb g1 g2 g3 g4 hlb
          rw [← hC] at hcmp hrc g1 g2 hrng
          rw [← hY] at hsm g3
          have g4' : Y = true → EA.length ≤ EB.length := fun h => g4 (hYt h)
          have g5' : Y = true → n ≤ m := fun h => g5 (hYt h)
          have HEA := Lib.hid hea
          have HEB := Lib.hid heb
          have HCM := Lib.hid hcmp
          have HRC := Lib.hid hrc
          have HSM := Lib.hid hsm
          have HG4 := Lib.hid g4'
          have HG5 := Lib.hid g5'
          have hnd : n ≤ m → n ≤ d := fun h => Nat.le_trans h oB.2
          have HND := Lib.hid hnd
          clear hok1 hok2 okA okB hea heb e1 e2 hcmp hrc hsm e3 g4 g5 g4' g5' hEA hEB hC hY hYt oA oB hnd
          go_wp2_with fail
          refine (HEA.out _ H4).mono ?_
          rintro e w5 ⟨rfl, H5⟩
          go_wp2_with fail
          refine (HEB.out _ H5).mono ?_
          rintro e w6 ⟨rfl, H6⟩
          go_wp2_with fail
          refine (HCM.out _ H6).mono ?_
          rintro e w7 ⟨rfl, H7⟩
          go_wp2_with fail
          refine (HRC.out _ H7).mono ?_
          rintro e w8 ⟨rfl, H8⟩
          have hC3 : C = -1 ∨ C = 0 ∨ C = 1 := by omega
          have sl := fun (h : EA.length ≤ EB.length) w => str_to (P := Tryd.prog) (k := .i64) (i := (EA.length : Int)) Tryd.underlying9 EB EA.length h rfl w
          have hcase : (EA.length ≤ EB.length ∨ (¬ EA.length ≤ EB.length ∧ Y = false)) ∧ (n ≤ m ∨ (¬ n ≤ m ∧ Y = false)) := by
            refine ⟨?_, ?_⟩
            · rcases Nat.lt_or_ge EB.length EA.length with h | h
              · right
                refine ⟨by omega, ?_⟩
                cases Y with
                | false => rfl
                | true => have := HG4.out rfl; omega
              · exact .inl h
            · rcases Nat.lt_or_ge m n with h | h
              · right
                refine ⟨by omega, ?_⟩
                cases Y with
                | false => rfl
                | true => have := HG5.out rfl; omega
              · exact .inl h
          have HSL := Lib.hid sl
          have HCS := Lib.hid hcase
          clear hcase sl H1 H2 H3 H4 H5 H6 H7
          rcases hC3 with rfl | rfl | rfl
          all_goals
            simp only [show decide ((-1 : Int) < 0) = true from rfl, show decide ((0 : Int) < 0) = false from rfl, show decide ((1 : Int) < 0) = false from rfl, show decide ((-1 : Int) = 0) = false from rfl, show decide ((0 : Int) = 0) = true from rfl, show decide ((1 : Int) = 0) = false from rfl] at g1 g2
            go_upto_region 8 with fail
            rcases HCS.out.1 with z1 | ⟨z1, rfl⟩
            · have z1i : (EA.length : Int) ≤ (EB.length : Int) := by omega
              have sl := HSL.out z1
              go_upto_region 9 with fail
              clear sl
              rcases HCS.out.2 with z2 | ⟨z2, hz⟩
              · have z2i : (n : Int) ≤ (m : Int) := by omega
                have z3 := HND.out z2
                have z3i : (n : Int) ≤ (d : Int) := by omega
                have hs := HSM.out _ H8 z2
                have HS := Lib.hid hs
                clear hs
                go_wp2_with fail
                refine HS.out.mono ?_
                rintro e w9 ⟨rfl, H9⟩
                go_wp2_with fail
                refine (awake19_any H9 hx).mono ?_
                rintro e w10 ⟨rfl, H10⟩
                go_wp2
                go_ret
                exact ⟨rfl, H10.below⟩
              · first | subst hz | skip
                have z2i : ¬ (n : Int) ≤ (m : Int) := by omega
                go_wp2_with fail
                refine (awake19_any H8 hx).mono ?_
                rintro e w10 ⟨rfl, H10⟩
                go_wp2
                go_ret
                exact ⟨rfl, H10.below⟩
            · have z1i : ¬ (EA.length : Int) ≤ (EB.length : Int) := by omega
              go_upto_region 9 with fail
              rcases HCS.out.2 with z2 | ⟨z2, hz⟩
              · have z2i : (n : Int) ≤ (m : Int) := by omega
                have z3 := HND.out z2
                have z3i : (n : Int) ≤ (d : Int) := by omega
                have hs := HSM.out _ H8 z2
                have HS := Lib.hid hs
                clear hs
                go_wp2_with fail
                refine HS.out.mono ?_
                rintro e w9 ⟨rfl, H9⟩
                go_wp2_with fail
                refine (awake19_any H9 hx).mono ?_
                rintro e w10 ⟨rfl, H10⟩
                go_wp2
                go_ret
                exact ⟨rfl, H10.below⟩
              · first | subst hz | skip
                have z2i : ¬ (n : Int) ≤ (m : Int) := by omega
                go_wp2_with fail
                refine (awake19_any H8 hx).mono ?_
                rintro e w10 ⟨rfl, H10⟩
                go_wp2
                go_ret
                exact ⟨rfl, H10.below⟩
        · rcases ccb with rfl | rfl | rfl
          · exact absurd rfl zb
          all_goals
            clear zb
            go_wp2_with fail
            refine (awake19_any H4 hx).mono ?_
            rintro e w9 ⟨rfl, H9⟩
            go_wp2
            go_ret
            exact ⟨rfl, H9.below⟩
      · rcases cca with rfl | rfl | rfl
        · exact absurd rfl za
        all_goals
          clear za
          go_wp2_with fail
          refine (awake19_any H3 hx).mono ?_
          rintro e w9 ⟨rfl, H9⟩
          go_wp2
          go_ret
          exact ⟨rfl, H9.below⟩
end
end Go.Proofs.YtbmiifglpjeegaaDoor
