/- DueApart walked. -/
import Derived.Test.YtgnlkcdpklgikaaV5
set_option linter.unusedVariables false
set_option linter.unusedSimpArgs false
namespace Go.Proofs.Ytgnlkcdpklgikaa
open Go.RowKit Wd Go.Sort
open Du (Due)
/-- A slice value that reads as the dues R wherever G holds. -/
def Got (w0 : World) (M : Mem) (G : List Ent) (R : List Due) (a : Value) : Prop := ∃ A c, a = .slice A R.length c ∧ SrA w0 M G A (dcs R)
/-- What the outer loop keeps. -/
def Apart (w : World) (base : List Ent) (gg : Nat) (ty : TypeId) (R : List Due) (k : Nat) (wr : World) : Prop :=
  ∃ (a b : Value) (G : List Ent), St w wr (w.heap[·]?) (eb gg ty [a, b] :: G) ∧ (∀ w' M', St w w' M' G → St w w' M' base) ∧ (1 ≤ k → Got w (w.heap[·]?) G R a) ∧ (2 ≤ k → Got w (w.heap[·]?) G R b)
theorem Got.cons {w0 : World} {M : Mem} {G : List Ent} {R : List Due} {a : Value} (h : Got w0 M G R a) (e : Ent) : Got w0 M (e :: G) R a := by
  obtain ⟨A, c, h1, h2⟩ := h
  exact ⟨A, c, h1, h2.cons e⟩
section
set_option maxRecDepth 100000 in
set_option maxHeartbeats 4000000 in
theorem dueApart_any {w : World} {A B C : Option Addr} {c n d m d' m' : Nat} {l o0 o1 : List Due} (hr : RA w A (dcs l)) (hn : n = l.length) (hB : RA w B (dcs o0)) (hm : m = o0.length) (hC : RA w C (dcs o1)) (hm' : m' = o1.length) (x0 x1 : Int) :
    Calls Try.prog 6 #[.slice A n c, .agg #[.slice B m d, .slice C m' d'], .agg #[.int .i64 x0, .int .i64 x1]] w fun e w' => e = .returned (.bool true) ∧ Below w.heap.size w w' := by
  have H0 := St.start w
  have sA : ∀ F, SrA w (w.heap[·]?) F A (dcs l) := fun F => SrA.of_in (In.oldRA H0 hr)
  have sB : ∀ F, SrA w (w.heap[·]?) F B (dcs o0) := fun F => SrA.of_in (In.oldRA H0 hB)
  have sC : ∀ F, SrA w (w.heap[·]?) F C (dcs o1) := fun F => SrA.of_in (In.oldRA H0 hC)
  have H1 := H0.new [.slice B m d, .slice C m' d'] 43
  have H2 := H1.newg [.int .i64 x0, .int .i64 x1] 33 (g := w.heap.size + 1) (by simp)
  clear H1 H0
  have aw : ∀ w' L', St w w' (w.heap[·]?) L' → Calls Try.prog 7 #[] w' fun e w' => e = .returned (.bool true) ∧ St w w' (w.heap[·]?) L' := fun w' L' H => awake26_any H
  have AW := Lib.hid aw
  have HN := Lib.hid hn
  have HM := Lib.hid hm
  have HM' := Lib.hid hm'
  clear aw hn hm hm' hr hB hC
  have hguard : 64 < n ∨ (n ≤ 64 ∧ 200 < m) ∨ (n ≤ 64 ∧ m ≤ 200 ∧ 200 < m') ∨ (n ≤ 64 ∧ m ≤ 200 ∧ m' ≤ 200) := by omega
  have c4a := H2.cell 1 rfl 0
  have c4b := H2.cell 1 rfl 1
  simp only [List.getElem?_cons_succ, List.getElem?_cons_zero] at c4a c4b
  rcases hguard with g1 | ⟨g1, g2⟩ | ⟨g1, g2, g3⟩ | ⟨g1, g2, g3⟩
  · have q1 : (64 : Int) < (n : Int) := by omega
    clear g1
    go_enter Try.func6, Try.ntmps6
    go_wp2_with fail
    refine (AW.out _ _ H2).mono ?_
    rintro e w1 ⟨rfl, H3⟩
    go_wp2
    go_ret
    exact ⟨rfl, H3.below⟩
  · have q1 : ¬ (64 : Int) < (n : Int) := by omega
    have q2 : (200 : Int) < (m : Int) := by omega
    clear g1 g2
    go_enter Try.func6, Try.ntmps6
    go_wp2_with fail
    refine (AW.out _ _ H2).mono ?_
    rintro e w1 ⟨rfl, H3⟩
    go_wp2
    go_ret
    exact ⟨rfl, H3.below⟩
  · have q1 : ¬ (64 : Int) < (n : Int) := by omega
    have q2 : ¬ (200 : Int) < (m : Int) := by omega
    have q3 : (200 : Int) < (m' : Int) := by omega
    clear g1 g2 g3
    go_enter Try.func6, Try.ntmps6
    go_wp2_with fail
    refine (AW.out _ _ H2).mono ?_
    rintro e w1 ⟨rfl, H3⟩
    go_wp2
    go_ret
    exact ⟨rfl, H3.below⟩
  · have q1 : ¬ (64 : Int) < (n : Int) := by omega
    have q2 : ¬ (200 : Int) < (m : Int) := by omega
    have q3 : ¬ (200 : Int) < (m' : Int) := by omega
    have c5b := H2.cell 0 rfl 1
    simp only [List.getElem?_cons_succ, List.getElem?_cons_zero] at c5b
    have hx0 : IntKind.i64.wrap x1 = x1 ∨ True := .inr trivial
    have HX := H2.newg [.slice none 0 0, .slice none 0 0] 43 (g := w.heap.size + 2) (by simp)
    obtain ⟨R, hR⟩ : ∃ R, R = Du.sel x1.toNat ((Du.of 5 l).filter fun x => !decide (x0 < x.a)) := ⟨_, rfl⟩
    have HR := Lib.hid hR
    clear hR
    go_enter Try.func6, Try.ntmps6
    go_wp2
    go_loopw [9] (fun i wr => ∃ k : Nat, k ≤ 2 ∧ i = .int .i64 k ∧ Apart w [eb (w.heap.size + 1) 33 [.int .i64 x0, .int .i64 x1], eb w.heap.size 43 [.slice B m d, .slice C m' d']] (w.heap.size + 2) 43 R k wr) (fun i _ => 2 - (intOf i).toNat)
    case atStart => exact ⟨0, by omega, rfl, _, _, _, HX, fun _ _ h => h, fun h => absurd h (by omega), fun h => absurd h (by omega)⟩
    case round =>
      obtain ⟨k, hk, rfl, a, b, G, H3, hG, ha, hb⟩ := hrel
      clear HX H2 c4a c4b c5b
      by_cases hlt : k < 2
      · have r1 : (k : Int) < 2 := by omega
        have HK := Lib.hid hlt
        have H4 := hG _ _ H3.d0
        have hov : ∃ (B' : Option Addr) (m0 d0 : Nat) (os : List Due), [Value.slice B m d, .slice C m' d'][k]? = some (.slice B' m0 d0) ∧ m0 ≤ 200 ∧ m0 = os.length ∧ ∀ F, SrA w (w.heap[·]?) F B' (dcs os) := by
          rcases (by omega : k = 0 ∨ k = 1) with rfl | rfl
          · exact ⟨B, m, d, o0, rfl, g2, HM.out, sB⟩
          · exact ⟨C, m', d', o1, rfl, g3, HM'.out, sC⟩
        obtain ⟨B', m0, d0, os, hos, hm0, hml, sO⟩ := hov
        have HML := Lib.hid hml
        have HOS := Lib.hid hos
        have hof := fun W F (H : St w W (w.heap[·]?) F) => of_any (c := c) H HN.out (by omega) (sA F) 5
        have HOF := Lib.hid hof
        have hGc : ∀ W (F : List Ent), (∀ w' M', St w w' M' F → St w w' M' G) → St w W (w.heap[·]?) F → St w W (w.heap[·]?) [eb (w.heap.size + 1) 33 [.int .i64 x0, .int .i64 x1], eb w.heap.size 43 [.slice B m d, .slice C m' d']] := fun W F h hF => hG _ _ (h _ _ hF)
        have HG := Lib.hid hG
        have HA := Lib.hid ha
        have HB := Lib.hid hb
        clear hof hml hos hlt hGc ha hb H4
        go_wp2_with fail
        refine (HOF.out _ _ H3).mono ?_
        rintro e w1 ⟨v, rfl, H5⟩
        obtain ⟨A1, c1, rfl, hc1, hA1⟩ := H5.shape' 0 rfl
        clear hG H3
        have hl5 : (Du.of 5 l).length ≤ 64 := Nat.le_trans (List.length_filter_le _ _) (by have := HN.out; omega)
        have hoo : Du.of 5 (Du.of 5 l) = Du.of 5 l := by simp [Du.of]
        have HL5 := Lib.hid hl5
        have HOO := Lib.hid hoo
        have HA1 := Lib.hid hA1
        clear hl5 hoo hA1
        go_wp2
        go_loopw [10, 11] (fun v j wr => ∃ (A2 : Option Addr) (c2 j' : Nat) (X : List Due), j' ≤ m0 ∧ v = .slice A2 X.length c2 ∧ j = .int .i64 j' ∧ (A2 = none → c2 = 0) ∧ X.length ≤ 64 + j' ∧ Du.of 5 X = Du.of 5 l ∧ St w wr (w.heap[·]?) (er 40 3 (.slice A2 X.length c2) X.length (dcs X) :: eb (w.heap.size + 2) 43 [a, b] :: G)) (fun _ j _ => m0 - (intOf j).toNat)
        case atStart => exact ⟨A1, c1, 0, _, by omega, rfl, rfl, HA1.out, HL5.out, HOO.out, H5⟩
        case round =>
          obtain ⟨A2, c2, j, X, hj, rfl, rfl, hA2, hX, hX5, H6⟩ := hrel
          have H7 := HG.out _ _ H6.d0.d0
          have ck := (H7.cell 1 rfl k).trans HOS.out
          clear H5
          have HA2 := Lib.hid hA2
          have HX5 := Lib.hid hX5
          have HXX := Lib.hid hX
          clear hA2 hX5 hX
          by_cases hlt : j < m0
          · have r2 : (j : Int) < (m0 : Int) := by omega
            have hj1 : j < os.length := by have := HML.out; omega
            obtain ⟨b0, o0', rfl, hrg⟩ := RA.at3 ((sO _).now H6) j hj1
            have hadd := fun y => add_any (c := c2) H6 rfl (by have := HXX.out; omega) HA2.out (SrA.row 0 rfl) y
            have hadd := hadd os[j]
            obtain ⟨y, hy⟩ : ∃ y, y = os[j] := ⟨_, rfl⟩
            rw [← hy] at hrg hadd
            have e0 := hrg 0 _ rfl
            rw [Nat.add_zero] at e0
            unfold dc at hrg
            unfold dv at hadd
            have HRG := Lib.hid hrg
            have HADD := Lib.hid hadd
            have HLT := Lib.hid hlt
            clear hrg hadd hy hj1 hlt H7
            by_cases h5 : y.t = 5
            · have q5 : ((y.t : Int) == 5) = true := by simp; omega
              clear h5
              go_wp2
              exact ⟨⟨A2, c2, j + 1, X, by have := HLT.out; omega, rfl, by go_num, HA2.out, by have := HXX.out; omega, HX5.out, H6⟩, by have := HLT.out; simp [intOf]; omega⟩
            · have q5 : ((y.t : Int) == 5) = false := by simp; omega
              have H5 := Lib.hid h5
              clear h5
              go_wp2_with first
                | (refine wpList_load_mid (by rfl) 40 (.tmp 63) (by rfl) b0 (o0' + j * 3) (by rfl) [.int .u64 (y.t : Int), .int .u64 (y.s : Int), .int .i64 y.a] _ HRG.out Try.underlying40 rfl (by exact Try.sizeDue) ?_)
              refine HADD.out.mono ?_
              rintro e w2 (⟨v2, i2, -, hi2, -, rfl, H8⟩ | ⟨r, hr0, rfl, H8⟩)
              · have hpl : (Du.putAt i2 y X).length = X.length + 1 := by unfold Du.putAt; rw [List.length_append, List.length_cons, List.length_take, List.length_drop]; omega
                have hp5 := Du.put_of (l := X) (i := i2) H5.out
                rw [← hpl] at H8
                obtain ⟨A3, c3, rfl, hc3, hA3⟩ := H8.shape' 0 rfl
                have H9 := H8.d1
                have HPL := Lib.hid hpl
                have HP5 := Lib.hid hp5
                have HA3 := Lib.hid hA3
                clear H8 H6 hpl hp5 hA3 HADD HRG e0 ck
                go_wp2
                exact ⟨⟨A3, c3, j + 1, Du.putAt i2 y X, by have := HLT.out; omega, rfl, by go_num, HA3.out, by have := HXX.out; have := HPL.out; omega, HP5.out.trans HX5.out, H9⟩, by have := HLT.out; simp [intOf]; omega⟩
              · have qr : (r == 0) = false := by simpa using hr0
                clear H6 hr0 HADD HRG e0 ck
                go_wp2
                exact ⟨⟨A2, c2, j + 1, X, by have := HLT.out; omega, rfl, by go_num, HA2.out, by have := HXX.out; omega, HX5.out, H8⟩, by have := HLT.out; simp [intOf]; omega⟩
          · obtain rfl : j = m0 := by omega
            have r2 : ¬ (j : Int) < (j : Int) := by omega
            have c50 := H7.cell 0 rfl 0
            have c51 := H7.cell 0 rfl 1
            simp only [List.getElem?_cons_succ, List.getElem?_cons_zero] at c50 c51
            clear hlt hj
            have hpick := pick_any (c := c2) H6 rfl (by have := HXX.out; omega) HA2.out (SrA.row 0 rfl) x0 x1
            have HP := Lib.hid hpick
            clear hpick
            go_wp2_with fail
            refine HP.out.mono ?_
            rintro e w2 (⟨v2, P, hmay, -, hx1, hx2, hP, rfl, H8⟩ | ⟨hno, rfl, H8⟩)
            · have hmay2 := hmay.1.pair
              have hp5 : Du.of 5 P = R := by rw [hP, Du.refP_of _ _ 5 X.length X (Nat.le_refl _) hmay2, HX5.out, HR.out]
              have hpl : P.length ≤ 1000000 := by
                have h1 := Du.refP_len x1.toNat (fun x => !decide (x0 < x.a)) X none
                rw [← hP] at h1
                have h2 : x1.toNat * X.length ≤ 64 * 300 := Nat.mul_le_mul (by omega) (by have := HXX.out; omega)
                omega
              obtain ⟨A4, c4, rfl, hc4⟩ := H8.shape 0 rfl
              have hof2 := of_any (c := c4) H8 rfl hpl (SrA.row 0 rfl) 5
              rw [hp5] at hof2
              have HOF2 := Lib.hid hof2
              clear hmay hmay2 hP hp5 hpl hof2 HP H6 ck c50 c51 H7
              go_wp2_with fail
              refine HOF2.out.mono ?_
              rintro e w3 ⟨v3, rfl, H9⟩
              obtain ⟨A5, c5, rfl, hc5⟩ := H9.shape 0 rfl
              clear HOF2 H8
              rcases (by have := HK.out; omega : k = 0 ∨ k = 1) with rfl | rfl
              · have Hb := H9.f3
                have d0 := Hb.cell 0 rfl 0
                have f0 := Hb.frozen 0 rfl 0
                simp only [List.getElem?_cons_succ, List.getElem?_cons_zero] at d0
                have Hs := Hb.set 0 (.slice A5 R.length c5)
                have HS := Lib.hid Hs
                clear Hs
                go_wp2
                exact ⟨⟨1, by omega, rfl, _, _, _, HS.out, fun w' M' h => HG.out _ _ h.d0.d0.d0, fun _ => ⟨A5, c5, rfl, SrA.row 0 rfl⟩, fun h => absurd h (by omega)⟩, by simp [intOf]⟩
              · have Hb := H9.f3
                have d0 := Hb.cell 0 rfl 1
                have f0 := Hb.frozen 0 rfl 1
                simp only [List.getElem?_cons_succ, List.getElem?_cons_zero] at d0
                have Hs := Hb.set 1 (.slice A5 R.length c5)
                have HS := Lib.hid Hs
                clear Hs
                go_wp2
                exact ⟨⟨2, by omega, rfl, _, _, _, HS.out, fun w' M' h => HG.out _ _ h.d0.d0.d0, fun _ => (((HA.out (Nat.le_refl _)).cons _).cons _).cons _, fun _ => ⟨A5, c5, rfl, SrA.row 0 rfl⟩⟩, by simp [intOf]⟩
            · have hcase : ¬ Du.May X ∨ (Du.May X ∧ x0 < 0) ∨ (Du.May X ∧ ¬ x0 < 0 ∧ 1099511627776 < x0) ∨ (Du.May X ∧ ¬ x0 < 0 ∧ ¬ 1099511627776 < x0 ∧ x1 < 1) ∨ (Du.May X ∧ ¬ x0 < 0 ∧ ¬ 1099511627776 < x0 ∧ ¬ x1 < 1 ∧ 64 < x1) := by
                by_cases hm : Du.May X
                · have h1 : ¬ (Du.time x0 ∧ 1 ≤ x1 ∧ x1 ≤ 64) := fun h => hno ⟨hm, h⟩
                  unfold Du.time at h1
                  have : x0 < 0 ∨ (¬ x0 < 0 ∧ 1099511627776 < x0) ∨ (¬ x0 < 0 ∧ ¬ 1099511627776 < x0 ∧ x1 < 1) ∨ (¬ x0 < 0 ∧ ¬ 1099511627776 < x0 ∧ ¬ x1 < 1 ∧ 64 < x1) := by omega
                  rcases this with h | h | h | h
                  · exact .inr (.inl ⟨hm, h⟩)
                  · exact .inr (.inr (.inl ⟨hm, h⟩))
                  · exact .inr (.inr (.inr (.inl ⟨hm, h⟩)))
                  · exact .inr (.inr (.inr (.inr ⟨hm, h⟩)))
                · exact .inl hm
              have hrm := rmay_any (c := c2) H8 rfl (by have := HXX.out; omega) (SrA.row 0 rfl)
              have HRM := Lib.hid hrm
              have d50 : ∀ W, St w W (w.heap[·]?) (er 40 3 (.slice A2 X.length c2) X.length (dcs X) :: eb (w.heap.size + 2) 43 [a, b] :: G) → W.cell? ⟨w.heap.size + 1, 0, none⟩ = some (.int .i64 x0) := fun W HW => by
                have := (HG.out _ _ HW.d0.d0).cell 0 rfl 0
                simpa using this
              have D50 := Lib.hid d50
              clear hno hrm d50 H6 HP ck c50 c51 H7
              rcases hcase with hm | ⟨hm, z1⟩ | ⟨hm, z1, z2⟩ | ⟨hm, z1, z2, z3⟩ | ⟨hm, z1, z2, z3, z4⟩
              all_goals
                have HMM := Lib.hid hm
                clear hm
                go_wp2_with fail
                refine HRM.out.mono ?_
                rintro e w3 ⟨bm, rfl, hbm, H9⟩
                have c50 := D50.out _ H9
                cases bm with
                | false =>
                  first
                  | (have := hbm.2 HMM.out; cases this)
                  | (clear hbm HMM
                     go_wp2
                     go_ret
                     exact ⟨rfl, H9.below⟩)
                | true =>
                  first
                  | (exact absurd (hbm.1 rfl) HMM.out)
                  | (clear hbm HMM
                     go_wp2
                     go_ret
                     exact ⟨rfl, H9.below⟩)
      · obtain rfl : k = 2 := by omega
        obtain ⟨A5, c5, rfl, s5⟩ := ha (by omega)
        obtain ⟨A6, c6, rfl, s6⟩ := hb (Nat.le_refl _)
        have hRl : R.length ≤ 100000000 := by
          by_cases h : 0 < x1.toNat
          · rw [HR.out]
            obtain ⟨r, hr⟩ := Du.sel_perm x1.toNat ((Du.of 5 l).filter fun x => !decide (x0 < x.a))
            have h1 := hr.length_eq
            have h2 : ((Du.of 5 l).filter fun x => !decide (x0 < x.a)).length ≤ l.length := Nat.le_trans (List.length_filter_le _ _) (List.length_filter_le _ _)
            rw [List.length_append] at h1
            have := HN.out
            omega
          · have : x1.toNat = 0 := by omega
            rw [HR.out, this]
            simp [Du.sel]
        have e0 := H3.cell 0 rfl 0
        have e1 := H3.cell 0 rfl 1
        simp only [List.getElem?_cons_succ, List.getElem?_cons_zero] at e0 e1
        have hsm := rsame_any (c := c5) (d := c6) H3 rfl rfl (s5.cons _) (s6.cons _) hRl
        rw [show decide (R = R) = true from decide_eq_true rfl] at hsm
        have HSM := Lib.hid hsm
        clear ha hb hsm hRl s5 s6 hlt
        go_wp2_with fail
        refine HSM.out.mono ?_
        rintro e w3 ⟨rfl, H9⟩
        go_wp2_with fail
        refine (AW.out _ _ H9).mono ?_
        rintro e w4 ⟨rfl, H10⟩
        go_wp2
        go_ret
        exact ⟨rfl, H10.below⟩
end
end Go.Proofs.Ytgnlkcdpklgikaa
