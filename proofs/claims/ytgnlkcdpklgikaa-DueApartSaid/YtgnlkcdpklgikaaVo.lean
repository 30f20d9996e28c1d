/- The law's own small question (layer 26); DuePicks walked. -/
import Derived.Test.YtgnlkcdpklgikaaVn
set_option linter.unusedVariables false
set_option linter.unusedSimpArgs false
namespace Go.Proofs.Ytgnlkcdpklgikaa
open Go.RowKit Wd Go.Sort
open Du (Due)
def aw26 : List Due := [⟨1, 1, 5⟩, ⟨1, 2, 3⟩, ⟨1, 3, 4⟩]
theorem aw26_may : Du.May aw26 := by
  refine ⟨fun j hj hl => ?_, fun j hj => ?_, by decide⟩
  · have h3 : j < 3 := hl
    match j, h3 with
    | 0, _ => exact ⟨(by decide : Du.may ⟨1, 1, 5⟩), fun h => absurd h (Nat.lt_irrefl 0)⟩
    | 1, _ => exact ⟨(by decide : Du.may ⟨1, 2, 3⟩), fun _ => (by decide : Du.ahead ⟨1, 1, 5⟩ ⟨1, 2, 3⟩)⟩
    | 2, _ => exact ⟨(by decide : Du.may ⟨1, 3, 4⟩), fun _ => (by decide : Du.ahead ⟨1, 2, 3⟩ ⟨1, 3, 4⟩)⟩
  · have h3 : j ≤ 3 := hj
    match j, h3 with
    | 0, _ => exact (by decide)
    | 1, _ => exact (by decide)
    | 2, _ => exact (by decide)
    | 3, _ => exact (by decide)
theorem aw26_picks : Du.refP (2 : Int).toNat (fun x => !decide (9 < x.a)) none aw26 = [⟨1, 2, 3⟩, ⟨1, 3, 4⟩] := by decide
section
variable {w0 w : World} {M : Mem} {L : List Ent}
set_option maxRecDepth 100000 in
theorem awake26_any (H : St w0 w M L) : Calls Try.prog 7 #[] w fun e w' => e = .returned (.bool true) ∧ St w0 w' M L := by
  have H1 := H.new (dcs aw26) 40
  have hs : SrA w0 M (eb w.heap.size 40 (dcs aw26) :: L) (some ⟨w.heap.size, 0, none⟩) (dcs aw26) := fun w' M' hM H => (H.blk 0 rfl).ra 0 9 _ rfl
  have hpick := pick_any (c := 3) (n := 3) H1 rfl (by omega) (by rintro ⟨⟩) hs 9 2
  have HP := Lib.hid hpick
  clear hpick hs
  go_enter Try.func7, Try.ntmps7
  go_wp2_with fail
  refine HP.out.mono ?_
  rintro e w1 (⟨v, R, -, -, -, -, hR, rfl, H2⟩ | ⟨hno, -, -⟩)
  · rw [aw26_picks] at hR
    subst hR
    obtain ⟨A5, c5, rfl, hc5⟩ := H2.shape 0 rfl
    obtain ⟨b, o, rfl, hr0⟩ := RA.at3 (er_RA (H2.get 0 rfl)) 0 (by decide)
    obtain ⟨b', o', he, hr1⟩ := RA.at3 (er_RA (H2.get 0 rfl)) 1 (by decide)
    injection he with he
    injection he with h1 h2
    subst h1 h2
    have g1 : w1.cell? ⟨b, o + 1, none⟩ = some (.int .u64 2) := hr0 1 _ rfl
    have g3 : w1.cell? ⟨b, o + 4, none⟩ = some (.int .u64 3) := hr1 1 _ rfl
    clear hr0 hr1
    go_wp2
    go_ret
    exact ⟨rfl, H2.d0.d0⟩
  · exact absurd ⟨aw26_may, by decide, by decide, by decide⟩ hno
set_option maxRecDepth 100000 in
set_option maxHeartbeats 2000000 in
theorem duePicks_any {w : World} {A : Option Addr} {c n : Nat} {l : List Due} (hr : RA w A (dcs l)) (hn : n = l.length) (hA : A = none → c = 0) (now k : Int) :
    Calls Try.prog 3 #[.slice A n c, .int .i64 now, .int .i64 k] w fun e w' => e = .returned (.bool true) ∧ Below w.heap.size w w' := by
  have H := St.start w
  have s0 : SrA w _ [] A (dcs l) := SrA.of_in (In.oldRA H hr)
  by_cases h4 : 400 < n
  · have q1 : (400 : Int) < (n : Int) := by omega
    have haw := awake26_any H
    have HAW := Lib.hid haw
    clear haw h4
    go_enter Try.func3, Try.ntmps3
    go_wp2_with fail
    refine HAW.out.mono ?_
    rintro e w1 ⟨rfl, H1⟩
    go_wp2
    go_ret
    exact ⟨rfl, H1.below⟩
  · have q1 : ¬ (400 : Int) < (n : Int) := by omega
    have hn4 : n ≤ 400 := by omega
    have H1 := H.lit00 40 3
    have hr1 := (s0.cons (er 40 3 (.slice (some ⟨w.heap.size, 0, none⟩) 0 0) 0 [])).now H1
    have hx : (dcs l).length = n * 3 := by rw [dcs_length, hn]
    have hone := dcs_one l
    have HR1 := Lib.hid hr1
    have HX := Lib.hid hx
    have HA := Lib.hid hA
    have HONE := Lib.hid hone
    have HN := Lib.hid hn
    clear hr1 hx hA hone hn h4
    go_enter Try.func3, Try.ntmps3
    go_wp2_with (at_builtin; refine wpList_append_any_st H1 (by rfl) (.tmp 16) (.tmp 17) 22 (by rfl) Try.infoDue (by rfl) (by decide) Try.underlying22 (by rfl) A n c (dcs l) (by rfl) HX.out HA.out HR1.out HONE.out (by omega) (by omega) ?_)
    intro v w1 H2
    obtain ⟨A2, c2, rfl, hc2, hA2⟩ := H2.shape' 0 rfl
    have hpick := pick_any (c := c2) H2 HN.out (by omega) hA2 (SrA.row 0 rfl) now k
    have HP := Lib.hid hpick
    clear hpick H1
    go_wp2_with fail
    refine HP.out.mono ?_
    rintro e w2 (⟨v1, R, hmay, htm, hk1, hk2, hR, rfl, H3⟩ | ⟨hno, rfl, H3⟩)
    · have hmay2 := hmay
      have hrp := rpick_any (c := c) H3 HN.out (by omega) ((s0.cons _).cons _) now k
      have HRP := Lib.hid hrp
      have HR := Lib.hid hR
      have HMAY := Lib.hid hmay
      have hRl : R.length ≤ 64000 := by
        have h1 := Du.refP_len k.toNat (fun x => !decide (now < x.a)) l none
        rw [← hR, ← HN.out] at h1
        have h2 : k.toNat * n ≤ 64 * 400 := Nat.mul_le_mul (by omega) hn4
        omega
      have hgood : Du.May l ∧ Du.time now ∧ 1 ≤ k ∧ k ≤ 64 := ⟨hmay, htm, hk1, hk2⟩
      have HG := Lib.hid hgood
      obtain ⟨A3, c3, rfl, hc3⟩ := H3.shape 0 rfl
      clear hrp hR hmay hmay2 htm hk1 hk2 hgood HP
      go_wp2_with fail
      refine HRP.out.mono ?_
      rintro e w3 (⟨v2, R2, -, -, -, -, hR2, rfl, H4⟩ | ⟨hno, -, -⟩)
      · obtain rfl : R2 = R := hR2.trans HR.out.symm
        obtain ⟨A4, c4, rfl, hc4⟩ := H4.shape 0 rfl
        have hck := check_any (c := c) H4 HN.out (by omega) (((s0.cons _).cons _).cons _)
        have HCK := Lib.hid hck
        clear hck hR2
        go_wp2_with fail
        refine HCK.out.mono ?_
        rintro e w4 ⟨⟨-, rfl⟩ | ⟨hno, -⟩, H5⟩
        · have hrm := rmay_any (c := c) H5 HN.out (by omega) (((s0.cons _).cons _).cons _)
          have HRM := Lib.hid hrm
          clear hrm H4
          go_wp2_with fail
          refine HRM.out.mono ?_
          rintro e w5 ⟨bm, rfl, hbm, H6⟩
          obtain rfl := hbm.2 HMAY.out
          have hsame := rsame_any H6 (A := A3) (B := A4) (c := c3) (d := c4) (ps := R2) (qs := R2) rfl rfl (SrA.row 1 rfl) (SrA.row 0 rfl) (by omega)
          rw [decide_eq_true (rfl : R2 = R2)] at hsame
          have HS := Lib.hid hsame
          clear hsame hbm H5
          go_wp2_with fail
          refine HS.out.mono ?_
          rintro e w6 ⟨rfl, H7⟩
          go_wp2_with fail
          refine (awake26_any H7).mono ?_
          rintro e w7 ⟨rfl, H8⟩
          go_wp2
          go_ret
          exact ⟨rfl, H8.below⟩
        · exact absurd HMAY.out hno
      · exact absurd HG.out hno
    · have hrp := rpick_any (c := c) H3 HN.out (by omega) (s0.cons _) now k
      have HRP := Lib.hid hrp
      have HNO := Lib.hid hno
      clear hrp hno HP
      go_wp2_with fail
      refine HRP.out.mono ?_
      rintro e w3 (⟨v2, R2, h1, h2, h3, h4, -, -, -⟩ | ⟨-, rfl, H4⟩)
      · exact absurd ⟨h1, h2, h3, h4⟩ HNO.out
      · have hck := check_any (c := c) H4 HN.out (by omega) (s0.cons _)
        have HCK := Lib.hid hck
        clear hck
        go_wp2_with fail
        refine HCK.out.mono ?_
        rintro e w4 ⟨⟨hm, rfl⟩ | ⟨hm, rfl⟩, H5⟩
        all_goals
          have HM := Lib.hid hm
          have hrm := rmay_any (c := c) H5 HN.out (by omega) (s0.cons _)
          have HRM := Lib.hid hrm
          clear hrm hm
          go_wp2_with fail
          refine HRM.out.mono ?_
          rintro e w5 ⟨bm, rfl, hbm, H6⟩
          have hb : (bm = true ∧ Du.May l) ∨ (bm = false ∧ ¬ Du.May l) := by
            cases bm with
            | true => exact .inl ⟨rfl, hbm.1 rfl⟩
            | false => exact .inr ⟨rfl, fun h => by have := hbm.2 h; cases this⟩
          clear hbm H5
          rcases hb with ⟨rfl, hm2⟩ | ⟨rfl, hm2⟩
          all_goals first
            | (exfalso; exact HM.out hm2)
            | (exfalso; exact hm2 HM.out)
            | (have HM2 := Lib.hid hm2
               clear hm2
               go_wp2_with fail
               refine (awake26_any H6).mono ?_
               rintro e w6 ⟨rfl, H7⟩
               go_wp2
               go_ret
               exact ⟨rfl, H7.below⟩)
end
end Go.Proofs.Ytgnlkcdpklgikaa
