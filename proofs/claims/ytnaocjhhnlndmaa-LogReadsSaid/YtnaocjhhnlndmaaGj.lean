/- The contract of log's put. -/
import Derived.Test.YtnaocjhhnlndmaaGi
import Derived.Test.YtnaocjhhnlndmaaAx
set_option linter.unusedVariables false
set_option linter.unusedSimpArgs false
namespace Go.Proofs.Ytnaocjhhnlndmaa
open Go.RowKit Wd
/-- A block's bytes s when b lies over it, its first byte at -o. -/
def mgc (o : Int) (b : List UInt8) (k : Nat) (c : UInt8) : UInt8 := if 0 ≤ o + k ∧ o + k < b.length then b[(o + k).toNat]?.getD 0 else c
def mgAt (o : Int) (b s : List UInt8) : List UInt8 := s.mapIdx (mgc o b)
def mgK (o : Int) (b s : List UInt8) (k : Nat) : List UInt8 := (mgAt o b s).take k ++ s.drop k
theorem mgAt_len (o : Int) (b s : List UInt8) : (mgAt o b s).length = s.length := by simp [mgAt]
theorem mgK_zero (o : Int) (b s : List UInt8) : mgK o b s 0 = s := by simp [mgK]
theorem mgK_full (o : Int) (b s : List UInt8) (k : Nat) (h : s.length ≤ k) : mgK o b s k = mgAt o b s := by
  unfold mgK
  rw [List.take_of_length_le (by rw [mgAt_len]; exact h), List.drop_eq_nil_of_le h, List.append_nil]
theorem mgK_len (o : Int) (b s : List UInt8) (k : Nat) (h : k ≤ s.length) : (mgK o b s k).length = s.length := by
  unfold mgK; rw [List.length_append, List.length_take, List.length_drop, mgAt_len]; omega
theorem mgK_step (o : Int) (b s : List UInt8) (k : Nat) (h : k < s.length) : mgK o b s (k + 1) = (mgK o b s k).set k (mgc o b k s[k]) := by
  have hl : k < (mgAt o b s).length := by rw [mgAt_len]; exact h
  have hg : (mgAt o b s)[k] = mgc o b k s[k] := by simp [mgAt]
  unfold mgK
  rw [List.take_succ_eq_append_getElem hl, hg, List.set_append_right _ _ (by rw [List.length_take]; omega), List.length_take, Nat.min_eq_left (by omega), Nat.sub_self, List.drop_eq_getElem_cons h, List.set_cons_zero, List.append_assoc]
  rfl
theorem mgK_same (o : Int) (b s : List UInt8) (k : Nat) (h : k < s.length) (hno : ¬ (0 ≤ o + k ∧ o + k < b.length)) : mgK o b s (k + 1) = mgK o b s k := by
  rw [mgK_step o b s k h]
  have h1 : mgc o b k s[k] = s[k] := by unfold mgc; rw [if_neg hno]
  have h2 : (mgK o b s k)[k]? = some s[k] := by
    unfold mgK
    rw [List.getElem?_append_right (by rw [List.length_take]; omega), List.length_take, mgAt_len, Nat.min_eq_left (by omega), Nat.sub_self, List.getElem?_drop, Nat.add_zero, List.getElem?_eq_getElem h]
  rw [h1]
  apply List.ext_getElem?
  intro j
  rw [List.getElem?_set]
  split
  · rename_i hj
    subst hj
    rw [h2]
    simp [mgK_len o b s k (by omega), h]
  · rfl
/-- The file when j of the blocks are written, the last first. -/
def putN (fr at_ : Nat) (b : List UInt8) (hi : Nat) : Nat → FM → FM
  | 0, F => F
  | j + 1, F => (putN fr at_ b hi j F).write (fr + (hi - j)) (mgAt (64 * ((hi - j : Nat) : Int) - at_) b ((putN fr at_ b hi j F).at_ (fr + (hi - j))))
def putAll (fr at_ : Nat) (b : List UInt8) (F : FM) : FM := { putN fr at_ b ((at_ + b.length - 1) / 64) ((at_ + b.length - 1) / 64 + 1 - at_ / 64) F with pend := [] }
theorem putN_n (fr at_ : Nat) (b : List UInt8) (hi j : Nat) (F : FM) : (putN fr at_ b hi j F).n = F.n := by
  induction j with
  | zero => rfl
  | succ j ih => unfold putN; rw [FM.write_n, ih]
theorem putN_pend (fr at_ : Nat) (b : List UInt8) (hi j : Nat) (F : FM) : (putN fr at_ b hi j F).pend.length ≤ F.pend.length + j := by
  induction j with
  | zero => exact Nat.le_refl _
  | succ j ih => unfold putN; exact Nat.le_trans (FM.write_pend _ _ _) (by omega)
theorem wrapz (x : Int) (h1 : -1000000 ≤ x) (h2 : x ≤ 1000000) : wrap64 x = x := by unfold wrap64; omega
section
variable {w0 w : World} {M : Mem} {L : List Ent} {f g gen en : Nat} {F : FM} {v : Value}
set_option maxRecDepth 100000 in
set_option maxHeartbeats 1000000 in
theorem put_any (H : FS w0 w M f F (eb g 68 (lcells f gen v en) :: L)) (h1 : 2 ≤ F.n) (gn : Nat) (hg : gn < 18446744073709551616) (at_ : Nat) {B : Option Addr} {c m : Nat} {b : List UInt8} (hm : m = b.length) (hb : Sr w0 M L B b) (h0 : 1 ≤ m) (hfit : at_ + m ≤ 64 * Lg.halfN F.n) (hp : F.pend.length < 900000000) :
    Calls Try.prog 38 #[.pointer (some ⟨g, 0, none⟩), .int .u64 (gn : Int), .int .i64 (at_ : Int), .slice B m c] w fun e w' => e = .returned (.tuple #[]) ∧ FS w0 w' M f (putAll (Lg.halfFrom F.n gn) at_ b F) (eb g 68 (lcells f gen v en) :: L) := by
  have hF2 : F.n ≤ 4096 := H.1.n2
  obtain ⟨fr, hfr⟩ : ∃ fr, fr = Lg.halfFrom F.n gn := ⟨_, rfl⟩
  obtain ⟨N, hN⟩ : ∃ N, N = Lg.halfN F.n := ⟨_, rfl⟩
  have hle : fr + N ≤ F.n := by rw [hfr, hN]; exact Lg.half_le _ _ h1
  have hhf := fun w => half_any F.n gn h1 hF2 hg w
  rw [← hfr, ← hN] at hhf
  rw [← hN] at hfit
  rw [← hfr]
  obtain ⟨hi, hhi⟩ : ∃ hi, hi = (at_ + m - 1) / 64 := ⟨_, rfl⟩
  obtain ⟨lo, hlo⟩ : ∃ lo, lo = at_ / 64 := ⟨_, rfl⟩
  have hlh : lo ≤ hi := by omega
  have hiN : hi < N := by omega
  obtain ⟨cnt, hcnt⟩ : ∃ cnt, cnt = hi + 1 - lo := ⟨_, rfl⟩
  obtain ⟨FZ, hFZ⟩ : ∃ FZ, FZ = putAll fr at_ b F := ⟨_, rfl⟩
  have hFZe : FZ = { putN fr at_ b hi cnt F with pend := [] } := by rw [hFZ, hcnt, hhi, hlo, hm]; rfl
  rw [← hFZ]
  have hN3 : N ≤ 2047 := by rw [hN]; unfold Lg.halfN; omega
  obtain ⟨am, ham⟩ : ∃ am, am = at_ + m := ⟨_, rfl⟩
  obtain ⟨am1, ham1⟩ : ∃ am1, am1 = at_ + m - 1 := ⟨_, rfl⟩
  have e1 : (at_ : Int) + (m : Int) = (am : Int) := by omega
  have e2 : (am : Int) - 1 = (am1 : Int) := by omega
  have e3 : (am1 : Int) / 64 = (hi : Int) := by omega
  have e3' : (am1 : Int).tdiv 64 = (hi : Int) := by rw [Int.tdiv_eq_ediv_of_nonneg (by omega)]; exact e3
  have e4 : (at_ : Int) / 64 = (lo : Int) := by omega
  have e4' : (at_ : Int).tdiv 64 = (lo : Int) := by rw [Int.tdiv_eq_ediv_of_nonneg (by omega)]; exact e4
  have z0 : w.cell? ⟨g, 0, none⟩ = some (.pointer (some ⟨f, 0, none⟩)) := H.cell 0 rfl 0
  have hbd : am ≤ 131008 := by omega
  have hbd2 : hi ≤ 2047 := by omega
  have hfb : fr + hi < F.n := by omega
  have HHF := Lib.hid hhf
  have HFZ := Lib.hid hFZe
  have HM := Lib.hid hm
  have HFB := Lib.hid hfb
  have HLH := Lib.hid hlh
  have HC := Lib.hid hcnt
  have HAM := Lib.hid ham
  clear hfr hN hhf hhi hlo hFZ hFZe hle hm hfit ham ham1 hiN hN3 h1 hF2 hfb hlh hcnt h0
  go_enter Try.func38, Try.ntmps38
  go_wp2_with fail
  refine (fs_blocks H).mono ?_
  rintro e x1 ⟨rfl, rfl⟩
  go_wp2_with fail
  refine (HHF.out _).mono ?_
  rintro e x1 ⟨rfl, rfl⟩
  clear z0
  go_wp2
  go_loopw [10] (fun i wr => ∃ j : Nat, j ≤ cnt ∧ i = .int .i64 ((hi : Int) - (j : Int)) ∧ FS w0 wr M f (putN fr at_ b hi j F) (eb g 68 (lcells f gen v en) :: L)) (fun i _ => (intOf i + 1).toNat)
  case atStart => exact ⟨0, by omega, by go_num, H⟩
  case round =>
    obtain ⟨j, hj, rfl, H1⟩ := hrel
    clear H
    by_cases hlt : j < cnt
    · obtain ⟨i, hi'⟩ : ∃ i : Nat, i = hi - j := ⟨_, rfl⟩
      have hie : (hi : Int) - (j : Int) = (i : Int) := by have := HC.out; omega
      have hlo2 : (lo : Int) ≤ (i : Int) := by have := HC.out; omega
      rw [hie]
      have hlo3 : lo ≤ i := by omega
      have z0 : wr.cell? ⟨g, 0, none⟩ = some (.pointer (some ⟨f, 0, none⟩)) := H1.cell 0 rfl 0
      obtain ⟨bi, hbi⟩ : ∃ bi, bi = fr + i := ⟨_, rfl⟩
      have f1 : (fr : Int) + (i : Int) = (bi : Int) := by omega
      have hpn := putN_n fr at_ b hi j F
      have hpp := putN_pend fr at_ b hi j F
      have hjb : j ≤ 2048 := by have := HC.out; omega
      have hstep : putN fr at_ b hi (j + 1) F = (putN fr at_ b hi j F).write bi (mgAt (64 * (i : Int) - at_) b ((putN fr at_ b hi j F).at_ bi)) := by rw [hbi, hi']; rfl
      obtain ⟨FJ, hFJ⟩ : ∃ FJ, FJ = putN fr at_ b hi j F := ⟨_, rfl⟩
      rw [← hFJ] at H1 hpn hpp hstep
      have hbn : bi < FJ.n := by rw [hpn]; have := HFB.out; omega
      obtain ⟨s, hs⟩ : ∃ s, s = FJ.at_ bi := ⟨_, rfl⟩
      have hsl : s.length = 64 := by rw [hs]; exact FM.at_length H1.1 hbn
      obtain ⟨o, ho⟩ : ∃ o : Int, o = 64 * (i : Int) - at_ := ⟨_, rfl⟩
      obtain ⟨I, hI⟩ : ∃ I : Nat, I = i * 64 := ⟨_, rfl⟩
      have f2 : (i : Int) * 64 = (I : Int) := by omega
      have hoI : (I : Int) - at_ = o := by omega
      have hIb : I ≤ 131008 := by omega
      have hbib : (bi : Int) ≤ 4096 := by have := H1.1.n2; omega
      have hIb2 : (I : Int) ≤ 131008 := by omega
      rw [← hs, ← ho] at hstep
      have hbs := fs_read H1 bi hbn
      rw [← hs] at hbs
      have HBS := Lib.hid hbs
      have HST := Lib.hid hstep
      have HSL := Lib.hid hsl
      have HS := Lib.hid hs
      have HBN := Lib.hid hbn
      have HPP := Lib.hid hpp
      have HOI := Lib.hid hoI
      have HIE := Lib.hid hie
      have HLT := Lib.hid hlt
      have HJB := Lib.hid hjb
      clear hbs hstep hsl hs hbn hpp hpn hFJ hbi hi' hie ho hI hoI hlt hj hjb
      go_wp2_with fail
      refine HBS.out.mono ?_
      rintro e x2 ⟨g2, rfl, H2⟩
      have hat : (at_ : Int) ≤ 131008 := by have := HAM.out; omega
      go_wp2
      go_loopw [50] (fun k wr2 => ∃ q : Nat, q ≤ 64 ∧ k = .int .i64 q ∧ FS w0 wr2 M f FJ (eb g2 65 (bv (mgK o b s q)) :: eb g 68 (lcells f gen v en) :: L)) (fun k _ => 64 - (intOf k).toNat)
      case atStart => exact ⟨0, by omega, by go_num, by rw [mgK_zero]; exact H2⟩
      case round =>
        obtain ⟨q, hq, rfl, H3⟩ := hrel
        clear H1 H2
        by_cases hq64 : q < 64
        · obtain ⟨x, hx⟩ : ∃ x : Int, x = (I : Int) + (q : Int) - (at_ : Int) := ⟨_, rfl⟩
          have hxo : o + (q : Int) = x := by have := HOI.out; omega
          have f3 : (I : Int) + (q : Int) - (at_ : Int) = x := hx.symm
          have hq2 : (q : Int) < 64 := by omega
          have hxb : -200000 ≤ x := by omega
          have hxc : x ≤ 200000 := by omega
          have hqs : q < s.length := by rw [HSL.out]; exact hq64
          by_cases hin : 0 ≤ x ∧ x < (m : Int)
          · obtain ⟨hx0, hxm⟩ := hin
            obtain ⟨P, rfl⟩ := Int.eq_ofNat_of_zero_le hx0
            have hPm : P < b.length := by rw [← HM.out]; omega
            obtain ⟨bb, bo, rfl, hcP⟩ := (hb.now H3.rest.d0.d0).at P hPm
            obtain ⟨y, hy⟩ : ∃ y, y = b[P] := ⟨_, rfl⟩
            have hmc : mgc o b q s[q] = y := by
              unfold mgc
              rw [hxo, if_pos ⟨hx0, by omega⟩, Int.toNat_natCast, List.getElem?_eq_getElem hPm, hy]; rfl
            have hst := mgK_step o b s q hqs
            rw [hmc] at hst
            rw [← hy] at hcP
            obtain ⟨Z, HZ, hback⟩ := H3.out
            have H4 := HZ.set q (.int .u8 (y.toNat : Int))
            rw [bv_set, ← hst] at H4
            have z2 := HZ.frozen 0 rfl q
            obtain ⟨yy, hyy⟩ : ∃ yy, wr.cell? ⟨g2, q, none⟩ = some yy := by
              rw [HZ.cell 0 rfl q]
              exact ⟨_, List.getElem?_eq_getElem (by rw [bv_length, mgK_len _ _ _ _ (by omega)]; exact hqs)⟩
            have H5 := hback _ _ _ H4
            have HQ := Lib.hid hq64
            clear hst hmc hy H3 H4 HZ hback hPm hqs hx hxo hq64 hq
            go_wp2
            exact ⟨⟨q + 1, by have := HQ.out; omega, by go_num, H5⟩, by have := HQ.out; simp [intOf]; omega⟩
          · have hsame := mgK_same o b s q hqs (by rw [hxo, ← HM.out]; exact hin)
            rw [← hsame] at H3
            have HQ := Lib.hid hq64
            have hx3 : x < 0 ∨ (0 ≤ x ∧ ¬ x < (m : Int)) := by omega
            clear hsame hin hqs hx hxo hq64 hq
            rcases hx3 with hx3 | ⟨hx3, hx4⟩
            all_goals
              go_wp2
              exact ⟨⟨q + 1, by have := HQ.out; omega, by go_num, H3⟩, by have := HQ.out; simp [intOf]; omega⟩
        · obtain rfl : q = 64 := by omega
          rw [mgK_full _ _ _ _ (by rw [HSL.out]; exact Nat.le_refl _)] at H3
          have z0 : wr.cell? ⟨g, 0, none⟩ = some (.pointer (some ⟨f, 0, none⟩)) := H3.cell 1 rfl 0
          obtain ⟨T, hT⟩ : ∃ T, T = mgAt o b s := ⟨_, rfl⟩
          have hTl : T.length = 64 := by rw [hT, mgAt_len, HSL.out]
          rw [← hT] at H3
          have hst := HST.out
          rw [← hT] at hst
          have hwr := fs_write H3 bi HBN.out (A := some ⟨g2, 0, none⟩) (c := 64) hTl ((H3.rest.blk 0 rfl).RB (by rw [List.drop_zero, List.take_of_length_le (by rw [bv_length]; exact Nat.le_refl _)])) (by have := HPP.out; have := HJB.out; omega)
          have HW := Lib.hid hwr
          have HST2 := Lib.hid hst
          clear hwr hst hT hTl
          go_wp2_with fail
          refine HW.out.mono ?_
          rintro e x5 ⟨rfl, H6⟩
          have H7 := H6.drop
          rw [← HST2.out] at H7
          clear H3 H6 HW
          go_wp2
          exact ⟨⟨j + 1, by have := HLT.out; omega, congrArg (Value.int .i64) (by have := HIE.out; omega), H7⟩, by simp [intOf]⟩
    · obtain rfl : j = cnt := by omega
      have hie : (hi : Int) - (j : Int) < (lo : Int) := by have := HC.out; have := HLH.out; omega
      obtain ⟨x, hx⟩ : ∃ x : Int, x = (hi : Int) - (j : Int) := ⟨_, rfl⟩
      rw [← hx] at hie ⊢
      have z0 : wr.cell? ⟨g, 0, none⟩ = some (.pointer (some ⟨f, 0, none⟩)) := H1.cell 0 rfl 0
      have hie2 : ¬ (lo : Int) ≤ x := by omega
      clear hx hlt
      go_wp2_with fail
      refine (fs_sync H1).mono ?_
      rintro e x5 ⟨rfl, H6⟩
      rw [← HFZ.out] at H6
      go_wp2
      go_end0
      exact ⟨rfl, H6⟩
end
end Go.Proofs.Ytnaocjhhnlndmaa
