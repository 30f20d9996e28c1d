/- Accounts compared; the reference's Find, secret, Same. -/
import Derived.Test.YtcdljlaoedaliaaDoorT3
import Derived.Test.YtcdljlaoedaliaaDoorEa
import Derived.Laws.StructEq
import Derived.Test.YtcdljlaoedaliaaDoorMr
set_option linter.unusedVariables false
set_option linter.unusedSimpArgs false
namespace Go.Proofs.YtcdljlaoedaliaaDoor
open Go.RowKit Wd
open Va (Acc)
theorem part_arr {t e : TypeId} {n : Nat} {cs : List Value} {off : Nat} (w : World) (ht : Tryd.prog.underlying t = some (.array n e)) (hs : (Tryd.prog.info? t).map (·.size) = some n) : (part t cs.toArray off).run Tryd.prog w = .ok (.agg ((cs.drop off).take n).toArray) w := by
  cases hq : Tryd.prog.info? t with
  | none => rw [hq] at hs; cases hs
  | some i =>
    rw [hq] at hs
    have hi : i.size = n := by simpa using hs
    have e : (cs.toArray.extract off (off + n)) = ((cs.drop off).take n).toArray := by
      rw [List.extract_toArray, List.extract_eq_take_drop, Nat.add_sub_cancel_left]
    simp [part, isAgg, run_underlying ht, sizeOf, typeInfo, hq, hi, e]
theorem part_cell {t : TypeId} {cs : List Value} {off : Nat} {v : Value} (w : World) (hp : Tryd.prog.plainKey t = true) (hv : cs[off]? = some v) : (part t cs.toArray off).run Tryd.prog w = .ok v w := run_part_plain w hp (by simpa using hv)
theorem Tryd.eqb16 (w : World) (d : Nat) (D E : List UInt8) (hD : D.length = 16) (hE : E.length = 16) : (Op.equalIn (d + 2) 24 (.agg (bv D).toArray) (.agg (bv E).toArray)).run Tryd.prog w = .ok (decide (D = E)) w := by
  obtain ⟨i, hi, _⟩ := info_parts Tryd.info5
  exact run_eq_bytes w d Tryd.underlying24 hi Tryd.underlying5 Tryd.plain_byte Tryd.cells_byte D E hD hE
theorem Tryd.eqb32d (w : World) (d : Nat) (D E : List UInt8) (hD : D.length = 32) (hE : E.length = 32) : (Op.equalIn (d + 2) 40 (.agg (bv D).toArray) (.agg (bv E).toArray)).run Tryd.prog w = .ok (decide (D = E)) w := by
  obtain ⟨i, hi, _⟩ := info_parts Tryd.info5
  exact run_eq_bytes w d Tryd.underlying40 hi Tryd.underlying5 Tryd.plain_byte Tryd.cells_byte D E hD hE
theorem neqAcc (p q : Acc) (w : World) : (binOp .neq 71 (.agg (ac p).toArray) (.agg (ac q).toArray)).run Tryd.prog w = .ok (.bool (!decide (p = q))) w := by
  have hS : Tryd.prog.underlying 71 = some (.struct (Tryd.prog.fieldsOf 71)) := by kernel_rfl
  have hp : Tryd.prog.stoodInHeld 71 = false := by kernel_rfl
  rw [run_neq_struct, show (10000 : Nat) = 9999 + 1 from rfl, run_equalIn_agg w 9999 71 _ _ hS hp]
  simp only [Program.fieldsOf, Tryd.underlying71]
  have c0 := fun (p : Acc) => part_cell (t := 23) (off := 0) w (by kernel_rfl) (ac_t p)
  have c1 := fun (p : Acc) => part_arr (t := 24) (cs := ac p) (off := 1) w Tryd.underlying24 Tryd.size16
  have c2 := fun (p : Acc) => part_arr (t := 40) (cs := ac p) (off := 17) w Tryd.underlying40 Tryd.size24
  have c3 := fun (p : Acc) => part_cell (t := 4) (off := 49) w (by kernel_rfl) (ac_off p)
  simp only [ac_salt, ac_tag] at c1 c2
  have e0 := run_equalIn_int (P := Tryd.prog) w 9998 23 .u64 .u64 (p.t : Int) (q.t : Int) Tryd.underlying23
  have e1 := Tryd.eqb16 w 9997 p.salt q.salt p.hs q.hs
  have e2 := Tryd.eqb32d w 9997 p.tag q.tag p.ht q.ht
  have e3 := run_equalIn_bool (P := Tryd.prog) w 9998 4 p.off q.off Tryd.underlying4
  simp only [Nat.reduceAdd] at e0 e1 e2 e3
  have e : decide (p = q) = ((p.t == q.t) && decide (p.salt = q.salt) && decide (p.tag = q.tag) && (p.off == q.off)) := by
    rw [Bool.eq_iff_iff]
    simp only [decide_eq_true_eq, Bool.and_eq_true, beq_iff_eq]
    constructor
    · rintro rfl
      exact ⟨⟨⟨rfl, rfl⟩, rfl⟩, rfl⟩
    · rintro ⟨⟨⟨h1, h2⟩, h3⟩, h4⟩
      obtain ⟨t, s, g, o, hs, ht⟩ := p
      obtain ⟨t', s', g', o', hs', ht'⟩ := q
      simp only at h1 h2 h3 h4
      subst h1 h2 h3 h4
      rfl
  have n1 : (("Tenant" : String) ≠ "_") = True := by simp
  have n2 : (("Salt" : String) ≠ "_") = True := by simp
  have n3 : (("Tag" : String) ≠ "_") = True := by simp
  have n4 : (("Off" : String) ≠ "_") = True := by simp
  rw [e]
  simp only [Op.eqFields, n1, n2, n3, n4, if_true, Sem.run_bind, c0, c1, c2, c3, Result.andThen_ok, e0]
  by_cases h1 : p.t = q.t
  · have d1 : ((p.t : Int) == (q.t : Int)) = true := by simp [h1]
    have d1' : (p.t == q.t) = true := by simp [h1]
    simp only [d1, d1', Bool.not_true, Bool.false_eq_true, if_false, Bool.true_and]
    rw [Sem.run_bind, c1 p, Result.andThen_ok, Sem.run_bind, c1 q, Result.andThen_ok, Sem.run_bind, e1, Result.andThen_ok]
    by_cases h2 : p.salt = q.salt
    · have d2 : decide (p.salt = q.salt) = true := decide_eq_true h2
      simp only [d2, Bool.not_true, Bool.false_eq_true, if_false, Bool.true_and]
      rw [Sem.run_bind, c2 p, Result.andThen_ok, Sem.run_bind, c2 q, Result.andThen_ok, Sem.run_bind, e2, Result.andThen_ok]
      by_cases h3 : p.tag = q.tag
      · have d3 : decide (p.tag = q.tag) = true := decide_eq_true h3
        simp only [d3, Bool.not_true, Bool.false_eq_true, if_false, Bool.true_and]
        rw [Sem.run_bind, c3 p, Result.andThen_ok, Sem.run_bind, c3 q, Result.andThen_ok, Sem.run_bind, e3, Result.andThen_ok]
        cases (p.off == q.off) with
        | true => simp only [Bool.not_true, Bool.false_eq_true, if_false, Sem.run_pure, Result.andThen_ok]
        | false => simp only [Bool.not_false, if_true, Sem.run_pure, Result.andThen_ok]
      · have d3 : decide (p.tag = q.tag) = false := decide_eq_false h3
        simp only [d3, Bool.not_false, if_true, Sem.run_pure, Result.andThen_ok, Bool.false_and]
    · have d2 : decide (p.salt = q.salt) = false := decide_eq_false h2
      simp only [d2, Bool.not_false, if_true, Sem.run_pure, Result.andThen_ok, Bool.false_and]
  · have d1 : ((p.t : Int) == (q.t : Int)) = false := by simp; omega
    have d1' : (p.t == q.t) = false := by simpa using h1
    simp only [d1, d1', Bool.not_false, if_true, Sem.run_pure, Result.andThen_ok, Bool.false_and]
theorem neqGuardA (x y : Operand) (a b : Array Value) (w : World) : (eqGuard .neq 71 x y (.agg a) (.agg b)).run Tryd.prog w = .ok () w := run_eqGuard_agg w .neq 71 x y a b (by kernel_rfl)
end Go.Proofs.YtcdljlaoedaliaaDoor
/- The reference's Same, Find, secret, account, put, Revoke and Rotate. -/
set_option linter.unusedVariables false
set_option linter.unusedSimpArgs false
namespace Go.Proofs.YtcdljlaoedaliaaDoor
open Go.RowKit Wd
open Va (Acc)
theorem Va.swap_at {a : Acc} {i : Nat} {l : List Acc} (hp : l.Pairwise fun a b => a.t < b.t) (hi : i < l.length) (he : l[i].t = a.t) : Va.swap a l = l.set i a := by
  unfold Va.swap
  apply List.ext_getElem
  · simp
  · intro j h1 h2
    rw [List.length_map] at h1
    rw [List.getElem_map, List.getElem_set]
    rcases Nat.lt_trichotomy j i with h3 | h3 | h3
    · have := List.pairwise_iff_getElem.1 hp j i h1 hi h3
      rw [if_neg (by omega), if_neg (by omega)]
    · subst h3
      rw [if_pos he, if_pos rfl]
    · have := List.pairwise_iff_getElem.1 hp i j hi h1 h3
      rw [if_neg (by omega), if_neg (by omega)]
section
variable {w0 w : World} {M : Mem} {L : List Ent}
set_option maxRecDepth 100000 in
set_option maxHeartbeats 1000000 in
theorem rsame_any (H : St w0 w M L) {A B : Option Addr} {c d n m : Nat} {ps qs : List Acc} (hn : n = ps.length) (hm : m = qs.length) (hA : SrA w0 M L A (acs ps)) (hB : SrA w0 M L B (acs qs)) (hn2 : n ≤ 100000000) :
    Calls Tryd.prog 13 #[.slice A n c, .slice B m d] w fun e w' => e = .returned (.bool (decide (ps = qs))) ∧ St w0 w' M L := by
  obtain ⟨R, hR⟩ : ∃ R, R = decide (ps = qs) := ⟨_, rfl⟩
  rw [← hR]
  by_cases hnm : n = m
  · have HN := Lib.hid hn
    have HM := Lib.hid hm
    have HR := Lib.hid hR
    clear hn hm hR
    subst hnm
    go_enter Tryd.func13, Tryd.ntmps13
    go_wp2
    go_loopw [5] (fun i wr => ∃ k : Nat, k ≤ n ∧ i = .int .i64 k ∧ ps.take k = qs.take k ∧ St w0 wr M L) (fun i _ => n - (intOf i).toNat)
    case atStart => exact ⟨0, by omega, rfl, rfl, H⟩
    case round =>
      obtain ⟨k, hk, rfl, hsofar, H1⟩ := hrel
      have HS := Lib.hid hsofar
      clear H hsofar
      by_cases hlt : k < n
      · have hk1 : k < ps.length := by have := HN.out; omega
        have hk2 : k < qs.length := by have := HM.out; omega
        obtain ⟨b1, o1, rfl, -⟩ := RA.at50 (hA.now H1) k hk1
        obtain ⟨b2, o2, rfl, -⟩ := RA.at50 (hB.now H1) k hk2
        have hc1 := hA.at50 k hk1
        have hc2 := hB.at50 k hk2
        have t1 : ps.take (k + 1) = ps.take k ++ [ps[k]] := List.take_succ_eq_append_getElem hk1
        have t2 : qs.take (k + 1) = qs.take k ++ [qs[k]] := List.take_succ_eq_append_getElem hk2
        obtain ⟨p, hpe⟩ : ∃ p, p = ps[k] := ⟨_, rfl⟩
        obtain ⟨q, hqe⟩ : ∃ q, q = qs[k] := ⟨_, rfl⟩
        rw [← hpe] at hc1 t1
        rw [← hqe] at hc2 t2
        have hne := fun w => neqAcc p q w
        obtain ⟨t, ht⟩ : ∃ t, t = decide (p = q) := ⟨_, rfl⟩
        rw [← ht] at hne
        have hXl := ac_length p
        have hYl := ac_length q
        obtain ⟨X, hX⟩ : ∃ X, X = ac p := ⟨_, rfl⟩
        obtain ⟨Y, hY⟩ : ∃ Y, Y = ac q := ⟨_, rfl⟩
        rw [← hX] at hc1 hXl
        rw [← hY] at hc2 hYl
        simp only [← hX, ← hY] at hne
        have hgd := neqGuardA
        have T1 := Lib.hid t1
        have T2 := Lib.hid t2
        have HT := Lib.hid ht
        have HNE := Lib.hid hne
        have HGD := Lib.hid hgd
        have HC1 := Lib.hid hc1
        have HC2 := Lib.hid hc2
        have HK := Lib.hid hlt
        have r1 : (k : Int) < (n : Int) := by omega
        have r1n : k < n := hlt
        clear t1 t2 hpe hqe ht hne hgd hc1 hc2 hk1 hk2 hlt hk hX hY
        go_upto_region 6 with fail
        refine Pt.wp_plan (fun w' => St w0 w' M L) (Pt.prs [0, 1, 2, 4, 5, 6] (Pt.rds [3, 7] (Pt.prs [8] .fin))) [] Tryd.mixed (by kernel_rfl) (fun _ _ d _ _ h => by cases d <;> exact h) H1.drew ?_
        have H2 := H1.drew
        simp only [Pt.toL, Pt.rds, Pt.prs, Pt.at_, List.drop_succ_cons, List.drop_zero]
        iterate 6 (refine Pt.pr_run (v := ?_) (by rfl) ?_ ?_; rotate_left; (focus (intro w'; go_simp; with_reducible rfl)); simp only [Act.put, List.setIfInBounds_toArray, List.set_cons_zero, List.set_cons_succ])
        (refine Pt.rd_load (by rfl) 71 (.tmp 19) (by rfl) b1 (o1 + k * 50) (by rfl) X _ (fun w' h => HC1.out w' h) Tryd.underlying71 rfl (by rw [hXl]; exact Tryd.sizeAcc) ?_; simp only [Act.put, List.setIfInBounds_toArray, List.set_cons_zero, List.set_cons_succ])
        (refine Pt.rd_load (by rfl) 71 (.tmp 23) (by rfl) b2 (o2 + k * 50) (by rfl) Y _ (fun w' h => HC2.out w' h) Tryd.underlying71 rfl (by rw [hYl]; exact Tryd.sizeAcc) ?_; simp only [Act.put, List.setIfInBounds_toArray, List.set_cons_zero, List.set_cons_succ])
        have hne := HNE.out
        have hgd := HGD.out
        (refine Pt.pr_run (v := ?_) (by rfl) ?_ ?_; rotate_left; (focus (intro w'; go_simp; with_reducible rfl)); simp only [Act.put, List.setIfInBounds_toArray, List.set_cons_zero, List.set_cons_succ])
        clear hne hgd
        refine Pt.run_fin ?_
        clear H1
        cases t with
        | false =>
          have hR : R = false := by
            rw [HR.out]
            refine decide_eq_false fun he => ?_
            have h3 := congrArg (List.take (k + 1)) he
            rw [T1.out, T2.out, HS.out] at h3
            have h4 := List.append_cancel_left h3
            simp only [List.cons.injEq, and_true] at h4
            have := HT.out
            simp [h4] at this
          subst hR
          go_upto_if 25 with fail
          simp only [Bool.not_false]
          go_wp2
          go_ret
          exact ⟨rfl, H2⟩
        | true =>
          have h4 : p = q := by simpa using HT.out
          have h5 : ps.take (k + 1) = qs.take (k + 1) := by rw [T1.out, T2.out, HS.out, h4]
          have H5 := Lib.hid h5
          clear h4 h5
          go_upto_if 25 with fail
          simp only [Bool.not_true]
          go_wp2
          exact ⟨⟨k + 1, by have := HK.out; omega, by go_num, H5.out, H2⟩, by have := HK.out; simp [intOf]; omega⟩
      · obtain rfl : k = n := by omega
        have hR : R = true := by
          rw [HR.out]
          refine decide_eq_true ?_
          have h3 := HS.out
          rw [List.take_of_length_le (by rw [HN.out]; exact Nat.le_refl _), List.take_of_length_le (by rw [HM.out]; exact Nat.le_refl _)] at h3
          exact h3
        subst hR
        clear hlt
        go_wp2
        go_ret
        exact ⟨rfl, H1⟩
  · have hR2 : R = false := by
      rw [hR]
      refine decide_eq_false fun he => hnm ?_
      rw [hn, hm, he]
    subst hR2
    have q1 : ¬ (n : Int) = (m : Int) := by omega
    clear hR hn hm
    go_enter Tryd.func13, Tryd.ntmps13
    go_wp2
    go_ret
    exact ⟨rfl, H⟩
/-- Where a tenant's account is; -1: there is none. -/
def RetRf (w0 : World) (M : Mem) (L : List Ent) (l : List Acc) (t : Nat) (e : Ending) (w' : World) : Prop :=
  ((∃ i : Nat, ∃ h : i < l.length, e = .returned (.int .i64 (i : Int)) ∧ l[i].t = t) ∨ (e = .returned (.int .i64 (-1)) ∧ Va.has t l = false)) ∧ St w0 w' M L
set_option maxRecDepth 100000 in
theorem rfind_any (H : St w0 w M L) {A : Option Addr} {c n : Nat} {l : List Acc} (hn : n = l.length) (hn2 : n ≤ 1000000) (hl : SrA w0 M L A (acs l)) (t : Nat) :
    Calls Tryd.prog 19 #[.slice A n c, .int .u64 (t : Int)] w (RetRf w0 M L l t) := by
  have HN := Lib.hid hn
  clear hn
  go_enter Tryd.func19, Tryd.ntmps19
  go_wp2
  go_loopw [5] (fun i wr => ∃ k : Nat, k ≤ n ∧ i = .int .i64 k ∧ (∀ x ∈ l.take k, x.t ≠ t) ∧ wr = w) (fun i _ => n - (intOf i).toNat)
  case atStart => exact ⟨0, by omega, rfl, by simp, rfl⟩
  case round =>
    obtain ⟨k, hk, rfl, hs, rfl⟩ := hrel
    have HS := Lib.hid hs
    clear hs
    by_cases hlt : k < n
    · have hk1 : k < l.length := by have := HN.out; omega
      obtain ⟨b, o, rfl, hrg⟩ := RA.at50 (hl.now H) k hk1
      have c0 := hrg 0 _ (ac_t l[k])
      rw [Nat.add_zero] at c0
      have hta : l.take (k + 1) = l.take k ++ [l[k]] := List.take_succ_eq_append_getElem hk1
      have hsucc : l[k].t ≠ t → ∀ x ∈ l.take (k + 1), x.t ≠ t := fun h x hx => by
        rw [hta] at hx
        rcases List.mem_append.1 hx with hx | hx
        · exact HS.out x hx
        · obtain rfl := List.mem_singleton.1 hx
          exact h
      have hend : l[k].t = t → ∃ h : k < l.length, l[k].t = t := fun h => ⟨hk1, h⟩
      obtain ⟨z, hz⟩ : ∃ z, z = l[k].t := ⟨_, rfl⟩
      simp only [← hz] at c0 hsucc
      have hend2 : z = t → ∃ h : k < l.length, l[k].t = t := fun h => hend (by rw [← hz]; exact h)
      have HSUCC := Lib.hid hsucc
      have HEND := Lib.hid hend2
      have HLT := Lib.hid hlt
      have r1 : (k : Int) < (n : Int) := by omega
      clear hrg hta hsucc hend hz hk1 hlt hend2
      by_cases hzt : z = t
      · have q : ((z : Int) == (t : Int)) = true := by simp [hzt]
        obtain ⟨h1, h2⟩ := HEND.out hzt
        have H2 := Lib.hid h2
        clear hzt
        go_wp2
        go_ret
        exact ⟨.inl ⟨k, h1, rfl, H2.out⟩, H⟩
      · have q : ((z : Int) == (t : Int)) = false := by simp; omega
        have h3 := HSUCC.out hzt
        have H3 := Lib.hid h3
        clear hzt h3
        go_wp2
        exact ⟨⟨k + 1, by have := HLT.out; omega, by go_num, H3.out, trivial⟩, by have := HLT.out; simp [intOf]; omega⟩
    · obtain rfl : k = n := by omega
      have h3 : Va.has t l = false := by
        have := HS.out
        rw [HN.out, List.take_length] at this
        unfold Va.has
        rw [List.any_eq_false]
        intro x hx
        simpa using this x hx
      have H3 := Lib.hid h3
      clear h3 hlt
      go_wp2
      go_ret
      exact ⟨.inr ⟨rfl, H3.out⟩, H⟩
theorem rsecret_any (s : ByteArray) (w : World) : Calls Tryd.prog 37 #[.string s] w fun e w' => e = .returned (.int .i64 (secretErr s.size)) ∧ w' = w := by
  unfold secretErr
  by_cases h1 : s.size < 8
  · rw [if_pos h1]
    go_enter Tryd.func37, Tryd.ntmps37
    go_wp2
    go_ret
    exact ⟨rfl, rfl⟩
  · rw [if_neg h1]
    by_cases h2 : 128 < s.size
    · rw [if_pos h2]
      go_enter Tryd.func37, Tryd.ntmps37
      go_wp2
      go_ret
      exact ⟨rfl, rfl⟩
    · rw [if_neg h2]
      go_enter Tryd.func37, Tryd.ntmps37
      go_wp2
      go_ret
      exact ⟨rfl, rfl⟩
end
end Go.Proofs.YtcdljlaoedaliaaDoor
/- The reference's account, put, Revoke and Rotate. -/
set_option linter.unusedVariables false
set_option linter.unusedSimpArgs false
namespace Go.Proofs.YtcdljlaoedaliaaDoor
open Go.RowKit Wd
open Va (Acc)
def Va.racct (t : Nat) (salt : List UInt8) (s : List UInt8) (hs : salt.length = 16) : Acc := ⟨t, salt, Mac.mac salt s, false, hs, Mac.mac_len salt s⟩
theorem Va.racct_eq (t : Nat) (salt s : List UInt8) (hs : salt.length = 16) (h : secretErr s.length = 0) : Va.racct t salt s hs = Va.acct t salt s hs := by
  unfold Va.racct Va.acct
  congr 1
  unfold Mac.store
  rw [if_pos h]
section
variable {w0 w : World} {M : Mem} {L : List Ent}
set_option maxRecDepth 100000 in
set_option maxHeartbeats 2000000 in
theorem raccount_any (H : St w0 w M L) (t : Nat) (salt s : List UInt8) (hs : salt.length = 16) (hsn : s.length < 100000000) :
    Calls Tryd.prog 38 #[.int .u64 (t : Int), .agg (bv salt).toArray, .string ⟨s.toArray⟩] w fun e w' => e = .returned (.agg (ac (Va.racct t salt s hs)).toArray) ∧ St w0 w' M L := by
  have hsl : (bv salt).length = 16 := by rw [bv_length, hs]
  have hb : Tryd.prog.built 71 [(0, .int .u64 (t : Int)), (1, .agg (bv salt).toArray), (2, .agg (bv (Mac.mac salt s)).toArray)] = some (ac (Va.racct t salt s hs)).toArray := Tryd.builtAcc t salt _ hs (Mac.mac_len salt s)
  have hXl := ac_length (Va.racct t salt s hs)
  have hX1 := ac_one (Va.racct t salt s hs)
  obtain ⟨X, hX⟩ : ∃ X, X = ac (Va.racct t salt s hs) := ⟨_, rfl⟩
  rw [← hX] at hb hXl hX1 ⊢
  have HB := Lib.hid hb
  have HSL := Lib.hid hsl
  have HXL := Lib.hid hXl
  have HX1 := Lib.hid hX1
  have HS := Lib.hid hs
  clear hX hb hsl hXl hX1
  have H1 := (H.new (bv salt) 24).newg zeroAcc 71 (g := w.heap.size + 1) (by simp)
  rw [objAcc] at H1
  go_enter Tryd.func38, Tryd.ntmps38
  go_upto_region 1 with fail
  generalize hw1 : World.alloc _ _ = w1 at *
  generalize hg1 : w.heap.size + 1 = g1 at *
  generalize hg : w.heap.size = g at *
  clear hw1 hg1 hg
  have H2 := H1.drew
  clear H1
  obtain ⟨g2, c2, w2, hcv, hlc, hcm, H3⟩ := conv_st (P := Tryd.prog) (src := 9) (dst := 42) H2 Tryd.underlying9 Tryd.underlying42 Tryd.underlying5 s (by omega)
  obtain ⟨M', hM', H4, hin⟩ := H3.keepm (l := s) (by rw [List.take_append_of_le_length (by rw [bv_length]; exact Nat.le_refl _), bv_take, List.take_length])
  have hm := rmac_any H4 (A := some ⟨g, 0, none⟩) (c := 16) (k := salt) (by rintro ⟨⟩) (Sr.blk 1 rfl (by rw [List.drop_zero, List.take_of_length_le (by rw [bv_length]; exact Nat.le_refl _)])) (by rw [HS.out]; decide) (by rw [HS.out]; exact Nat.le_refl _) (B := some ⟨g2, 0, none⟩) (d := c2) (b := s) (by rintro ⟨⟩) (Sr.of_in hin) (by omega)
  rw [HS.out] at hm
  obtain ⟨D, hD⟩ : ∃ D, D = Mac.mac salt s := ⟨_, rfl⟩
  rw [← hD] at hm
  simp only [← hD] at HB
  have HM := Lib.hid hm
  have H3b := H3.d0
  clear hm hD hin hlc hcm H3
  refine Pt.wp_plan (fun w' => St w0 w' M (eb g1 71 zeroAcc :: eb g 24 (bv salt) :: L)) (Pt.prs [0, 2, 3] (Pt.rds [1] (.go 4 (.go 5 (Pt.prs [6] (.st 7 .fin)))))) [7] Tryd.mixed (by kernel_rfl) (fun _ _ d _ _ h => by cases d <;> exact h) H2 ?_
  simp only [Pt.toL, Pt.rds, Pt.prs, Pt.at_, List.drop_succ_cons, List.drop_zero]
  iterate 3 (refine Pt.pr_run (v := ?_) (by rfl) ?_ ?_; rotate_left; (focus (intro w'; go_simp; with_reducible rfl)); simp only [Act.put, List.setIfInBounds_toArray, List.set_cons_zero, List.set_cons_succ])
  (refine Pt.rd_load (by rfl) 24 (.tmp 4) (by rfl) g 0 (by rfl) (bv salt) _ (fun w' h => (h.blk 1 rfl).range 0 16 _ (by rw [List.drop_zero, List.take_of_length_le (by rw [HSL.out]; exact Nat.le_refl _)])) Tryd.underlying24 rfl (by rw [HSL.out]; exact Tryd.size16) ?_; simp only [Act.put, List.setIfInBounds_toArray, List.set_cons_zero, List.set_cons_succ])
  refine Pt.run_go ?_
  go_wp2_with fail
  refine Pt.same H3b ?_
  refine Pt.run_go ?_
  go_wp2_with fail
  refine HM.out.mono ?_
  rintro e w3 ⟨rfl, H5⟩
  have H6 := H5.weak H2 hM'
  go_wp2_with fail
  refine Pt.same H6 ?_
  clear HM H5 hcv H4 H3b H2
  (refine Pt.pr_run (v := .agg X.toArray) (by rfl) (fun W => exec_build3 71 (.tmp 7) (.tmp 8) (.tmp 12) (by rfl) (by rfl) (by rfl) (by rfl) HB.out W) ?_; simp only [Act.put, List.setIfInBounds_toArray, List.set_cons_zero, List.set_cons_succ])
  refine Pt.run_st ?_
  refine wpList_store_st H6 (by rfl) 71 (.tmp 6) (.tmp 13) (by rfl) 0 X (by rfl) (by rfl) (by rw [HXL.out]; exact Nat.le_refl _) (by rw [HXL.out]; exact Tryd.sizeAcc) HX1.out ?_
  intro w4 H7
  rw [ins_all zeroAcc X (by rw [HXL.out]; rfl)] at H7
  refine wpList_nil ?_
  simp only [Pl.Then, Act.put, List.setIfInBounds_toArray, List.set_cons_zero, List.set_cons_succ]
  refine Pt.run_fin ?_
  go_wp2
  refine ret_row H7 (by rfl) (by rfl) Tryd.underlying71 (by rfl) (by rw [HXL.out]; exact Tryd.sizeAcc) rfl ?_
  exact ⟨rfl, H7.d0.d0⟩
set_option maxRecDepth 100000 in
set_option maxHeartbeats 1000000 in
theorem rput_any (H : St w0 w M L) {A : Option Addr} {c n : Nat} {l : List Acc} (hn : n = l.length) (hn2 : n ≤ 900000) (hA : A = none → c = 0) (hl : SrA w0 M L A (acs l)) (hp : l.Pairwise fun a b => a.t < b.t) (a : Acc) :
    Calls Tryd.prog 40 #[.slice A n c, .agg (ac a).toArray] w (Ret2 w0 M L (Va.with_ l a)) := by
  have H1 := H.new (ac a) 71
  have hf := rfind_any (c := c) H1 hn (by omega) (hl.cons _) a.t
  have hx : (acs l).length = n * 50 := by rw [acs_length, hn]
  have hX0 := ac_t a
  have hXl := ac_length a
  have hX1 := ac_one a
  have hone := acs_one l
  have hsm : ∀ i, (hi : i < l.length) → l[i].t = a.t → acs (Va.swap a l) = (acs l).take (i * 50) ++ ac a ++ (acs l).drop (i * 50 + 50) ∧ Va.has a.t l = true := fun i hi he => by
    refine ⟨by rw [Va.swap_at hp hi he, acs_set l i hi a], ?_⟩
    unfold Va.has
    rw [List.any_eq_true]
    exact ⟨l[i], List.getElem_mem hi, by simpa using he⟩
  have hwl : (Va.swap a l).length = n := by unfold Va.swap; rw [List.length_map, hn]
  obtain ⟨R, hR⟩ : ∃ R, R = Va.with_ l a := ⟨_, rfl⟩
  rw [← hR]
  unfold Va.with_ at hR
  obtain ⟨S, hS⟩ : ∃ S, S = Va.swap a l := ⟨_, rfl⟩
  rw [← hS] at hR hwl
  simp only [← hS] at hsm
  obtain ⟨t, htt⟩ : ∃ t, t = a.t := ⟨_, rfl⟩
  simp only [← htt] at hf hX0 hR hsm
  obtain ⟨X, hX⟩ : ∃ X, X = ac a := ⟨_, rfl⟩
  simp only [← hX] at hf hX0 hXl hX1 H1 hsm ⊢
  have c0 := H1.cell 0 rfl 0
  rw [hX0] at c0
  have HN := Lib.hid hn
  have HF := Lib.hid hf
  have HR := Lib.hid hR
  have HSM := Lib.hid hsm
  have HWL := Lib.hid hwl
  have HX1 := Lib.hid hX1
  have HA := Lib.hid hA
  have HONE := Lib.hid hone
  have HLX := Lib.hid hx
  clear hX htt hn hf hX0 hR hsm hwl hX1 H hS hx hA hone
  go_enter Tryd.func40, Tryd.ntmps40
  go_wp2_with fail
  refine HF.out.mono ?_
  rintro e w2 ⟨⟨i, hi, rfl, he⟩ | ⟨rfl, hno⟩, H2⟩
  · obtain ⟨hse, hyes⟩ := HSM.out i hi he
    have hR2 : R = (S, 0) := by rw [HR.out, if_pos hyes]
    have hin : i < n := by have := HN.out; omega
    subst hR2
    have HSE := Lib.hid hse
    have HIN := Lib.hid hin
    have H3 := H2.lit00 71 50
    have hr := ((hl.cons (eb w.heap.size 71 X)).cons (er 71 50 (.slice (some ⟨w2.heap.size, 0, none⟩) 0 0) 0 [])).now H3
    have HRA := Lib.hid hr
    have i0 : ¬ (i : Int) < 0 := by omega
    clear hi he hyes hse hin HF H1 c0 hr
    go_wp2_with (at_builtin; refine wpList_append_any_st H3 (by rfl) (.tmp 14) (.tmp 15) 22 (by rfl) Tryd.infoAcc (by rfl) (by decide) Tryd.underlying22 (by rfl) A n c (acs l) (by rfl) HLX.out HA.out HRA.out HONE.out (by omega) (by omega) ?_)
    intro v3 w3 H3
    clear H2
    obtain ⟨_, hr⟩ := er_bind (H3.get 0 rfl)
    rcases hr with ⟨rfl, h0⟩ | ⟨g, cap, cur, rfl, ho, hnc, hcm, hcs, htk⟩
    · exact absurd HIN.out (by omega)
    · obtain ⟨cs, HO, hcl, hct, -, -⟩ := H3.openRow
      have hrX := (HO.blk 1 rfl).range 0 50 X (by rw [List.drop_zero, List.take_of_length_le (by omega)])
      have hfit : i * 50 + X.length ≤ cs.length := by rw [hXl, hcl]; have := HIN.out; omega
      have r1 : (i : Int) < (n : Int) := by have := HIN.out; omega
      have HRX := Lib.hid hrX
      have HFIT := Lib.hid hfit
      have HCL := Lib.hid hcl
      have HCT := Lib.hid hct
      have HNC := Lib.hid hnc
      have HCM := Lib.hid hcm
      clear hrX hfit hcl hct hnc hcm ho hcs htk H3 HRA
      go_wp2_with first
        | (refine wpList_load_mid (by rfl) 71 (.tmp 3) (by rfl) w.heap.size 0 (by rfl) X _ HRX.out Tryd.underlying71 rfl (by rw [hXl]; exact Tryd.sizeAcc) ?_)
        | (refine wpList_store_st HO (by rfl) 71 (.tmp 20) (.tmp 19) (by rfl) (i * 50) X (by rfl) (by rfl) HFIT.out (by rw [hXl]; exact Tryd.sizeAcc) HX1.out ?_)
      intro w4 H4
      have hlen : (ins cs (i * 50) X).length = cap * 50 := by
        have := HFIT.out
        have := HCL.out
        unfold ins
        simp only [List.length_append, List.length_take, List.length_drop]
        omega
      have hval : (ins cs (i * 50) X).take (n * 50) = acs S := by
        rw [HSE.out, ← HCT.out, hXl.symm]
        have hf := HFIT.out
        have hi := HIN.out
        unfold ins
        rw [hXl] at hf ⊢
        have h1 : (cs.take (i * 50)).length = i * 50 := by rw [List.length_take]; omega
        rw [List.take_append, List.take_of_length_le (by rw [List.length_append, h1, hXl]; omega), List.length_append, h1, hXl, List.take_take, Nat.min_eq_left (by omega), List.drop_take]
      have H5 := H4.shutRow (n := n) (cap := cap) hlen HNC.out HCM.out
      rw [hval] at H5
      have hwl := HWL.out
      rw [← hwl] at H5
      have H6 := H5.d1
      have e6 : Value.slice (some ⟨g, 0, none⟩) n cap = Value.slice (some ⟨g, 0, none⟩) S.length cap := by rw [hwl]
      rw [← e6] at H6
      have H7 := Lib.hid H6
      clear H4 H5 hlen hval hwl e6 HO H6
      go_wp2
      go_ret2
      exact ⟨_, rfl, H7.out⟩
  · have hR2 : R = ([], 4) := by rw [HR.out, hno]; rfl
    subst hR2
    have H3 := H2.d0.addNil 71 50
    clear hno HF H1 HR HSM c0
    go_wp2
    go_ret2
    exact ⟨_, rfl, H3⟩
set_option maxRecDepth 100000 in
set_option maxHeartbeats 1000000 in
theorem rrevoke_any (H : St w0 w M L) {A : Option Addr} {c n : Nat} {l : List Acc} (hn : n = l.length) (hn2 : n ≤ 900000) (hA : A = none → c = 0) (hl : SrA w0 M L A (acs l)) (t : Nat) :
    Calls Tryd.prog 17 #[.slice A n c, .int .u64 (t : Int)] w (Ret2 w0 M L (Va.revoke l t)) := by
  have hck := rmay_any (c := c) H hn (by omega) hl
  have hwi := fun W (H : St w0 W M L) (hm : Va.May l) => rput_any (c := c) H hn hn2 hA hl hm.pair (Va.gone t)
  have HCK := Lib.hid hck
  have HWI := Lib.hid hwi
  have hlit : (ac (Va.gone t)).toArray = #[.int .u64 (t : Int), .int .u8 0, .int .u8 0, .int .u8 0, .int .u8 0, .int .u8 0, .int .u8 0, .int .u8 0, .int .u8 0, .int .u8 0, .int .u8 0, .int .u8 0, .int .u8 0, .int .u8 0, .int .u8 0, .int .u8 0, .int .u8 0, .int .u8 0, .int .u8 0, .int .u8 0, .int .u8 0, .int .u8 0, .int .u8 0, .int .u8 0, .int .u8 0, .int .u8 0, .int .u8 0, .int .u8 0, .int .u8 0, .int .u8 0, .int .u8 0, .int .u8 0, .int .u8 0, .int .u8 0, .int .u8 0, .int .u8 0, .int .u8 0, .int .u8 0, .int .u8 0, .int .u8 0, .int .u8 0, .int .u8 0, .int .u8 0, .int .u8 0, .int .u8 0, .int .u8 0, .int .u8 0, .int .u8 0, .int .u8 0, .bool true] := rfl
  simp only [hlit] at HWI
  obtain ⟨R, hR⟩ : ∃ R, R = Va.revoke l t := ⟨_, rfl⟩
  rw [← hR]
  unfold Va.revoke at hR
  have HR := Lib.hid hR
  clear hck hwi hlit hR hn hl H
  go_enter Tryd.func17, Tryd.ntmps17
  go_wp2_with fail
  refine HCK.out.mono ?_
  rintro e w1 ⟨b, rfl, hb, H1⟩
  cases b with
  | true =>
    have hm := hb.1 rfl
    have hw := HWI.out w1 H1 hm
    have hR2 : R = Va.with_ l (Va.gone t) := by rw [HR.out, if_pos hm]
    have HW := Lib.hid hw
    have HR2 := Lib.hid hR2
    clear hw hm hR2 HWI HCK HR hb
    go_wp2_with fail
    refine HW.out.mono ?_
    rintro e w2 ⟨v, rfl, H2⟩
    rw [← HR2.out] at H2 ⊢
    go_wp2
    go_ret2
    exact ⟨_, rfl, H2⟩
  | false =>
    have hm : ¬ Va.May l := fun h => by have := hb.2 h; cases this
    have hR2 : R = ([], 1) := by rw [HR.out, if_neg hm]
    subst hR2
    have H2 := H1.addNil 71 50
    clear hm HWI HCK HR hb
    go_wp2
    go_ret2
    exact ⟨_, rfl, H2⟩
set_option maxRecDepth 100000 in
set_option maxHeartbeats 1000000 in
theorem rrotate_any (H : St w0 w M L) {A : Option Addr} {c n : Nat} {l : List Acc} (hn : n = l.length) (hn2 : n ≤ 900000) (hA : A = none → c = 0) (hl : SrA w0 M L A (acs l)) (t : Nat) (salt s : List UInt8) (hs : salt.length = 16) (hsn : s.length < 100000000) :
    Calls Tryd.prog 15 #[.slice A n c, .int .u64 (t : Int), .agg (bv salt).toArray, .string ⟨s.toArray⟩] w (Ret2 w0 M L (Va.rotate l t salt s hs)) := by
  have H1 := H.new (bv salt) 24
  have hck := rmay_any (c := c) H1 hn (by omega) (hl.cons _)
  have hwi := fun W L' (H : St w0 W M L') (h : SrA w0 M L' A (acs l)) (hm : Va.May l) => rput_any (c := c) H hn hn2 hA h hm.pair (Va.racct t salt s hs)
  have hac := fun W L' (H : St w0 W M L') => raccount_any H t salt s hs hsn
  have hsz : (ByteArray.mk s.toArray).size = s.length := by show s.toArray.size = _; simp
  have hse := fun W => rsecret_any ⟨s.toArray⟩ W
  rw [hsz] at hse
  have hsl : (bv salt).length = 16 := by rw [bv_length, hs]
  have HCK := Lib.hid hck
  have HWI := Lib.hid hwi
  obtain ⟨R, hR⟩ : ∃ R, R = Va.rotate l t salt s hs := ⟨_, rfl⟩
  rw [← hR]
  unfold Va.rotate at hR
  obtain ⟨E, hE⟩ : ∃ E, E = secretErr s.length := ⟨_, rfl⟩
  rw [← hE] at hR hse
  have hre : E = 0 → Va.racct t salt s hs = Va.acct t salt s hs := fun h => Va.racct_eq t salt s hs (by rw [← hE]; exact h)
  obtain ⟨X, hX⟩ : ∃ X, X = ac (Va.racct t salt s hs) := ⟨_, rfl⟩
  simp only [← hX] at HWI hac
  have HR := Lib.hid hR
  have HSL := Lib.hid hsl
  have HAC := Lib.hid hac
  have HSE := Lib.hid hse
  have HRE := Lib.hid hre
  clear hck hwi hR hn H hE hsl hac hse hre hX hsz
  go_enter Tryd.func15, Tryd.ntmps15
  go_wp2_with fail
  refine HCK.out.mono ?_
  rintro e w1 ⟨b, rfl, hb, H2⟩
  cases b with
  | true =>
    have HM := Lib.hid (hb.1 rfl)
    have hrs := (H2.blk 0 rfl).range 0 16 (bv salt) (by rw [List.drop_zero, List.take_of_length_le (by rw [HSL.out]; exact Nat.le_refl _)])
    have HRS := Lib.hid hrs
    clear hb hrs HCK H1
    go_wp2_with fail
    refine (HSE.out _).mono ?_
    rintro e w2 ⟨rfl, rfl⟩
    by_cases hE : E = 0
    · have hR2 : R = Va.with_ l (Va.racct t salt s hs) := by rw [HR.out, if_pos HM.out, if_pos hE, HRE.out hE]
      have HR2 := Lib.hid hR2
      subst hE
      clear hR2 HR HRE
      go_wp2_with (refine wpList_load_mid (by rfl) 24 (.tmp 6) (by rfl) w.heap.size 0 (by rfl) (bv salt) _ HRS.out Tryd.underlying24 rfl (by rw [HSL.out]; exact Tryd.size16) ?_)
      go_wp2_with fail
      refine (HAC.out _ _ H2).mono ?_
      rintro e w3 ⟨rfl, H3⟩
      go_wp2_with fail
      refine (HWI.out _ _ H3 (hl.cons _) HM.out).mono ?_
      rintro e w4 ⟨v, rfl, H6⟩
      rw [← HR2.out] at H6 ⊢
      go_wp2
      go_ret2
      exact ⟨_, rfl, H6.f1.d0⟩
    · have hR2 : R = ([], E) := by rw [HR.out, if_pos HM.out, if_neg hE]
      subst hR2
      have e1 : (E == 0) = false := by simpa using hE
      have e2 : (E != 0) = true := by simpa using hE
      have H6 := H2.d0.addNil 71 50
      clear hE HWI HR HRE HAC
      go_wp2
      go_ret2
      exact ⟨_, rfl, H6⟩
  | false =>
    have hm : ¬ Va.May l := fun h => by have := hb.2 h; cases this
    have hR2 : R = ([], 1) := by rw [HR.out, if_neg hm]
    subst hR2
    have H3 := H2.d0.addNil 71 50
    clear hm HWI HCK HR H1 hb HRE HAC
    go_wp2
    go_ret2
    exact ⟨_, rfl, H3⟩
end
end Go.Proofs.YtcdljlaoedaliaaDoor
/- The reference's Enroll. -/
set_option linter.unusedVariables false
set_option linter.unusedSimpArgs false
namespace Go.Proofs.YtcdljlaoedaliaaDoor
open Go.RowKit Wd
open Va (Acc)
section
variable {w0 w : World} {M : Mem} {L : List Ent}
set_option maxRecDepth 100000 in
set_option maxHeartbeats 2000000 in
theorem renroll_any (H : St w0 w M L) {A : Option Addr} {c n : Nat} {l : List Acc} (hn : n = l.length) (hn2 : n ≤ 900000) (hA : A = none → c = 0) (hnc : n ≤ c) (hl : SrA w0 M L A (acs l)) (t : Nat) (salt s : List UInt8) (hs : salt.length = 16) (hsn : s.length < 100000000) :
    Calls Tryd.prog 10 #[.slice A n c, .int .u64 (t : Int), .agg (bv salt).toArray, .string ⟨s.toArray⟩] w (Ret2 w0 M L (Va.enroll l t salt s hs)) := by
  have H1 := H.new (bv salt) 24
  have hck := rmay_any (c := c) H1 hn (by omega) (hl.cons _)
  have hfi := fun W L' (H : St w0 W M L') (h : SrA w0 M L' A (acs l)) => rfind_any (c := c) H hn (by omega) h t
  have hac := fun W L' (H : St w0 W M L') => raccount_any H t salt s hs hsn
  have hsz : (ByteArray.mk s.toArray).size = s.length := by show s.toArray.size = _; simp
  have hse := fun W => rsecret_any ⟨s.toArray⟩ W
  rw [hsz] at hse
  have hsl : (bv salt).length = 16 := by rw [bv_length, hs]
  have hone := acs_one l
  have hYl := ac_length (Va.racct t salt s hs)
  have hY1 := ac_one (Va.racct t salt s hs)
  have HCK := Lib.hid hck
  have hput : ∀ i, Va.Cut t l i → acs (Va.put (Va.racct t salt s hs) l) = acs (l.take i) ++ (ac (Va.racct t salt s hs) ++ (acs l).drop (i * 50)) ∧ (Va.put (Va.racct t salt s hs) l).length = n + 1 := fun i hc => by
    have e := Va.Cut.put (a := Va.racct t salt s hs) hc
    rw [e]
    have hd : acs (l.drop i) = (acs l).drop (i * 50) := by
      have h0 : acs l = acs (l.take i) ++ acs (l.drop i) := by rw [← acs_append, List.take_append_drop]
      have h1 : (acs (l.take i)).length = i * 50 := by rw [acs_length, List.length_take, Nat.min_eq_left hc.1]
      have h2 : (acs (l.take i)).drop (i * 50) = [] := List.drop_eq_nil_of_le (by omega)
      rw [h0, List.drop_append, h2, h1, Nat.sub_self, List.drop_zero, List.nil_append]
    refine ⟨by rw [acs_append, ← hd]; rfl, ?_⟩
    have := hc.1
    rw [List.length_append, List.length_cons, List.length_take, List.length_drop, hn]
    omega
  obtain ⟨R, hR⟩ : ∃ R, R = Va.enroll l t salt s hs := ⟨_, rfl⟩
  rw [← hR]
  unfold Va.enroll at hR
  obtain ⟨E, hE⟩ : ∃ E, E = secretErr s.length := ⟨_, rfl⟩
  rw [← hE] at hR hse
  have hre : E = 0 → Va.racct t salt s hs = Va.acct t salt s hs := fun h => Va.racct_eq t salt s hs (by rw [← hE]; exact h)
  obtain ⟨S, hS⟩ : ∃ S, S = Va.put (Va.racct t salt s hs) l := ⟨_, rfl⟩
  have hS2 : E = 0 → S = Va.put (Va.acct t salt s hs) l := fun h => by rw [hS, hre h]
  simp only [← hS] at hput
  obtain ⟨Y, hY⟩ : ∃ Y, Y = ac (Va.racct t salt s hs) := ⟨_, rfl⟩
  simp only [← hY] at hac hput hYl hY1
  have HN := Lib.hid hn
  have HFI := Lib.hid hfi
  have HR := Lib.hid hR
  have HSL := Lib.hid hsl
  have HAC := Lib.hid hac
  have HSE := Lib.hid hse
  have HS2 := Lib.hid hS2
  have HPUT := Lib.hid hput
  have HONE := Lib.hid hone
  have HY1 := Lib.hid hY1
  have HA := Lib.hid hA
  clear hck hfi hR hn H hE hsl hac hse hre hY hsz hS hS2 hput hone hY1 hA
  by_cases ht0 : t = 0
  · subst ht0
    go_enter Tryd.func10, Tryd.ntmps10
    go_wp2_with fail
    refine HCK.out.mono ?_
    have hR2 : R = ([], 1) := by rw [HR.out, if_neg (fun h => h.2 rfl)]
    subst hR2
    rintro e w1 ⟨b, rfl, hb, H2⟩
    have H3 := H2.d0.addNil 71 50
    cases b with
    | true =>
      clear hb HCK HR H1 HFI HAC HSE HPUT HS2
      go_wp2
      go_ret2
      exact ⟨_, rfl, H3⟩
    | false =>
      clear hb HCK HR H1 HFI HAC HSE HPUT HS2
      go_wp2
      go_ret2
      exact ⟨_, rfl, H3⟩
  · have q0 : ((t : Int) == 0) = false := by simp; omega
    have HT0 := Lib.hid ht0
    clear ht0
    go_enter Tryd.func10, Tryd.ntmps10
    go_wp2_with fail
    refine HCK.out.mono ?_
    rintro e w1 ⟨b, rfl, hb, H2⟩
    cases b with
    | false =>
      have hm : ¬ Va.May l := fun h => by have := hb.2 h; cases this
      have hR2 : R = ([], 1) := by rw [HR.out, if_neg (fun h => hm h.1)]
      subst hR2
      have H3 := H2.d0.addNil 71 50
      clear hm hb HCK HR H1 HFI HAC HSE HPUT HS2
      go_wp2
      go_ret2
      exact ⟨_, rfl, H3⟩
    | true =>
      have hm := hb.1 rfl
      have HM := Lib.hid hm
      clear hm hb HCK H1
      go_wp2_with fail
      refine (HSE.out _).mono ?_
      rintro e w2 ⟨rfl, rfl⟩
      by_cases hE : E = 0
      · subst hE
        go_wp2_with fail
        refine (HFI.out _ _ H2 (hl.cons _)).mono ?_
        rintro e w2 ⟨⟨i, hi, rfl, he⟩ | ⟨rfl, hno⟩, H3⟩
        · have hyes : Va.has t l = true := by
            unfold Va.has
            rw [List.any_eq_true]
            exact ⟨l[i], List.getElem_mem hi, by simpa using he⟩
          have hR2 : R = ([], 6) := by rw [HR.out, if_pos ⟨HM.out, HT0.out⟩, if_pos (by trivial), if_pos hyes]
          subst hR2
          have i0 : (0 : Int) ≤ (i : Int) := by omega
          have H7 := H3.d0.addNil 71 50
          clear hi he hyes HR HPUT HAC H2 HS2
          go_wp2
          go_ret2
          exact ⟨_, rfl, H7⟩
        · have hno2 : ¬ Va.has t l = true := by rw [hno]; simp
          by_cases h64 : n = 64
          · have hR2 : R = ([], 12) := by rw [HR.out, if_pos ⟨HM.out, HT0.out⟩, if_pos (by trivial), if_neg hno2, if_pos (HN.out.symm.trans h64)]
            have q1 : ((n : Int) == 64) = true := by simp; omega
            subst hR2
            have H7 := H3.d0.addNil 71 50
            clear hno hno2 HR HPUT HAC H2 HS2 h64
            go_wp2
            go_ret2
            exact ⟨_, rfl, H7⟩
          · have hR2 : R = (S, 0) := by rw [HR.out, if_pos ⟨HM.out, HT0.out⟩, if_pos (by trivial), if_neg hno2, if_neg (fun h => h64 (HN.out.trans h)), HS2.out (by trivial)]
            have q1 : ((n : Int) == 64) = false := by simp; omega
            subst hR2
            have H4 := H3.lit00 71 50
            have hpw := HM.out.pair
            have HPW := Lib.hid hpw
            clear hno hno2 HR h64 H2 HS2 hpw
            go_wp2
            go_loopw [11, 12] (fun v i wr => ∃ k : Nat, k ≤ n ∧ i = .int .i64 k ∧ (∀ x ∈ l.take k, x.t < t) ∧ St w0 wr M (er 71 50 v k (acs (l.take k)) :: eb w.heap.size 24 (bv salt) :: L)) (fun _ i _ => n - (intOf i).toNat)
            case atStart => exact ⟨0, by omega, rfl, by simp, H4⟩
            case round =>
              obtain ⟨k, hk, rfl, hsf, H5⟩ := hrel
              have HSF := Lib.hid hsf
              clear H4 hsf H3
              have hcut : k ≤ l.length ∧ (∀ x ∈ l.take k, x.t < t) := ⟨by have := HN.out; omega, HSF.out⟩
              by_cases hgo : ∃ h : k < l.length, l[k].t < t
              · obtain ⟨hk1, hzt⟩ := hgo
                obtain ⟨b, o, rfl, hrg⟩ := RA.at50 (((hl.cons _).cons _).now H5) k hk1
                have c0 := hrg 0 _ (ac_t l[k])
                rw [Nat.add_zero] at c0
                have hta : l.take (k + 1) = l.take k ++ [l[k]] := List.take_succ_eq_append_getElem hk1
                have hsucc : ∀ x ∈ l.take (k + 1), x.t < t := fun x hx => by
                  rw [hta] at hx
                  rcases List.mem_append.1 hx with hx | hx
                  · exact HSF.out x hx
                  · obtain rfl := List.mem_singleton.1 hx
                    exact hzt
                have hacs : acs (l.take (k + 1)) = acs (l.take k) ++ ac l[k] := by rw [hta, acs_append]; simp [acs]
                have hXl := ac_length l[k]
                have hX1 := ac_one l[k]
                obtain ⟨X, hX⟩ : ∃ X, X = ac l[k] := ⟨_, rfl⟩
                rw [← hX] at hrg hXl hX1 hacs
                have hz2 : (l[k].t : Int) < (t : Int) := by omega
                obtain ⟨z, hz⟩ : ∃ z, z = l[k].t := ⟨_, rfl⟩
                rw [← hz] at c0 hz2
                have r1 : (k : Int) < (n : Int) := by have := HN.out; omega
                have hkn : k < n := by have := HN.out; omega
                have H6 := H5.new X 71
                have hbs := run_buildSlice_one (P := Tryd.prog) (n := 50) Tryd.underlying22 (by
                  obtain ⟨i, h1, h2, h3, h4⟩ := info_parts Tryd.infoAcc
                  rw [h1]; simp [h2, h3]; rfl) rfl (by decide) (by decide) (.agg X.toArray) (by simpa [Value.cells] using hXl) wr
                have hra := (H6.blk 0 rfl).ra 0 50 X (by rw [List.drop_zero, List.take_of_length_le (by omega)])
                have HSUCC := Lib.hid hsucc
                have HACS := Lib.hid hacs
                have HX1 := Lib.hid hX1
                have HRG := Lib.hid hrg
                have HRA := Lib.hid hra
                have HKN := Lib.hid hkn
                clear hX hz hzt hta hsucc hacs hX1 hrg hk1 hcut hra hkn
                go_upto_region 14 with fail
                refine wp_region_lit ?_
                iterate 4 (refine wpList_ex (v := ?_) (by rfl) ?_ ?_; rotate_left; (focus (go_simp; with_reducible rfl)); simp only [Act.put, List.setIfInBounds_toArray, List.set_cons_zero, List.set_cons_succ])
                refine wpList_load_mid (by rfl) 71 (.tmp 52) (by rfl) b (o + k * 50) (by rfl) X _ HRG.out Tryd.underlying71 rfl (by rw [hXl]; exact Tryd.sizeAcc) ?_
                simp only [Act.put, List.setIfInBounds_toArray, List.set_cons_zero, List.set_cons_succ]
                refine wpList_bs1 (by rfl) 22 (.tmp 53) (by rfl) (by rfl) hbs ?_
                simp only [Act.put, List.setIfInBounds_toArray, List.set_cons_zero, List.set_cons_succ]
                refine wpList_append_any_st H6.f1 (by rfl) (.tmp 49) (.tmp 54) 22 (by rfl) Tryd.infoAcc (by rfl) (by decide) Tryd.underlying22 (by rfl) (some ⟨wr.heap.size, 0, none⟩) 1 1 X (by rfl) (by rw [hXl]) (by rintro ⟨⟩) HRA.out HX1.out (by omega) (by omega) ?_
                intro v6 w6 H7
                rw [← HACS.out] at H7
                have H8 := H7.d1
                simp only [Act.put, List.setIfInBounds_toArray, List.set_cons_zero, List.set_cons_succ]
                clear H7 H6 H5 hbs HRA HACS
                go_wp2
                exact ⟨⟨k + 1, HKN.out, by go_num, HSUCC.out, H8⟩, by have := HKN.out; simp [intOf]; omega⟩
              · have hdr : ∀ x ∈ l.drop k, ¬ x.t < t := fun x hx => by
                  obtain ⟨j, hj, rfl⟩ := List.getElem_of_mem hx
                  rw [List.length_drop] at hj
                  have hk1 : k < l.length := by omega
                  have hz : ¬ l[k].t < t := fun h => hgo ⟨hk1, h⟩
                  rw [List.getElem_drop]
                  rcases Nat.eq_zero_or_pos j with rfl | hj0
                  · simpa using hz
                  · have := List.pairwise_iff_getElem.1 HPW.out k (k + j) hk1 (by omega) (by omega)
                    omega
                have hc : Va.Cut t l k := ⟨hcut.1, hcut.2, hdr⟩
                obtain ⟨hp1, hp2⟩ := HPUT.out k hc
                have HP1 := Lib.hid hp1
                have HP2 := Lib.hid hp2
                have hgo2 : (k < n ∧ ∃ z : Nat, z = (l[k]?.map Acc.t).getD 0 ∧ ¬ z < t) ∨ k = n := by
                  rcases Nat.lt_or_ge k l.length with h | h
                  · refine .inl ⟨by have := HN.out; omega, l[k].t, by simp [List.getElem?_eq_getElem h], fun hz => hgo ⟨h, hz⟩⟩
                  · exact .inr (by have := HN.out; omega)
                clear hdr hc hp1 hp2 hgo hcut HPUT
                have r1 : (k : Int) ≤ (n : Int) := by omega
                obtain ⟨A5, c5, rfl, hc5⟩ := H5.shape 0 rfl
                rcases hgo2 with ⟨hkn, z, hz, hzt⟩ | hkn
                · have hk1 : k < l.length := by have := HN.out; omega
                  obtain ⟨b, o, rfl, hrg⟩ := RA.at50 (((hl.cons _).cons _).now H5) k hk1
                  have c0 := hrg 0 _ (ac_t l[k])
                  rw [Nat.add_zero, show l[k].t = z from by rw [hz, List.getElem?_eq_getElem hk1]; rfl] at c0
                  have r2 : (k : Int) < (n : Int) := by omega
                  have hzt2 : ¬ (z : Int) < (t : Int) := by omega
                  clear hrg hz hk1 hzt
                  go_upto_region 16 with fail
                  have hrs := (H5.blk 1 rfl).range 0 16 (bv salt) (by rw [List.drop_zero, List.take_of_length_le (by rw [HSL.out]; exact Nat.le_refl _)])
                  refine wp_region_lit ?_
                  iterate 2 (refine wpList_ex (v := ?_) (by rfl) ?_ ?_; rotate_left; (focus (go_simp; with_reducible rfl)); simp only [Act.put, List.setIfInBounds_toArray, List.set_cons_zero, List.set_cons_succ])
                  refine wpList_load_mid (by rfl) 24 (.tmp 6) (by rfl) w.heap.size 0 (by rfl) (bv salt) _ hrs Tryd.underlying24 rfl (by rw [HSL.out]; exact Tryd.size16) ?_
                  simp only [Act.put, List.setIfInBounds_toArray, List.set_cons_zero, List.set_cons_succ]
                  (refine wpList_ex (v := ?_) (by rfl) ?_ ?_; rotate_left; (focus (go_simp; with_reducible rfl)); simp only [Act.put, List.setIfInBounds_toArray, List.set_cons_zero, List.set_cons_succ])
                  clear hrs
                  go_wp2_with fail
                  refine (HAC.out _ _ H5).mono ?_
                  rintro e w3 ⟨rfl, H6⟩
                  dsimp only
                  refine ‹∀ (a : Act) (w : World), wpList _ _ _ _ a w → _› _ _ ?_
                  try simp only [Act.put, List.setIfInBounds_toArray, List.set_cons_zero, List.set_cons_succ]
                  have hbs := run_buildSlice_one (P := Tryd.prog) (n := 50) Tryd.underlying22 (by
                    obtain ⟨i, h1, h2, h3, h4⟩ := info_parts Tryd.infoAcc
                    rw [h1]; simp [h2, h3]; rfl) rfl (by decide) (by decide) (.agg Y.toArray) (by simpa [Value.cells] using hYl) w3
                  have H7 := H6.new Y 71
                  have hra := (H7.blk 0 rfl).ra 0 50 Y (by rw [List.drop_zero, List.take_of_length_le (by omega)])
                  refine wpList_bs1 (by rfl) 22 (.tmp 62) (by rfl) (by rfl) hbs ?_
                  simp only [Act.put, List.setIfInBounds_toArray, List.set_cons_zero, List.set_cons_succ]
                  refine wpList_append_any_st H7.f1 (by rfl) (.tmp 58) (.tmp 63) 22 (by rfl) Tryd.infoAcc (by rfl) (by decide) Tryd.underlying22 (by rfl) (some ⟨w3.heap.size, 0, none⟩) 1 1 Y (by rfl) (by rw [hYl]) (by rintro ⟨⟩) hra HY1.out (by omega) (by omega) ?_
                  intro v6 w6 H8
                  have H9 := H8.d1
                  try simp only [Act.put, List.setIfInBounds_toArray, List.set_cons_zero, List.set_cons_succ]
                  clear H8 H7 H6 H5 hbs hra
                  go_upto_region 17 with fail
                  have hrl := ((hl.cons (eb w.heap.size 24 (bv salt))).cons (er 71 50 v6 (k + 1) (acs (l.take k) ++ Y))).now H9
                  have hne : acs l ≠ [] := by
                    intro h0
                    have := acs_length l
                    rw [h0, List.length_nil] at this
                    have := HN.out
                    omega
                  obtain ⟨b', o', he', hlt', hr'⟩ := hrl hne
                  injection he' with he'
                  injection he' with e1' e2'
                  subst e1' e2'
                  have hra2 : RA w6 (some ⟨b, o + k * 50, none⟩) ((acs l).drop (k * 50)) := fun _ => ⟨b, o + k * 50, rfl, hlt', fun j v hj => by rw [Nat.add_assoc]; exact hr' (k * 50 + j) v (by rwa [List.getElem?_drop] at hj)⟩
                  have hnl : ((acs l).drop (k * 50)).length = (n - k) * 50 := by rw [List.length_drop, acs_length, ← HN.out, Nat.sub_mul]
                  have hn1 : ∀ u ∈ (acs l).drop (k * 50), u.oneCell' = true := fun u hu => HONE.out u (List.mem_of_mem_drop hu)
                  have nc1 : ¬ c = k := by omega
                  have kn1 : k + 1 + (n - k) = S.length := by rw [HP2.out]; omega
                  have HRA2 := Lib.hid hra2
                  have HNL := Lib.hid hnl
                  have HN1 := Lib.hid hn1
                  have HKN1 := Lib.hid kn1
                  clear hra2 hnl hn1 kn1 hr' hlt' hne hrl
                  go_wp2_with (at_builtin; refine wpList_append_any_st H9 (by rfl) (.tmp 65) (.tmp 68) 22 (by rfl) Tryd.infoAcc (by rfl) (by decide) Tryd.underlying22 (by rfl) (some ⟨b, o + k * 50, none⟩) (n - k) (c - k) ((acs l).drop (k * 50)) (by rfl) HNL.out (by rintro ⟨⟩) HRA2.out HN1.out (by omega) (by omega) ?_)
                  intro v7 w7 HA
                  rw [HKN1.out, ← HP1.out] at HA
                  have HB := HA.f1.d0
                  clear HA H9
                  go_wp2
                  go_ret2
                  exact ⟨_, rfl, HB⟩
                · subst hkn
                  have r2 : ¬ (k : Int) < (k : Int) := by omega
                  go_upto_region 16 with fail
                  have hrs := (H5.blk 1 rfl).range 0 16 (bv salt) (by rw [List.drop_zero, List.take_of_length_le (by rw [HSL.out]; exact Nat.le_refl _)])
                  refine wp_region_lit ?_
                  iterate 2 (refine wpList_ex (v := ?_) (by rfl) ?_ ?_; rotate_left; (focus (go_simp; with_reducible rfl)); simp only [Act.put, List.setIfInBounds_toArray, List.set_cons_zero, List.set_cons_succ])
                  refine wpList_load_mid (by rfl) 24 (.tmp 6) (by rfl) w.heap.size 0 (by rfl) (bv salt) _ hrs Tryd.underlying24 rfl (by rw [HSL.out]; exact Tryd.size16) ?_
                  simp only [Act.put, List.setIfInBounds_toArray, List.set_cons_zero, List.set_cons_succ]
                  (refine wpList_ex (v := ?_) (by rfl) ?_ ?_; rotate_left; (focus (go_simp; with_reducible rfl)); simp only [Act.put, List.setIfInBounds_toArray, List.set_cons_zero, List.set_cons_succ])
                  clear hrs
                  go_wp2_with fail
                  refine (HAC.out _ _ H5).mono ?_
                  rintro e w3 ⟨rfl, H6⟩
                  dsimp only
                  refine ‹∀ (a : Act) (w : World), wpList _ _ _ _ a w → _› _ _ ?_
                  try simp only [Act.put, List.setIfInBounds_toArray, List.set_cons_zero, List.set_cons_succ]
                  have hbs := run_buildSlice_one (P := Tryd.prog) (n := 50) Tryd.underlying22 (by
                    obtain ⟨i, h1, h2, h3, h4⟩ := info_parts Tryd.infoAcc
                    rw [h1]; simp [h2, h3]; rfl) rfl (by decide) (by decide) (.agg Y.toArray) (by simpa [Value.cells] using hYl) w3
                  have H7 := H6.new Y 71
                  have hra := (H7.blk 0 rfl).ra 0 50 Y (by rw [List.drop_zero, List.take_of_length_le (by omega)])
                  refine wpList_bs1 (by rfl) 22 (.tmp 62) (by rfl) (by rfl) hbs ?_
                  simp only [Act.put, List.setIfInBounds_toArray, List.set_cons_zero, List.set_cons_succ]
                  refine wpList_append_any_st H7.f1 (by rfl) (.tmp 58) (.tmp 63) 22 (by rfl) Tryd.infoAcc (by rfl) (by decide) Tryd.underlying22 (by rfl) (some ⟨w3.heap.size, 0, none⟩) 1 1 Y (by rfl) (by rw [hYl]) (by rintro ⟨⟩) hra HY1.out (by omega) (by omega) ?_
                  intro v6 w6 H8
                  have H9 := H8.d1
                  try simp only [Act.put, List.setIfInBounds_toArray, List.set_cons_zero, List.set_cons_succ]
                  clear H8 H7 H6 H5 hbs hra
                  go_upto_region 17 with fail
                  have hrl := ((hl.cons (eb w.heap.size 24 (bv salt))).cons (er 71 50 v6 (k + 1) (acs (l.take k) ++ Y))).now H9
                  have hnl : (acs l).drop (k * 50) = [] := List.drop_eq_nil_of_le (by rw [acs_length, ← HN.out]; exact Nat.le_refl _)
                  have kn1 : k + 1 + 0 = S.length := by rw [HP2.out]
                  have hp1 := HP1.out
                  rw [hnl, List.append_nil] at hp1
                  have HPN := Lib.hid hp1
                  have HKN1 := Lib.hid kn1
                  have r3 : (k : Int) ≤ (c : Int) := by omega
                  have hra0 : ∀ B : Option Addr, RA w6 B [] := fun B h => absurd rfl h
                  clear hnl kn1 hrl hp1
                  by_cases hck : c = k
                  · subst hck
                    go_wp2_with (at_builtin; refine wpList_append_any_st H9 (by rfl) (.tmp 65) (.tmp 68) 22 (by rfl) Tryd.infoAcc (by rfl) (by decide) Tryd.underlying22 (by rfl) A 0 0 [] (by rfl) (by rfl) (fun _ => rfl) (hra0 A) (by simp) (by omega) (by omega) ?_)
                    intro v7 w7 HA
                    rw [HKN1.out, ← HPN.out] at HA
                    have HB := HA.f1.d0
                    clear HA H9 hra0
                    go_wp2
                    go_ret2
                    exact ⟨_, rfl, HB⟩
                  · cases A with
                    | none => have := HA.out rfl; omega
                    | some ad =>
                      go_wp2_with (at_builtin; refine wpList_append_any_st H9 (by rfl) (.tmp 65) (.tmp 68) 22 (by rfl) Tryd.infoAcc (by rfl) (by decide) Tryd.underlying22 (by rfl) _ 0 (c - k) [] (by rfl) (by rfl) (by rintro ⟨⟩) (hra0 _) (by simp) (by omega) (by omega) ?_)
                      intro v7 w7 HA
                      rw [HKN1.out, ← HPN.out] at HA
                      have HB := HA.f1.d0
                      clear HA H9 hra0
                      go_wp2
                      go_ret2
                      exact ⟨_, rfl, HB⟩
      · have hR2 : R = ([], E) := by rw [HR.out, if_pos ⟨HM.out, HT0.out⟩, if_neg hE]
        subst hR2
        have e1 : (E == 0) = false := by simpa using hE
        have e2 : (E != 0) = true := by simpa using hE
        have H7 := H2.d0.addNil 71 50
        clear hE HR H2 HFI HAC HPUT HS2
        go_wp2
        go_ret2
        exact ⟨_, rfl, H7⟩
end
end Go.Proofs.YtcdljlaoedaliaaDoor
