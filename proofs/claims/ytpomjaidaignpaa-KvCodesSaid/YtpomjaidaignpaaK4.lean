/- Are batches alike, is one not too great: the reference's SameActs, the law's small. -/
import Derived.Test.YtpomjaidaignpaaC4
import Derived.Test.YtpomjaidaignpaaC0
import Derived.Deep.DeepCutAuto
set_option linter.unusedVariables false
set_option linter.unusedSimpArgs false
namespace Go.Proofs.Ytpomjaidaignpaa
open Go.RowKit Wd
theorem cells_ac {w0 W : World} {M M' : Mem} {F : List Ent} {b o k : Nat} {l : List Ac} (hl : SrA w0 M F (some ⟨b, o, none⟩) (acs l)) (hk : k < l.length) (hM : M.le M') (H : St w0 W M' F) {S : ByteArray} {B : Bool} {V : Value} (h1 : str l[k].key = S) (h2 : l[k].set = B) (h3 : l[k].p.v = V) :
    W.cell? ⟨b, o + k * 3, none⟩ = some (.string S) ∧ W.cell? ⟨b, o + k * 3 + 1, none⟩ = some (.bool B) ∧ W.cell? ⟨b, o + k * 3 + 2, none⟩ = some V := by
  have h := SrA.ac3 hl k hk W M' hM H
  subst h1 h2 h3
  exact ⟨h 0 _ rfl, h 1 _ rfl, h 2 _ rfl⟩
section
variable {w0 w : World} {M : Mem} {L : List Ent}
set_option maxRecDepth 100000 in
set_option maxHeartbeats 4000000 in
/-- Batches that are alike. -/
theorem same_acts (H : St w0 w M L) {A1 A2 : Option Addr} {c1 c2 n : Nat} {l m : List Ac} (hn : n = l.length) (hlm : l.map Ac.act = m.map Ac.act) (hl : SrA w0 M L A1 (acs l)) (hm : SrA w0 M L A2 (acs m)) (il : AcIn M l) (im : AcIn M m) (hn2 : n ≤ 1000000) :
    Calls Try.prog 12 #[.slice A1 n c1, .slice A2 n c2] w fun e w' => e = .returned (.bool true) ∧ St w0 w' M L := by
  have hml : m.length = n := by rw [hn]; simpa using (congrArg List.length hlm).symm
  have HN := Lib.hid (And.intro hn (And.intro hml hlm))
  clear hn hml hlm
  go_enter Try.func12, Try.ntmps12
  go_wp2
  go_loopw [5] (fun i wr => ∃ k : Nat, k ≤ n ∧ i = .int .i64 k ∧ St w0 wr M L) (fun i _ => n - (intOf i).toNat)
  case atStart => exact ⟨0, by omega, rfl, H⟩
  case round =>
    obtain ⟨k, hk, rfl, H1⟩ := hrel
    clear H
    by_cases hlt : k < n
    · have hk1 : k < l.length := by have := HN.out.1; omega
      have hk2 : k < m.length := by have := HN.out.2.1; omega
      obtain ⟨b1, o1, rfl, -⟩ := RA.ac3 (hl.now H1) k hk1
      obtain ⟨b2, o2, rfl, -⟩ := RA.ac3 (hm.now H1) k hk2
      have heq : l[k].act = m[k].act := by
        have h := congrArg (fun x => x[k]?) HN.out.2.2
        simpa [hk1, hk2] using h
      have hp := il _ (List.getElem_mem hk1)
      have hq := im _ (List.getElem_mem hk2)
      have k1 := fun W (HW : St w0 W M L) => cells_ac hl hk1 (Mem.le.refl M) HW rfl rfl rfl
      have k2 := fun W (HW : St w0 W M L) => cells_ac hm hk2 (Mem.le.refl M) HW rfl rfl rfl
      obtain ⟨p, hpe⟩ : ∃ p, p = l[k] := ⟨_, rfl⟩
      obtain ⟨q, hqe⟩ : ∃ q, q = m[k] := ⟨_, rfl⟩
      rw [← hpe, ← hqe] at heq
      rw [← hpe] at hp
      rw [← hqe] at hq
      simp only [← hpe] at k1
      simp only [← hqe] at k2
      obtain ⟨key, set, ⟨PA, PN, PC, PL⟩⟩ := p
      obtain ⟨key2, set2, ⟨QA, QN, QC, QL⟩⟩ := q
      simp only [Ac.act] at heq
      injection heq with h1 h2 h3
      subst h1 h2 h3
      simp only [Pc.v] at k1 k2
      obtain ⟨⟨hPN, -, -⟩, hpr⟩ := hp
      obtain ⟨⟨hQN, -, -⟩, hqr⟩ := hq
      simp only at hPN hQN hpr hqr
      have cv1 := fun W (HW : St w0 W M L) => conv_RB (P := Try.prog) (src := 25) (dst := 9) (c := PC) Try.underlying25 Try.underlying5 Try.underlying9 (hpr.now HW) hPN
      have cv2 := fun W (HW : St w0 W M L) => conv_RB (P := Try.prog) (src := 25) (dst := 9) (c := QC) Try.underlying25 Try.underlying5 Try.underlying9 (hqr.now HW) hQN
      have K1 := Lib.hid k1
      have K2 := Lib.hid k2
      have CV1 := Lib.hid cv1
      have CV2 := Lib.hid cv2
      have HLT := Lib.hid hlt
      have q1 : (k : Int) < (n : Int) := by omega
      have q1n : k < n := hlt
      clear k1 k2 cv1 cv2 hpr hqr hPN hQN hpe hqe hk1 hk2 hlt
      go_upto_region 6 with fail
      refine Pt.wp_plan (fun w' => St w0 w' M L) (Pt.prs [0, 1, 2, 3, 5, 6, 7, 8] (Pt.rds [4, 9] (Pt.prs [10, 11, 12, 13, 14, 15, 17, 18, 19, 20] (Pt.rds [16, 21] (Pt.prs [22, 23, 24, 25, 26, 27, 28, 31, 32, 33, 34] (Pt.rds [29, 30, 35, 36] (Pt.prs [37, 38] .fin))))))) [] Try.mixed (by kernel_rfl) (fun _ _ d _ _ h => by cases d <;> exact h) H1.drew ?_
      have H2 := H1.drew
      clear H1
      simp only [Pt.toL, Pt.rds, Pt.prs, Pt.at_, List.drop_succ_cons, List.drop_zero]
      iterate 8 (refine Pt.pr_run (v := ?_) (by rfl) ?_ ?_; rotate_left; (focus (intro w'; go_simp; with_reducible rfl)); simp only [Act.put, List.setIfInBounds_toArray, List.set_cons_zero, List.set_cons_succ])
      (refine Pt.rd_run (v := ?_) (by rfl) ?_ ?_; rotate_left; (focus (intro w' hS; obtain ⟨x0, x1, x2⟩ := K1.out _ hS; go_simp; with_reducible rfl)); simp only [Act.put, List.setIfInBounds_toArray, List.set_cons_zero, List.set_cons_succ])
      (refine Pt.rd_run (v := ?_) (by rfl) ?_ ?_; rotate_left; (focus (intro w' hS; obtain ⟨x0, x1, x2⟩ := K2.out _ hS; go_simp; with_reducible rfl)); simp only [Act.put, List.setIfInBounds_toArray, List.set_cons_zero, List.set_cons_succ])
      iterate 10 (refine Pt.pr_run (v := ?_) (by rfl) ?_ ?_; rotate_left; (focus (intro w'; go_simp; with_reducible rfl)); simp only [Act.put, List.setIfInBounds_toArray, List.set_cons_zero, List.set_cons_succ])
      (refine Pt.rd_run (v := ?_) (by rfl) ?_ ?_; rotate_left; (focus (intro w' hS; obtain ⟨x0, x1, x2⟩ := K1.out _ hS; go_simp; with_reducible rfl)); simp only [Act.put, List.setIfInBounds_toArray, List.set_cons_zero, List.set_cons_succ])
      (refine Pt.rd_run (v := ?_) (by rfl) ?_ ?_; rotate_left; (focus (intro w' hS; obtain ⟨x0, x1, x2⟩ := K2.out _ hS; go_simp; with_reducible rfl)); simp only [Act.put, List.setIfInBounds_toArray, List.set_cons_zero, List.set_cons_succ])
      iterate 11 (refine Pt.pr_run (v := ?_) (by rfl) ?_ ?_; rotate_left; (focus (intro w'; go_simp; with_reducible rfl)); simp only [Act.put, List.setIfInBounds_toArray, List.set_cons_zero, List.set_cons_succ])
      (refine Pt.rd_run (v := ?_) (by rfl) ?_ ?_; rotate_left; (focus (intro w' hS; obtain ⟨x0, x1, x2⟩ := K1.out _ hS; go_simp; with_reducible rfl)); simp only [Act.put, List.setIfInBounds_toArray, List.set_cons_zero, List.set_cons_succ])
      (refine Pt.rd_run (v := ?_) (by rfl) ?_ ?_; rotate_left; (focus (intro w' hS; have cv := CV1.out _ hS; go_simp; with_reducible rfl)); simp only [Act.put, List.setIfInBounds_toArray, List.set_cons_zero, List.set_cons_succ])
      (refine Pt.rd_run (v := ?_) (by rfl) ?_ ?_; rotate_left; (focus (intro w' hS; obtain ⟨x0, x1, x2⟩ := K2.out _ hS; go_simp; with_reducible rfl)); simp only [Act.put, List.setIfInBounds_toArray, List.set_cons_zero, List.set_cons_succ])
      (refine Pt.rd_run (v := ?_) (by rfl) ?_ ?_; rotate_left; (focus (intro w' hS; have cv := CV2.out _ hS; go_simp; with_reducible rfl)); simp only [Act.put, List.setIfInBounds_toArray, List.set_cons_zero, List.set_cons_succ])
      iterate 2 (refine Pt.pr_run (v := ?_) (by rfl) ?_ ?_; rotate_left; (focus (intro w'; go_simp; with_reducible rfl)); simp only [Act.put, List.setIfInBounds_toArray, List.set_cons_zero, List.set_cons_succ])
      refine Pt.run_fin ?_
      go_wp2
      exact ⟨⟨k + 1, by have := HLT.out; omega, by go_num, H2⟩, by have := HLT.out; simp [intOf]; omega⟩
    · obtain rfl : k = n := by omega
      go_wp2
      go_ret
      exact ⟨rfl, H1⟩
end
end Go.Proofs.Ytpomjaidaignpaa
