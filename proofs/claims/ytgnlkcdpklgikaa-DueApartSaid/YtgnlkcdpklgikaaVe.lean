/- due.full and due.Check. -/
import Derived.Test.YtgnlkcdpklgikaaVd
set_option linter.unusedVariables false
set_option linter.unusedSimpArgs false
namespace Go.Proofs.Ytgnlkcdpklgikaa
open Go.RowKit Wd Go.Sort
open Du (Due)
def Du.Full (l : List Due) : Prop := ¬ (Du.slim l l.length ∧ l.length ≤ 4096)
/-- What tells whether P holds. -/
def RetB (w0 : World) (M : Mem) (L : List Ent) (P : Prop) (e : Ending) (w' : World) : Prop := ∃ b, e = .returned (.bool b) ∧ (b = true ↔ P) ∧ St w0 w' M L
section
variable {w0 w : World} {M : Mem} {L : List Ent}
set_option maxRecDepth 100000 in
set_option maxHeartbeats 1000000 in
theorem full_any (H : St w0 w M L) {A : Option Addr} {c n : Nat} {l : List Due} (hn : n = l.length) (hn2 : n ≤ 1000000) (hl : SrA w0 M L A (dcs l)) :
    Calls Try.prog 30 #[.slice A n c] w (RetB w0 M L (Du.Full l)) := by
  have HN := Lib.hid hn
  clear hn
  go_enter Try.func30, Try.ntmps30
  go_wp2
  go_loopw [3, 8] (fun x i wr => ∃ k R : Nat, k ≤ n ∧ i = .int .i64 k ∧ x = .int .i64 R ∧ R = Du.runs l k ∧ Du.slim l k ∧ St w0 wr M L) (fun _ i _ => n - (intOf i).toNat)
  case atStart => exact ⟨0, 0, by omega, rfl, rfl, rfl, Du.slim_zero l, H⟩
  case round =>
    obtain ⟨k, R, hk, rfl, rfl, hR, hs, H1⟩ := hrel
    clear H
    have hR64 : R ≤ 64 := by rw [hR]; exact hs k (Nat.le_refl _)
    have HR := Lib.hid hR
    have HS := Lib.hid hs
    clear hR hs
    by_cases hlt : k < n
    · have hk1 : k < l.length := by have := HN.out; omega
      obtain ⟨b, o, rfl, hrg⟩ := RA.at3 (hl.now H1) k hk1
      have H2 := H1.new (dc l[k]) 40
      have r1 : (k : Int) < (n : Int) := by omega
      have HLT := Lib.hid hlt
      have hnew : ∀ R', R' = Du.runs l (k + 1) → (R' ≤ 64 → Du.slim l (k + 1)) ∧ (¬ R' ≤ 64 → ¬ Du.slim l l.length) := fun R' h => ⟨fun h1 => Du.slim_succ HS.out (by omega), fun h1 h2 => h1 (by have := h2 (k + 1) (by omega); omega)⟩
      have HNEW := Lib.hid hnew
      clear hnew hlt
      by_cases h0 : k = 0
      · subst h0
        have hr := Du.runs_new (l := l) hk1 (.inl rfl)
        obtain ⟨y, hy⟩ : ∃ y, y = l[0] := ⟨_, rfl⟩
        rw [← hy] at hrg H2
        have HRG := Lib.hid hrg
        have HRR := Lib.hid hr
        unfold dc at H2
        clear hy hr hrg hk1
        go_wp2_with (refine wpList_load_mid (by rfl) 40 (.tmp 11) (by rfl) b (o + 0 * 3) (by rfl) [.int .u64 (y.t : Int), .int .u64 (y.s : Int), .int .i64 y.a] _ HRG.out Try.underlying40 rfl (by exact Try.sizeDue) ?_)
        refine Pt.wp_plan (fun w' => St w0 w' M (eb wr.heap.size 40 [.int .u64 (y.t : Int), .int .u64 (y.s : Int), .int .i64 y.a] :: L)) (Pt.prs [0, 1, 2, 3, 5, 6, 7, 8, 9] (Pt.rds [4, 10] (Pt.prs [11, 12] .fin))) [] Try.mixed (by kernel_rfl) (fun _ _ d _ _ h => by cases d <;> exact h) H2.drew ?_
        have H3 := H2.drew
        simp only [Pt.toL, Pt.rds, Pt.prs, Pt.at_, List.drop_succ_cons, List.drop_zero]
        iterate 3 (refine Pt.pr_run (v := ?_) (by rfl) ?_ ?_; rotate_left; (focus (intro w'; go_simp; with_reducible rfl)); simp only [Act.put, List.setIfInBounds_toArray, List.set_cons_zero, List.set_cons_succ])
        iterate 6 (refine Pt.pr_skip (by rfl) ?_; simp only [Act.put, List.setIfInBounds_toArray, List.set_cons_zero, List.set_cons_succ])
        iterate 2 (refine Pt.rd_skip (by rfl) ?_; simp only [Act.put, List.setIfInBounds_toArray, List.set_cons_zero, List.set_cons_succ])
        (refine Pt.pr_skip (by rfl) ?_; simp only [Act.put, List.setIfInBounds_toArray, List.set_cons_zero, List.set_cons_succ])
        (refine Pt.pr_run (v := ?_) (by rfl) ?_ ?_; rotate_left; (focus (intro w'; go_simp; with_reducible rfl)); simp only [Act.put, List.setIfInBounds_toArray, List.set_cons_zero, List.set_cons_succ])
        refine Pt.run_fin ?_
        clear H1 H2
        go_wp2
        exact ⟨⟨1, 1, by have := HLT.out; omega, rfl, rfl, HRR.out.symm, (HNEW.out 1 HRR.out.symm).1 (by omega), H3.d0⟩, by have := HLT.out; simp [intOf]; omega⟩
      · obtain ⟨i, hi⟩ : ∃ i, i = k - 1 := ⟨_, rfl⟩
        have hi1 : i < l.length := by omega
        have hs2 := hl.at3 i hi1
        have e1 : (k : Int) - 1 = (i : Int) := by omega
        have e2 : (0 : Int) < (k : Int) := by omega
        have wi : IntKind.i64.wrap (i : Int) = (i : Int) := by rw [IntKind.wrap_i64]; omega
        have ilt : (i : Int) < (n : Int) := by omega
        have hsame : (l[i]'hi1).t = l[k].t → R + 1 = Du.runs l (k + 1) := fun h => by subst hi; rw [Du.runs_same hk1 (by omega) h, HR.out]
        have hdiff : ¬ (l[i]'hi1).t = l[k].t → 1 = Du.runs l (k + 1) := fun h => by subst hi; rw [Du.runs_new hk1 (.inr h)]
        obtain ⟨y, hy⟩ : ∃ y, y = l[k] := ⟨_, rfl⟩
        obtain ⟨z, hz⟩ : ∃ z, z = l[i] := ⟨_, rfl⟩
        rw [← hy] at hrg H2 hsame hdiff
        rw [← hz] at hs2 hsame hdiff
        have HRG := Lib.hid hrg
        have HS2 := Lib.hid hs2
        have HSAME := Lib.hid hsame
        have HDIFF := Lib.hid hdiff
        unfold dc at H2
        have hk0 : 0 < k := by omega
        clear hy hz hrg hk1 hi1 hs2 hsame hdiff h0 hi
        go_wp2_with (refine wpList_load_mid (by rfl) 40 (.tmp 11) (by rfl) b (o + k * 3) (by rfl) [.int .u64 (y.t : Int), .int .u64 (y.s : Int), .int .i64 y.a] _ HRG.out Try.underlying40 rfl (by exact Try.sizeDue) ?_)
        refine Pt.wp_plan (fun w' => St w0 w' M (eb wr.heap.size 40 [.int .u64 (y.t : Int), .int .u64 (y.s : Int), .int .i64 y.a] :: L)) (Pt.prs [0, 1, 2, 3, 5, 6, 7, 8, 9] (Pt.rds [4, 10] (Pt.prs [11, 12] .fin))) [] Try.mixed (by kernel_rfl) (fun _ _ d _ _ h => by cases d <;> exact h) H2.drew ?_
        have H3 := H2.drew
        simp only [Pt.toL, Pt.rds, Pt.prs, Pt.at_, List.drop_succ_cons, List.drop_zero]
        iterate 9 (refine Pt.pr_run (v := ?_) (by rfl) ?_ ?_; rotate_left; (focus (intro w'; go_simp; with_reducible rfl)); simp only [Act.put, List.setIfInBounds_toArray, List.set_cons_zero, List.set_cons_succ])
        (refine Pt.rd_run (v := ?_) (by rfl) ?_ ?_; rotate_left; (focus (intro w' hS; have c := hS.cell 0 rfl 0; go_simp; with_reducible rfl)); simp only [Act.put, List.setIfInBounds_toArray, List.set_cons_zero, List.set_cons_succ])
        (refine Pt.rd_run (v := ?_) (by rfl) ?_ ?_; rotate_left; (focus (intro w' hS; have c := HS2.out w' hS.d0 0 _ rfl; rw [Nat.add_zero] at c; go_simp; with_reducible rfl)); simp only [Act.put, List.setIfInBounds_toArray, List.set_cons_zero, List.set_cons_succ])
        by_cases hyz : y.t = z.t
        · have q : ((y.t : Int) == (z.t : Int)) = true := by rw [hyz]; simp
          have hr := HSAME.out hyz.symm
          have HRR := Lib.hid hr
          clear hyz hr
          iterate 2 (refine Pt.pr_run (v := ?_) (by rfl) ?_ ?_; rotate_left; (focus (intro w'; go_simp; with_reducible rfl)); simp only [Act.put, List.setIfInBounds_toArray, List.set_cons_zero, List.set_cons_succ])
          refine Pt.run_fin ?_
          clear H1 H2
          by_cases h64 : R + 1 ≤ 64
          · have q64 : ¬ (64 : Int) < (R : Int) + 1 := by omega
            have H64 := Lib.hid h64
            clear h64
            go_wp2
            exact ⟨⟨k + 1, R + 1, by have := HLT.out; omega, by go_num, by go_num, HRR.out, (HNEW.out _ HRR.out).1 H64.out, H3.d0⟩, by have := HLT.out; simp [intOf]; omega⟩
          · have q64 : (64 : Int) < (R : Int) + 1 := by omega
            have hno := (HNEW.out _ HRR.out).2 h64
            have HNO := Lib.hid hno
            clear h64 hno
            go_wp2
            go_ret
            exact ⟨true, rfl, ⟨fun _ h => HNO.out h.1, fun _ => rfl⟩, H3.d0⟩
        · have q : ((y.t : Int) == (z.t : Int)) = false := by simp; omega
          have hr := HDIFF.out (fun h => hyz h.symm)
          have HRR := Lib.hid hr
          clear hyz hr
          iterate 2 (refine Pt.pr_run (v := ?_) (by rfl) ?_ ?_; rotate_left; (focus (intro w'; go_simp; with_reducible rfl)); simp only [Act.put, List.setIfInBounds_toArray, List.set_cons_zero, List.set_cons_succ])
          refine Pt.run_fin ?_
          clear H1 H2
          go_wp2
          exact ⟨⟨k + 1, 1, by have := HLT.out; omega, by go_num, rfl, HRR.out, (HNEW.out _ HRR.out).1 (by omega), H3.d0⟩, by have := HLT.out; simp [intOf]; omega⟩
    · obtain rfl : k = n := by omega
      have hs := HS.out
      rw [HN.out] at hs
      by_cases h4 : k ≤ 4096
      · have q : ¬ (4096 : Int) < (k : Int) := by omega
        have hgood : Du.slim l l.length ∧ l.length ≤ 4096 := ⟨hs, by have := HN.out; omega⟩
        have HG := Lib.hid hgood
        clear hlt h4 hs hgood
        go_wp2
        go_ret
        exact ⟨false, rfl, ⟨(fun h => by cases h), fun h => absurd HG.out h⟩, H1⟩
      · have q : (4096 : Int) < (k : Int) := by omega
        have hbad : ¬ (Du.slim l l.length ∧ l.length ≤ 4096) := fun h => by have := HN.out; omega
        have HG := Lib.hid hbad
        clear hlt h4 hs hbad
        go_wp2
        go_ret
        exact ⟨true, rfl, ⟨fun _ => HG.out, fun _ => rfl⟩, H1⟩
end
end Go.Proofs.Ytgnlkcdpklgikaa
