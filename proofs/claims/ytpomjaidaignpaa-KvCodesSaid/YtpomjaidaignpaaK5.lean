/- The law's small. -/
import Derived.Test.YtpomjaidaignpaaK4
set_option linter.unusedVariables false
set_option linter.unusedSimpArgs false
namespace Go.Proofs.Ytpomjaidaignpaa
open Go.RowKit Wd
def Kv.slim (l : List Ac) : Prop := ∀ a ∈ l, a.key.length ≤ 5000 ∧ a.p.l.length ≤ 70000
theorem Kv.slim_snoc {l : List Ac} {k : Nat} (hk : k < l.length) (h : Kv.slim (l.take k)) (h1 : l[k].key.length ≤ 5000) (h2 : l[k].p.l.length ≤ 70000) : Kv.slim (l.take (k + 1)) := by
  rw [List.take_succ_eq_append_getElem hk]
  intro a ha
  rcases List.mem_append.1 ha with ha | ha
  · exact h a ha
  · simp only [List.mem_singleton] at ha
    subst ha
    exact ⟨h1, h2⟩
def RetSmall (w0 : World) (M : Mem) (L : List Ent) (n : Nat) (l : List Ac) (e : Ending) (w' : World) : Prop :=
  ∃ b, e = .returned (.bool b) ∧ (b = true → n ≤ 300 ∧ Kv.slim l) ∧ St w0 w' M L
section
variable {w0 w : World} {M : Mem} {L : List Ent}
set_option maxRecDepth 100000 in
set_option maxHeartbeats 4000000 in
theorem small_any (H : St w0 w M L) {A : Option Addr} {c n : Nat} {l : List Ac} (hn : n = l.length) (hl : SrA w0 M L A (acs l)) (il : ∀ a ∈ l, a.p.n = a.p.l.length) :
    Calls Try.prog 6 #[.slice A n c] w (RetSmall w0 M L n l) := by
  have HN := Lib.hid hn
  have HI := Lib.hid il
  clear hn il
  go_enter Try.func6, Try.ntmps6
  go_wp2
  go_loopw [3, 4] (fun x i wr => ∃ k s : Nat, k ≤ n ∧ k ≤ 300 ∧ i = .int .i64 k ∧ x = .int .i64 s ∧ s ≤ k * 75000 ∧ Kv.slim (l.take k) ∧ St w0 wr M L) (fun _ i _ => n - (intOf i).toNat)
  case atStart => exact ⟨0, 0, by omega, by omega, rfl, rfl, by omega, by intro a ha; simp at ha, H⟩
  case round =>
    obtain ⟨k, s, hk, hk3, rfl, rfl, hs, hsl, H1⟩ := hrel
    clear H
    have HSL := Lib.hid (And.intro hs hsl)
    clear hsl
    by_cases hlt : k < n
    · by_cases hlt3 : k < 300
      · have hk1 : k < l.length := by have := HN.out; omega
        obtain ⟨b1, o1, rfl, -⟩ := RA.ac3 (hl.now H1) k hk1
        have k1 := fun W (HW : St w0 W M L) => cells_ac hl hk1 (Mem.le.refl M) HW rfl rfl rfl
        have hpn := HI.out _ (List.getElem_mem hk1)
        have hsn := Kv.slim_snoc hk1 HSL.out.2
        obtain ⟨p, hpe⟩ : ∃ p, p = l[k] := ⟨_, rfl⟩
        simp only [← hpe] at k1 hpn hsn
        obtain ⟨key, set, ⟨PA, PN, PC, PL⟩⟩ := p
        simp only [Pc.v] at k1 hpn hsn
        obtain ⟨m, hm⟩ : ∃ m, m = key.length := ⟨_, rfl⟩
        have hS : (str key).size = m := by rw [str_size, hm]
        obtain ⟨S, hSe⟩ : ∃ S, S = str key := ⟨_, rfl⟩
        simp only [← hSe] at k1 hS
        rw [← hm, ← hpn] at hsn
        have K1 := Lib.hid k1
        have HSN := Lib.hid hsn
        have HLT := Lib.hid hlt
        have q1 : (k : Int) < (n : Int) := by omega
        have q2 : (k : Int) < 300 := by omega
        have q1n : k < n := hlt
        obtain ⟨x0, x1, x2⟩ := k1 _ H1
        clear k1 hsn hpn hpe hm hSe hk1 hlt
        by_cases h5 : 5000 < m
        · have q3 : (5000 : Int) < (m : Int) := by omega
          clear h5
          go_wp2
          go_ret
          exact ⟨false, rfl, by simp, H1⟩
        · have q3 : ¬ (5000 : Int) < (m : Int) := by omega
          by_cases h7 : 70000 < PN
          · have q4 : (70000 : Int) < (PN : Int) := by omega
            clear h5 h7
            go_wp2
            go_ret
            exact ⟨false, rfl, by simp, H1⟩
          · have q4 : ¬ (70000 : Int) < (PN : Int) := by omega
            have h3 := HSN.out (by omega) (by omega)
            have H3 := Lib.hid h3
            obtain ⟨sm, hsm⟩ : ∃ sm, sm = s + m := ⟨_, rfl⟩
            obtain ⟨sn, hsn⟩ : ∃ sn, sn = sm + PN := ⟨_, rfl⟩
            have f1 : (s : Int) + (m : Int) = (sm : Int) := by omega
            have f2 : (sm : Int) + (PN : Int) = (sn : Int) := by omega
            have hs9 : s ≤ 30000000 := by omega
            have hsm9 : sm ≤ 31000000 := by omega
            have hsn9 : sn ≤ 32000000 := by omega
            have w1 : IntKind.i64.wrap (sm : Int) = (sm : Int) := by rw [IntKind.wrap_i64]; omega
            have w2 : IntKind.i64.wrap (sn : Int) = (sn : Int) := by rw [IntKind.wrap_i64]; omega
            have hfin : sn ≤ (k + 1) * 75000 := by omega
            have HF := Lib.hid hfin
            clear h5 h7 h3 hsm hsn hs hfin
            go_upto_region 7 with fail
            clear x0 x1 x2
            refine Pt.wp_plan (fun w' => St w0 w' M L) (Pt.prs [0, 1, 2, 3, 4, 8, 9, 10, 11] (Pt.rds [5] (Pt.prs [6, 7] (Pt.rds [12] (Pt.prs [13, 14, 15] .fin))))) [] Try.mixed (by kernel_rfl) (fun _ _ d _ _ h => by cases d <;> exact h) H1.drew ?_
            have H2 := H1.drew
            clear H1
            simp only [Pt.toL, Pt.rds, Pt.prs, Pt.at_, List.drop_succ_cons, List.drop_zero]
            iterate 9 (refine Pt.pr_run (v := ?_) (by rfl) ?_ ?_; rotate_left; (focus (intro w'; go_simp; with_reducible rfl)); simp only [Act.put, List.setIfInBounds_toArray, List.set_cons_zero, List.set_cons_succ])
            (refine Pt.rd_run (v := ?_) (by rfl) ?_ ?_; rotate_left; (focus (intro w' hS; obtain ⟨x0, x1, x2⟩ := K1.out _ hS; go_simp; with_reducible rfl)); simp only [Act.put, List.setIfInBounds_toArray, List.set_cons_zero, List.set_cons_succ])
            iterate 2 (refine Pt.pr_run (v := ?_) (by rfl) ?_ ?_; rotate_left; (focus (intro w'; go_simp; with_reducible rfl)); simp only [Act.put, List.setIfInBounds_toArray, List.set_cons_zero, List.set_cons_succ])
            (refine Pt.rd_run (v := ?_) (by rfl) ?_ ?_; rotate_left; (focus (intro w' hS; obtain ⟨x0, x1, x2⟩ := K1.out _ hS; go_simp; with_reducible rfl)); simp only [Act.put, List.setIfInBounds_toArray, List.set_cons_zero, List.set_cons_succ])
            iterate 3 (refine Pt.pr_run (v := ?_) (by rfl) ?_ ?_; rotate_left; (focus (intro w'; go_simp; with_reducible rfl)); simp only [Act.put, List.setIfInBounds_toArray, List.set_cons_zero, List.set_cons_succ])
            refine Pt.run_fin ?_
            go_wp2
            exact ⟨⟨k + 1, sn, by have := HLT.out; omega, by omega, by go_num, rfl, HF.out, H3.out, H2⟩, by have := HLT.out; simp [intOf]; omega⟩
      · have q1 : (k : Int) < (n : Int) := by omega
        have q2 : ¬ (k : Int) < 300 := by omega
        have q3 : ¬ (n : Int) ≤ 300 := by omega
        clear hlt3
        go_wp2
        go_ret
        exact ⟨false, rfl, by simp, H1⟩
    · obtain rfl : k = n := by omega
      have hall : Kv.slim l := by have := HSL.out.2; rw [HN.out, List.take_length] at this; exact this
      have HALL := Lib.hid hall
      have q3 : (k : Int) ≤ 300 := by omega
      have q4 : ¬ (k : Int) < (k : Int) := by omega
      clear hall hlt hs
      by_cases h7 : s ≤ 70000
      · have q5 : (s : Int) ≤ 70000 := by omega
        clear h7
        go_wp2
        go_ret
        exact ⟨true, rfl, fun _ => ⟨hk3, HALL.out⟩, H1⟩
      · have q5 : ¬ (s : Int) ≤ 70000 := by omega
        clear h7
        go_wp2
        go_ret
        exact ⟨false, rfl, by simp, H1⟩
end
end Go.Proofs.Ytpomjaidaignpaa
