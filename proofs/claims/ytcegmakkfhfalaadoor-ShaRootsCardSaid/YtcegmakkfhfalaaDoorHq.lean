/- Contracts: sha.Hex, and the reference's. -/
import Derived.Test.YtcegmakkfhfalaaDoorChecked
import Derived.Test.YtcegmakkfhfalaaDoorSl
import Derived.Test.YtcegmakkfhfalaaDoorPt
import Derived.Test.YtcegmakkfhfalaaDoorCs
import Derived.Test.YtcegmakkfhfalaaDoorBk
import Derived.Test.YtcegmakkfhfalaaDoorHs
set_option linter.unusedVariables false
set_option linter.unusedSimpArgs false
namespace Go.Proofs.YtcegmakkfhfalaaDoor
open Go.RowKit Wd
theorem and15 (n : Nat) (h : n < 256) : bits .and .u8 (n : Int) 15 = ((n % 16 : Nat) : Int) := by
  have : ∀ n : Nat, n < 256 → bits .and .u8 (n : Int) 15 = ((n % 16 : Nat) : Int) := by decide +kernel
  exact this n h
section
variable {w0 w : World} {M : Mem} {L : List Ent}
set_option maxRecDepth 100000 in
set_option maxHeartbeats 1000000 in
theorem hex_any (H : St w0 w M L) {A : Option Addr} {c : Nat} {l : List UInt8} (hl : Sr w0 M L A l) (hn : l.length ≤ 1000000) :
    Calls Tryd.prog 19 #[.slice A l.length c] w fun e w' => e = .returned (.string ⟨(hexL l).toArray⟩) ∧ St w0 w' M L := by
  have H1 := H.addNil 5 1
  go_enter Tryd.func19, Tryd.ntmps19
  go_wp2
  go_loopw [3, 8] (fun v i wr => ∃ k : Nat, k ≤ l.length ∧ i = .int .i64 k ∧ St w0 wr M (er 5 1 v (2 * k) (bv (hexL (l.take k))) :: L)) (fun _ i _ => l.length - (intOf i).toNat)
  case atStart => exact ⟨0, Nat.zero_le _, rfl, H1⟩
  case round =>
    obtain ⟨k, hk, rfl, H2⟩ := hrel
    clear H1
    obtain ⟨A1, c1, rfl, hc1, hA1⟩ := H2.shape' 0 rfl
    by_cases hlt : k < l.length
    · obtain ⟨b, o, rfl, hc⟩ := (hl.now H2.d0).at k hlt
      have hs := hexL_succ l k hlt
      obtain ⟨x, hx⟩ : ∃ x, x = l[k] := ⟨_, rfl⟩
      rw [← hx] at hc hs
      have x0 := x.toNat_lt
      obtain ⟨q1, hq1⟩ : ∃ q : Nat, q = x.toNat / 16 := ⟨_, rfl⟩
      obtain ⟨q2, hq2⟩ : ∃ q : Nat, q = x.toNat % 16 := ⟨_, rfl⟩
      have e1 : (x.toNat : Int) / 16 = (q1 : Int) := by omega
      have e2 : bits .and .u8 (x.toNat : Int) 15 = (q2 : Int) := by rw [and15 _ x0, hq2]
      have l1 : (q1 : Int) ≤ 15 := by omega
      have l2 : (q2 : Int) ≤ 15 := by omega
      have l3 : (0 : Int) ≤ (q1 : Int) := by omega
      have l4 : (0 : Int) ≤ (q2 : Int) := by omega
      rw [← hq1, ← hq2] at hs
      have HS := Lib.hid hs
      clear hx hs hq1 hq2
      go_wp2
      refine Pt.wp_plan (fun w' => True) (Pt.prs [0, 1, 2, 3, 4, 5, 6] (.go 7 (.st 8 (Pt.prs [9] .fin)))) [8] Tryd.mixed (by kernel_rfl) (fun _ _ d _ _ h => by cases d <;> exact h) trivial ?_
      simp only [Pt.toL, Pt.rds, Pt.prs, Pt.at_, List.drop_succ_cons, List.drop_zero]
      iterate 7 (refine Pt.pr_run (v := ?_) (by rfl) ?_ ?_; rotate_left; (focus (intro w'; go_simp; with_reducible rfl)); simp only [Act.put, List.setIfInBounds_toArray, List.set_cons_zero, List.set_cons_succ])
      refine Pt.run_go ?_
      have H3 := H2.drew.lit (bv [hexd q1, hexd q2]) 5 (by show 2 ≤ maxLen; decide)
      have HB := Lib.hid hlt
      go_wp2_with fail
      refine Pt.same trivial ?_
      refine Pt.run_st ?_
      refine wpList_append_st H3.f1 (by rfl) (.tmp 12) (.tmp 19) 22 (by rfl) Tryd.info5 Tryd.underlying22 (by rfl) (some ⟨wr.heap.size, 0, none⟩) 2 2 [hexd q1, hexd q2] (by rfl) rfl (by rintro ⟨⟩) (er_RB (H3.get 0 rfl)) (by omega) ?_
      intro v2 w2 H4
      rw [← bv_append, ← HS.out] at H4
      have H5 := H4.d1
      clear H4 H3 H2
      refine wpList_nil ?_
      refine cast rfl ?_
      simp only [Act.put, List.setIfInBounds_toArray, List.set_cons_zero, List.set_cons_succ]
      (refine Pt.pr_run (v := ?_) (by rfl) ?_ ?_; rotate_left; (focus (intro w'; go_simp; with_reducible rfl)); simp only [Act.put, List.setIfInBounds_toArray, List.set_cons_zero, List.set_cons_succ])
      refine Pt.run_fin ?_
      go_wp2
      exact ⟨⟨k + 1, by omega, by go_num, H5⟩, by simp [intOf]; omega⟩
    · have hke : k = l.length := by omega
      subst hke
      rw [List.take_length] at H2
      have cv := conv_RB (P := Tryd.prog) (src := 22) (dst := 9) (c := c1) Tryd.underlying22 Tryd.underlying5 Tryd.underlying9 (er_RB (H2.get 0 rfl)) (hexL_length l).symm
      go_wp2
      go_ret
      exact ⟨rfl, H2.d0⟩
end
end Go.Proofs.YtcegmakkfhfalaaDoor
