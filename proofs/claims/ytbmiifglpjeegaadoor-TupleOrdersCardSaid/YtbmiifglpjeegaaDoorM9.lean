/- The reference's Compare; slices.CompareFunc at parts. -/
import Derived.Test.YtbmiifglpjeegaaDoorM8
set_option linter.unusedVariables false
set_option linter.unusedSimpArgs false
namespace Go.Proofs.YtbmiifglpjeegaaDoor
open Go.RowKit Wd
section
variable {w0 w : World} {M : Mem} {L : List Ent}
set_option maxRecDepth 100000 in
set_option maxHeartbeats 1000000 in
theorem rcompare_any (H : St w0 w M L) {A B : Option Addr} {c d n m : Nat} {ps qs : List Tu.Part} (hn : n = ps.length) (hm : m = qs.length) (hA : SrA w0 M L A (pcs ps)) (hB : SrA w0 M L B (pcs qs)) (hn2 : n ≤ 100000000) (hm2 : m ≤ 100000000)
    (hp : ∀ p ∈ ps, Tu.ok p) (hq : ∀ p ∈ qs, Tu.ok p) :
    Calls Tryd.prog 18 #[.slice A n c, .slice B m d] w fun e w' => e = .returned (.int .i64 (Tu.cmp ps qs)) ∧ St w0 w' M L := by
  obtain ⟨R, hR⟩ : ∃ R, R = Tu.cmp ps qs := ⟨_, rfl⟩
  rw [← hR]
  have HN := Lib.hid hn
  have HM := Lib.hid hm
  have HR := Lib.hid hR
  have HP := Lib.hid hp
  have HQ := Lib.hid hq
  clear hn hm hR hp hq
  go_enter Tryd.func18, Tryd.ntmps18
  go_wp2
  go_loopw [5] (fun i wr => ∃ k : Nat, k ≤ n + m ∧ i = .int .i64 k ∧ R = Tu.cmp (ps.drop k) (qs.drop k) ∧ St w0 wr M L) (fun i _ => (n + m) - (intOf i).toNat)
  case atStart => exact ⟨0, by omega, rfl, HR.out, H⟩
  case round =>
    obtain ⟨k, hk, rfl, hsofar, H1⟩ := hrel
    have HS := Lib.hid hsofar
    clear H hsofar
    rcases Nat.lt_or_ge k n with h1 | h1
    · rcases Nat.lt_or_ge k m with h2 | h2
      · have hk1 : k < ps.length := by have := HN.out; omega
        have hk2 : k < qs.length := by have := HM.out; omega
        obtain ⟨b1, o1, rfl, -⟩ := RA.at3 (hA.now H1) k hk1
        obtain ⟨b2, o2, rfl, -⟩ := RA.at3 (hB.now H1) k hk2
        have hc1 : ∀ W, St w0 W M L → W.rangeAt b1 (o1 + k * 3) (pc ps[k]) := fun W hW => by
          obtain ⟨b, o, he, hc⟩ := RA.at3 (hA.now hW) k hk1
          injection he with he
          injection he with h1 h2
          subst h1 h2
          exact hc
        have hc2 : ∀ W, St w0 W M L → W.rangeAt b2 (o2 + k * 3) (pc qs[k]) := fun W hW => by
          obtain ⟨b, o, he, hc⟩ := RA.at3 (hB.now hW) k hk2
          injection he with he
          injection he with h1 h2
          subst h1 h2
          exact hc
        have hcb := Tu.cmp_both hk1 hk2
        have hls := Tu.less_cases (HP.out _ (List.getElem_mem hk1)) (HQ.out _ (List.getElem_mem hk2))
        obtain ⟨p, hpe⟩ : ∃ p, p = ps[k] := ⟨_, rfl⟩
        obtain ⟨q, hqe⟩ : ∃ q, q = qs[k] := ⟨_, rfl⟩
        rw [← hpe] at hc1 hcb hls
        rw [← hqe] at hc2 hcb hls
        rw [← HS.out] at hcb
        have hl1 := fun w (H : St w0 w M L) => less_any H p q
        have hl2 := fun w (H : St w0 w M L) => less_any H q p
        obtain ⟨T1, hT1⟩ : ∃ T, T = Tu.less p q := ⟨_, rfl⟩
        obtain ⟨T2, hT2⟩ : ∃ T, T = Tu.less q p := ⟨_, rfl⟩
        rw [← hT1] at hl1 hls
        rw [← hT2] at hl2 hls
        unfold pv at hl1 hl2
        have HL1 := Lib.hid hl1
        have HL2 := Lib.hid hl2
        have HC1 := Lib.hid hc1
        have HC2 := Lib.hid hc2
        have HCB := Lib.hid hcb
        have HLS := Lib.hid hls
        have HK := Lib.hid (And.intro h1 h2)
        have r1 : (k : Int) < (n : Int) := by omega
        have r2 : (k : Int) < (m : Int) := by omega
        have r1n : ¬ n ≤ k := by omega
        have r2n : ¬ m ≤ k := by omega
        have r1i : ¬ (n : Int) ≤ (k : Int) := by omega
        have r2i : ¬ (m : Int) ≤ (k : Int) := by omega
        clear hpe hqe hT1 hT2 hl1 hl2 hc1 hc2 hk1 hk2 hcb hls h1 h2 hk
        go_upto_region 8 with fail
        refine Pt.wp_plan (fun w' => St w0 w' M L) (Pt.prs [0, 1, 2, 4, 5, 6] (Pt.rds [3, 7] (.go 8 (Pt.prs [9] .fin)))) [] Tryd.mixed (by kernel_rfl) (fun _ _ d _ _ h => by cases d <;> exact h) H1.drew ?_
        have H2 := H1.drew
        simp only [Pt.toL, Pt.rds, Pt.prs, Pt.at_, List.drop_succ_cons, List.drop_zero]
        iterate 6 (refine Pt.pr_run (v := ?_) (by rfl) ?_ ?_; rotate_left; (focus (intro w'; go_simp; with_reducible rfl)); simp only [Act.put, List.setIfInBounds_toArray, List.set_cons_zero, List.set_cons_succ])
        (refine Pt.rd_load (by rfl) 42 (.tmp 31) (by rfl) b1 (o1 + k * 3) (by rfl) [.string (str p.text), .int .u64 (p.num : Int), .bool p.isText] _ (fun w' h => HC1.out w' h) Tryd.underlying42 rfl (by exact Tryd.sizePart) ?_; simp only [Act.put, List.setIfInBounds_toArray, List.set_cons_zero, List.set_cons_succ])
        (refine Pt.rd_load (by rfl) 42 (.tmp 35) (by rfl) b2 (o2 + k * 3) (by rfl) [.string (str q.text), .int .u64 (q.num : Int), .bool q.isText] _ (fun w' h => HC2.out w' h) Tryd.underlying42 rfl (by exact Tryd.sizePart) ?_; simp only [Act.put, List.setIfInBounds_toArray, List.set_cons_zero, List.set_cons_succ])
        refine Pt.run_go ?_
        go_wp2_with fail
        refine (HL1.out _ H2).mono ?_
        rintro e w1 ⟨rfl, H3⟩
        go_wp2_with fail
        refine Pt.same H3 ?_
        (refine Pt.pr_run (v := ?_) (by rfl) ?_ ?_; rotate_left; (focus (intro w'; go_simp; with_reducible rfl)); simp only [Act.put, List.setIfInBounds_toArray, List.set_cons_zero, List.set_cons_succ])
        refine Pt.run_fin ?_
        clear H1 H2
        cases T1 with
        | true =>
          have hR : R = -1 := by
            rcases HLS.out with ⟨h, h3⟩ | ⟨h, h3, h4⟩ | ⟨h, h3, h4⟩
            · rw [HCB.out, h]; rfl
            · cases h3
            · cases h3
          subst hR
          go_wp2
          go_ret
          exact ⟨rfl, H3⟩
        | false =>
          go_upto_region 10 with fail
          refine Pt.wp_plan (fun w' => St w0 w' M L) (Pt.prs [0, 1, 2, 4, 5, 6] (Pt.rds [3, 7] (.go 8 (Pt.prs [9] .fin)))) [] Tryd.mixed (by kernel_rfl) (fun _ _ d _ _ h => by cases d <;> exact h) H3.drew ?_
          have H4 := H3.drew
          simp only [Pt.toL, Pt.rds, Pt.prs, Pt.at_, List.drop_succ_cons, List.drop_zero]
          iterate 6 (refine Pt.pr_run (v := ?_) (by rfl) ?_ ?_; rotate_left; (focus (intro w'; go_simp; with_reducible rfl)); simp only [Act.put, List.setIfInBounds_toArray, List.set_cons_zero, List.set_cons_succ])
          (refine Pt.rd_load (by rfl) 42 (.tmp 41) (by rfl) b2 (o2 + k * 3) (by rfl) [.string (str q.text), .int .u64 (q.num : Int), .bool q.isText] _ (fun w' h => HC2.out w' h) Tryd.underlying42 rfl (by exact Tryd.sizePart) ?_; simp only [Act.put, List.setIfInBounds_toArray, List.set_cons_zero, List.set_cons_succ])
          (refine Pt.rd_load (by rfl) 42 (.tmp 45) (by rfl) b1 (o1 + k * 3) (by rfl) [.string (str p.text), .int .u64 (p.num : Int), .bool p.isText] _ (fun w' h => HC1.out w' h) Tryd.underlying42 rfl (by exact Tryd.sizePart) ?_; simp only [Act.put, List.setIfInBounds_toArray, List.set_cons_zero, List.set_cons_succ])
          refine Pt.run_go ?_
          go_wp2_with fail
          refine (HL2.out _ H4).mono ?_
          rintro e w2 ⟨rfl, H5⟩
          go_wp2_with fail
          refine Pt.same H5 ?_
          (refine Pt.pr_run (v := ?_) (by rfl) ?_ ?_; rotate_left; (focus (intro w'; go_simp; with_reducible rfl)); simp only [Act.put, List.setIfInBounds_toArray, List.set_cons_zero, List.set_cons_succ])
          refine Pt.run_fin ?_
          clear H3 H4
          cases T2 with
          | true =>
            have hR : R = 1 := by
              rcases HLS.out with ⟨h, h3⟩ | ⟨h, h3, h4⟩ | ⟨h, h3, h4⟩
              · cases h3
              · rw [HCB.out, h]; rfl
              · cases h4
            subst hR
            go_wp2
            go_ret
            exact ⟨rfl, H5⟩
          | false =>
            have hR : R = Tu.cmp (ps.drop (k + 1)) (qs.drop (k + 1)) := by
              rcases HLS.out with ⟨h, h3⟩ | ⟨h, h3, h4⟩ | ⟨h, h3, h4⟩
              · cases h3
              · cases h4
              · rw [HCB.out, h]; rfl
            have HR2 := Lib.hid hR
            clear hR
            go_wp2
            exact ⟨⟨k + 1, by have := HK.out; omega, by go_num, HR2.out, H5⟩, by have := HK.out; simp [intOf]; omega⟩
      · have hR : R = 1 := by rw [HS.out]; exact Tu.cmp_right (by have := HN.out; omega) (by have := HM.out; omega)
        subst hR
        have r1 : (k : Int) < (n : Int) := by omega
        have r1i : ¬ (n : Int) ≤ (k : Int) := by omega
        have r2i : (m : Int) ≤ (k : Int) := by omega
        clear h1 h2
        go_wp2
        go_ret
        exact ⟨rfl, H1⟩
    · rcases Nat.lt_or_ge k m with h2 | h2
      · have hR : R = -1 := by rw [HS.out]; exact Tu.cmp_left (by have := HN.out; omega) (by have := HM.out; omega)
        subst hR
        have r1 : ¬ (k : Int) < (n : Int) := by omega
        have r2 : (k : Int) < (m : Int) := by omega
        have r1i : (n : Int) ≤ (k : Int) := by omega
        clear h1 h2
        go_wp2
        go_ret
        exact ⟨rfl, H1⟩
      · have hR : R = 0 := by rw [HS.out]; exact Tu.cmp_end (by have := HN.out; omega) (by have := HM.out; omega)
        subst hR
        have r1 : ¬ (k : Int) < (n : Int) := by omega
        have r2 : ¬ (k : Int) < (m : Int) := by omega
        clear h1 h2
        go_wp2
        go_ret
        exact ⟨rfl, H1⟩
set_option maxRecDepth 100000 in
set_option maxHeartbeats 1000000 in
theorem cmpFunc_any (eg : ∀ args w, (callFunc 32 args).run Tryd.prog w = .ok (.enter 32 args) w) (H : St w0 w M L) {A B : Option Addr} {c d n m : Nat} {ps qs : List Tu.Part} (hn : n = ps.length) (hm : m = qs.length) (hA : SrA w0 M L A (pcs ps)) (hB : SrA w0 M L B (pcs qs)) (hn2 : n ≤ 100000000) (hm2 : m ≤ 100000000) :
    Calls Tryd.prog 31 #[.slice A n c, .slice B m d, .func (.func 32) #[] #[]] w fun e w' => e = .returned (.int .i64 (Tu.cmp ps qs)) ∧ St w0 w' M L := by
  obtain ⟨R, hR⟩ : ∃ R, R = Tu.cmp ps qs := ⟨_, rfl⟩
  rw [← hR]
  have HN := Lib.hid hn
  have HM := Lib.hid hm
  have HR := Lib.hid hR
  clear hn hm hR
  go_enter Tryd.func31, Tryd.ntmps31
  go_wp2
  go_loopw [13] (fun i wr => ∃ k : Nat, k ≤ n ∧ i = .int .i64 k ∧ k ≤ m ∧ R = Tu.cmp (ps.drop k) (qs.drop k) ∧ St w0 wr M L) (fun i _ => n - (intOf i).toNat)
  case atStart => exact ⟨0, by omega, rfl, by omega, HR.out, H⟩
  case round =>
    obtain ⟨k, hk, rfl, hkm, hsofar, H1⟩ := hrel
    have HS := Lib.hid hsofar
    clear H hsofar
    rcases Nat.lt_or_ge k n with h1 | h1
    · have hk1 : k < ps.length := by have := HN.out; omega
      obtain ⟨b1, o1, rfl, hc1⟩ := RA.at3 (hA.now H1) k hk1
      obtain ⟨p, hpe⟩ : ∃ p, p = ps[k] := ⟨_, rfl⟩
      rw [← hpe] at hc1
      have HC1 := Lib.hid hc1
      have H2 := H1.new [.string (str p.text), .int .u64 (p.num : Int), .bool p.isText] 42
      rcases Nat.lt_or_ge k m with h2 | h2
      · have hk2 : k < qs.length := by have := HM.out; omega
        have hcb := Tu.cmp_both hk1 hk2
        obtain ⟨q, hqe⟩ : ∃ q, q = qs[k] := ⟨_, rfl⟩
        rw [← hpe, ← hqe, ← HS.out] at hcb
        obtain ⟨b2, o2, rfl, hc2⟩ := RA.at3 (hB.now H2.d0) k hk2
        rw [← hqe] at hc2
        have HC2 := Lib.hid hc2
        have H3 := H2.new [.string (str q.text), .int .u64 (q.num : Int), .bool q.isText] 42
        have hcl := pcmp_any H3.d0.d0 p q
        obtain ⟨V, hV⟩ : ∃ V, V = Tu.pcmp p q := ⟨_, rfl⟩
        rw [← hV] at hcl hcb
        unfold pv at hcl
        have HCL := Lib.hid hcl
        have HCB := Lib.hid hcb
        have HK := Lib.hid (And.intro h1 h2)
        have r1 : (k : Int) < (n : Int) := by omega
        have r2i : ¬ (m : Int) ≤ (k : Int) := by omega
        clear hpe hqe hV hcl hcb hk1 hk2 hc1 hc2 h1 h2 hk H2 H3
        go_wp2_with first
          | (refine wpList_load_mid (by rfl) 42 (.tmp 16) (by rfl) b1 (o1 + k * 3) (by rfl) [.string (str p.text), .int .u64 (p.num : Int), .bool p.isText] _ HC1.out Tryd.underlying42 rfl (by exact Tryd.sizePart) ?_)
          | (refine wpList_load_mid (by rfl) 42 (.tmp 24) (by rfl) b2 (o2 + k * 3) (by rfl) [.string (str q.text), .int .u64 (q.num : Int), .bool q.isText] _ HC2.out Tryd.underlying42 rfl (by exact Tryd.sizePart) ?_)
        go_wp2_with fail
        refine HCL.out.mono ?_
        rintro e w1 ⟨rfl, H4⟩
        by_cases hv : V = 0
        · subst hv
          have hR2 := HCB.out
          rw [if_pos rfl] at hR2
          have HR2 := Lib.hid hR2
          clear hR2
          go_wp2
          exact ⟨⟨k + 1, by have := HK.out; omega, by go_num, by have := HK.out; omega, HR2.out, H4⟩, by have := HK.out; simp [intOf]; omega⟩
        · have q : (V != 0) = true := by simpa using hv
          have hR2 := HCB.out
          rw [if_neg hv] at hR2
          subst hR2
          clear hv
          go_wp2
          go_ret
          exact ⟨rfl, H4⟩
      · have hR : R = 1 := by rw [HS.out]; exact Tu.cmp_right (by have := HN.out; omega) (by have := HM.out; omega)
        subst hR
        have r1 : (k : Int) < (n : Int) := by omega
        have r2i : (m : Int) ≤ (k : Int) := by omega
        clear h1 h2 hpe hk1
        go_wp2_with (refine wpList_load_mid (by rfl) 42 (.tmp 16) (by rfl) b1 (o1 + k * 3) (by rfl) [.string (str p.text), .int .u64 (p.num : Int), .bool p.isText] _ HC1.out Tryd.underlying42 rfl (by exact Tryd.sizePart) ?_)
        go_ret
        exact ⟨rfl, H2.d0⟩
    · obtain rfl : k = n := by omega
      clear h1 hk
      rcases Nat.lt_or_ge k m with h2 | h2
      · have hR : R = -1 := by rw [HS.out]; exact Tu.cmp_left (by have := HN.out; omega) (by have := HM.out; omega)
        subst hR
        have r1 : (k : Int) < (m : Int) := by omega
        clear h2
        go_wp2
        go_ret
        exact ⟨rfl, H1⟩
      · have hR : R = 0 := by rw [HS.out]; exact Tu.cmp_end (by have := HN.out; omega) (by have := HM.out; omega)
        subst hR
        have r1 : ¬ (k : Int) < (m : Int) := by omega
        clear h2
        go_wp2
        go_ret
        exact ⟨rfl, H1⟩
end
end Go.Proofs.YtbmiifglpjeegaaDoor
