/- The contract of seal.Open. -/
import Derived.Test.YtfhphkhkpejomaaDoorZg
import Derived.Test.YtfhphkhkpejomaaDoorMs
set_option linter.unusedVariables false
set_option linter.unusedSimpArgs false
namespace Go.Proofs.YtfhphkhkpejomaaDoor
open Go.RowKit Wd
theorem Wd.Sr.sub {w0 : World} {M : Mem} {F : List Ent} {b o : Nat} {l : List UInt8} (h : Sr w0 M F (some ⟨b, o, none⟩) l) (k m : Nat) : Sr w0 M F (some ⟨b, o + k, none⟩) ((l.drop k).take m) := fun w' M' hM hS => (h w' M' hM hS).sub
theorem Wd.Sr.drop {w0 : World} {M : Mem} {F : List Ent} {b o : Nat} {l : List UInt8} (h : Sr w0 M F (some ⟨b, o, none⟩) l) (k : Nat) : Sr w0 M F (some ⟨b, o + k, none⟩) (l.drop k) := by
  have h1 := h.sub k (l.length - k)
  rwa [List.take_of_length_le (by rw [List.length_drop]; exact Nat.le_refl _)] at h1
section
variable {w0 w : World} {M : Mem} {L : List Ent}
set_option maxRecDepth 100000 in
set_option maxHeartbeats 2000000 in
theorem open_any (ht : Tabs w0) (H : St w0 w M L) {A : Option Addr} {c : Nat} {k : List UInt8} (hA : A = none → c = 0) (hc : k.length ≤ c) (hk : Sr w0 M L A k) (hn : k.length < 1000000)
    (lb : List UInt8) (hlb : lb.length ≤ 60000)
    {C : Option Addr} {f : Nat} {s : List UInt8} (hC : C = none → f = 0) (hsf : s.length ≤ f) (hs : Sr w0 M L C s) (hsn : s.length ≤ 10000) :
    Calls Tryd.prog 8 #[.slice A k.length c, .string ⟨lb.toArray⟩, .slice C s.length f] w (RetBytes w0 M L (Seal.openR k lb s).1 fun v => .returned (.tuple #[v, .int .i64 (Seal.openR k lb s).2])) := by
  have hsz : (ByteArray.mk lb.toArray).size = lb.length := by show lb.toArray.size = _; simp
  have nil_ : ∀ w', St w0 w' M L → ∀ E : Int, RetBytes w0 M L ([] : List UInt8) (fun v => .returned (.tuple #[v, .int .i64 E])) (.returned (.tuple #[.slice none 0 0, .int .i64 E])) w' := fun w' H' E => ⟨none, 0, M, rfl, Nat.le_refl _, fun _ => rfl, Mem.le.refl _, fun _ _ h => absurd rfl h, H'⟩
  have NIL := Lib.hid nil_
  clear nil_
  by_cases hbad : 256 < lb.length ∨ 4144 < s.length
  · rw [show Seal.openR k lb s = ([], 3) from if_pos hbad]
    have hx : (256 : Int) < (lb.length : Int) ∨ (¬ (256 : Int) < (lb.length : Int) ∧ (4144 : Int) < (s.length : Int)) := by omega
    clear hbad
    rcases hx with hx | ⟨hx, hx2⟩
    all_goals
      go_enter Tryd.func8, Tryd.ntmps8
      go_wp2
      go_ret2
      exact NIL.out _ H _
  · have q1 : ¬ (256 : Int) < (lb.length : Int) := by omega
    have q2 : ¬ (4144 : Int) < (s.length : Int) := by omega
    by_cases h48 : s.length < 48
    · rw [show Seal.openR k lb s = ([], 5) from by unfold Seal.openR; rw [if_neg hbad, if_pos h48]]
      have q3 : (s.length : Int) < 48 := by omega
      clear hbad h48
      go_enter Tryd.func8, Tryd.ntmps8
      go_wp2
      go_ret2
      exact NIL.out _ H _
    · have hR : Seal.openR k lb s = if Seal.tag k lb (s.take (s.length - 32)) = s.drop (s.length - 32) then (Seal.turned k (s.take 16) ((s.drop 16).take (s.length - 48)), 0) else ([], 11) := by
        conv => lhs; unfold Seal.openR
        rw [if_neg hbad, if_neg h48]
      rw [hR]
      obtain ⟨bc, oc, rfl⟩ : ∃ b o, C = some ⟨b, o, none⟩ := by
        obtain ⟨b, o, h, _⟩ := hs.now H (by rintro rfl; simp at h48)
        exact ⟨b, o, h⟩
      have q3 : ¬ (s.length : Int) < 48 := by omega
      obtain ⟨N, hN⟩ : ∃ N, N = s.length - 32 := ⟨_, rfl⟩
      obtain ⟨B, hB⟩ : ∃ B, B = s.length - 48 := ⟨_, rfl⟩
      obtain ⟨T, hT⟩ : ∃ T, T = Seal.tag k lb (s.take N) := ⟨_, rfl⟩
      have hTl : T.length = 32 := by rw [hT, Seal.tag_len]
      have hTl2 : (bv T).length = 32 := by rw [bv_length, hTl]
      have e1 : (s.length : Int) - 32 = (N : Int) := by omega
      have e2 : (N : Int) - 16 = (B : Int) := by omega
      have z1 : N - 16 = B := by omega
      have z2 : s.length - N = 32 := by omega
      have n1 : (N : Int) ≤ (f : Int) := by omega
      have n2 : (16 : Int) ≤ (N : Int) := by omega
      have n3 : (N : Int) ≤ (s.length : Int) := by omega
      have n4 : (16 : Int) ≤ (f : Int) := by omega
      have n5 : (s.length : Int) - (N : Int) = 32 := by omega
      have hsl : (s.take N).length = N := by rw [List.length_take]; omega
      have hsd : (s.drop N).length = 32 := by rw [List.length_drop]; omega
      have hsb : ((s.drop 16).take B).length = B := by rw [List.length_take, List.length_drop]; omega
      have hs16 : (s.take 16).length = 16 := by rw [List.length_take]; omega
      have htg := tag_any ht H hA hc hk hn lb hlb (B := some ⟨bc, oc, none⟩) (d := f) (s := s.take N) (by rintro ⟨⟩) (hs.take N) (by rw [hsl]; omega)
      rw [hsl, ← hT] at htg
      have hsm := fun (W : World) (r1 : RB W (some ⟨w.heap.size, 0, none⟩) T) => True
      rw [← hN, ← hB, ← hT]
      have HTG := Lib.hid htg
      have HTL := Lib.hid hTl
      have HSD := Lib.hid hsd
      have HSB := Lib.hid hsb
      have HS16 := Lib.hid hs16
      have HNB := Lib.hid (And.intro hN hB)
      clear hsm htg hTl hsd hsb hs16 hsl hR hbad h48 hT hN hB
      by_cases heq : T = s.drop N
      · rw [if_pos heq]
        have HEQ := Lib.hid heq
        clear heq
        go_enter Tryd.func8, Tryd.ntmps8
        go_wp2_with fail
        refine HTG.out.mono ?_
        rintro e w2 ⟨rfl, H2⟩
        have H3 := H2.new (bv (List.replicate 32 0)) 40
        obtain ⟨w3, hst, H4⟩ := run_store_st (P := Tryd.prog) H3 (cs := bv T) (by rw [hTl2, bv_length, List.length_replicate]) (bv_one _)
        rw [← obj32] at hst
        clear H2 H3 HTG
        go_upto_region 7 with fail
        clear hst
        generalize w2.heap.size = g9 at *
        refine Pt.wp_plan (fun w' => True) (Pt.prs [0, 1, 2, 3] (.go 4 (Pt.prs [5] .fin))) [] Tryd.mixed (by kernel_rfl) (fun _ _ d _ _ h => by cases d <;> exact h) trivial ?_
        have H5 := H4.drew
        generalize w3.drew = w4 at *
        simp only [Pt.toL, Pt.rds, Pt.prs, Pt.at_, List.drop_succ_cons, List.drop_zero]
        iterate 4 (refine Pt.pr_run (v := ?_) (by rfl) ?_ ?_; rotate_left; (focus (intro w'; go_simp; with_reducible rfl)); simp only [Act.put, List.setIfInBounds_toArray, List.set_cons_zero, List.set_cons_succ])
        have hsm := same_any (w := w4) (A := some ⟨g9, 0, none⟩) (c := 32) (a := T) (B := some ⟨bc, oc + N, none⟩) (d := f - N) (b := s.drop N) ((H5.blk 0 rfl).RB (by rw [List.drop_zero, List.take_of_length_le (by rw [bv_length]; exact Nat.le_refl _)])) (((hs.cons _).drop N).now H5) (by rw [HTL.out]; exact Nat.le_refl _) (by rw [HSD.out]; omega) (by rw [HTL.out]; decide)
        rw [HTL.out, HSD.out] at hsm
        rw [decide_eq_true HEQ.out] at hsm
        have HSM := Lib.hid hsm
        clear hsm
        refine Pt.run_go ?_
        go_wp2_with fail
        refine HSM.out.mono ?_
        rintro e w' ⟨rfl, rfl⟩
        go_wp2_with fail
        refine Pt.same trivial ?_
        (refine Pt.pr_run (v := ?_) (by rfl) ?_ ?_; rotate_left; (focus (intro w'; go_simp; with_reducible rfl)); simp only [Act.put, List.setIfInBounds_toArray, List.set_cons_zero, List.set_cons_succ])
        refine Pt.run_fin ?_
        have hstr := fun (W : World) (HW : St w0 W M (eb g9 40 (bv T) :: L)) => stream_any ht HW hA hc (hk.cons _) hn (B := some ⟨bc, oc, none⟩) (d := f) (non := s.take 16) (by rintro ⟨⟩) (by rw [HS16.out]; omega) ((hs.cons _).take 16) (by rw [HS16.out]; decide) (C := some ⟨bc, oc + 16, none⟩) (f := f - 16) (b := (s.drop 16).take B) (by rintro ⟨⟩) (by rw [HSB.out]; omega) ((hs.cons _).sub 16 B) (by rw [HSB.out]; omega)
        rw [HS16.out, HSB.out] at hstr
        have HSTR := Lib.hid hstr
        clear hstr HSM
        go_wp2
        refine Pt.wp_plan (fun w' => True) (Pt.prs [0, 1, 2, 3, 4, 5] (.go 6 (Pt.prs [7, 8] .fin))) [] Tryd.mixed (by kernel_rfl) (fun _ _ d _ _ h => by cases d <;> exact h) trivial ?_
        have H6 := H5.drew
        simp only [Pt.toL, Pt.rds, Pt.prs, Pt.at_, List.drop_succ_cons, List.drop_zero]
        iterate 6 (refine Pt.pr_run (v := ?_) (by rfl) ?_ ?_; rotate_left; (focus (intro w'; go_simp; with_reducible rfl)); simp only [Act.put, List.setIfInBounds_toArray, List.set_cons_zero, List.set_cons_succ])
        refine Pt.run_go ?_
        go_wp2_with fail
        refine (HSTR.out _ H6).mono ?_
        rintro e w5 ⟨v5, rfl, H7⟩
        obtain ⟨A8, c8, M8, rfl, h1, h2, h3, h4, h5⟩ := H7.rowBytes
        go_wp2_with fail
        refine Pt.same trivial ?_
        iterate 2 (refine Pt.pr_run (v := ?_) (by rfl) ?_ ?_; rotate_left; (focus (intro w'; go_simp; with_reducible rfl)); simp only [Act.put, List.setIfInBounds_toArray, List.set_cons_zero, List.set_cons_succ])
        refine Pt.run_fin ?_
        go_wp2
        go_ret2
        exact ⟨A8, c8, M8, rfl, h1, h2, h3, h4, h5.d0⟩
      · rw [if_neg heq]
        have HEQ := Lib.hid heq
        clear heq
        go_enter Tryd.func8, Tryd.ntmps8
        go_wp2_with fail
        refine HTG.out.mono ?_
        rintro e w2 ⟨rfl, H2⟩
        have H3 := H2.new (bv (List.replicate 32 0)) 40
        obtain ⟨w3, hst, H4⟩ := run_store_st (P := Tryd.prog) H3 (cs := bv T) (by rw [hTl2, bv_length, List.length_replicate]) (bv_one _)
        rw [← obj32] at hst
        clear H2 H3 HTG
        go_upto_region 7 with fail
        clear hst
        generalize w2.heap.size = g9 at *
        refine Pt.wp_plan (fun w' => True) (Pt.prs [0, 1, 2, 3] (.go 4 (Pt.prs [5] .fin))) [] Tryd.mixed (by kernel_rfl) (fun _ _ d _ _ h => by cases d <;> exact h) trivial ?_
        have H5 := H4.drew
        generalize w3.drew = w4 at *
        simp only [Pt.toL, Pt.rds, Pt.prs, Pt.at_, List.drop_succ_cons, List.drop_zero]
        iterate 4 (refine Pt.pr_run (v := ?_) (by rfl) ?_ ?_; rotate_left; (focus (intro w'; go_simp; with_reducible rfl)); simp only [Act.put, List.setIfInBounds_toArray, List.set_cons_zero, List.set_cons_succ])
        have hsm := same_any (w := w4) (A := some ⟨g9, 0, none⟩) (c := 32) (a := T) (B := some ⟨bc, oc + N, none⟩) (d := f - N) (b := s.drop N) ((H5.blk 0 rfl).RB (by rw [List.drop_zero, List.take_of_length_le (by rw [bv_length]; exact Nat.le_refl _)])) (((hs.cons _).drop N).now H5) (by rw [HTL.out]; exact Nat.le_refl _) (by rw [HSD.out]; omega) (by rw [HTL.out]; decide)
        rw [HTL.out, HSD.out] at hsm
        rw [decide_eq_false HEQ.out] at hsm
        have HSM := Lib.hid hsm
        clear hsm
        refine Pt.run_go ?_
        go_wp2_with fail
        refine HSM.out.mono ?_
        rintro e w' ⟨rfl, rfl⟩
        go_wp2_with fail
        refine Pt.same trivial ?_
        (refine Pt.pr_run (v := ?_) (by rfl) ?_ ?_; rotate_left; (focus (intro w'; go_simp; with_reducible rfl)); simp only [Act.put, List.setIfInBounds_toArray, List.set_cons_zero, List.set_cons_succ])
        refine Pt.run_fin ?_
        go_wp2
        go_ret2
        exact NIL.out _ H5.d0 _
end
end Go.Proofs.YtfhphkhkpejomaaDoor
