/- The contracts of seal.Seal and Size, and of the reference's Seal. -/
import Derived.Test.YtfhphkhkpejomaaDoorZe
import Derived.Test.YtfhphkhkpejomaaDoorMo
set_option linter.unusedVariables false
set_option linter.unusedSimpArgs false
namespace Go.Proofs.YtfhphkhkpejomaaDoor
open Go.RowKit Wd
theorem Wd.St.rowBytes {w0 w : World} {M : Mem} {L : List Ent} {e : TypeId} {n : Nat} {v : Value} {l : List UInt8} (h : St w0 w M (er e 1 v n (bv l) :: L)) : ∃ A c M', v = .slice A l.length c ∧ l.length ≤ c ∧ (A = none → c = 0) ∧ M.le M' ∧ In M' (RB · A l) ∧ St w0 w M' L := by
  have hl := h.len 0 rfl
  rw [bv_length, Nat.mul_one] at hl
  subst hl
  obtain ⟨A, c, rfl, h1, h2⟩ := h.shape' 0 rfl
  obtain ⟨M', h3, h4, h5⟩ := h.keepRow
  exact ⟨A, c, M', rfl, h1, h2, h3, h5, h4⟩
section
variable {w0 w : World} {M : Mem} {L : List Ent}
def sizeR (n : Int) : Int × Int := if n < 0 ∨ 4096 < n then (0, 3) else (n + 48, 0)
theorem size_any (w : World) (n : Int) (hn : n ≤ 9223372036854775807) : Calls Tryd.prog 14 #[.int .i64 n] w fun e w' => e = .returned (.tuple #[.int .i64 (sizeR n).1, .int .i64 (sizeR n).2]) ∧ w' = w := by
  by_cases h1 : n < 0
  · rw [show sizeR n = (0, 3) from if_pos (.inl h1)]
    go_enter Tryd.func14, Tryd.ntmps14
    go_wp2
    go_ret2
    exact ⟨rfl, rfl⟩
  · by_cases h2 : 4096 < n
    · rw [show sizeR n = (0, 3) from if_pos (.inr h2)]
      go_enter Tryd.func14, Tryd.ntmps14
      go_wp2
      go_ret2
      exact ⟨rfl, rfl⟩
    · rw [show sizeR n = (n + 48, 0) from if_neg (by omega)]
      obtain ⟨q, hq⟩ : ∃ q, q = n + 48 := ⟨_, rfl⟩
      rw [← hq]
      obtain ⟨p, hp⟩ : ∃ p, p = n + 16 := ⟨_, rfl⟩
      have e1 : IntKind.i64.wrap (16 + n) = p := by rw [IntKind.wrap_i64]; omega
      have e2 : IntKind.i64.wrap (p + 32) = q := by rw [IntKind.wrap_i64]; omega
      have e3 : 16 + n = p := by omega
      have e4 : p + 32 = q := by omega
      clear hp hq
      go_enter Tryd.func14, Tryd.ntmps14
      go_wp2
      go_ret2
      exact ⟨rfl, rfl⟩
set_option maxRecDepth 100000 in
set_option maxHeartbeats 2000000 in
theorem seal_any (ht : Tabs w0) (H : St w0 w M L) {A : Option Addr} {c : Nat} {k : List UInt8} (hA : A = none → c = 0) (hc : k.length ≤ c) (hk : Sr w0 M L A k) (hn : k.length < 1000000)
    (non lb : List UInt8) (hnl : non.length = 16) (hlb : lb.length ≤ 60000)
    {C : Option Addr} {f : Nat} {b : List UInt8} (hC : C = none → f = 0) (hbf : b.length ≤ f) (hb : Sr w0 M L C b) (hbn : b.length ≤ 10000) :
    Calls Tryd.prog 11 #[.slice A k.length c, .agg (bv non).toArray, .string ⟨lb.toArray⟩, .slice C b.length f] w (RetBytes w0 M L (Seal.sealR k non lb b).1 fun v => .returned (.tuple #[v, .int .i64 (Seal.sealR k non lb b).2])) := by
  have hsz : (ByteArray.mk lb.toArray).size = lb.length := by show lb.toArray.size = _; simp
  have hbl : (bv non).length = 16 := by rw [bv_length, hnl]
  have H1 := H.new (bv non) 28
  by_cases hbad : 256 < lb.length ∨ 4096 < b.length
  · have hR : Seal.sealR k non lb b = ([], 3) := if_pos hbad
    rw [hR]
    have hx : (256 : Int) < (lb.length : Int) ∨ (¬ (256 : Int) < (lb.length : Int) ∧ (4096 : Int) < (b.length : Int)) := by omega
    clear hbad hR
    rcases hx with hx | ⟨hx, hx2⟩
    all_goals
      go_enter Tryd.func11, Tryd.ntmps11
      go_wp2
      go_ret2
      exact ⟨none, 0, M, rfl, Nat.le_refl _, fun _ => rfl, Mem.le.refl _, fun _ _ h => absurd rfl h, H1.d0⟩
  · have hR : Seal.sealR k non lb b = (Seal.sealed k non lb b, 0) := if_neg hbad
    rw [hR]
    have q1 : ¬ (256 : Int) < (lb.length : Int) := by omega
    have q2 : ¬ (4096 : Int) < (b.length : Int) := by omega
    obtain ⟨Y, hY⟩ : ∃ Y, Y = Seal.body k non b := ⟨_, rfl⟩
    obtain ⟨T, hT⟩ : ∃ T, T = Seal.tag k lb Y := ⟨_, rfl⟩
    have hS : Seal.sealed k non lb b = Y ++ T := by rw [hT, hY]; rfl
    have hYl : Y.length = 16 + b.length := by rw [hY]; unfold Seal.body; rw [List.length_append, Seal.turned_len, hnl]
    have hTl : T.length = 32 := by rw [hT, Seal.tag_len]
    have hTl2 : (bv T).length = 32 := by rw [bv_length, hTl]
    rw [hS]
    have HY := Lib.hid hY
    have HT := Lib.hid hT
    have HYL := Lib.hid hYl
    have HTL := Lib.hid hTl
    have HNL := Lib.hid hnl
    have hns : Sr w0 M (eb w.heap.size 28 (bv non) :: L) (some ⟨w.heap.size, 0, none⟩) non := Sr.blk 0 rfl (by rw [List.drop_zero, List.take_of_length_le (by rw [bv_length]; exact Nat.le_refl _)])
    have hst := fun (W : World) (HW : St w0 W M (eb w.heap.size 28 (bv non) :: L)) => stream_any ht HW hA hc (hk.cons _) hn (B := some ⟨w.heap.size, 0, none⟩) (d := 16) (non := non) (by rintro ⟨⟩) (by rw [hnl]; exact Nat.le_refl _) hns (by rw [hnl]; decide) hC hbf (hb.cons _) hbn
    rw [hnl] at hst
    have HST := Lib.hid hst
    clear hbad hR hY hT hS hYl hTl hnl hst
    go_enter Tryd.func11, Tryd.ntmps11
    go_upto_region 3 with fail
    generalize hw1 : w.alloc (.cells (bv non).toArray 28) = w1 at *
    generalize hg : w.heap.size = g at *
    clear hw1 hg
    refine Pt.wp_plan (fun w' => True) (Pt.prs [0, 1, 2, 3] (.go 4 (.go 5 (Pt.prs [6] .fin)))) [] Tryd.mixed (by kernel_rfl) (fun _ _ d _ _ h => by cases d <;> exact h) trivial ?_
    simp only [Pt.toL, Pt.rds, Pt.prs, Pt.at_, List.drop_succ_cons, List.drop_zero]
    iterate 4 (refine Pt.pr_run (v := ?_) (by rfl) ?_ ?_; rotate_left; (focus (intro w'; go_simp; with_reducible rfl)); simp only [Act.put, List.setIfInBounds_toArray, List.set_cons_zero, List.set_cons_succ])
    have H2 := H1.drew
    generalize w1.drew = w2 at *
    refine Pt.run_go ?_
    go_wp2_with fail
    refine (HST.out _ H2).mono ?_
    rintro e w3 ⟨v3, rfl, H3⟩
    go_wp2_with fail
    refine Pt.same trivial ?_
    refine Pt.run_go ?_
    obtain ⟨A3, c3, rfl, hc3, hA3⟩ := H3.shape' 0 rfl
    by_cases hb0 : b = []
    · subst hb0
      refine wpList_append_zero (by rfl) (.tmp 20) (.tmp 24) 22 (by rfl) Tryd.info5 Tryd.underlying22 (some ⟨g, 0, none⟩) 16 16 (by rfl) (Nat.le_refl _) A3 c3 (by rfl) ?_
      refine wpList_nil ?_
      refine Pt.same trivial ?_
      simp only [Act.put, List.setIfInBounds_toArray, List.set_cons_zero, List.set_cons_succ]
      (refine Pt.pr_run (v := ?_) (by rfl) ?_ ?_; rotate_left; (focus (intro w'; go_simp; with_reducible rfl)); simp only [Act.put, List.setIfInBounds_toArray, List.set_cons_zero, List.set_cons_succ])
      refine Pt.run_fin ?_
      have hYn : Y = non := by rw [HY.out]; unfold Seal.body; rw [List.eq_nil_of_length_eq_zero (Seal.turned_len k non []), List.append_nil]
      have h2 := tag_any ht H3.d0 hA hc (hk.cons _) hn lb hlb (B := some ⟨g, 0, none⟩) (d := 16) (s := Y) (by rintro ⟨⟩) (by rw [hYn]; exact hns) (by rw [HYL.out]; decide)
      rw [show Y.length = 16 from HYL.out, ← HT.out] at h2
      have HTG := Lib.hid h2
      have HYN := Lib.hid hYn
      clear h2 hYn HST
      go_wp2_with fail
      refine HTG.out.mono ?_
      rintro e w4 ⟨rfl, H4⟩
      have H5 := H4.new (bv (List.replicate 32 0)) 40
      obtain ⟨w5, hst, H6⟩ := run_store_st (P := Tryd.prog) H5 (cs := bv T) (by rw [hTl2, bv_length, List.length_replicate]) (bv_one _)
      rw [← obj32] at hst
      clear H5 H4 H3 HTG
      go_wp2_with (at_builtin; refine wpList_append_full_st H6 (by rfl) (.tmp 30) (.tmp 31) 22 (by rfl) Tryd.info5 Tryd.underlying22 (some ⟨g, 0, none⟩) 16 16 Y (by rfl) HYL.out.symm (by rintro ⟨⟩) (by rw [HYN.out]; exact (H6.blk 1 rfl).RB (by rw [List.drop_zero, List.take_of_length_le (by rw [bv_length]; exact Nat.le_refl _)])) ⟨w4.heap.size, 0, none⟩ 32 32 T (by rfl) HTL.out.symm ((H6.blk 0 rfl).RB (by rw [List.drop_zero, List.take_of_length_le (by rw [bv_length]; exact Nat.le_refl _)])) (by omega) (by omega) (by omega) ?_)
      intro v7 w7 H7
      obtain ⟨A7, c7, M7, rfl, h1, h2, h3, h4, h5⟩ := H7.rowBytes
      go_wp2
      go_ret2
      exact ⟨A7, c7, M7, rfl, h1, h2, h3, h4, h5.d0.d0⟩
    · have hb1 : 0 < b.length := by rcases b with _ | ⟨x, b⟩; exact absurd rfl hb0; simp
      have hA3n : A3 ≠ none := fun h => by have := hA3 h; omega
      obtain ⟨ad, rfl⟩ := Option.ne_none_iff_exists'.1 hA3n
      refine wpList_append_full_st H3 (by rfl) (.tmp 20) (.tmp 24) 22 (by rfl) Tryd.info5 Tryd.underlying22 (some ⟨g, 0, none⟩) 16 16 non (by rfl) HNL.out.symm (by rintro ⟨⟩) ((H3.blk 1 rfl).RB (by rw [List.drop_zero, List.take_of_length_le (by rw [bv_length]; exact Nat.le_refl _)])) ad b.length c3 (Seal.turned k non b) (by rfl) (Seal.turned_len k non b).symm (er_RB (by have h := H3.get 0 rfl; rw [← Seal.turned_len k non b] at h; exact h)) (by omega) (by omega) (by omega) ?_
      intro v4 w4 H4
      refine wpList_nil ?_
      refine Pt.same trivial ?_
      simp only [Act.put, List.setIfInBounds_toArray, List.set_cons_zero, List.set_cons_succ]
      (refine Pt.pr_run (v := ?_) (by rfl) ?_ ?_; rotate_left; (focus (intro w'; go_simp; with_reducible rfl)); simp only [Act.put, List.setIfInBounds_toArray, List.set_cons_zero, List.set_cons_succ])
      refine Pt.run_fin ?_
      rw [show non ++ Seal.turned k non b = Y from HY.out.symm] at H4
      obtain ⟨A4, c4, rfl, hc4, hA4⟩ := H4.shape' 0 rfl
      rw [← HYL.out] at H4
      have h2 := tag_any ht H4 hA hc (((hk.cons _).cons _).cons _) hn lb hlb (B := A4) (d := c4) (s := Y) hA4 (Sr.row 0 rfl) (by rw [HYL.out]; omega)
      rw [HYL.out, ← HT.out] at h2
      have HTG := Lib.hid h2
      clear h2 HST H3 hA3n hA3 hb0
      go_wp2_with fail
      refine HTG.out.mono ?_
      rintro e w5 ⟨rfl, H5⟩
      have H6 := H5.new (bv (List.replicate 32 0)) 40
      obtain ⟨w6, hst, H7⟩ := run_store_st (P := Tryd.prog) H6 (cs := bv T) (by rw [hTl2, bv_length, List.length_replicate]) (bv_one _)
      rw [← obj32] at hst
      clear H5 H6 H4 HTG
      go_wp2_with (at_builtin; refine wpList_append_st H7.f1 (by rfl) (.tmp 30) (.tmp 31) 22 (by rfl) Tryd.info5 Tryd.underlying22 (by rfl) (some ⟨w5.heap.size, 0, none⟩) 32 32 T (by rfl) HTL.out.symm (by rintro ⟨⟩) ((H7.blk 0 rfl).RB (by rw [List.drop_zero, List.take_of_length_le (by rw [bv_length]; exact Nat.le_refl _)])) (by omega) ?_)
      intro v8 w8 H8
      rw [← bv_append] at H8
      obtain ⟨A8, c8, M8, rfl, h1, h2, h3, h4, h5⟩ := H8.rowBytes
      go_wp2
      go_ret2
      exact ⟨A8, c8, M8, rfl, h1, h2, h3, h4, h5.d0.d0.d0⟩
end
end Go.Proofs.YtfhphkhkpejomaaDoor
