/- vault.base64. -/
import Derived.Test.YtcdljlaoedaliaaDoorT5
import Derived.Test.YtcdljlaoedaliaaDoorT3
import Derived.Test.YtcdljlaoedaliaaDoorCs
import Derived.Test.YtcdljlaoedaliaaDoorT4
import Derived.Test.YtcdljlaoedaliaaDoorRows
import Derived.Test.YtcdljlaoedaliaaDoorAr
import Derived.Test.YtcdljlaoedaliaaDoorAg
import Derived.Test.YtcdljlaoedaliaaDoorEa
import Derived.Deep.DeepHandedRow
import Derived.OpenShut
set_option linter.unusedVariables false
set_option linter.unusedSimpArgs false
namespace Go.Proofs.YtcdljlaoedaliaaDoor
open Go.RowKit Wd
section
variable {w0 w : World} {M : Mem} {L : List Ent}
theorem idx64 (q : Nat) (h : q < 64) (w : World) : (Instr.index 9 (.string ⟨#[65, 66, 67, 68, 69, 70, 71, 72, 73, 74, 75, 76, 77, 78, 79, 80, 81, 82, 83, 84, 85, 86, 87, 88, 89, 90, 97, 98, 99, 100, 101, 102, 103, 104, 105, 106, 107, 108, 109, 110, 111, 112, 113, 114, 115, 116, 117, 118, 119, 120, 121, 122, 48, 49, 50, 51, 52, 53, 54, 55, 56, 57, 43, 47]⟩) (.int .i64 (q : Int))).run Tryd.prog w = .ok (.int .u8 ((B64.dig q).toNat : Int)) w := by
  obtain ⟨h1, h2⟩ := B64.dig_at q h
  have := str_index (P := Tryd.prog) (t := 9) (k := .i64) Tryd.underlying9 B64.tab q h1 rfl w
  rw [h2] at this
  exact this
set_option maxRecDepth 100000 in
set_option maxHeartbeats 4000000 in
theorem base64_any (H : St w0 w M L) (s : List UInt8) (hs : s.length ≤ 1000000) :
    Calls Tryd.prog 54 #[.string (str s)] w fun e w' => e = .returned (.string (str (B64.enc s))) ∧ St w0 w' M L := by
  have H1 := H.addNil 5 1
  go_enter Tryd.func54, Tryd.ntmps54
  go_wp2
  go_loopw [0, 3] (fun t v wr => ∃ (r X : List UInt8), r.length ≤ s.length ∧ X.length ≤ 2000004 ∧ t = .string (str r) ∧ X ++ B64.enc r = B64.enc s ∧ St w0 wr M (er 5 1 v X.length (bv X) :: L)) (fun t _ _ => match t with | .string b => b.size | _ => 0)
  case atStart => exact ⟨s, [], Nat.le_refl _, by simp, rfl, rfl, H1⟩
  case round =>
    obtain ⟨r, X, hr, hX, rfl, hE, H2⟩ := hrel
    have HE := Lib.hid hE
    have HX := Lib.hid hX
    clear H1 hE hX
    match r, hr, HE with
    | [], hr, HE =>
      obtain ⟨A2, c2, rfl, hc2⟩ := H2.shape 0 rfl
      have cv := conv_RB (P := Tryd.prog) (src := 42) (dst := 9) (c := c2) Tryd.underlying42 Tryd.underlying5 Tryd.underlying9 (er_RB (H2.get 0 rfl)) rfl
      have he : X = B64.enc s := by rw [← HE.out]; simp [B64.enc]
      have HEE := Lib.hid he
      clear he
      go_wp2
      go_ret
      exact ⟨by rw [← HEE.out]; rfl, H2.d0⟩
    | [a], hr, HE =>
      obtain ⟨v, q1, q2, q3, q4, p2, p3, hv, hvv, e4, e5, e6, e7, e8, e9, l1, l2, l3, l4, f1, f2, f3, f4⟩ := B64.reckon a 0 0
      obtain ⟨A2, c2, rfl, hc2⟩ := H2.shape 0 rfl
      have i1 := idx64 q1 l1
      have i2 := idx64 q2 l2
      have i3 := idx64 q3 l3
      have i4 := idx64 q4 l4
      rw [f1] at i1
      rw [f2] at i2
      rw [f3] at i3
      rw [f4] at i4
      have hrec := B64.rec1 a
      rw [← hv] at hrec
      have hsl := str_to (P := Tryd.prog) (t := 9) (k := .i64) Tryd.underlying9 [a] 1 (by simp) (i := 1) rfl
      have hsf := str_from (P := Tryd.prog) (t := 9) (k := .i64) Tryd.underlying9 [a] 1 (by simp) (i := 1) rfl
      simp only [List.take_succ_cons, List.take_zero, List.drop_succ_cons, List.drop_zero] at hsl hsf
      have hX2 : (X ++ [B64.d1 a 0 0, B64.d2 a 0 0] ++ [61, 61]) ++ B64.enc [] = B64.enc s := by rw [← HE.out]; simp [B64.enc]
      have hX3 : (X ++ [B64.d1 a 0 0, B64.d2 a 0 0] ++ [61, 61]).length ≤ 2000004 := by
        have h1 := congrArg List.length hX2
        have h2 := B64.enc_len s
        rw [List.length_append] at h1
        omega
      have I1 := Lib.hid i1
      have I2 := Lib.hid i2
      have I3 := Lib.hid i3
      have I4 := Lib.hid i4
      have HSL := Lib.hid hsl
      have HSF := Lib.hid hsf
      have HREC := Lib.hid hrec
      have HV := Lib.hid hv
      have HE9 := Lib.hid (And.intro e4 (And.intro e5 (And.intro e6 (And.intro e7 (And.intro e8 e9)))))
      have HX2 := Lib.hid hX2
      have HX3 := Lib.hid hX3
      clear hv hvv i1 i2 i3 i4 f1 f2 f3 f4 hsl hsf hrec l1 l2 l3 l4 e4 e5 e6 e7 e8 e9 hX2 hX3
      go_upto_region 5 with fail
      have H3 := H2.new [.int .u8 0, .int .u8 0, .int .u8 0] 107
      refine Pt.wp_plan (fun w' => St w0 w' M (eb wr.heap.size 107 [.int .u8 0, .int .u8 0, .int .u8 0] :: er 5 1 (.slice A2 X.length c2) X.length (bv X) :: L)) (Pt.prs [0, 1, 2, 3] (.st 4 .fin)) [4] Tryd.mixed (by kernel_rfl) (fun _ _ d _ _ h => by cases d <;> exact h) H3.drew ?_
      have H4 := H3.drew
      clear H3
      have hsl := HSL.out
      simp only [Pt.toL, Pt.rds, Pt.prs, Pt.at_, List.drop_succ_cons, List.drop_zero]
      iterate 4 (refine Pt.pr_run (v := ?_) (by rfl) ?_ ?_; rotate_left; (focus (intro w'; go_simp; with_reducible rfl)); simp only [Act.put, List.setIfInBounds_toArray, List.set_cons_zero, List.set_cons_succ])
      refine Pt.run_st ?_
      refine wpList_copy_str_st H4 (by rfl) (.tmp 14) (.tmp 17) 42 9 (by rfl) 5 Tryd.underlying42 Tryd.size5 3 3 [a] (by rfl) (by rfl) (by simp) (by simp) ?_
      intro w5 H5
      rw [show ins [.int .u8 0, .int .u8 0, .int .u8 0] 0 (bv [a]) = [.int .u8 (a.toNat : Int), .int .u8 0, .int .u8 0] from rfl] at H5
      refine wpList_nil ?_
      simp only [Pl.Then, Act.put, List.setIfInBounds_toArray, List.set_cons_zero, List.set_cons_succ]
      refine Pt.run_fin ?_
      clear H4 hsl
      have c0 := H5.cell 0 rfl 0
      have c1 := H5.cell 0 rfl 1
      have cc2 := H5.cell 0 rfl 2
      simp only [List.getElem?_cons_succ, List.getElem?_cons_zero] at c0 c1 cc2
      go_upto_region 7 with fail
      rw [HREC.out]
      clear c0 c1 cc2
      refine Pt.wp_plan (fun w' => St w0 w' M (eb wr.heap.size 107 [.int .u8 (a.toNat : Int), .int .u8 0, .int .u8 0] :: er 5 1 (.slice A2 X.length c2) X.length (bv X) :: L)) (Pt.prs [0, 1, 2, 3, 4, 5, 6, 7, 8, 9, 10, 11, 12, 13] (.go 14 (Pt.prs [15] .fin))) [] Tryd.mixed (by kernel_rfl) (fun _ _ d _ _ h => by cases d <;> exact h) H5.drew ?_
      obtain ⟨e4, e5, e6, e7, e8, e9⟩ := HE9.out
      have i1 := I1.out
      have i2 := I2.out
      have i3 := I3.out
      have i4 := I4.out
      simp only [Pt.toL, Pt.rds, Pt.prs, Pt.at_, List.drop_succ_cons, List.drop_zero]
      iterate 14 (refine Pt.pr_run (v := ?_) (by rfl) ?_ ?_; rotate_left; (focus (intro w'; go_simp; with_reducible rfl)); simp only [Act.put, List.setIfInBounds_toArray, List.set_cons_zero, List.set_cons_succ])
      clear i1 i2 i3 i4 e4 e5 e6 e7 e8 e9
      refine Pt.run_go ?_
      have H6 := H5.drew.lit (bv [B64.d1 a 0 0, B64.d2 a 0 0, B64.d3 a 0 0, B64.d4 a 0 0]) 5 (by show 4 ≤ maxLen; decide)
      go_wp2_with fail
      refine Pt.same H6.d0 ?_
      (refine Pt.pr_run (v := ?_) (by rfl) ?_ ?_; rotate_left; (focus (intro w'; go_simp; with_reducible rfl)); simp only [Act.put, List.setIfInBounds_toArray, List.set_cons_zero, List.set_cons_succ])
      refine Pt.run_fin ?_
      clear H5
      go_upto_region 8 with fail
      clear HREC HV HE9 I1 I2 I3 I4
      have wn1 : IntKind.i64.wrap 2 = 2 := by decide
      have wn2 : IntKind.i64.wrap 2 = 2 := by decide
      have H7 := H6.drew
      have hpad := str_to (P := Tryd.prog) (t := 9) (k := .i64) Tryd.underlying9 [61, 61] 2 (by simp) (i := 2) rfl
      simp only [List.take_succ_cons, List.take_zero] at hpad
      refine Pt.wp_plan (fun w' => St w0 w' M (er 5 1 (.slice (some ⟨w5.heap.size, 0, none⟩) 4 4) 4 (bv [B64.d1 a 0 0, B64.d2 a 0 0, B64.d3 a 0 0, B64.d4 a 0 0]) :: eb wr.heap.size 107 [.int .u8 (a.toNat : Int), .int .u8 0, .int .u8 0] :: er 5 1 (.slice A2 X.length c2) X.length (bv X) :: L)) (Pt.prs [0, 1, 2, 3, 4, 6, 7, 8] (.st 5 (.st 9 (Pt.prs [10] .fin)))) [5, 9] Tryd.mixed (by kernel_rfl) (fun _ _ d _ _ h => by cases d <;> exact h) H7 ?_
      clear H6
      simp only [Pt.toL, Pt.rds, Pt.prs, Pt.at_, List.drop_succ_cons, List.drop_zero]
      iterate 8 (refine Pt.pr_run (v := ?_) (by rfl) ?_ ?_; rotate_left; (focus (intro w'; go_simp; with_reducible rfl)); simp only [Act.put, List.setIfInBounds_toArray, List.set_cons_zero, List.set_cons_succ])
      clear hpad
      have hrb := (er_RB (H7.get 0 rfl)).take 2
      refine Pt.run_st ?_
      refine wpList_append_st H7.f2 (by rfl) (.tmp 47) (.tmp 51) 42 (by rfl) Tryd.info5 Tryd.underlying42 (by rfl) (some ⟨w5.heap.size, 0, none⟩) 2 4 [B64.d1 a 0 0, B64.d2 a 0 0] (by rfl) (by rfl) (by rintro ⟨⟩) hrb (by have := HX.out; omega) ?_
      intro v8 w8 H8
      rw [← bv_append] at H8
      refine wpList_nil ?_
      simp only [Pl.Then, Act.put, List.setIfInBounds_toArray, List.set_cons_zero, List.set_cons_succ]
      refine Pt.run_st ?_
      refine wpList_append_str_st H8 (by rfl) (.tmp 52) (.tmp 55) 42 9 (by rfl) Tryd.info5 Tryd.underlying42 Tryd.underlying9 (by rfl) [61, 61] (by rfl) (by have := HX.out; simp; omega) ?_
      intro v9 w9 H9
      rw [← bv_append] at H9
      refine wpList_nil ?_
      simp only [Pl.Then, Act.put, List.setIfInBounds_toArray, List.set_cons_zero, List.set_cons_succ]
      (refine Pt.pr_run (v := ?_) (by rfl) ?_ ?_; rotate_left; (focus (intro w'; go_simp; with_reducible rfl)); simp only [Act.put, List.setIfInBounds_toArray, List.set_cons_zero, List.set_cons_succ])
      refine Pt.run_fin ?_
      have HA : St w0 w9 M (er 5 1 v9 (X ++ [B64.d1 a 0 0, B64.d2 a 0 0] ++ [61, 61]).length (bv (X ++ [B64.d1 a 0 0, B64.d2 a 0 0] ++ [61, 61])) :: L) := by
        have h := H9.f2.d0.f1.d0
        have e : (X ++ [B64.d1 a 0 0, B64.d2 a 0 0] ++ [61, 61]).length = X.length + 2 + 2 := by simp
        rw [e]
        exact h
      clear H7 H8 H9 hrb
      have hsf := HSF.out
      go_wp2
      exact ⟨⟨[], X ++ [B64.d1 a 0 0, B64.d2 a 0 0] ++ [61, 61], by simp, HX3.out, rfl, HX2.out, HA⟩, by simp [str_size]⟩
    | [a, b], hr, HE =>
      obtain ⟨v, q1, q2, q3, q4, p2, p3, hv, hvv, e4, e5, e6, e7, e8, e9, l1, l2, l3, l4, f1, f2, f3, f4⟩ := B64.reckon a b 0
      obtain ⟨A2, c2, rfl, hc2⟩ := H2.shape 0 rfl
      have i1 := idx64 q1 l1
      have i2 := idx64 q2 l2
      have i3 := idx64 q3 l3
      have i4 := idx64 q4 l4
      rw [f1] at i1
      rw [f2] at i2
      rw [f3] at i3
      rw [f4] at i4
      have hrec := B64.rec2 a b
      rw [← hv] at hrec
      have hsl := str_to (P := Tryd.prog) (t := 9) (k := .i64) Tryd.underlying9 [a, b] 2 (by simp) (i := 2) rfl
      have hsf := str_from (P := Tryd.prog) (t := 9) (k := .i64) Tryd.underlying9 [a, b] 2 (by simp) (i := 2) rfl
      simp only [List.take_succ_cons, List.take_zero, List.drop_succ_cons, List.drop_zero] at hsl hsf
      have hX2 : (X ++ [B64.d1 a b 0, B64.d2 a b 0, B64.d3 a b 0] ++ [61]) ++ B64.enc [] = B64.enc s := by rw [← HE.out]; simp [B64.enc]
      have hX3 : (X ++ [B64.d1 a b 0, B64.d2 a b 0, B64.d3 a b 0] ++ [61]).length ≤ 2000004 := by
        have h1 := congrArg List.length hX2
        have h2 := B64.enc_len s
        rw [List.length_append] at h1
        omega
      have I1 := Lib.hid i1
      have I2 := Lib.hid i2
      have I3 := Lib.hid i3
      have I4 := Lib.hid i4
      have HSL := Lib.hid hsl
      have HSF := Lib.hid hsf
      have HREC := Lib.hid hrec
      have HV := Lib.hid hv
      have HE9 := Lib.hid (And.intro e4 (And.intro e5 (And.intro e6 (And.intro e7 (And.intro e8 e9)))))
      have HX2 := Lib.hid hX2
      have HX3 := Lib.hid hX3
      clear hv hvv i1 i2 i3 i4 f1 f2 f3 f4 hsl hsf hrec l1 l2 l3 l4 e4 e5 e6 e7 e8 e9 hX2 hX3
      go_upto_region 5 with fail
      have H3 := H2.new [.int .u8 0, .int .u8 0, .int .u8 0] 107
      refine Pt.wp_plan (fun w' => St w0 w' M (eb wr.heap.size 107 [.int .u8 0, .int .u8 0, .int .u8 0] :: er 5 1 (.slice A2 X.length c2) X.length (bv X) :: L)) (Pt.prs [0, 1, 2, 3] (.st 4 .fin)) [4] Tryd.mixed (by kernel_rfl) (fun _ _ d _ _ h => by cases d <;> exact h) H3.drew ?_
      have H4 := H3.drew
      clear H3
      have hsl := HSL.out
      simp only [Pt.toL, Pt.rds, Pt.prs, Pt.at_, List.drop_succ_cons, List.drop_zero]
      iterate 4 (refine Pt.pr_run (v := ?_) (by rfl) ?_ ?_; rotate_left; (focus (intro w'; go_simp; with_reducible rfl)); simp only [Act.put, List.setIfInBounds_toArray, List.set_cons_zero, List.set_cons_succ])
      refine Pt.run_st ?_
      refine wpList_copy_str_st H4 (by rfl) (.tmp 14) (.tmp 17) 42 9 (by rfl) 5 Tryd.underlying42 Tryd.size5 3 3 [a, b] (by rfl) (by rfl) (by simp) (by simp) ?_
      intro w5 H5
      rw [show ins [.int .u8 0, .int .u8 0, .int .u8 0] 0 (bv [a, b]) = [.int .u8 (a.toNat : Int), .int .u8 (b.toNat : Int), .int .u8 0] from rfl] at H5
      refine wpList_nil ?_
      simp only [Pl.Then, Act.put, List.setIfInBounds_toArray, List.set_cons_zero, List.set_cons_succ]
      refine Pt.run_fin ?_
      clear H4 hsl
      have c0 := H5.cell 0 rfl 0
      have c1 := H5.cell 0 rfl 1
      have cc2 := H5.cell 0 rfl 2
      simp only [List.getElem?_cons_succ, List.getElem?_cons_zero] at c0 c1 cc2
      go_upto_region 7 with fail
      rw [HREC.out]
      clear c0 c1 cc2
      refine Pt.wp_plan (fun w' => St w0 w' M (eb wr.heap.size 107 [.int .u8 (a.toNat : Int), .int .u8 (b.toNat : Int), .int .u8 0] :: er 5 1 (.slice A2 X.length c2) X.length (bv X) :: L)) (Pt.prs [0, 1, 2, 3, 4, 5, 6, 7, 8, 9, 10, 11, 12, 13] (.go 14 (Pt.prs [15] .fin))) [] Tryd.mixed (by kernel_rfl) (fun _ _ d _ _ h => by cases d <;> exact h) H5.drew ?_
      obtain ⟨e4, e5, e6, e7, e8, e9⟩ := HE9.out
      have i1 := I1.out
      have i2 := I2.out
      have i3 := I3.out
      have i4 := I4.out
      simp only [Pt.toL, Pt.rds, Pt.prs, Pt.at_, List.drop_succ_cons, List.drop_zero]
      iterate 14 (refine Pt.pr_run (v := ?_) (by rfl) ?_ ?_; rotate_left; (focus (intro w'; go_simp; with_reducible rfl)); simp only [Act.put, List.setIfInBounds_toArray, List.set_cons_zero, List.set_cons_succ])
      clear i1 i2 i3 i4 e4 e5 e6 e7 e8 e9
      refine Pt.run_go ?_
      have H6 := H5.drew.lit (bv [B64.d1 a b 0, B64.d2 a b 0, B64.d3 a b 0, B64.d4 a b 0]) 5 (by show 4 ≤ maxLen; decide)
      go_wp2_with fail
      refine Pt.same H6.d0 ?_
      (refine Pt.pr_run (v := ?_) (by rfl) ?_ ?_; rotate_left; (focus (intro w'; go_simp; with_reducible rfl)); simp only [Act.put, List.setIfInBounds_toArray, List.set_cons_zero, List.set_cons_succ])
      refine Pt.run_fin ?_
      clear H5
      go_upto_region 8 with fail
      clear HREC HV HE9 I1 I2 I3 I4
      have wn1 : IntKind.i64.wrap 3 = 3 := by decide
      have wn2 : IntKind.i64.wrap 1 = 1 := by decide
      have H7 := H6.drew
      have hpad := str_to (P := Tryd.prog) (t := 9) (k := .i64) Tryd.underlying9 [61, 61] 1 (by simp) (i := 1) rfl
      simp only [List.take_succ_cons, List.take_zero] at hpad
      refine Pt.wp_plan (fun w' => St w0 w' M (er 5 1 (.slice (some ⟨w5.heap.size, 0, none⟩) 4 4) 4 (bv [B64.d1 a b 0, B64.d2 a b 0, B64.d3 a b 0, B64.d4 a b 0]) :: eb wr.heap.size 107 [.int .u8 (a.toNat : Int), .int .u8 (b.toNat : Int), .int .u8 0] :: er 5 1 (.slice A2 X.length c2) X.length (bv X) :: L)) (Pt.prs [0, 1, 2, 3, 4, 6, 7, 8] (.st 5 (.st 9 (Pt.prs [10] .fin)))) [5, 9] Tryd.mixed (by kernel_rfl) (fun _ _ d _ _ h => by cases d <;> exact h) H7 ?_
      clear H6
      simp only [Pt.toL, Pt.rds, Pt.prs, Pt.at_, List.drop_succ_cons, List.drop_zero]
      iterate 8 (refine Pt.pr_run (v := ?_) (by rfl) ?_ ?_; rotate_left; (focus (intro w'; go_simp; with_reducible rfl)); simp only [Act.put, List.setIfInBounds_toArray, List.set_cons_zero, List.set_cons_succ])
      clear hpad
      have hrb := (er_RB (H7.get 0 rfl)).take 3
      refine Pt.run_st ?_
      refine wpList_append_st H7.f2 (by rfl) (.tmp 47) (.tmp 51) 42 (by rfl) Tryd.info5 Tryd.underlying42 (by rfl) (some ⟨w5.heap.size, 0, none⟩) 3 4 [B64.d1 a b 0, B64.d2 a b 0, B64.d3 a b 0] (by rfl) (by rfl) (by rintro ⟨⟩) hrb (by have := HX.out; omega) ?_
      intro v8 w8 H8
      rw [← bv_append] at H8
      refine wpList_nil ?_
      simp only [Pl.Then, Act.put, List.setIfInBounds_toArray, List.set_cons_zero, List.set_cons_succ]
      refine Pt.run_st ?_
      refine wpList_append_str_st H8 (by rfl) (.tmp 52) (.tmp 55) 42 9 (by rfl) Tryd.info5 Tryd.underlying42 Tryd.underlying9 (by rfl) [61] (by rfl) (by have := HX.out; simp; omega) ?_
      intro v9 w9 H9
      rw [← bv_append] at H9
      refine wpList_nil ?_
      simp only [Pl.Then, Act.put, List.setIfInBounds_toArray, List.set_cons_zero, List.set_cons_succ]
      (refine Pt.pr_run (v := ?_) (by rfl) ?_ ?_; rotate_left; (focus (intro w'; go_simp; with_reducible rfl)); simp only [Act.put, List.setIfInBounds_toArray, List.set_cons_zero, List.set_cons_succ])
      refine Pt.run_fin ?_
      have HA : St w0 w9 M (er 5 1 v9 (X ++ [B64.d1 a b 0, B64.d2 a b 0, B64.d3 a b 0] ++ [61]).length (bv (X ++ [B64.d1 a b 0, B64.d2 a b 0, B64.d3 a b 0] ++ [61])) :: L) := by
        have h := H9.f2.d0.f1.d0
        have e : (X ++ [B64.d1 a b 0, B64.d2 a b 0, B64.d3 a b 0] ++ [61]).length = X.length + 3 + 1 := by simp
        rw [e]
        exact h
      clear H7 H8 H9 hrb
      have hsf := HSF.out
      go_wp2
      exact ⟨⟨[], X ++ [B64.d1 a b 0, B64.d2 a b 0, B64.d3 a b 0] ++ [61], by simp, HX3.out, rfl, HX2.out, HA⟩, by simp [str_size]⟩
    | a :: b :: c :: r', hr, HE =>
      obtain ⟨v, q1, q2, q3, q4, p2, p3, hv, hvv, e4, e5, e6, e7, e8, e9, l1, l2, l3, l4, f1, f2, f3, f4⟩ := B64.reckon a b c
      obtain ⟨A2, c2, rfl, hc2⟩ := H2.shape 0 rfl
      have i1 := idx64 q1 l1
      have i2 := idx64 q2 l2
      have i3 := idx64 q3 l3
      have i4 := idx64 q4 l4
      rw [f1] at i1
      rw [f2] at i2
      rw [f3] at i3
      rw [f4] at i4
      have hrec := B64.rec3 a b c
      rw [← hv] at hrec
      have hsl := str_to (P := Tryd.prog) (t := 9) (k := .i64) Tryd.underlying9 (a :: b :: c :: r') 3 (by simp) (i := 3) rfl
      have hsf := str_from (P := Tryd.prog) (t := 9) (k := .i64) Tryd.underlying9 (a :: b :: c :: r') 3 (by simp) (i := 3) rfl
      simp only [List.take_succ_cons, List.take_zero, List.drop_succ_cons, List.drop_zero] at hsl hsf
      have hX2 : (X ++ [B64.d1 a b c, B64.d2 a b c, B64.d3 a b c, B64.d4 a b c] ++ []) ++ B64.enc r' = B64.enc s := by rw [← HE.out]; simp [B64.enc]
      have hX3 : (X ++ [B64.d1 a b c, B64.d2 a b c, B64.d3 a b c, B64.d4 a b c] ++ []).length ≤ 2000004 := by
        have h1 := congrArg List.length hX2
        have h2 := B64.enc_len s
        rw [List.length_append] at h1
        omega
      obtain ⟨F, hF⟩ : ∃ F, F = str (a :: b :: c :: r') := ⟨_, rfl⟩
      obtain ⟨m, hm⟩ : ∃ m, m = (a :: b :: c :: r').length := ⟨_, rfl⟩
      have hFs : F.size = m := by rw [hF, str_size, hm]
      have m3 : (3 : Int) ≤ (m : Int) := by rw [hm]; simp; omega
      have m0 : (0 : Int) < (m : Int) := by omega
      rw [← hF] at hsl hsf ⊢
      have HMM := Lib.hid hm
      have HFS := Lib.hid hFs
      have HRR := Lib.hid hr
      clear hF hm hr
      have I1 := Lib.hid i1
      have I2 := Lib.hid i2
      have I3 := Lib.hid i3
      have I4 := Lib.hid i4
      have HSL := Lib.hid hsl
      have HSF := Lib.hid hsf
      have HREC := Lib.hid hrec
      have HV := Lib.hid hv
      have HE9 := Lib.hid (And.intro e4 (And.intro e5 (And.intro e6 (And.intro e7 (And.intro e8 e9)))))
      have HX2 := Lib.hid hX2
      have HX3 := Lib.hid hX3
      clear hv hvv i1 i2 i3 i4 f1 f2 f3 f4 hsl hsf hrec l1 l2 l3 l4 e4 e5 e6 e7 e8 e9 hX2 hX3
      go_upto_region 5 with fail
      have H3 := H2.new [.int .u8 0, .int .u8 0, .int .u8 0] 107
      refine Pt.wp_plan (fun w' => St w0 w' M (eb wr.heap.size 107 [.int .u8 0, .int .u8 0, .int .u8 0] :: er 5 1 (.slice A2 X.length c2) X.length (bv X) :: L)) (Pt.prs [0, 1, 2, 3] (.st 4 .fin)) [4] Tryd.mixed (by kernel_rfl) (fun _ _ d _ _ h => by cases d <;> exact h) H3.drew ?_
      have H4 := H3.drew
      clear H3
      have hsl := HSL.out
      simp only [Pt.toL, Pt.rds, Pt.prs, Pt.at_, List.drop_succ_cons, List.drop_zero]
      iterate 4 (refine Pt.pr_run (v := ?_) (by rfl) ?_ ?_; rotate_left; (focus (intro w'; go_simp; with_reducible rfl)); simp only [Act.put, List.setIfInBounds_toArray, List.set_cons_zero, List.set_cons_succ])
      refine Pt.run_st ?_
      refine wpList_copy_str_st H4 (by rfl) (.tmp 14) (.tmp 17) 42 9 (by rfl) 5 Tryd.underlying42 Tryd.size5 3 3 [a, b, c] (by rfl) (by rfl) (by simp) (by simp) ?_
      intro w5 H5
      rw [show ins [.int .u8 0, .int .u8 0, .int .u8 0] 0 (bv [a, b, c]) = [.int .u8 (a.toNat : Int), .int .u8 (b.toNat : Int), .int .u8 (c.toNat : Int)] from rfl] at H5
      refine wpList_nil ?_
      simp only [Pl.Then, Act.put, List.setIfInBounds_toArray, List.set_cons_zero, List.set_cons_succ]
      refine Pt.run_fin ?_
      clear H4 hsl
      have c0 := H5.cell 0 rfl 0
      have c1 := H5.cell 0 rfl 1
      have cc2 := H5.cell 0 rfl 2
      simp only [List.getElem?_cons_succ, List.getElem?_cons_zero] at c0 c1 cc2
      go_upto_region 7 with fail
      rw [HREC.out]
      clear c0 c1 cc2
      refine Pt.wp_plan (fun w' => St w0 w' M (eb wr.heap.size 107 [.int .u8 (a.toNat : Int), .int .u8 (b.toNat : Int), .int .u8 (c.toNat : Int)] :: er 5 1 (.slice A2 X.length c2) X.length (bv X) :: L)) (Pt.prs [0, 1, 2, 3, 4, 5, 6, 7, 8, 9, 10, 11, 12, 13] (.go 14 (Pt.prs [15] .fin))) [] Tryd.mixed (by kernel_rfl) (fun _ _ d _ _ h => by cases d <;> exact h) H5.drew ?_
      obtain ⟨e4, e5, e6, e7, e8, e9⟩ := HE9.out
      have i1 := I1.out
      have i2 := I2.out
      have i3 := I3.out
      have i4 := I4.out
      simp only [Pt.toL, Pt.rds, Pt.prs, Pt.at_, List.drop_succ_cons, List.drop_zero]
      iterate 14 (refine Pt.pr_run (v := ?_) (by rfl) ?_ ?_; rotate_left; (focus (intro w'; go_simp; with_reducible rfl)); simp only [Act.put, List.setIfInBounds_toArray, List.set_cons_zero, List.set_cons_succ])
      clear i1 i2 i3 i4 e4 e5 e6 e7 e8 e9
      refine Pt.run_go ?_
      have H6 := H5.drew.lit (bv [B64.d1 a b c, B64.d2 a b c, B64.d3 a b c, B64.d4 a b c]) 5 (by show 4 ≤ maxLen; decide)
      go_wp2_with fail
      refine Pt.same H6.d0 ?_
      (refine Pt.pr_run (v := ?_) (by rfl) ?_ ?_; rotate_left; (focus (intro w'; go_simp; with_reducible rfl)); simp only [Act.put, List.setIfInBounds_toArray, List.set_cons_zero, List.set_cons_succ])
      refine Pt.run_fin ?_
      clear H5
      go_upto_region 8 with fail
      clear HREC HV HE9 I1 I2 I3 I4
      have wn1 : IntKind.i64.wrap 4 = 4 := by decide
      have wn2 : IntKind.i64.wrap 0 = 0 := by decide
      have H7 := H6.drew
      have hpad := str_to (P := Tryd.prog) (t := 9) (k := .i64) Tryd.underlying9 [61, 61] 0 (by simp) (i := 0) rfl
      simp only [List.take_succ_cons, List.take_zero] at hpad
      refine Pt.wp_plan (fun w' => St w0 w' M (er 5 1 (.slice (some ⟨w5.heap.size, 0, none⟩) 4 4) 4 (bv [B64.d1 a b c, B64.d2 a b c, B64.d3 a b c, B64.d4 a b c]) :: eb wr.heap.size 107 [.int .u8 (a.toNat : Int), .int .u8 (b.toNat : Int), .int .u8 (c.toNat : Int)] :: er 5 1 (.slice A2 X.length c2) X.length (bv X) :: L)) (Pt.prs [0, 1, 2, 3, 4, 6, 7, 8] (.st 5 (.st 9 (Pt.prs [10] .fin)))) [5, 9] Tryd.mixed (by kernel_rfl) (fun _ _ d _ _ h => by cases d <;> exact h) H7 ?_
      clear H6
      simp only [Pt.toL, Pt.rds, Pt.prs, Pt.at_, List.drop_succ_cons, List.drop_zero]
      iterate 8 (refine Pt.pr_run (v := ?_) (by rfl) ?_ ?_; rotate_left; (focus (intro w'; go_simp; with_reducible rfl)); simp only [Act.put, List.setIfInBounds_toArray, List.set_cons_zero, List.set_cons_succ])
      clear hpad
      have hrb := (er_RB (H7.get 0 rfl)).take 4
      refine Pt.run_st ?_
      refine wpList_append_st H7.f2 (by rfl) (.tmp 47) (.tmp 51) 42 (by rfl) Tryd.info5 Tryd.underlying42 (by rfl) (some ⟨w5.heap.size, 0, none⟩) 4 4 [B64.d1 a b c, B64.d2 a b c, B64.d3 a b c, B64.d4 a b c] (by rfl) (by rfl) (by rintro ⟨⟩) hrb (by have := HX.out; omega) ?_
      intro v8 w8 H8
      rw [← bv_append] at H8
      refine wpList_nil ?_
      simp only [Pl.Then, Act.put, List.setIfInBounds_toArray, List.set_cons_zero, List.set_cons_succ]
      refine Pt.run_st ?_
      refine wpList_append_str_st H8 (by rfl) (.tmp 52) (.tmp 55) 42 9 (by rfl) Tryd.info5 Tryd.underlying42 Tryd.underlying9 (by rfl) [] (by rfl) (by have := HX.out; simp; omega) ?_
      intro v9 w9 H9
      rw [← bv_append] at H9
      refine wpList_nil ?_
      simp only [Pl.Then, Act.put, List.setIfInBounds_toArray, List.set_cons_zero, List.set_cons_succ]
      (refine Pt.pr_run (v := ?_) (by rfl) ?_ ?_; rotate_left; (focus (intro w'; go_simp; with_reducible rfl)); simp only [Act.put, List.setIfInBounds_toArray, List.set_cons_zero, List.set_cons_succ])
      refine Pt.run_fin ?_
      have HA : St w0 w9 M (er 5 1 v9 (X ++ [B64.d1 a b c, B64.d2 a b c, B64.d3 a b c, B64.d4 a b c] ++ []).length (bv (X ++ [B64.d1 a b c, B64.d2 a b c, B64.d3 a b c, B64.d4 a b c] ++ [])) :: L) := by
        have h := H9.f2.d0.f1.d0
        have e : (X ++ [B64.d1 a b c, B64.d2 a b c, B64.d3 a b c, B64.d4 a b c] ++ []).length = X.length + 4 + 0 := by simp
        rw [e]
        exact h
      clear H7 H8 H9 hrb
      have hsf := HSF.out
      go_wp2
      exact ⟨⟨r', X ++ [B64.d1 a b c, B64.d2 a b c, B64.d3 a b c, B64.d4 a b c] ++ [], by have := HRR.out; simp at this; omega, HX3.out, rfl, HX2.out, HA⟩, by show (str r').size < F.size; rw [str_size, HFS.out, HMM.out]; simp; omega⟩
end
end Go.Proofs.YtcdljlaoedaliaaDoor
/- strings.Contains of a colon; vault.check, Basic; the law's own small question. -/
set_option linter.unusedVariables false
set_option linter.unusedSimpArgs false
namespace Go.Proofs.YtcdljlaoedaliaaDoor
open Go.RowKit Wd
open Va (Acc)
theorem idxb (c : UInt8) (s : List UInt8) : (Lib.indexByte s c = -1 ∧ c ∉ s) ∨ (∃ i : Nat, Lib.indexByte s c = i ∧ c ∈ s) := by
  induction s with
  | nil => exact .inl ⟨rfl, by simp⟩
  | cons b l ih =>
    by_cases hb : b = c
    · subst hb
      exact .inr ⟨0, by simp [Lib.indexByte], by simp⟩
    · have h0 : (b == c) = false := by simpa using hb
      rcases ih with ⟨h1, h2⟩ | ⟨i, h1, h2⟩
      · refine .inl ⟨by unfold Lib.indexByte; rw [h0, h1]; rfl, fun hc => ?_⟩
        rcases List.mem_cons.1 hc with rfl | hc
        · exact hb rfl
        · exact h2 hc
      · refine .inr ⟨i + 1, ?_, List.mem_cons_of_mem _ h2⟩
        unfold Lib.indexByte
        rw [h0, h1]
        have : ((i : Int) == -1) = false := by rw [beq_eq_false_iff_ne]; omega
        simp [this]
set_option maxRecDepth 100000 in
theorem index_colon (s : List UInt8) (w : World) : Calls Tryd.prog 83 #[.string (str s), .string (str [58])] w fun e w' => (∃ r : Int, e = .returned (.int .i64 r) ∧ (0 ≤ r ↔ (58 : UInt8) ∈ s)) ∧ w = w' := by
  have hib := idxb 58 s
  obtain ⟨R, hR⟩ : ∃ R, R = Lib.indexByte s 58 := ⟨_, rfl⟩
  have hsl := slite_any (str s) 58 w
  rw [show (str s).data.toList = s from by simp, show ((58 : Int).toNat.toUInt8) = 58 from rfl, ← hR] at hsl
  rw [← hR] at hib
  have HSL := Lib.hid hsl
  have HIB := Lib.hid hib
  clear hR hsl hib
  by_cases h : s = [58]
  · subst h
    go_enter Tryd.func83, Tryd.ntmps83
    go_wp2
    go_ret
    exact ⟨⟨0, rfl, by simp⟩, rfl⟩
  · have q1 : (([58] : List UInt8) == s) = false := by
      rw [beq_eq_false_iff_ne]
      exact fun he => h he.symm
    clear h
    go_enter Tryd.func83, Tryd.ntmps83
    go_wp2_with fail
    refine HSL.out.mono ?_
    rintro e w1 ⟨rfl, rfl⟩
    go_wp2
    go_ret
    refine ⟨⟨R, rfl, ?_⟩, rfl⟩
    rcases HIB.out with ⟨h1, h2⟩ | ⟨i, h1, h2⟩
    · rw [h1]
      exact ⟨fun h => by omega, fun h => absurd h h2⟩
    · exact ⟨fun _ => h2, fun _ => by omega⟩
set_option maxRecDepth 100000 in
theorem contains_colon (s : List UInt8) (w : World) : Calls Tryd.prog 72 #[.string (str s), .string (str [58])] w fun e w' => e = .returned (.bool (decide ((58 : UInt8) ∈ s))) ∧ w = w' := by
  have hi := index_colon s w
  have HI := Lib.hid hi
  clear hi
  have hm : Calls Tryd.prog 87 #[.string (str s), .string (str [58])] w fun e w' => (∃ r : Int, e = .returned (.int .i64 r) ∧ (0 ≤ r ↔ (58 : UInt8) ∈ s)) ∧ w = w' := by
    go_enter Tryd.func87, Tryd.ntmps87
    go_wp2_with fail
    refine HI.out.mono ?_
    rintro e w1 ⟨⟨r, rfl, hr⟩, rfl⟩
    have HR := Lib.hid hr
    clear hr
    go_wp2
    go_ret
    exact ⟨⟨r, rfl, HR.out⟩, rfl⟩
  have HM := Lib.hid hm
  obtain ⟨B, hB⟩ : ∃ B, B = decide ((58 : UInt8) ∈ s) := ⟨_, rfl⟩
  rw [← hB]
  have HB := Lib.hid hB
  clear hm HI hB
  go_enter Tryd.func72, Tryd.ntmps72
  go_wp2_with fail
  refine HM.out.mono ?_
  rintro e w1 ⟨⟨r, rfl, hr⟩, rfl⟩
  by_cases h0 : 0 ≤ r
  · have hb : B = true := by rw [HB.out]; exact decide_eq_true (hr.1 h0)
    subst hb
    clear hr
    go_wp2
    go_ret
    exact ⟨rfl, rfl⟩
  · have hb : B = false := by rw [HB.out]; exact decide_eq_false (fun h => h0 (hr.2 h))
    have q1 : decide (0 ≤ r) = false := decide_eq_false h0
    subst hb
    clear hr
    go_wp2
    go_ret
    exact ⟨rfl, rfl⟩
/-- Why credentials may not be. -/
def Va.cerr (u p : List UInt8) : Int := if 128 < u.length ∨ 128 < p.length then 3 else if (58 : UInt8) ∈ u then 1 else 0
set_option maxRecDepth 100000 in
theorem vccheck_any (u p : List UInt8) (w : World) : Calls Tryd.prog 50 #[.string (str u), .string (str p)] w fun e w' => e = .returned (.int .i64 (Va.cerr u p)) ∧ w = w' := by
  obtain ⟨U, hU⟩ : ∃ U, U = str u := ⟨_, rfl⟩
  obtain ⟨V, hV⟩ : ∃ V, V = str p := ⟨_, rfl⟩
  have hu : U.size = u.length := by rw [hU, str_size]
  have hv : V.size = p.length := by rw [hV, str_size]
  have hcc := contains_colon u w
  rw [← hU] at hcc
  rw [← hU, ← hV]
  obtain ⟨B, hB⟩ : ∃ B, B = decide ((58 : UInt8) ∈ u) := ⟨_, rfl⟩
  rw [← hB] at hcc
  obtain ⟨R, hR⟩ : ∃ R, R = Va.cerr u p := ⟨_, rfl⟩
  rw [← hR]
  unfold Va.cerr at hR
  have hcase : 128 < u.length ∨ (¬ 128 < u.length ∧ 128 < p.length) ∨ (¬ 128 < u.length ∧ ¬ 128 < p.length) := by omega
  have HCC := Lib.hid hcc
  rcases hcase with h1 | ⟨h1, h2⟩ | ⟨h1, h2⟩
  · rw [if_pos (.inl h1)] at hR
    have q1 : (128 : Int) < (u.length : Int) := by omega
    subst hR
    clear h1 hB hcc hU hV
    go_enter Tryd.func50, Tryd.ntmps50
    go_wp2
    go_ret
    exact ⟨rfl, rfl⟩
  · rw [if_pos (.inr h2)] at hR
    have q1 : ¬ (128 : Int) < (u.length : Int) := by omega
    have q2 : (128 : Int) < (p.length : Int) := by omega
    subst hR
    clear h1 h2 hB hcc hU hV
    go_enter Tryd.func50, Tryd.ntmps50
    go_wp2
    go_ret
    exact ⟨rfl, rfl⟩
  · rw [if_neg (by omega)] at hR
    have q1 : ¬ (128 : Int) < (u.length : Int) := by omega
    have q2 : ¬ (128 : Int) < (p.length : Int) := by omega
    by_cases hm : (58 : UInt8) ∈ u
    · rw [if_pos hm] at hR
      rw [decide_eq_true hm] at hB
      subst hR hB
      clear h1 h2 hcc hU hV hm
      go_enter Tryd.func50, Tryd.ntmps50
      go_wp2_with fail
      refine HCC.out.mono ?_
      rintro e w1 ⟨rfl, rfl⟩
      go_wp2
      go_ret
      exact ⟨rfl, rfl⟩
    · rw [if_neg hm] at hR
      rw [decide_eq_false hm] at hB
      subst hR hB
      clear h1 h2 hcc hU hV hm
      go_enter Tryd.func50, Tryd.ntmps50
      go_wp2_with fail
      refine HCC.out.mono ?_
      rintro e w1 ⟨rfl, rfl⟩
      go_wp2
      go_ret
      exact ⟨rfl, rfl⟩
theorem str_append (a b : List UInt8) : str a ++ str b = str (a ++ b) := by
  apply ByteArray.ext
  rw [ByteArray.data_append]
  simp
/-- Credentials as in a header, and why they may not be. -/
def Va.basic (u p : List UInt8) : List UInt8 × Int := if Va.cerr u p = 0 then ([66, 97, 115, 105, 99, 32] ++ B64.enc (u ++ [58] ++ p), 0) else ([], Va.cerr u p)
section
variable {w0 w : World} {M : Mem} {L : List Ent}
set_option maxRecDepth 100000 in
theorem basic_any (H : St w0 w M L) (u p : List UInt8) : Calls Tryd.prog 29 #[.string (str u), .string (str p)] w fun e w' => e = .returned (.tuple #[.string (str (Va.basic u p).1), .int .i64 (Va.basic u p).2]) ∧ St w0 w' M L := by
  have hck := vccheck_any u p w
  obtain ⟨E, hE⟩ : ∃ E, E = Va.cerr u p := ⟨_, rfl⟩
  rw [← hE] at hck
  have HCK := Lib.hid hck
  unfold Va.basic
  rw [← hE]
  by_cases h0 : E = 0
  · rw [if_pos h0]
    have hlen : (u ++ [58] ++ p).length ≤ 1000000 := by
      have : ¬ (128 < u.length ∨ 128 < p.length) := fun h => by
        unfold Va.cerr at hE
        rw [if_pos h] at hE
        omega
      simp only [List.length_append, List.length_cons, List.length_nil]
      omega
    have hb := base64_any H (u ++ [58] ++ p) hlen
    have k1 : ¬ 9223372036854775807 < u.length + 1 := by simp only [List.length_append, List.length_cons, List.length_nil] at hlen; omega
    have k2 : ¬ 9223372036854775807 < u.length + 1 + p.length := by simp only [List.length_append, List.length_cons, List.length_nil] at hlen; omega
    have k3 : ¬ 9223372036854775807 < 6 + (B64.enc (u ++ [58] ++ p)).length := by have := B64.enc_len (u ++ [58] ++ p); omega
    have e1 : str u ++ str [58] ++ str p = str (u ++ [58] ++ p) := by rw [str_append, str_append]
    obtain ⟨V, hV⟩ : ∃ V, V = str (u ++ [58] ++ p) := ⟨_, rfl⟩
    rw [← hV] at hb e1
    obtain ⟨X, hX⟩ : ∃ X, X = B64.enc (u ++ [58] ++ p) := ⟨_, rfl⟩
    rw [← hX] at hb k3 ⊢
    have e2 : str [66, 97, 115, 105, 99, 32] ++ str X = str ([66, 97, 115, 105, 99, 32] ++ X) := str_append _ _
    obtain ⟨Y, hY⟩ : ∃ Y, Y = [66, 97, 115, 105, 99, 32] ++ X := ⟨_, rfl⟩
    rw [← hY] at e2 ⊢
    have HB := Lib.hid hb
    subst h0
    clear hck hE hb hV hX hY hlen
    go_enter Tryd.func29, Tryd.ntmps29
    go_wp2_with fail
    refine HCK.out.mono ?_
    rintro e w1 ⟨rfl, rfl⟩
    go_wp2_with fail
    refine HB.out.mono ?_
    rintro e w2 ⟨rfl, H2⟩
    go_wp2
    go_ret2
    exact ⟨rfl, H2⟩
  · rw [if_neg h0]
    have e1 : (E == 0) = false := by simpa using h0
    have e2 : (E != 0) = true := by simpa using h0
    clear hck hE h0
    go_enter Tryd.func29, Tryd.ntmps29
    go_wp2_with fail
    refine HCK.out.mono ?_
    rintro e w1 ⟨rfl, rfl⟩
    go_wp2
    go_ret2
    exact ⟨rfl, H⟩
end
end Go.Proofs.YtcdljlaoedaliaaDoor
/- vault.Who. -/
set_option linter.unusedVariables false
set_option linter.unusedSimpArgs false
namespace Go.Proofs.YtcdljlaoedaliaaDoor
open Go.RowKit Wd
open Va (Acc)
/-- Has an account this token? -/
def Va.hit (s : List UInt8) (a : Acc) : Bool := !a.off && decide (secretErr s.length = 0 ∧ Mac.mac a.salt s = a.tag)
def Va.whoL (s : List UInt8) (l : List Acc) : Nat × Bool := match l.find? (Va.hit s) with
  | some a => (a.t, true)
  | none => (0, false)
open Classical in
noncomputable def Va.who (l : List Acc) (s : List UInt8) : Nat × Bool := if Va.May l then Va.whoL s l else (0, false)
theorem Va.who_hit {s : List UInt8} {l : List Acc} {k : Nat} (hk : k < l.length) (h : ∀ x ∈ l.take k, Va.hit s x = false) (h2 : Va.hit s l[k] = true) : Va.whoL s l = (l[k].t, true) := by
  have e : l.find? (Va.hit s) = some l[k] := by
    rw [List.find?_eq_some_iff_getElem]
    refine ⟨h2, k, hk, rfl, fun j hj => ?_⟩
    have hj2 : j < (l.take k).length := by rw [List.length_take]; omega
    have hm := List.getElem_mem hj2
    rw [List.getElem_take] at hm
    rw [h _ hm]
    rfl
  unfold Va.whoL
  rw [e]
theorem Va.who_none {s : List UInt8} {l : List Acc} (h : ∀ x ∈ l, Va.hit s x = false) : Va.whoL s l = (0, false) := by
  have e : l.find? (Va.hit s) = none := by
    rw [List.find?_eq_none]
    intro x hx
    rw [h x hx]
    simp
  unfold Va.whoL
  rw [e]
/-- One operation under a guard that holds, whose run is known and that turns nothing. -/
theorem wpList_exg {P : Program} {ops : Array Oper} {rest : List Oper} {o : Oper} {a : Act} {w : World} {Q : Exit → Act → World → Prop} {v : Value} (hw : Region.wanted o (yielded ops a.tmps) = true) (hr : (execOp a.eval o).run P w = .ok (.value v) w) (h : wpList P ops Q rest (a.put o.dst v) w) : wpList P ops Q (o :: rest) a w := by
  unfold wpList
  rw [if_pos hw]
  refine .inl ?_
  unfold Oper.wp
  rw [hr]
  exact h
section
variable {w0 w : World} {M : Mem} {L : List Ent}
set_option maxRecDepth 100000 in
set_option maxHeartbeats 2000000 in
theorem who_any (ht : Tabs w0) (H : St w0 w M L) {A : Option Addr} {c n : Nat} {l : List Acc} (hn : n = l.length) (hn2 : n ≤ 900000) (hl : SrA w0 M L A (acs l)) (s : List UInt8) (hsn : s.length < 140737488355000) :
    Calls Tryd.prog 20 #[.slice A n c, .string (str s)] w fun e w' => e = .returned (.tuple #[.int .u64 ((Va.who l s).1 : Int), .bool (Va.who l s).2]) ∧ St w0 w' M L := by
  have hck := vcheck_any (c := c) H hn (by omega) hl
  obtain ⟨T, hT⟩ : ∃ T, T = (Va.who l s).1 := ⟨_, rfl⟩
  obtain ⟨F, hF⟩ : ∃ F, F = (Va.who l s).2 := ⟨_, rfl⟩
  rw [← hT, ← hF]
  have hW : (T, F) = Va.who l s := by rw [hT, hF]
  unfold Va.who at hW
  have HCK := Lib.hid hck
  have HW := Lib.hid hW
  have HN := Lib.hid hn
  clear hck hT hF hW hn H
  go_enter Tryd.func20, Tryd.ntmps20
  go_wp2_with fail
  refine HCK.out.mono ?_
  rintro e w1 ⟨⟨hm, rfl⟩ | ⟨hm, rfl⟩, H1⟩
  · have hW2 := HW.out
    rw [if_pos hm] at hW2
    have HW2 := Lib.hid hW2
    clear hm hW2 HW HCK
    go_wp2
    go_loopw [13] (fun i wr => ∃ k : Nat, k ≤ n ∧ i = .int .i64 k ∧ (∀ x ∈ l.take k, Va.hit s x = false) ∧ St w0 wr M L) (fun i _ => n - (intOf i).toNat)
    case atStart => exact ⟨0, by omega, rfl, by simp, H1⟩
    case round =>
      obtain ⟨k, hk, rfl, hs, H2⟩ := hrel
      clear H1
      have HS := Lib.hid hs
      clear hs
      by_cases hlt : k < n
      · have hk1 : k < l.length := by have := HN.out; omega
        obtain ⟨b, o, rfl, hrg⟩ := RA.at50 (hl.now H2) k hk1
        have H3 := H2.new zeroAcc 71
        obtain ⟨w3, hst, H4⟩ := run_store_st (P := Tryd.prog) H3 (cs := ac l[k]) (by rw [ac_length]; rfl) (ac_one _)
        rw [objAcc] at hst
        have r1 : (k : Int) < (n : Int) := by omega
        have hXl := ac_length l[k]
        have hX0 := ac_t l[k]
        have hXo := ac_off l[k]
        have hXs := ac_salt l[k]
        have hXt := ac_tag l[k]
        have hm := fun W L' (H : St w0 W M L') => match_any ht H l[k].salt s l[k].tag l[k].hs l[k].ht hsn
        have hta : l.take (k + 1) = l.take k ++ [l[k]] := List.take_succ_eq_append_getElem hk1
        have hno : Va.hit s l[k] = false → ∀ x ∈ l.take (k + 1), Va.hit s x = false := fun h x hx => by
          rw [hta] at hx
          rcases List.mem_append.1 hx with hx | hx
          · exact HS.out x hx
          · obtain rfl := List.mem_singleton.1 hx
            exact h
        have hyes : Va.hit s l[k] = true → Va.whoL s l = (l[k].t, true) := fun h => Va.who_hit hk1 HS.out h
        have hsl : (bv l[k].salt).length = 16 := by rw [bv_length, l[k].hs]
        have htl : (bv l[k].tag).length = 32 := by rw [bv_length, l[k].ht]
        have hhit : Va.hit s l[k] = (!l[k].off && decide (secretErr s.length = 0 ∧ Mac.mac l[k].salt s = l[k].tag)) := rfl
        obtain ⟨V, hV⟩ : ∃ V, V = Va.hit s l[k] := ⟨_, rfl⟩
        simp only [← hV] at hno hyes hhit
        obtain ⟨B, hB⟩ : ∃ B, B = decide (secretErr s.length = 0 ∧ Mac.mac l[k].salt s = l[k].tag) := ⟨_, rfl⟩
        simp only [← hB] at hm hhit
        obtain ⟨X, hX⟩ : ∃ X, X = ac l[k] := ⟨_, rfl⟩
        rw [← hX] at hrg hst H4 hXl hX0 hXo hXs hXt
        obtain ⟨sal, hsal⟩ : ∃ sal, sal = l[k].salt := ⟨_, rfl⟩
        obtain ⟨tag, htag⟩ : ∃ tag, tag = l[k].tag := ⟨_, rfl⟩
        simp only [← hsal, ← htag] at hXs hXt hm hsl htl
        obtain ⟨z, hz⟩ : ∃ z, z = l[k].t := ⟨_, rfl⟩
        obtain ⟨off, hoff⟩ : ∃ off, off = l[k].off := ⟨_, rfl⟩
        simp only [← hz, ← hoff] at hX0 hXo hyes hhit
        have co := H4.cell 0 rfl 49
        rw [hXo] at co
        have ct := H4.cell 0 rfl 0
        rw [hX0] at ct
        have hrs := (H4.blk 0 rfl).range 1 16 _ hXs
        have hrt := (H4.blk 0 rfl).range 17 32 _ hXt
        have HRG := Lib.hid hrg
        have HRS := Lib.hid hrs
        have HRT := Lib.hid hrt
        have HM := Lib.hid hm
        have HNO := Lib.hid hno
        have HYES := Lib.hid hyes
        have HHIT := Lib.hid hhit
        have HSL := Lib.hid hsl
        have HTL := Lib.hid htl
        have HLT := Lib.hid hlt
        clear hX hz hoff hsal htag hB hV hrg hrs hrt hm hno hyes hhit hsl htl hlt hta hX0 hXo hXs hXt hk1 H3
        go_upto_region 6 with (refine wpList_load_mid (by rfl) 71 (.tmp 15) (by rfl) b (o + k * 50) (by rfl) X _ HRG.out Tryd.underlying71 rfl (by rw [hXl]; exact Tryd.sizeAcc) ?_)
        clear hst H2
        cases off with
        | true =>
          have hf := HNO.out (by rw [HHIT.out]; rfl)
          have HF := Lib.hid hf
          clear hf
          go_wp2
          exact ⟨⟨k + 1, by have := HLT.out; omega, by go_num, HF.out, H4.d0⟩, by have := HLT.out; simp [intOf]; omega⟩
        | false =>
          refine wp_region_lit ?_
          iterate 4 (refine wpList_ex (v := ?_) (by rfl) ?_ ?_; rotate_left; (focus (go_simp; with_reducible rfl)); simp only [Act.put, List.setIfInBounds_toArray, List.set_cons_zero, List.set_cons_succ])
          (refine wpList_exg (v := ?_) (by rfl) ?_ ?_; rotate_left; (focus (go_simp; with_reducible rfl)); simp only [Act.put, List.setIfInBounds_toArray, List.set_cons_zero, List.set_cons_succ])
          refine wpList_load_g (by rfl) 24 (.tmp 21) (by rfl) wr.heap.size 1 (by rfl) (bv sal) _ HRS.out Tryd.underlying24 rfl (by rw [HSL.out]; exact Tryd.size16) ?_
          simp only [Act.put, List.setIfInBounds_toArray, List.set_cons_zero, List.set_cons_succ]
          iterate 2 (refine wpList_exg (v := ?_) (by rfl) ?_ ?_; rotate_left; (focus (go_simp; with_reducible rfl)); simp only [Act.put, List.setIfInBounds_toArray, List.set_cons_zero, List.set_cons_succ])
          refine wpList_load_g (by rfl) 40 (.tmp 24) (by rfl) wr.heap.size 17 (by rfl) (bv tag) _ HRT.out Tryd.underlying40 rfl (by rw [HTL.out]; exact Tryd.size24) ?_
          simp only [Act.put, List.setIfInBounds_toArray, List.set_cons_zero, List.set_cons_succ]
          go_wp2_with fail
          refine (HM.out _ _ H4).mono ?_
          rintro e w4 ⟨rfl, H5⟩
          have ct2 := H5.cell 0 rfl 0
          cases B with
          | true =>
            have hy := HYES.out (by rw [HHIT.out]; rfl)
            have hw := HW2.out.trans hy
            injection hw with hw1 hw2
            subst hw1 hw2
            have ct3 : w4.cell? ⟨wr.heap.size, 0, none⟩ = some (.int .u64 (T : Int)) := by rw [ct2, ← (H4.cell 0 rfl 0), ct]
            clear hy ct2 ct H4 co
            go_wp2
            go_ret2
            exact ⟨rfl, H5.d0⟩
          | false =>
            have hf := HNO.out (by rw [HHIT.out]; rfl)
            have HF := Lib.hid hf
            clear hf ct2 ct H4 co
            go_wp2
            exact ⟨⟨k + 1, by have := HLT.out; omega, by go_num, HF.out, H5.d0⟩, by have := HLT.out; simp [intOf]; omega⟩
      · obtain rfl : k = n := by omega
        have hno : ∀ x ∈ l, Va.hit s x = false := by
          have := HS.out
          rw [HN.out, List.take_length] at this
          exact this
        have hw := HW2.out.trans (Va.who_none hno)
        injection hw with hw1 hw2
        subst hw1 hw2
        clear hlt hno
        go_wp2
        go_ret2
        exact ⟨rfl, H2⟩
  · have hW2 := HW.out
    rw [if_neg hm] at hW2
    injection hW2 with h1 h2
    subst h1 h2
    clear hm HW HCK
    go_wp2
    go_ret2
    exact ⟨rfl, H1⟩
end
end Go.Proofs.YtcdljlaoedaliaaDoor
/- The law's own small question (layer 22). -/
set_option linter.unusedVariables false
set_option linter.unusedSimpArgs false
namespace Go.Proofs.YtcdljlaoedaliaaDoor
open Go.RowKit Wd
open Va (Acc)
theorem Va.may_nil : Va.May [] := ⟨fun j _ h => absurd h (Nat.not_lt_zero j), by simp⟩
theorem Va.may_one (a : Acc) (h : a.t ≠ 0) : Va.May [a] := ⟨fun j _ hj => by
    have : j = 0 := by simp at hj; omega
    subst this
    exact ⟨h, fun h0 => absurd h0 (Nat.lt_irrefl 0)⟩, by simp⟩
theorem Va.enroll_nil (t : Nat) (salt s : List UInt8) (hs : salt.length = 16) (ht : t ≠ 0) (he : secretErr s.length = 0) : Va.enroll [] t salt s hs = ([Va.acct t salt s hs], 0) := by
  unfold Va.enroll
  rw [if_pos ⟨Va.may_nil, ht⟩, if_pos he, if_neg (by simp [Va.has]), if_neg (by simp)]
  rfl
theorem Va.who_one (t : Nat) (salt s : List UInt8) (hs : salt.length = 16) (ht : t ≠ 0) (he : secretErr s.length = 0) : Va.who [Va.acct t salt s hs] s = (t, true) := by
  have hst : Mac.store salt s = Mac.mac salt s := by
    unfold Mac.store
    rw [if_pos he]
  unfold Va.who
  rw [if_pos (Va.may_one _ ht)]
  refine (Va.who_hit (l := [Va.acct t salt s hs]) (k := 0) (by simp) (by simp) ?_)
  show (!false && decide (secretErr s.length = 0 ∧ Mac.mac salt s = Mac.store salt s)) = true
  rw [hst]
  simp [he]
theorem aw_basic : Va.basic [65, 108, 97, 100, 100, 105, 110] [111, 112, 101, 110, 32, 115, 101, 115, 97, 109, 101] = ([66, 97, 115, 105, 99, 32, 81, 87, 120, 104, 90, 71, 82, 112, 98, 106, 112, 118, 99, 71, 86, 117, 73, 72, 78, 108, 99, 50, 70, 116, 90, 81, 61, 61], 0) := by decide +kernel
section
variable {w0 w : World} {M : Mem} {L : List Ent}
set_option maxRecDepth 100000 in
set_option maxHeartbeats 2000000 in
theorem awake22_any (ht : Tabs w0) (H : St w0 w M L) : Calls Tryd.prog 8 #[] w fun e w' => e = .returned (.bool true) ∧ St w0 w' M L := by
  have hb := basic_any H [65, 108, 97, 100, 100, 105, 110] [111, 112, 101, 110, 32, 115, 101, 115, 97, 109, 101]
  rw [aw_basic] at hb
  obtain ⟨salt, hsalt⟩ : ∃ l : List UInt8, l = 1 :: List.replicate 15 0 := ⟨_, rfl⟩
  obtain ⟨s, hs⟩ : ∃ l : List UInt8, l = [115, 101, 99, 114, 101, 116, 45, 116, 111, 107, 101, 110] := ⟨_, rfl⟩
  have hsl : salt.length = 16 := by rw [hsalt]; rfl
  have hse : secretErr s.length = 0 := by rw [hs]; rfl
  have hsn : s.length < 140737488355000 := by rw [hs]; decide
  have hen := fun W (H : St w0 W M L) => enroll_any ht H (A := none) (c := 0) (n := 0) (l := []) rfl (by omega) (fun _ => rfl) (fun w' M' _ _ hne => absurd rfl hne) 7 salt s hsl hsn
  rw [Va.enroll_nil 7 salt s hsl (by decide) hse] at hen
  have hwo := fun W L' A c (H : St w0 W M L') (h : SrA w0 M L' A (acs [Va.acct 7 salt s hsl])) => who_any (c := c) (n := 1) ht H rfl (by omega) h s hsn
  rw [Va.who_one 7 salt s hsl (by decide) hse] at hwo
  obtain ⟨X, hX⟩ : ∃ X, X = [Va.acct 7 salt s hsl] := ⟨_, rfl⟩
  have hXl : X.length = 1 := by rw [hX]; rfl
  simp only [← hX] at hen hwo
  clear hX
  have e1 : (Value.agg (bv salt).toArray) = .agg #[.int .u8 1, .int .u8 0, .int .u8 0, .int .u8 0, .int .u8 0, .int .u8 0, .int .u8 0, .int .u8 0, .int .u8 0, .int .u8 0, .int .u8 0, .int .u8 0, .int .u8 0, .int .u8 0, .int .u8 0, .int .u8 0] := by rw [hsalt]; rfl
  have e2 : ByteArray.mk s.toArray = ⟨#[115, 101, 99, 114, 101, 116, 45, 116, 111, 107, 101, 110]⟩ := by rw [hs]
  rw [e1, e2] at hen
  simp only [str, e2] at hwo
  have HB := Lib.hid hb
  have HEN := Lib.hid hen
  have HWO := Lib.hid hwo
  have HXL := Lib.hid hXl
  clear hb hen hwo hsalt hs hsl hse hsn e1 e2 H hXl
  go_enter Tryd.func8, Tryd.ntmps8
  go_wp2_with fail
  refine HB.out.mono ?_
  rintro e w1 ⟨rfl, H1⟩
  go_wp2_with fail
  refine (HEN.out _ H1).mono ?_
  rintro e w2 ⟨v, rfl, H2⟩
  obtain ⟨A, c, rfl, hc⟩ := H2.shape 0 rfl
  rw [show (X, (0 : Int)).1 = X from rfl, HXL.out] at H2 ⊢
  go_wp2_with fail
  refine (HWO.out _ _ _ _ H2 (SrA.row 0 rfl)).mono ?_
  rintro e w3 ⟨rfl, H3⟩
  go_wp2
  go_ret
  exact ⟨rfl, H3.d0⟩
end
end Go.Proofs.YtcdljlaoedaliaaDoor
/- VaultTurns walked. -/
set_option linter.unusedVariables false
set_option linter.unusedSimpArgs false
namespace Go.Proofs.YtcdljlaoedaliaaDoor
open Go.RowKit Wd
open Va (Acc)
/-- A turn in memory. -/
def turnC (t : Nat) (salt s : List UInt8) : List Value := .int .u64 (t : Int) :: (bv salt ++ [.string (str s)])
theorem turnC_len (t : Nat) (salt s : List UInt8) (hs : salt.length = 16) : (turnC t salt s).length = 18 := by
  unfold turnC
  rw [List.length_cons, List.length_append, bv_length, hs]
  rfl
theorem turnC_salt (t : Nat) (salt s : List UInt8) (hs : salt.length = 16) : ((turnC t salt s).drop 1).take 16 = bv salt := by
  unfold turnC
  rw [List.drop_succ_cons, List.drop_zero, List.take_append_of_le_length (by rw [bv_length, hs]; omega), List.take_of_length_le (by rw [bv_length, hs]; omega)]
theorem turnC_str (t : Nat) (salt s : List UInt8) (hs : salt.length = 16) : (turnC t salt s)[17]? = some (.string (str s)) := by
  unfold turnC
  rw [List.getElem?_cons_succ, List.getElem?_append_right (by rw [bv_length, hs]; omega), bv_length, hs]
  rfl
theorem Va.with_len (l : List Acc) (a : Acc) : (Va.with_ l a).1.length ≤ l.length := by
  unfold Va.with_
  split
  · simp [Va.swap]
  · simp
theorem Va.put_len (l : List Acc) (a : Acc) : (Va.put a l).length = l.length + 1 := by
  unfold Va.put
  have := congrArg List.length (List.takeWhile_append_dropWhile (p := fun x : Acc => decide (x.t < a.t)) (l := l))
  rw [List.length_append] at this
  rw [List.length_append, List.length_cons]
  omega
theorem Va.enroll_len (l : List Acc) (t : Nat) (salt s : List UInt8) (hs : salt.length = 16) : (Va.enroll l t salt s hs).1.length ≤ l.length + 1 := by
  unfold Va.enroll
  split
  · split
    · split
      · simp
      · split
        · simp
        · exact Nat.le_of_eq (Va.put_len _ _)
    · simp
  · simp
theorem Va.rotate_len (l : List Acc) (t : Nat) (salt s : List UInt8) (hs : salt.length = 16) : (Va.rotate l t salt s hs).1.length ≤ l.length := by
  unfold Va.rotate
  split
  · split
    · exact Va.with_len _ _
    · simp
  · simp
theorem Va.revoke_len (l : List Acc) (t : Nat) : (Va.revoke l t).1.length ≤ l.length := by
  unfold Va.revoke
  split
  · exact Va.with_len _ _
  · simp
theorem wpList_bs0 {P : Program} {ops : Array Oper} {rest : List Oper} {o : Oper} {a : Act} {w w' : World} {Q : Exit → Act → World → Prop} (hg : o.guard = none) (t : TypeId) (ho : o.op = .buildSlice t 0 #[]) {u : Value}
    (hr : (Instr.buildSlice t 0 #[]).run P w = .ok u w') (h : wpList P ops Q rest (a.put o.dst u) w') : wpList P ops Q (o :: rest) a w :=
  wpList_plain hg fun K hK => by
    unfold Oper.wp execOp
    simp only [ho, List.map_toArray, List.map_nil, Sem.run_bind, hr, Result.andThen_ok, Sem.run_pure]
    exact hK _ _ h
section
set_option maxRecDepth 100000 in
set_option maxHeartbeats 4000000 in
theorem vaultTurns_any {w : World} (ht : Tabs w) {A : Option Addr} {c n : Nat} {l : List Acc} (hr : RA w A (acs l)) (hn : n = l.length) (hA : A = none → c = 0) (hnc : n ≤ c) (t : Nat) (salt s : List UInt8) (hs : salt.length = 16) :
    Calls Tryd.prog 3 #[.slice A n c, .agg (turnC t salt s).toArray] w fun e w' => e = .returned (.bool true) ∧ Below w.heap.size w w' := by
  have H0 := St.start w
  have sA : ∀ F, SrA w (w.heap[·]?) F A (acs l) := fun F => SrA.of_in (In.oldRA H0 hr)
  have H1 := H0.new (turnC t salt s) 26
  have aw : ∀ w' L', St w w' (w.heap[·]?) L' → Calls Tryd.prog 8 #[] w' fun e w' => e = .returned (.bool true) ∧ St w w' (w.heap[·]?) L' := fun w' L' H => awake22_any ht H
  have AW := Lib.hid aw
  have HXL := turnC_len t salt s hs
  have hXs := turnC_salt t salt s hs
  have hXt := turnC_str t salt s hs
  have hX0 : (turnC t salt s)[0]? = some (.int .u64 (t : Int)) := rfl
  obtain ⟨X, hX⟩ : ∃ X, X = turnC t salt s := ⟨_, rfl⟩
  rw [← hX] at H1 HXL hXs hXt hX0 ⊢
  have g0 : ∀ W F, St w W (w.heap[·]?) (eb w.heap.size 26 X :: F) → W.cell? ⟨w.heap.size, 0, none⟩ = some (.int .u64 (t : Int)) ∧ W.cell? ⟨w.heap.size, 17, none⟩ = some (.string (str s)) ∧ W.rangeAt w.heap.size 1 (bv salt) := fun W F H =>
    ⟨(H.cell 0 rfl 0).trans hX0, (H.cell 0 rfl 17).trans hXt, (H.blk 0 rfl).range 1 16 _ hXs⟩
  have G0 := Lib.hid g0
  have hsl : (bv salt).length = 16 := by rw [bv_length, hs]
  have HSL := Lib.hid hsl
  obtain ⟨c0, c17, -⟩ := g0 _ _ H1
  clear aw hX hXs hXt hX0 g0 hsl H0
  have hcase : 200 < n ∨ (¬ 200 < n ∧ 1000 < s.length) ∨ (¬ 200 < n ∧ ¬ 1000 < s.length) := by omega
  rcases hcase with h1 | ⟨h1, h2⟩ | ⟨h1, h2⟩
  · have q1 : (200 : Int) < (n : Int) := by omega
    clear h1
    go_enter Tryd.func3, Tryd.ntmps3
    go_wp2_with fail
    refine (AW.out _ _ H1).mono ?_
    rintro e w1 ⟨rfl, H2⟩
    go_wp2
    go_ret
    exact ⟨rfl, H2.below⟩
  · have q1 : ¬ (200 : Int) < (n : Int) := by omega
    have q2 : (1000 : Int) < (s.length : Int) := by omega
    clear h1 h2
    go_enter Tryd.func3, Tryd.ntmps3
    go_wp2_with fail
    refine (AW.out _ _ H1).mono ?_
    rintro e w1 ⟨rfl, H2⟩
    go_wp2
    go_ret
    exact ⟨rfl, H2.below⟩
  · have q1 : ¬ (200 : Int) < (n : Int) := by omega
    have q2 : ¬ (1000 : Int) < (s.length : Int) := by omega
    have hn2 : n ≤ 200 := by omega
    have hs2 : s.length ≤ 1000 := by omega
    have H2 := H1.lit00 71 50
    have hlx : (acs l).length = n * 50 := by rw [acs_length, hn]
    have hone := acs_one l
    have hra := (sA _).now H2
    have HLX := Lib.hid hlx
    have HONE := Lib.hid hone
    have HRA := Lib.hid hra
    have HA := Lib.hid hA
    have HN := Lib.hid hn
    clear h1 h2 hlx hone hra hA hn
    go_enter Tryd.func3, Tryd.ntmps3
    go_upto_region 3 with fail
    have hb0 : (Instr.buildSlice 22 0 #[]).run Tryd.prog (w.alloc (.cells X.toArray 26)) = .ok (.slice (some ⟨(w.alloc (.cells X.toArray 26)).heap.size, 0, none⟩) 0 0) ((w.alloc (.cells X.toArray 26)).alloc (.cells #[] 71)) := by go_simp
    refine wp_region_lit ?_
    refine wpList_bs0 (by rfl) 22 (by rfl) hb0 ?_
    simp only [Act.put, List.setIfInBounds_toArray, List.set_cons_zero, List.set_cons_succ]
    (refine wpList_ex (v := ?_) (by rfl) ?_ ?_; rotate_left; (focus (go_simp; with_reducible rfl)); simp only [Act.put, List.setIfInBounds_toArray, List.set_cons_zero, List.set_cons_succ])
    refine wpList_append_any_st H2 (by rfl) (.tmp 20) (.tmp 21) 22 (by rfl) Tryd.infoAcc (by rfl) (by decide) Tryd.underlying22 (by rfl) A n c (acs l) (by rfl) HLX.out HA.out HRA.out HONE.out (by omega) (by omega) ?_
    intro v5 w5 H3
    rw [Nat.zero_add, List.nil_append] at H3
    simp only [Act.put, List.setIfInBounds_toArray, List.set_cons_zero, List.set_cons_succ]
    clear c0 c17 H2 H1 HRA
    obtain ⟨A5, c5, rfl, hc5, hA5⟩ := H3.shape' 0 rfl
    have HA5 := Lib.hid hA5
    clear hA5
    -- Enroll
    have hen := fun W F (H : St w W (w.heap[·]?) F) (h : SrA w (w.heap[·]?) F A5 (acs l)) => enroll_any (c := c5) ht H HN.out (by omega) HA5.out h t salt s hs (by omega)
    have hre := fun W F (H : St w W (w.heap[·]?) F) => renroll_any (c := c) H HN.out (by omega) HA.out hnc (sA F) t salt s hs (by omega)
    have hle := Va.enroll_len l t salt s hs
    obtain ⟨⟨R1, E1⟩, hp1⟩ : ∃ p, p = Va.enroll l t salt s hs := ⟨_, rfl⟩
    simp only [← hp1] at hen hre hle
    have HEN := Lib.hid hen
    have HRE := Lib.hid hre
    have HLE := Lib.hid hle
    clear hen hre hle hp1
    obtain ⟨c0, c17, hrs⟩ := G0.out _ _ H3.f1
    have HRS := Lib.hid hrs
    clear hrs
    go_wp2_with (refine wpList_load_mid (by rfl) 24 (.tmp 27) (by rfl) w.heap.size 1 (by rfl) (bv salt) _ HRS.out Tryd.underlying24 rfl (by rw [HSL.out]; exact Tryd.size16) ?_)
    refine (HEN.out _ _ H3 (SrA.row 0 rfl)).mono ?_
    rintro e w6 ⟨v6, rfl, H4⟩
    simp only at H4 ⊢
    clear c0 c17 HRS HEN
    obtain ⟨c0, c17, hrs⟩ := G0.out _ _ H4.f2
    have HRS := Lib.hid hrs
    clear hrs
    go_wp2_with (refine wpList_load_mid (by rfl) 24 (.tmp 38) (by rfl) w.heap.size 1 (by rfl) (bv salt) _ HRS.out Tryd.underlying24 rfl (by rw [HSL.out]; exact Tryd.size16) ?_)
    refine (HRE.out _ _ H4).mono ?_
    rintro e w7 ⟨v7, rfl, H5⟩
    simp only at H5 ⊢
    clear c0 c17 HRS HRE H3 H4
    obtain ⟨A6, c6, rfl, -⟩ := H5.shape 1 rfl
    obtain ⟨A7, c7, rfl, -⟩ := H5.shape 0 rfl
    obtain ⟨K, m, hKm, hck, hma⟩ : ∃ (K : Int) (m : Bool), (K == 0) = m ∧ (∀ W F, St w W (w.heap[·]?) F → Calls Tryd.prog 11 #[.slice A n c] W fun e w' => e = .returned (.int .i64 K) ∧ St w w' (w.heap[·]?) F) ∧
        (∀ W F, St w W (w.heap[·]?) F → Calls Tryd.prog 12 #[.slice A n c] W fun e w' => e = .returned (.bool m) ∧ St w w' (w.heap[·]?) F) := by
      by_cases hm : Va.May l
      · refine ⟨0, true, rfl, fun W F H => (vcheck_any (c := c) H HN.out (by omega) (sA _)).mono ?_, fun W F H => (rmay_any (c := c) H HN.out (by omega) (sA F)).mono ?_⟩
        · rintro e w' ⟨⟨_, h1⟩ | ⟨h2, _⟩, h3⟩
          · exact ⟨h1, h3⟩
          · exact absurd hm h2
        · rintro e w' ⟨b, h1, h2, h3⟩
          rw [h2.2 hm] at h1
          exact ⟨h1, h3⟩
      · refine ⟨1, false, rfl, fun W F H => (vcheck_any (c := c) H HN.out (by omega) (sA _)).mono ?_, fun W F H => (rmay_any (c := c) H HN.out (by omega) (sA F)).mono ?_⟩
        · rintro e w' ⟨⟨h2, _⟩ | ⟨_, h1⟩, h3⟩
          · exact absurd h2 hm
          · exact ⟨h1, h3⟩
        · rintro e w' ⟨b, h1, h2, h3⟩
          cases b with
          | true => exact absurd (h2.1 rfl) hm
          | false => exact ⟨h1, h3⟩
    have hsm := fun W F (R : List Acc) (A6 A7 : Option Addr) (c6 c7 : Nat) (hR : R.length ≤ l.length + 1) (H : St w W (w.heap[·]?) (er 71 50 (.slice A7 R.length c7) R.length (acs R) :: er 71 50 (.slice A6 R.length c6) R.length (acs R) :: F)) => rsame_any (ps := R) (qs := R) (c := c6) (d := c7) H rfl rfl (SrA.row 1 rfl) (SrA.row 0 rfl) (by have := HN.out; omega)
    simp only [decide_true] at hsm
    have hown := fun W F (H : St w W (w.heap[·]?) F) (h : SrA w (w.heap[·]?) F A5 (acs l)) => rsame_any (c := c5) (d := c) (n := n) (m := n) (ps := l) (qs := l) H HN.out HN.out h (sA F) (by omega)
    simp only [decide_true] at hown
    have hrot := fun W F (H : St w W (w.heap[·]?) F) (h : SrA w (w.heap[·]?) F A5 (acs l)) => rotate_any (c := c5) ht H HN.out (by omega) HA5.out h t salt s hs (by omega)
    have hrro := fun W F (H : St w W (w.heap[·]?) F) => rrotate_any (c := c) H HN.out (by omega) HA.out (sA F) t salt s hs (by omega)
    have hrev := fun W F (H : St w W (w.heap[·]?) F) (h : SrA w (w.heap[·]?) F A5 (acs l)) => revoke_any (c := c5) H HN.out (by omega) HA5.out h t
    have hrre := fun W F (H : St w W (w.heap[·]?) F) => rrevoke_any (c := c) H HN.out (by omega) HA.out (sA F) t
    have hl2 := Va.rotate_len l t salt s hs
    have hl3 := Va.revoke_len l t
    obtain ⟨⟨R2, E2⟩, hp2⟩ : ∃ p, p = Va.rotate l t salt s hs := ⟨_, rfl⟩
    obtain ⟨⟨R3, E3⟩, hp3⟩ : ∃ p, p = Va.revoke l t := ⟨_, rfl⟩
    simp only [← hp2] at hrot hrro hl2
    simp only [← hp3] at hrev hrre hl3
    have HCK := Lib.hid hck
    have HMA := Lib.hid hma
    have HSM := Lib.hid hsm
    have HOWN := Lib.hid hown
    have HROT := Lib.hid hrot
    have HRRO := Lib.hid hrro
    have HREV := Lib.hid hrev
    have HRRE := Lib.hid hrre
    have HL2 := Lib.hid hl2
    have HL3 := Lib.hid hl3
    clear hck hma hsm hown hrot hrro hrev hrre hl2 hl3 hp2 hp3
    go_wp2_with fail
    refine (HCK.out _ _ H5).mono ?_
    rintro e w8 ⟨rfl, H6⟩
    go_wp2_with fail
    refine (HMA.out _ _ H6).mono ?_
    rintro e w9 ⟨rfl, H7⟩
    clear HCK HMA H6 H5
    go_wp2_with fail
    refine (HSM.out _ _ R1 A6 A7 c6 c7 HLE.out H7).mono ?_
    rintro e w10 ⟨rfl, H8⟩
    have H9 := H8.d0.d0
    clear H8 H7
    go_upto_region 8 with fail
    -- Rotate
    obtain ⟨c0, c17, hrs⟩ := G0.out _ _ H9.f1
    have HRS := Lib.hid hrs
    clear hrs
    go_wp2_with (refine wpList_load_mid (by rfl) 24 (.tmp 66) (by rfl) w.heap.size 1 (by rfl) (bv salt) _ HRS.out Tryd.underlying24 rfl (by rw [HSL.out]; exact Tryd.size16) ?_)
    refine (HROT.out _ _ H9 (SrA.row 0 rfl)).mono ?_
    rintro e w11 ⟨v11, rfl, HA1⟩
    simp only at HA1 ⊢
    clear c0 c17 HRS
    obtain ⟨c0, c17, hrs⟩ := G0.out _ _ HA1.f2
    have HRS := Lib.hid hrs
    clear hrs
    go_wp2_with (refine wpList_load_mid (by rfl) 24 (.tmp 77) (by rfl) w.heap.size 1 (by rfl) (bv salt) _ HRS.out Tryd.underlying24 rfl (by rw [HSL.out]; exact Tryd.size16) ?_)
    refine (HRRO.out _ _ HA1).mono ?_
    rintro e w12 ⟨v12, rfl, HA2⟩
    simp only at HA2 ⊢
    clear c0 c17 HRS HA1 H9
    obtain ⟨A8, c8, rfl, -⟩ := HA2.shape 1 rfl
    obtain ⟨A9, c9, rfl, -⟩ := HA2.shape 0 rfl
    go_wp2_with fail
    refine (HSM.out _ _ R2 A8 A9 c8 c9 (Nat.le_succ_of_le HL2.out) HA2).mono ?_
    rintro e w13 ⟨rfl, HA3⟩
    have HA4 := HA3.d0.d0
    clear HA2 HA3
    -- Revoke
    obtain ⟨c0, c17, -⟩ := G0.out _ _ HA4.f1
    go_wp2_with fail
    refine (HREV.out _ _ HA4 (SrA.row 0 rfl)).mono ?_
    rintro e w14 ⟨v14, rfl, HA5'⟩
    simp only at HA5' ⊢
    clear c0 c17
    obtain ⟨c0, c17, -⟩ := G0.out _ _ HA5'.f2
    go_wp2_with fail
    refine (HRRE.out _ _ HA5').mono ?_
    rintro e w15 ⟨v15, rfl, HA6⟩
    simp only at HA6 ⊢
    clear c0 c17 HA5' HA4
    obtain ⟨AA, ca, rfl, -⟩ := HA6.shape 1 rfl
    obtain ⟨AB, cb, rfl, -⟩ := HA6.shape 0 rfl
    go_wp2_with fail
    refine (HSM.out _ _ R3 AA AB ca cb (Nat.le_succ_of_le HL3.out) HA6).mono ?_
    rintro e w16 ⟨rfl, HA7⟩
    have HA8 := HA7.d0.d0
    clear HA6 HA7
    go_wp2_with fail
    refine (HOWN.out _ _ HA8 (SrA.row 0 rfl)).mono ?_
    rintro e w17 ⟨rfl, HA9⟩
    go_wp2_with fail
    refine (AW.out _ _ HA9).mono ?_
    rintro e w18 ⟨rfl, HB⟩
    go_wp2
    go_ret
    exact ⟨rfl, HB.below⟩
end
end Go.Proofs.YtcdljlaoedaliaaDoor
/- Arguments: slices of accounts, turns. -/
set_option linter.unusedVariables false
set_option linter.unusedSimpArgs false
set_option maxRecDepth 100000
namespace Go.Proofs.YtcdljlaoedaliaaDoor
open Go.ChangeShapes Go.WideShapes Go.ChangeAt Go.RowKit Wd
open Va (Acc)
theorem Tryd.cells_acc : Tryd.prog.cellsOf 71 = 50 := by kernel_rfl
theorem Tryd.cells_turn : Tryd.prog.cellsOf 26 = 18 := by kernel_rfl
theorem Tryd.cells_u64 : Tryd.prog.cellsOf 23 = 1 := by kernel_rfl
theorem Tryd.cells_bool : Tryd.prog.cellsOf 4 = 1 := by kernel_rfl
theorem Tryd.cells_str : Tryd.prog.cellsOf 9 = 1 := by kernel_rfl
theorem Tryd.cells_16 : Tryd.prog.cellsOf 24 = 16 := by kernel_rfl
theorem Tryd.cells_32 : Tryd.prog.cellsOf 40 = 32 := by kernel_rfl
theorem u64_nat {n : Int} (h : Lit.wf (.int .u64 n) = true) : 0 ≤ n := by
  have g1 : IntKind.u64.min = 0 := rfl
  simp only [Lit.wf, Bool.and_eq_true, decide_eq_true_eq] at h
  omega
section
variable {H : Type} {enc : TypeId × Value → H} {w : World} {base : Nat} {spare : Nat → Bool} {held : Bool} {fuel : Nat} {cs : List Value} {x : DataW H × List MemPlace}
theorem barr_cells {P : Program} {t e : TypeId} {n : Nat} (ht : P.underlying t = some (.array n e)) (he : P.underlying e = some (.int .u8)) (hc : P.cellsOf e = 1) (hct : P.cellsOf t = n) (hn : cs.length = n) (hf : DataW.trod enc P w base spare held fuel t cs = some x) :
    ∃ l : List UInt8, cs = bv l ∧ l.length = n := by
  obtain ⟨xs, m, _, _, hl, hlen, hf⟩ := DataW.trod_array ht hf
  have hcell : ∀ j (hj : j < cs.length), ∃ x : UInt8, cs[j] = .int .u8 (x.toNat : Int) := fun j hj => by
    have h0 := hf j (by omega)
    simp only [hc, Nat.mul_one] at h0
    rw [List.drop_eq_getElem_cons hj, List.take_succ_cons, List.take_zero] at h0
    cases hx : xs[j]? with
    | none => rw [List.getElem?_eq_none_iff] at hx; omega
    | some y =>
      rw [hx] at h0
      obtain ⟨n0, e0, -, w0⟩ := DataW.trod_int he h0
      injection e0 with e0 _
      exact ⟨by8 n0, by rw [e0, by8_nat (byte_wf w0)]⟩
  refine ⟨cs.map fun u => match u with | .int _ z => by8 z | _ => 0, ?_, by rw [List.length_map]; exact hn⟩
  apply List.ext_getElem
  · simp [bv]
  · intro j h1 h2
    obtain ⟨x, hx⟩ := hcell j h1
    simp only [bv, List.map_map, List.getElem_map, Function.comp_apply]
    rw [hx]
    simp only
    unfold by8
    simp
theorem acc_cells (h : DataW.trod enc Tryd.prog w base spare held fuel 71 cs = some x) : ∃ p : Acc, cs = ac p := by
  obtain ⟨xs, n, _, _, hl, hlen, hf⟩ := DataW.trod_struct Tryd.underlying71 h
  rw [Tryd.cells_acc] at hl
  match xs, hlen with
  | [y0, y1, y2, y3], _ =>
    have h0 : DataW.trod enc Tryd.prog w base spare held n 23 ((cs.drop 0).take (Tryd.prog.cellsOf 23)) = some y0 := hf 0 _ rfl
    have h1 : DataW.trod enc Tryd.prog w base spare held n 24 ((cs.drop 1).take (Tryd.prog.cellsOf 24)) = some y1 := hf 1 _ rfl
    have h2 : DataW.trod enc Tryd.prog w base spare held n 40 ((cs.drop 17).take (Tryd.prog.cellsOf 40)) = some y2 := hf 2 _ rfl
    have h3 : DataW.trod enc Tryd.prog w base spare held n 4 ((cs.drop 49).take (Tryd.prog.cellsOf 4)) = some y3 := hf 3 _ rfl
    rw [Tryd.cells_u64, List.drop_zero] at h0
    rw [Tryd.cells_16] at h1
    rw [Tryd.cells_32] at h2
    rw [Tryd.cells_bool] at h3
    obtain ⟨n0, e0, -, w0⟩ := DataW.trod_int Tryd.underlying23 h0
    obtain ⟨salt, e1, l1⟩ := barr_cells Tryd.underlying24 Tryd.underlying5 Tryd.cells_byte Tryd.cells_16 (by rw [List.length_take, List.length_drop]; omega) h1
    obtain ⟨tag, e2, l2⟩ := barr_cells Tryd.underlying40 Tryd.underlying5 Tryd.cells_byte Tryd.cells_32 (by rw [List.length_take, List.length_drop]; omega) h2
    obtain ⟨off, e3, -⟩ := DataW.trod_bool Tryd.underlying4 h3
    obtain ⟨m0, rfl⟩ := Int.eq_ofNat_of_zero_le (u64_nat w0)
    refine ⟨⟨m0, salt, tag, off, l1, l2⟩, ?_⟩
    unfold ac
    have hj : cs = cs.take 1 ++ ((cs.drop 1).take 16 ++ ((cs.drop 17).take 32 ++ (cs.drop 49).take 1)) := by
      have d1 : cs.drop 17 = (cs.drop 1).drop 16 := by rw [List.drop_drop]
      have d2 : cs.drop 49 = (cs.drop 17).drop 32 := by rw [List.drop_drop]
      have d3 : (cs.drop 49).take 1 = cs.drop 49 := List.take_of_length_le (by rw [List.length_drop]; omega)
      rw [d3, d2, List.take_append_drop, d1, List.take_append_drop, List.take_append_drop]
    rw [hj, e0, e1, e2, e3]
    rfl
end
theorem choose_list {α : Type} {p : Nat → α → Prop} : ∀ n : Nat, (∀ i, i < n → ∃ a, p i a) → ∃ l : List α, l.length = n ∧ ∀ i (h : i < l.length), p i l[i]
  | 0, _ => ⟨[], rfl, fun i h => absurd h (Nat.not_lt_zero i)⟩
  | n + 1, h => by
    obtain ⟨l, hl, hp⟩ := choose_list n fun i hi => h i (by omega)
    obtain ⟨a, ha⟩ := h n (by omega)
    refine ⟨l ++ [a], by simp [hl], fun i hi => ?_⟩
    rw [List.length_append, List.length_singleton] at hi
    rcases Nat.lt_or_ge i l.length with h1 | h1
    · rw [List.getElem_append_left h1]; exact hp i h1
    · obtain rfl : i = l.length := by omega
      rw [List.getElem_append_right (Nat.le_refl _)]
      simp only [Nat.sub_self, List.getElem_cons_zero]
      rw [hl]
      exact ha
theorem acs_get' (l : List Acc) (j : Nat) (u : Value) (h : (acs l)[j]? = some u) : ∃ h1 : j / 50 < l.length, (ac l[j / 50])[j % 50]? = some u := by
  have hj := (List.getElem?_eq_some_iff.1 h).1
  rw [acs_length] at hj
  have h1 : j / 50 < l.length := by omega
  refine ⟨h1, ?_⟩
  rw [← acs_at l (j / 50) h1, List.getElem?_take, if_pos (Nat.mod_lt _ (by decide)), List.getElem?_drop, show j / 50 * 50 + j % 50 = j from by omega]
  exact h
set_option maxRecDepth 100000 in
theorem arg_accs {H : Type} {enc : TypeId × Value → H} {W : World} {v : Value} {d : DataW H} {ps : List MemPlace} {r : Reach} {b0 : Nat}
    (hw : Value.okWide Tryd.prog W r b0 22 v) (h : DataW.Trod enc Tryd.prog W 0 (fun _ => true) true 22 v d ps) :
    ∃ (A : Option Addr) (c : Nat) (l : List Acc), v = .slice A l.length c ∧ RA W A (acs l) ∧ (A = none → c = 0) ∧ l.length ≤ c := by
  obtain ⟨A, len, c, X, rfl, hA, hc, hm, hX, _⟩ := arg_rows (H := H) (enc := enc) Tryd.underlying22 50 Tryd.cells_acc (by decide) hw h
  obtain ⟨ax, hl, hp⟩ := choose_list (p := fun i (a : Acc) => X i = ac a) len fun i hi => by
    obtain ⟨_, _, fuel, x, ht⟩ := hX i hi
    exact acc_cells ht
  subst hl
  refine ⟨A, c, ax, rfl, fun hne => ?_, fun h => (hA h).1, hc⟩
  have h0 : 0 < ax.length := by cases ax with | nil => exact absurd rfl hne | cons _ _ => simp
  obtain ⟨_, ⟨b, o, rfl, hlt, _⟩, _⟩ := hX 0 h0
  refine ⟨b, o, rfl, hlt, fun j u hj => ?_⟩
  obtain ⟨h1, h2⟩ := acs_get' ax j u hj
  obtain ⟨_, ⟨b', o', he, _, hr⟩, _⟩ := hX (j / 50) h1
  injection he with he
  injection he with e1 e2
  subst e1 e2
  rw [hp (j / 50) h1] at hr
  have h3 := hr (j % 50) u h2
  rw [Nat.add_assoc, show j / 50 * 50 + j % 50 = j from by omega] at h3
  exact h3
theorem arg_turn {H : Type} {enc : TypeId × Value → H} {W : World} {v : Value} {d : DataW H} {ps : List MemPlace} {r : Reach} {b0 : Nat}
    (hv : Value.okWide Tryd.prog W r b0 26 v) (h : DataW.Trod enc Tryd.prog W 0 (fun _ => true) true 26 v d ps) :
    ∃ (t : Nat) (salt s : List UInt8), v = .agg (turnC t salt s).toArray ∧ salt.length = 16 := by
  have ht := Tryd.underlying26
  simp only [Value.okWide, ht] at hv
  obtain ⟨⟨cs⟩, rfl, hsz, _⟩ := hv
  obtain ⟨fuel, hf⟩ := h
  have hl : cs.length = 18 := by have := hsz; rw [Tryd.cells_turn] at this; simpa using this
  obtain ⟨xs, n, _, _, _, hlen, hf⟩ := DataW.trod_struct Tryd.underlying26 hf
  match xs, hlen with
  | [y0, y1, y2], _ =>
    have h0 : DataW.trod enc Tryd.prog W 0 (fun _ => true) true n 23 ((cs.drop 0).take (Tryd.prog.cellsOf 23)) = some y0 := hf 0 _ rfl
    have h1 : DataW.trod enc Tryd.prog W 0 (fun _ => true) true n 24 ((cs.drop 1).take (Tryd.prog.cellsOf 24)) = some y1 := hf 1 _ rfl
    have h2 : DataW.trod enc Tryd.prog W 0 (fun _ => true) true n 9 ((cs.drop 17).take (Tryd.prog.cellsOf 9)) = some y2 := hf 2 _ rfl
    rw [Tryd.cells_u64, List.drop_zero] at h0
    rw [Tryd.cells_16] at h1
    rw [Tryd.cells_str] at h2
    obtain ⟨n0, e0, -, w0⟩ := DataW.trod_int Tryd.underlying23 h0
    obtain ⟨salt, e1, l1⟩ := barr_cells Tryd.underlying24 Tryd.underlying5 Tryd.cells_byte Tryd.cells_16 (by rw [List.length_take, List.length_drop]; omega) h1
    obtain ⟨⟨⟨s⟩⟩, e2, -, _⟩ := DataW.trod_string Tryd.underlying9 h2
    obtain ⟨m0, rfl⟩ := Int.eq_ofNat_of_zero_le (u64_nat w0)
    refine ⟨m0, salt, s, ?_, l1⟩
    unfold turnC
    have hj : cs = cs.take 1 ++ ((cs.drop 1).take 16 ++ (cs.drop 17).take 1) := by
      have d1 : cs.drop 17 = (cs.drop 1).drop 16 := by rw [List.drop_drop]
      have d3 : (cs.drop 17).take 1 = cs.drop 17 := List.take_of_length_le (by rw [List.length_drop]; omega)
      rw [d3, d1, List.take_append_drop, List.take_append_drop]
    rw [hj, e0, e1, e2]
    rfl
end Go.Proofs.YtcdljlaoedaliaaDoor
