/- The contract of tuple.take at a text. -/
import Derived.Test.YtbmiifglpjeegaaDoorJg
import Derived.Test.YtbmiifglpjeegaaDoorJh
import Derived.Test.YtbmiifglpjeegaaDoorRt
set_option linter.unusedVariables false
set_option linter.unusedSimpArgs false
namespace Go.Proofs.YtbmiifglpjeegaaDoor
open Go.RowKit Wd
def slen (v : Value) : Nat := match v with | .string s => s.size | _ => 0
theorem slen_str (l : List UInt8) : slen (.string (str l)) = l.length := str_size l
/-- What take gives. -/
def RetTake (w0 : World) (M : Mem) (L : List Ent) (o : Option (Tu.Part × List UInt8)) (e : Ending) (w' : World) : Prop :=
  (∃ p r, o = some (p, r) ∧ e = .returned (.tuple #[pv p, .string (str r), .bool true]) ∧ St w0 w' M L) ∨ (o = none ∧ e = .returned (.tuple #[pv ⟨[], 0, false⟩, .string (str []), .bool false]) ∧ St w0 w' M L)
def z42 : List Value := [.string ⟨#[]⟩, .int .u64 0, .bool false]
section
variable {w0 w : World} {M : Mem} {L : List Ent}
set_option maxRecDepth 100000 in
set_option maxHeartbeats 1000000 in
theorem take_text (H : St w0 w M L) (s : List UInt8) (hs : s.length ≤ 1000000) :
    Calls Tryd.prog 21 #[.string (str (32 :: s))] w (RetTake w0 M L (Tu.take (32 :: s))) := by
  obtain ⟨R, hR⟩ : ∃ R, R = Tu.take (32 :: s) := ⟨_, rfl⟩
  have hR2 : R = (Tu.unesc s).map (fun x => ((⟨x.1, 0, true⟩ : Tu.Part), x.2)) := by rw [hR]; simp [Tu.take]
  rw [← hR]
  clear hR
  obtain ⟨S, hS⟩ : ∃ S, S = 32 :: s := ⟨_, rfl⟩
  have hSl : S.length = s.length + 1 := by rw [hS]; rfl
  have i0 := fun w => str_index (P := Tryd.prog) (k := .i64) (i := 0) Tryd.underlying9 S 0 (by omega) rfl w
  have i1 := fun w => str_from (P := Tryd.prog) (k := .i64) (i := 1) Tryd.underlying9 S 1 (by omega) rfl w
  have e0 : ((S[0]'(by omega)).toNat : Int) = 32 := by simp [hS]
  have e1 : S.drop 1 = s := by rw [hS]; rfl
  rw [e1] at i1
  simp only [e0] at i0
  rw [← hS]
  have HR := Lib.hid hR2
  have HN := H.new z42 42
  clear hS hSl e0 e1 hR2
  go_enter Tryd.func21, Tryd.ntmps21
  go_wp2
  refine Pt.wp_plan (fun _ => True) (Pt.prs [0, 1, 2, 3, 4, 5] .fin) [] Tryd.mixed (by kernel_rfl) (fun _ _ d _ _ h => by cases d <;> exact h) trivial ?_
  simp only [Pt.toL, Pt.rds, Pt.prs, Pt.at_, List.drop_succ_cons, List.drop_zero]
  iterate 6 (refine Pt.pr_run (v := ?_) (by rfl) ?_ ?_; rotate_left; (focus (intro w'; go_simp; with_reducible rfl)); simp only [Act.put, List.setIfInBounds_toArray, List.set_cons_zero, List.set_cons_succ])
  refine Pt.run_fin ?_
  have HN2 := HN.drew
  simp only [z42] at HN2
  generalize hxx : World.drew _ = x1 at *
  generalize hgg : w.heap.size = G at *
  clear hxx hgg HN H i0 i1
  go_wp2
  have HB := BB.new HN2
  generalize hxx : x1.alloc _ = x2 at *
  generalize hgg : x1.heap.size = B at *
  clear hxx hgg HN2
  go_loopw [0] (fun v wr => ∃ cur acc, v = .string (str cur) ∧ cur.length ≤ s.length ∧ acc.length + cur.length ≤ s.length ∧ Tu.unesc s = (Tu.unesc cur).map (fun x => (acc ++ x.1, x.2)) ∧ BB w0 wr M B acc (eb G 42 [.string ⟨#[]⟩, .int .u64 0, .bool false] :: L)) (fun v _ => slen v)
  case atStart => exact ⟨s, [], rfl, Nat.le_refl _, by simp, by cases Tu.unesc s <;> rfl, HB⟩
  case round =>
    obtain ⟨cur, acc, rfl, hcl, hacl, hun, HB1⟩ := hrel
    clear HB
    have hin := idxb_any cur
    have HU := Lib.hid hun
    clear hun
    have fail_ : Tu.unesc cur = none → R = none := fun h => by rw [HR.out, HU.out, h]; rfl
    have HF := Lib.hid fail_
    clear fail_
    have hG : ∀ {wx acc'}, BB w0 wx M B acc' (eb G 42 [.string ⟨#[]⟩, .int .u64 0, .bool false] :: L) → St w0 wx M (eb G 42 [.string ⟨#[]⟩, .int .u64 0, .bool false] :: L) := fun h => h.rest
    rcases Tu.idxb cur with ⟨hi1, hi2⟩ | ⟨i, hi1, hi2, hi3, hi4⟩
    · have hno : R = none := HF.out (Tu.unesc_none cur hi2)
      rw [hi1] at hin
      have HI := Lib.hid hin
      have HNO := Lib.hid hno
      clear hin hno hi1 hi2
      go_wp2_with fail
      refine (HI.out _).mono ?_
      rintro e w1 ⟨rfl, rfl⟩
      have H2 := HB1.rest
      have c0 := H2.cell 0 rfl 0
      have c1 := H2.cell 0 rfl 1
      have c2 := H2.cell 0 rfl 2
      have f0 := H2.frozen 0 rfl 0
      have f1 := H2.frozen 0 rfl 1
      have f2 := H2.frozen 0 rfl 2
      have H3 := ((H2.set 0 (.string ⟨#[]⟩)).set 1 (.int .u64 0)).set 2 (.bool false)
      go_wp2
      refine ret_row_tmp2 H3 rfl rfl Tryd.underlying42 rfl Tryd.sizePart rfl ?_
      exact .inr ⟨HNO.out, rfl, H3.d0⟩
    · rw [hi1] at hin
      have HI := Lib.hid hin
      obtain ⟨u, hu⟩ : ∃ u, u = cur.take i := ⟨_, rfl⟩
      rw [← hu] at hi3 hi4
      have hul : u.length = i := by rw [hu, List.length_take]; omega
      have sl1 := fun w => str_to (P := Tryd.prog) (k := .i64) (i := (i : Int)) Tryd.underlying9 cur i (by omega) rfl w
      rw [← hu] at sl1
      have q0 : ¬ (i : Int) < 0 := by omega
      have hib : i ≤ 1000000 := by omega
      cases hr : cur.drop (i + 1) with
      | nil =>
        rw [hr] at hi4
        have hno : R = none := HF.out (by rw [hi4, Tu.unesc_pass u [0] hi3 (by simp)]; rfl)
        have hcl2 : cur.length = i + 1 := by rw [hi4]; simp [hul]
        have e1 : (i : Int) + 1 = (cur.length : Int) := by omega
        have HNO := Lib.hid hno
        clear hin hno hi1 hi2 hi3 hi4 hu hul hr hcl2
        go_wp2_with fail
        refine (HI.out _).mono ?_
        rintro e w1 ⟨rfl, rfl⟩
        have H2 := HB1.rest
        have c0 := H2.cell 0 rfl 0
        have c1 := H2.cell 0 rfl 1
        have c2 := H2.cell 0 rfl 2
        have f0 := H2.frozen 0 rfl 0
        have f1 := H2.frozen 0 rfl 1
        have f2 := H2.frozen 0 rfl 2
        have H3 := ((H2.set 0 (.string ⟨#[]⟩)).set 1 (.int .u64 0)).set 2 (.bool false)
        go_wp2
        refine ret_row_tmp2 H3 rfl rfl Tryd.underlying42 rfl Tryd.sizePart rfl ?_
        exact .inr ⟨HNO.out, rfl, H3.d0⟩
      | cons d r =>
        rw [hr] at hi4
        have hcl2 : cur.length = i + 2 + r.length := by
          have := congrArg List.length hi4
          simp only [List.length_append, List.length_cons, hul] at this
          omega
        obtain ⟨i1, hi1e⟩ : ∃ i1, i1 = i + 1 := ⟨_, rfl⟩
        obtain ⟨i2, hi2e⟩ : ∃ i2, i2 = i + 2 := ⟨_, rfl⟩
        have hun : Tu.unesc cur = (Tu.unesc (0 :: d :: r)).map (fun x => (u ++ x.1, x.2)) := by rw [hi4]; exact Tu.unesc_pass u _ hi3 (by simp)
        have hun2 : Tu.unesc (0 :: d :: r) = if d = 1 then some ([], r) else if d = 255 then (Tu.unesc r).map (fun x => (0 :: x.1, x.2)) else none := by rw [Tu.unesc, if_pos rfl]
        have ix := fun w => str_index (P := Tryd.prog) (k := .i64) (i := (i1 : Int)) Tryd.underlying9 cur i1 (by omega) rfl w
        have hgd : cur[i1]'(by omega) = d := by
          have h1 : cur[i1]? = some d := by
            rw [hi4, List.getElem?_append_right (by omega), hul, hi1e, show i + 1 - i = 1 from by omega]
            rfl
          rw [List.getElem?_eq_getElem (by omega)] at h1
          injection h1
        simp only [hgd] at ix
        have sl3 := fun w => str_from (P := Tryd.prog) (k := .i64) (i := (i2 : Int)) Tryd.underlying9 cur i2 (by omega) rfl w
        have hdr : cur.drop i2 = r := by
          rw [hi2e, show i + 2 = (i + 1) + 1 from by omega, ← List.drop_drop, hr]
          rfl
        rw [hdr] at sl3
        have e1 : (i : Int) + 1 = (i1 : Int) := by omega
        have e2 : (i : Int) + 2 = (i2 : Int) := by omega
        have w2 : IntKind.i64.wrap (i2 : Int) = (i2 : Int) := by rw [IntKind.wrap_i64]; omega
        have q1 : ((i1 : Int) == (cur.length : Int)) = false := by simp; omega
        have q1n : (i1 == cur.length) = false := by simp; omega
        have q1p : ¬ i1 = cur.length := by omega
        have hacl2 : acc.length + u.length + 2 + r.length ≤ s.length := by omega
        have hdl := d.toNat_lt
        have hws := wstr_any HB1 u (by omega)
        have HWS := Lib.hid hws
        have HUN := Lib.hid hun
        have HUN2 := Lib.hid hun2
        have HCL := Lib.hid hcl2
        clear hin hi1 hi2 hi3 hi4 hu hul hr hcl2 hi1e hi2e hun hun2 hgd hdr hws HB1
        go_wp2_with fail
        refine (HI.out _).mono ?_
        rintro e w1 ⟨rfl, rfl⟩
        go_wp2_with fail
        refine HWS.out.mono ?_
        rintro e w2' ⟨⟨v2, rfl⟩, HB2⟩
        by_cases hd1 : d = 1
        · have hsome : R = some (⟨acc ++ u, 0, true⟩, r) := by
            rw [HR.out, HU.out, HUN.out, HUN2.out, if_pos hd1]
            simp
          subst hd1
          have HSOME := Lib.hid hsome
          clear hsome
          rw [show ((1 : UInt8).toNat : Int) = 1 from rfl] at ix
          go_wp2
          refine Pt.wp_plan (fun _ => True) (Pt.prs [2, 3, 4, 5] (.go 0 (.go 1 (.go 6 (Pt.prs [7, 8] .fin))))) [] Tryd.mixed (by kernel_rfl) (fun _ _ d _ _ h => by cases d <;> exact h) trivial ?_
          have HB3 := HB2.drew
          simp only [Pt.toL, Pt.rds, Pt.prs, Pt.at_, List.drop_succ_cons, List.drop_zero]
          iterate 4 (refine Pt.pr_run (v := ?_) (by rfl) ?_ ?_; rotate_left; (focus (intro w'; go_simp; with_reducible rfl)); simp only [Act.put, List.setIfInBounds_toArray, List.set_cons_zero, List.set_cons_succ])
          refine Pt.run_go ?_
          go_wp2_with fail
          refine (bstr_any HB3).mono ?_
          rintro e w3 ⟨rfl, H4⟩
          go_wp2_with fail
          refine Pt.same trivial ?_
          refine Pt.run_go ?_
          go_wp2_with fail
          refine (text_any H4 (acc ++ u)).mono ?_
          rintro e w4 ⟨rfl, H5⟩
          unfold pv
          go_wp2_with fail
          refine Pt.same trivial ?_
          have f0 := H5.frozen 0 rfl 0
          have f1 := H5.frozen 0 rfl 1
          have f2 := H5.frozen 0 rfl 2
          have c0 := H5.cell 0 rfl 0
          have c1 := H5.cell 0 rfl 1
          have c2 := H5.cell 0 rfl 2
          have H6 := ((H5.set 0 (.string (str (acc ++ u)))).set 1 (.int .u64 0)).set 2 (.bool true)
          refine Pt.run_go ?_
          go_wp2_with fail
          refine Pt.same trivial ?_
          iterate 2 (refine Pt.pr_run (v := ?_) (by rfl) ?_ ?_; rotate_left; (focus (intro w'; go_simp; with_reducible rfl)); simp only [Act.put, List.setIfInBounds_toArray, List.set_cons_zero, List.set_cons_succ])
          refine Pt.run_fin ?_
          go_wp2
          refine ret_row_tmp2 H6 rfl rfl Tryd.underlying42 rfl Tryd.sizePart rfl ?_
          exact .inl ⟨_, _, HSOME.out, rfl, H6.d0⟩
        · have p1 : ((d.toNat : Int) == 1) = false := by
            simp only [beq_eq_false_iff_ne]
            intro h
            exact hd1 (UInt8.toNat_inj.1 (by show d.toNat = 1; omega))
          by_cases hd2 : d = 255
          · have hnext : Tu.unesc s = (Tu.unesc r).map (fun x => (acc ++ u ++ [0] ++ x.1, x.2)) := by
              rw [HU.out, HUN.out, HUN2.out, if_neg hd1, if_pos hd2]
              cases Tu.unesc r <;> simp
            subst hd2
            have HNEXT := Lib.hid hnext
            have hwb := wbyte_any HB2 0 (by rw [List.length_append]; omega)
            have HWB := Lib.hid hwb
            clear hnext hd1 p1 hwb
            rw [show ((255 : UInt8).toNat : Int) = 255 from rfl] at ix
            go_wp2_with fail
            refine HWB.out.mono ?_
            rintro e w3 ⟨⟨v3, rfl⟩, HB3⟩
            go_wp2
            refine ⟨⟨r, acc ++ u ++ [0], rfl, by omega, by simp only [List.length_append, List.length_singleton]; omega, HNEXT.out, HB3⟩, ?_⟩
            show slen (.string (str r)) < slen (.string (str cur))
            rw [slen_str, slen_str, HCL.out]
            omega
          · have hno : R = none := by
              rw [HR.out, HU.out, HUN.out, HUN2.out, if_neg hd1, if_neg hd2]
              rfl
            have p2 : ((d.toNat : Int) == 255) = false := by
              simp only [beq_eq_false_iff_ne]
              intro h
              exact hd2 (UInt8.toNat_inj.1 (by show d.toNat = 255; omega))
            have HNO := Lib.hid hno
            have H2 := HB2.rest
            have c0 := H2.cell 0 rfl 0
            have c1 := H2.cell 0 rfl 1
            have c2 := H2.cell 0 rfl 2
            have f0 := H2.frozen 0 rfl 0
            have f1 := H2.frozen 0 rfl 1
            have f2 := H2.frozen 0 rfl 2
            have H3 := ((H2.set 0 (.string ⟨#[]⟩)).set 1 (.int .u64 0)).set 2 (.bool false)
            clear hno hd1 hd2
            go_wp2
            refine ret_row_tmp2 H3 rfl rfl Tryd.underlying42 rfl Tryd.sizePart rfl ?_
            exact .inr ⟨HNO.out, rfl, H3.d0⟩
end
end Go.Proofs.YtbmiifglpjeegaaDoor
