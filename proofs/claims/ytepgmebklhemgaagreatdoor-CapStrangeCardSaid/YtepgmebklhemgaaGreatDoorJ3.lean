/- The contract of tuple.take at a text. -/
import Derived.Test.YtepgmebklhemgaaGreatDoorJ2
import Derived.Test.YtepgmebklhemgaaGreatDoorA8
import Derived.Test.YtepgmebklhemgaaGreatDoorA2
import Derived.Deep.DeepCutAuto
set_option linter.unusedVariables false
set_option linter.unusedSimpArgs false
set_option maxRecDepth 100000
namespace Go.Proofs.YtepgmebklhemgaaGreatDoor.Tp
open Go.RowKit Wd
def slen (v : Value) : Nat := match v with | .string s => s.size | _ => 0
theorem slen_str (l : List UInt8) : slen (.string (str l)) = l.length := str_size l
/-- What take gives. -/
def RetTake (w0 : World) (M : Mem) (L : List Ent) (o : Option (Tu.Part × List UInt8)) (e : Ending) (w' : World) : Prop :=
  (∃ p r, o = some (p, r) ∧ e = .returned (.tuple #[pv p, .string (str r), .bool true]) ∧ St w0 w' M L) ∨ (o = none ∧ e = .returned (.tuple #[pv ⟨[], 0, false⟩, .string (str []), .bool false]) ∧ St w0 w' M L)
def z42 : List Value := [.string ⟨#[]⟩, .int .u64 0, .bool false]
section
variable {w0 w : World} {M : Mem} {L : List Ent}
set_option maxRecDepth 100000 in
set_option maxHeartbeats 1000000 in
theorem take_text (H : St w0 w M L) (s : List UInt8) (hs : s.length ≤ 1000000) :
    Calls Tryz.prog 108 #[.string (str (32 :: s))] w (RetTake w0 M L (Tu.take (32 :: s))) := by
  obtain ⟨R, hR⟩ : ∃ R, R = Tu.take (32 :: s) := ⟨_, rfl⟩
  have hR2 : R = (Tu.unesc s).map (fun x => ((⟨x.1, 0, true⟩ : Tu.Part), x.2)) := by rw [hR]; simp [Tu.take]
  rw [← hR]
  clear hR
  obtain ⟨S, hS⟩ : ∃ S, S = 32 :: s := ⟨_, rfl⟩
  have hSl : S.length = s.length + 1 := by rw [hS]; rfl
  have i0 := fun w => str_index (P := Tryz.prog) (k := .i64) (i := 0) Tryz.underlying9 S 0 (by omega) rfl w
  have i1 := fun w => str_from (P := Tryz.prog) (k := .i64) (i := 1) Tryz.underlying9 S 1 (by omega) rfl w
  have e0 : ((S[0]'(by omega)).toNat : Int) = 32 := by simp [hS]
  have e1 : S.drop 1 = s := by rw [hS]; rfl
  rw [e1] at i1
  simp only [e0] at i0
  rw [← hS]
  have HR := Lib.hid hR2
  have HN := H.new z42 79
  clear hS hSl e0 e1 hR2
  go_enter Tryz.func108, Tryz.ntmps108
  go_wp2
  refine Pt.wp_plan (fun _ => True) (Pt.prs [0, 1, 2, 3, 4, 5] .fin) [] Tryz.mixed (by kernel_rfl) (fun _ _ d _ _ h => by cases d <;> exact h) trivial ?_
  simp only [Pt.toL, Pt.rds, Pt.prs, Pt.at_, List.drop_succ_cons, List.drop_zero]
  iterate 6 (refine Pt.pr_run (v := ?_) (by rfl) ?_ ?_; rotate_left; (focus (intro w'; go_simp; with_reducible rfl)); simp only [Act.put, List.setIfInBounds_toArray, List.set_cons_zero, List.set_cons_succ])
  refine Pt.run_fin ?_
  have HN2 := HN.drew
  simp only [z42] at HN2
  generalize hxx : World.drew _ = x1 at *
  generalize hgg : w.heap.size = G at *
  clear hxx hgg HN H i0 i1
  go_wp2
  have HB := BB.new HN2
  generalize hxx : x1.alloc _ = x2 at *
  generalize hgg : x1.heap.size = B at *
  clear hxx hgg HN2
  go_loopw [0] (fun v wr => ∃ cur acc, v = .string (str cur) ∧ cur.length ≤ s.length ∧ acc.length + cur.length ≤ s.length ∧ Tu.unesc s = (Tu.unesc cur).map (fun x => (acc ++ x.1, x.2)) ∧ BB w0 wr M B acc (eb G 79 [.string ⟨#[]⟩, .int .u64 0, .bool false] :: L)) (fun v _ => slen v)
  case atStart => exact ⟨s, [], rfl, Nat.le_refl _, by simp, by cases Tu.unesc s <;> rfl, HB⟩
  case round =>
    obtain ⟨cur, acc, rfl, hcl, hacl, hun, HB1⟩ := hrel
    clear HB
    have hin := idxb_any cur
    have HU := Lib.hid hun
    clear hun
    have fail_ : Tu.unesc cur = none → R = none := fun h => by rw [HR.out, HU.out, h]; rfl
    have HF := Lib.hid fail_
    clear fail_
    have hG : ∀ {wx acc'}, BB w0 wx M B acc' (eb G 79 [.string ⟨#[]⟩, .int .u64 0, .bool false] :: L) → St w0 wx M (eb G 79 [.string ⟨#[]⟩, .int .u64 0, .bool false] :: L) := fun h => h.rest
    rcases Tu.idxb cur with ⟨hi1, hi2⟩ | ⟨i, hi1, hi2, hi3, hi4⟩
    · have hno : R = none := HF.out (Tu.unesc_none cur hi2)
      rw [hi1] at hin
      have HI := Lib.hid hin
      have HNO := Lib.hid hno
      clear hin hno hi1 hi2
      go_wp2_with fail
      refine (HI.out _).mono ?_
      rintro e w1 ⟨rfl, rfl⟩
      have H2 := HB1.rest
      have c0 := H2.cell 0 rfl 0
      have c1 := H2.cell 0 rfl 1
      have c2 := H2.cell 0 rfl 2
      have f0 := H2.frozen 0 rfl 0
      have f1 := H2.frozen 0 rfl 1
      have f2 := H2.frozen 0 rfl 2
      have H3 := ((H2.set 0 (.string ⟨#[]⟩)).set 1 (.int .u64 0)).set 2 (.bool false)
      go_wp2
      refine ret_row_tmp2 H3 rfl rfl Tryz.underlying79 rfl Tryz.sizePart rfl ?_
      exact .inr ⟨HNO.out, rfl, H3.d0⟩
    · rw [hi1] at hin
      have HI := Lib.hid hin
      obtain ⟨u, hu⟩ : ∃ u, u = cur.take i := ⟨_, rfl⟩
      rw [← hu] at hi3 hi4
      have hul : u.length = i := by rw [hu, List.length_take]; omega
      have sl1 := fun w => str_to (P := Tryz.prog) (k := .i64) (i := (i : Int)) Tryz.underlying9 cur i (by omega) rfl w
      rw [← hu] at sl1
      have q0 : ¬ (i : Int) < 0 := by omega
      have hib : i ≤ 1000000 := by omega
      cases hr : cur.drop (i + 1) with
      | nil =>
        rw [hr] at hi4
        have hno : R = none := HF.out (by rw [hi4, Tu.unesc_pass u [0] hi3 (by simp)]; rfl)
        have hcl2 : cur.length = i + 1 := by rw [hi4]; simp [hul]
        have e1 : (i : Int) + 1 = (cur.length : Int) := by omega
        have HNO := Lib.hid hno
        clear hin hno hi1 hi2 hi3 hi4 hu hul hr hcl2
        go_wp2_with fail
        refine (HI.out _).mono ?_
        rintro e w1 ⟨rfl, rfl⟩
        have H2 := HB1.rest
        have c0 := H2.cell 0 rfl 0
        have c1 := H2.cell 0 rfl 1
        have c2 := H2.cell 0 rfl 2
        have f0 := H2.frozen 0 rfl 0
        have f1 := H2.frozen 0 rfl 1
        have f2 := H2.frozen 0 rfl 2
        have H3 := ((H2.set 0 (.string ⟨#[]⟩)).set 1 (.int .u64 0)).set 2 (.bool false)
        go_wp2
        refine ret_row_tmp2 H3 rfl rfl Tryz.underlying79 rfl Tryz.sizePart rfl ?_
        exact .inr ⟨HNO.out, rfl, H3.d0⟩
      | cons d r =>
        rw [hr] at hi4
        have hcl2 : cur.length = i + 2 + r.length := by
          have := congrArg List.length hi4
          simp only [List.length_append, List.length_cons, hul] at this
          omega
        obtain ⟨i1, hi1e⟩ : ∃ i1, i1 = i + 1 := ⟨_, rfl⟩
        obtain ⟨i2, hi2e⟩ : ∃ i2, i2 = i + 2 := ⟨_, rfl⟩
        have hun : Tu.unesc cur = (Tu.unesc (0 :: d :: r)).map (fun x => (u ++ x.1, x.2)) := by rw [hi4]; exact Tu.unesc_pass u _ hi3 (by simp)
        have hun2 : Tu.unesc (0 :: d :: r) = if d = 1 then some ([], r) else if d = 255 then (Tu.unesc r).map (fun x => (0 :: x.1, x.2)) else none := by rw [Tu.unesc, if_pos rfl]
        have ix := fun w => str_index (P := Tryz.prog) (k := .i64) (i := (i1 : Int)) Tryz.underlying9 cur i1 (by omega) rfl w
        have hgd : cur[i1]'(by omega) = d := by
          have h1 : cur[i1]? = some d := by
            rw [hi4, List.getElem?_append_right (by omega), hul, hi1e, show i + 1 - i = 1 from by omega]
            rfl
          rw [List.getElem?_eq_getElem (by omega)] at h1
          injection h1
        simp only [hgd] at ix
        have sl3 := fun w => str_from (P := Tryz.prog) (k := .i64) (i := (i2 : Int)) Tryz.underlying9 cur i2 (by omega) rfl w
        have hdr : cur.drop i2 = r := by
          rw [hi2e, show i + 2 = (i + 1) + 1 from by omega, ← List.drop_drop, hr]
          rfl
        rw [hdr] at sl3
        have e1 : (i : Int) + 1 = (i1 : Int) := by omega
        have e2 : (i : Int) + 2 = (i2 : Int) := by omega
        have w2 : IntKind.i64.wrap (i2 : Int) = (i2 : Int) := by rw [IntKind.wrap_i64]; omega
        have q1 : ((i1 : Int) == (cur.length : Int)) = false := by simp; omega
        have q1n : (i1 == cur.length) = false := by simp; omega
        have q1p : ¬ i1 = cur.length := by omega
        have hacl2 : acc.length + u.length + 2 + r.length ≤ s.length := by omega
        have hdl := d.toNat_lt
        have hws := wstr_any HB1 u (by omega)
        have HWS := Lib.hid hws
        have HUN := Lib.hid hun
        have HUN2 := Lib.hid hun2
        have HCL := Lib.hid hcl2
        clear hin hi1 hi2 hi3 hi4 hu hul hr hcl2 hi1e hi2e hun hun2 hgd hdr hws HB1
        go_wp2_with fail
        refine (HI.out _).mono ?_
        rintro e w1 ⟨rfl, rfl⟩
        go_wp2_with fail
        refine HWS.out.mono ?_
        rintro e w2' ⟨⟨v2, rfl⟩, HB2⟩
        by_cases hd1 : d = 1
        · have hsome : R = some (⟨acc ++ u, 0, true⟩, r) := by
            rw [HR.out, HU.out, HUN.out, HUN2.out, if_pos hd1]
            simp
          subst hd1
          have HSOME := Lib.hid hsome
          clear hsome
          rw [show ((1 : UInt8).toNat : Int) = 1 from rfl] at ix
          go_wp2
          refine Pt.wp_plan (fun _ => True) (Pt.prs [2, 3, 4, 5] (.go 0 (.go 1 (.go 6 (Pt.prs [7, 8] .fin))))) [] Tryz.mixed (by kernel_rfl) (fun _ _ d _ _ h => by cases d <;> exact h) trivial ?_
          have HB3 := HB2.drew
          simp only [Pt.toL, Pt.rds, Pt.prs, Pt.at_, List.drop_succ_cons, List.drop_zero]
          iterate 4 (refine Pt.pr_run (v := ?_) (by rfl) ?_ ?_; rotate_left; (focus (intro w'; go_simp; with_reducible rfl)); simp only [Act.put, List.setIfInBounds_toArray, List.set_cons_zero, List.set_cons_succ])
          refine Pt.run_go ?_
          go_wp2_with fail
          refine (bstr_any HB3).mono ?_
          rintro e w3 ⟨rfl, H4⟩
          go_wp2_with fail
          refine Pt.same trivial ?_
          refine Pt.run_go ?_
          go_wp2_with fail
          refine (text_any H4 (acc ++ u)).mono ?_
          rintro e w4 ⟨rfl, H5⟩
          unfold pv
          go_wp2_with fail
          refine Pt.same trivial ?_
          have f0 := H5.frozen 0 rfl 0
          have f1 := H5.frozen 0 rfl 1
          have f2 := H5.frozen 0 rfl 2
          have c0 := H5.cell 0 rfl 0
          have c1 := H5.cell 0 rfl 1
          have c2 := H5.cell 0 rfl 2
          have H6 := ((H5.set 0 (.string (str (acc ++ u)))).set 1 (.int .u64 0)).set 2 (.bool true)
          refine Pt.run_go ?_
          go_wp2_with fail
          refine Pt.same trivial ?_
          iterate 2 (refine Pt.pr_run (v := ?_) (by rfl) ?_ ?_; rotate_left; (focus (intro w'; go_simp; with_reducible rfl)); simp only [Act.put, List.setIfInBounds_toArray, List.set_cons_zero, List.set_cons_succ])
          refine Pt.run_fin ?_
          go_wp2
          refine ret_row_tmp2 H6 rfl rfl Tryz.underlying79 rfl Tryz.sizePart rfl ?_
          exact .inl ⟨_, _, HSOME.out, rfl, H6.d0⟩
        · have p1 : ((d.toNat : Int) == 1) = false := by
            simp only [beq_eq_false_iff_ne]
            intro h
            exact hd1 (UInt8.toNat_inj.1 (by show d.toNat = 1; omega))
          by_cases hd2 : d = 255
          · have hnext : Tu.unesc s = (Tu.unesc r).map (fun x => (acc ++ u ++ [0] ++ x.1, x.2)) := by
              rw [HU.out, HUN.out, HUN2.out, if_neg hd1, if_pos hd2]
              cases Tu.unesc r <;> simp
            subst hd2
            have HNEXT := Lib.hid hnext
            have hwb := wbyte_any HB2 0 (by rw [List.length_append]; omega)
            have HWB := Lib.hid hwb
            clear hnext hd1 p1 hwb
            rw [show ((255 : UInt8).toNat : Int) = 255 from rfl] at ix
            go_wp2_with fail
            refine HWB.out.mono ?_
            rintro e w3 ⟨⟨v3, rfl⟩, HB3⟩
            go_wp2
            refine ⟨⟨r, acc ++ u ++ [0], rfl, by omega, by simp only [List.length_append, List.length_singleton]; omega, HNEXT.out, HB3⟩, ?_⟩
            show slen (.string (str r)) < slen (.string (str cur))
            rw [slen_str, slen_str, HCL.out]
            omega
          · have hno : R = none := by
              rw [HR.out, HU.out, HUN.out, HUN2.out, if_neg hd1, if_neg hd2]
              rfl
            have p2 : ((d.toNat : Int) == 255) = false := by
              simp only [beq_eq_false_iff_ne]
              intro h
              exact hd2 (UInt8.toNat_inj.1 (by show d.toNat = 255; omega))
            have HNO := Lib.hid hno
            have H2 := HB2.rest
            have c0 := H2.cell 0 rfl 0
            have c1 := H2.cell 0 rfl 1
            have c2 := H2.cell 0 rfl 2
            have f0 := H2.frozen 0 rfl 0
            have f1 := H2.frozen 0 rfl 1
            have f2 := H2.frozen 0 rfl 2
            have H3 := ((H2.set 0 (.string ⟨#[]⟩)).set 1 (.int .u64 0)).set 2 (.bool false)
            clear hno hd1 hd2
            go_wp2
            refine ret_row_tmp2 H3 rfl rfl Tryz.underlying79 rfl Tryz.sizePart rfl ?_
            exact .inr ⟨HNO.out, rfl, H3.d0⟩
end
end Go.Proofs.YtepgmebklhemgaaGreatDoor.Tp
/- The contract of tuple.take at a number; of take at all. -/
set_option linter.unusedVariables false
set_option linter.unusedSimpArgs false
set_option maxRecDepth 100000
namespace Go.Proofs.YtepgmebklhemgaaGreatDoor.Tp
open Go.RowKit Wd
set_option maxRecDepth 100000 in
theorem Tu.val_run (x : Nat) (c : UInt8) (h : x * 256 + c.toNat < 18446744073709551616) : ∃ m : Nat, IntKind.u64.wrap ((x : Int) * 256) = (m : Int) ∧ IntKind.u64.wrap (c.toNat : Int) = (c.toNat : Int) ∧ bits .or .u64 (m : Int) (c.toNat : Int) = ((x * 256 + c.toNat : Nat) : Int) := by
  have hc := c.toNat_lt
  have hx : x * 256 < 18446744073709551616 := by omega
  have w1 : IntKind.u64.wrap ((x : Int) * 256) = ((x * 256 : Nat) : Int) := by
    have e : ((x * 256 : Nat) : Int) % 18446744073709551616 = ((x * 256 : Nat) : Int) := Int.emod_eq_of_lt (Int.natCast_nonneg _) (Int.ofNat_lt.2 hx)
    rw [IntKind.wrap_u64]
    exact e
  have w2 : IntKind.u64.wrap (c.toNat : Int) = (c.toNat : Int) := by
    rw [IntKind.wrap_u64]
    exact Int.emod_eq_of_lt (by omega) (by omega)
  refine ⟨x * 256, w1, w2, ?_⟩
  have hc2 : c.toNat < 18446744073709551616 := by omega
  rw [u64_or_nat _ _ hx hc2]
  have h1 := Nat.two_pow_add_eq_or_of_lt (i := 8) (b := c.toNat) (by omega) x
  have h2 : 2 ^ 8 * x = x * 256 := by omega
  rw [h2] at h1
  rw [← h1]
theorem Tu.val_take (l : List UInt8) (k : Nat) (h : k < l.length) : Tu.val (l.take (k + 1)) = Tu.val (l.take k) * 256 + l[k].toNat := by
  rw [List.take_succ_eq_append_getElem h, Tu.val_snoc]
section
variable {w0 w : World} {M : Mem} {L : List Ent}
set_option maxRecDepth 100000 in
set_option maxHeartbeats 1000000 in
theorem take_bad (H : St w0 w M L) (c : UInt8) (s : List UInt8) (hs : s.length ≤ 1000000) (hc : c ≠ 32) (hb : c.toNat < 16 ∨ 24 < c.toNat ∨ (16 ≤ c.toNat ∧ c.toNat ≤ 24 ∧ s.length < c.toNat - 16) ∨ (16 < c.toNat ∧ c.toNat ≤ 24 ∧ c.toNat - 16 ≤ s.length ∧ ∃ r, s = 0 :: r)) :
    Calls Tryz.prog 108 #[.string (str (c :: s))] w fun e w' => e = .returned (.tuple #[pv ⟨[], 0, false⟩, .string (str []), .bool false]) ∧ St w0 w' M L := by
  obtain ⟨S, hS⟩ : ∃ S, S = c :: s := ⟨_, rfl⟩
  have hSl : S.length = s.length + 1 := by rw [hS]; rfl
  have i0 := fun w => str_index (P := Tryz.prog) (k := .i64) (i := 0) Tryz.underlying9 S 0 (by omega) rfl w
  have i1 := fun w => str_from (P := Tryz.prog) (k := .i64) (i := 1) Tryz.underlying9 S 1 (by omega) rfl w
  have e0 : S[0]'(by omega) = c := by simp [hS]
  have e1 : S.drop 1 = s := by rw [hS]; rfl
  rw [e1] at i1
  simp only [e0] at i0
  rw [← hS]
  have HN := H.new z42 79
  have p1 : ((c.toNat : Int) == 32) = false := by
    simp only [beq_eq_false_iff_ne]
    intro h
    exact hc (UInt8.toNat_inj.1 (by show c.toNat = 32; omega))
  obtain ⟨x, hx⟩ : ∃ x : Int, x = (c.toNat : Int) - 16 := ⟨_, rfl⟩
  have ex : (c.toNat : Int) - 16 = x := hx.symm
  have hcl := c.toNat_lt
  have hx1 : -16 ≤ x := by omega
  have hx2 : x ≤ 239 := by omega
  have hcase : x < 0 ∨ (¬ x < 0 ∧ 8 < x) ∨ (¬ x < 0 ∧ ¬ 8 < x ∧ (s.length : Int) < x) ∨ (¬ x < 0 ∧ ¬ 8 < x ∧ ¬ (s.length : Int) < x ∧ 0 < x ∧ ∃ r, s = 0 :: r) := by
    rcases hb with h | h | ⟨h1, h2, h3⟩ | ⟨h1, h2, h3, h4⟩
    · exact .inl (by omega)
    · exact .inr (.inl (by omega))
    · exact .inr (.inr (.inl (by omega)))
    · exact .inr (.inr (.inr ⟨by omega, by omega, by omega, by omega, h4⟩))
  clear hS hSl e0 e1 hc hb hx
  go_enter Tryz.func108, Tryz.ntmps108
  go_wp2
  refine Pt.wp_plan (fun _ => True) (Pt.prs [0, 1, 2, 3, 4, 5] .fin) [] Tryz.mixed (by kernel_rfl) (fun _ _ d _ _ h => by cases d <;> exact h) trivial ?_
  simp only [Pt.toL, Pt.rds, Pt.prs, Pt.at_, List.drop_succ_cons, List.drop_zero]
  iterate 6 (refine Pt.pr_run (v := ?_) (by rfl) ?_ ?_; rotate_left; (focus (intro w'; go_simp; with_reducible rfl)); simp only [Act.put, List.setIfInBounds_toArray, List.set_cons_zero, List.set_cons_succ])
  refine Pt.run_fin ?_
  have H2 := HN.drew
  simp only [z42] at H2
  generalize hxx : World.drew _ = x1 at *
  generalize hgg : w.heap.size = G at *
  clear hxx hgg HN H i0 i1
  have c0 := H2.cell 0 rfl 0
  have c1 := H2.cell 0 rfl 1
  have c2 := H2.cell 0 rfl 2
  have f0 := H2.frozen 0 rfl 0
  have f1 := H2.frozen 0 rfl 1
  have f2 := H2.frozen 0 rfl 2
  have H3 := ((H2.set 0 (.string ⟨#[]⟩)).set 1 (.int .u64 0)).set 2 (.bool false)
  rcases hcase with q1 | ⟨q1, q2⟩ | ⟨q1, q2, q3⟩ | ⟨q1, q2, q3, q4, r, hr⟩
  · go_wp2
    refine ret_row_tmp2 H3 rfl rfl Tryz.underlying79 rfl Tryz.sizePart rfl ?_
    exact ⟨rfl, H3.d0⟩
  · go_wp2
    refine ret_row_tmp2 H3 rfl rfl Tryz.underlying79 rfl Tryz.sizePart rfl ?_
    exact ⟨rfl, H3.d0⟩
  · go_wp2
    refine ret_row_tmp2 H3 rfl rfl Tryz.underlying79 rfl Tryz.sizePart rfl ?_
    exact ⟨rfl, H3.d0⟩
  · have i0 := fun w => str_index (P := Tryz.prog) (k := .i64) (i := 0) Tryz.underlying9 s 0 (by rw [hr]; simp) rfl w
    have e0 : s[0]'(by rw [hr]; simp) = 0 := by simp [hr]
    simp only [e0] at i0
    rw [show ((0 : UInt8).toNat : Int) = 0 from rfl] at i0
    clear e0 hr
    go_wp2
    refine ret_row_tmp2 H3 rfl rfl Tryz.underlying79 rfl Tryz.sizePart rfl ?_
    exact ⟨rfl, H3.d0⟩
set_option maxRecDepth 100000 in
set_option maxHeartbeats 1000000 in
theorem take_good (H : St w0 w M L) (c : UInt8) (s : List UInt8) (hs : s.length ≤ 1000000) (N : Nat) (hc : c.toNat = 16 + N) (hN : N ≤ 8) (hNs : N ≤ s.length) (hz : N = 0 ∨ ∃ b r, s = b :: r ∧ b ≠ 0) :
    Calls Tryz.prog 108 #[.string (str (c :: s))] w fun e w' => e = .returned (.tuple #[pv ⟨[], Tu.val (s.take N), false⟩, .string (str (s.drop N)), .bool true]) ∧ St w0 w' M L := by
  obtain ⟨S, hS⟩ : ∃ S, S = c :: s := ⟨_, rfl⟩
  have hSl : S.length = s.length + 1 := by rw [hS]; rfl
  have i0 := fun w => str_index (P := Tryz.prog) (k := .i64) (i := 0) Tryz.underlying9 S 0 (by omega) rfl w
  have i1 := fun w => str_from (P := Tryz.prog) (k := .i64) (i := 1) Tryz.underlying9 S 1 (by omega) rfl w
  have e0 : S[0]'(by omega) = c := by simp [hS]
  have e1 : S.drop 1 = s := by rw [hS]; rfl
  rw [e1] at i1
  simp only [e0] at i0
  rw [← hS]
  have HN := H.new z42 79
  have p1 : ((c.toNat : Int) == 32) = false := by
    simp only [beq_eq_false_iff_ne]
    omega
  have ex : (c.toNat : Int) - 16 = (N : Int) := by omega
  have q1 : ¬ (N : Int) < 0 := by omega
  have q2 : ¬ 8 < (N : Int) := by omega
  have q3 : ¬ (s.length : Int) < (N : Int) := by omega
  have q3n : ¬ s.length < N := by omega
  have hcl := c.toNat_lt
  have hNb : (N : Int) ≤ 8 := by omega
  have sl := fun w => str_from (P := Tryz.prog) (k := .i64) (i := (N : Int)) Tryz.underlying9 s N hNs rfl w
  obtain ⟨V, hV⟩ : ∃ V, V = Tu.val (s.take N) := ⟨_, rfl⟩
  obtain ⟨D, hD⟩ : ∃ D, D = s.drop N := ⟨_, rfl⟩
  rw [← hD] at sl
  rw [← hV, ← hD]
  have HV := Lib.hid hV
  have HC := Lib.hid hc
  clear hS hSl e0 e1 hc hV hD
  have hz2 : ¬ 0 < (N : Int) ∨ (0 < (N : Int) ∧ ∃ b r, s = b :: r ∧ b ≠ 0) := by
    rcases Nat.eq_zero_or_pos N with h | h
    · exact .inl (by omega)
    · rcases hz with h2 | h2
      · omega
      · exact .inr ⟨by omega, h2⟩
  have HZ := Lib.hid hz2
  clear hz hz2
  go_enter Tryz.func108, Tryz.ntmps108
  go_wp2
  refine Pt.wp_plan (fun _ => True) (Pt.prs [0, 1, 2, 3, 4, 5] .fin) [] Tryz.mixed (by kernel_rfl) (fun _ _ d _ _ h => by cases d <;> exact h) trivial ?_
  simp only [Pt.toL, Pt.rds, Pt.prs, Pt.at_, List.drop_succ_cons, List.drop_zero]
  iterate 6 (refine Pt.pr_run (v := ?_) (by rfl) ?_ ?_; rotate_left; (focus (intro w'; go_simp; with_reducible rfl)); simp only [Act.put, List.setIfInBounds_toArray, List.set_cons_zero, List.set_cons_succ])
  refine Pt.run_fin ?_
  have H2 := HN.drew
  simp only [z42] at H2
  generalize hxx : World.drew _ = x1 at *
  generalize hgg : w.heap.size = G at *
  clear hxx hgg HN H i0 i1
  have HSL := Lib.hid sl
  clear sl
  have hz2 := HZ.out
  rcases hz2 with q4 | ⟨q4, b, r, hr, hb⟩
  all_goals first
    | (have i0 := fun w => str_index (P := Tryz.prog) (k := .i64) (i := 0) Tryz.underlying9 s 0 (by rw [hr]; simp) rfl w
       have e0 : s[0]'(by rw [hr]; simp) = b := by simp [hr]
       simp only [e0] at i0
       have p2 : ((b.toNat : Int) == 0) = false := by
         simp only [beq_eq_false_iff_ne]
         intro h
         exact hb (UInt8.toNat_inj.1 (by show b.toNat = 0; omega))
       clear e0 hr hb)
    | skip
  all_goals
    go_upto_region 18 with fail
    go_wp2
    go_loopw [78] (fun i wr => ∃ k : Nat, k ≤ N ∧ i = .int .i64 k ∧ St w0 wr M (eb G 79 [.string ⟨#[]⟩, .int .u64 (Tu.val (s.take k) : Int), .bool false] :: L)) (fun i _ => N - (intOf i).toNat)
    case atStart => exact ⟨0, by omega, rfl, H2⟩
    case round =>
      obtain ⟨k, hk, rfl, H3⟩ := hrel
      clear H2
      by_cases hlt : k < N
      · have hks : k < s.length := by omega
        have hr := Tu.val_take s k hks
        have hlim := Tu.val_lt8 (l := s.take (k + 1)) (by rw [List.length_take]; omega)
        rw [hr] at hlim
        have ik := fun w => str_index (P := Tryz.prog) (k := .i64) (i := (k : Int)) Tryz.underlying9 s k hks rfl w
        obtain ⟨Y, hY⟩ : ∃ Y, Y = Tu.val (s.take k) := ⟨_, rfl⟩
        obtain ⟨v, hv⟩ : ∃ v, v = s[k] := ⟨_, rfl⟩
        rw [← hY, ← hv] at hr hlim
        simp only [← hv] at ik
        rw [← hY] at H3
        obtain ⟨m, e1, e3, e2⟩ := Tu.val_run Y v hlim
        obtain ⟨T, hT⟩ : ∃ T, T = Y * 256 + v.toNat := ⟨_, rfl⟩
        rw [← hT] at hr e2
        have HR := Lib.hid hr
        have HLT := Lib.hid hlt
        have q5 : (k : Int) < (N : Int) := by omega
        clear hr hY hv hT hlt hlim hks
        go_wp2
        refine Pt.wp_plan (fun w' => St w0 w' M (eb G 79 [.string ⟨#[]⟩, .int .u64 (Y : Int), .bool false] :: L)) (Pt.prs [0, 3, 4, 5] (Pt.rds [1] (Pt.prs [2] (Pt.rds [6] (Pt.prs [7, 8] (.st 9 .fin)))))) [9] Tryz.mixed (by kernel_rfl) (fun _ _ d _ _ h => by cases d <;> exact h) H3.drew ?_
        have H4 := H3.drew
        simp only [Pt.toL, Pt.rds, Pt.prs, Pt.at_, List.drop_succ_cons, List.drop_zero]
        iterate 4 (refine Pt.pr_run (v := ?_) (by rfl) ?_ ?_; rotate_left; (focus (intro w'; go_simp; with_reducible rfl)); simp only [Act.put, List.setIfInBounds_toArray, List.set_cons_zero, List.set_cons_succ])
        (refine Pt.rd_run (v := ?_) (by rfl) ?_ ?_; rotate_left; (focus (intro w' hS; have c1 := hS.cell 0 rfl 1; go_simp; with_reducible rfl)); simp only [Act.put, List.setIfInBounds_toArray, List.set_cons_zero, List.set_cons_succ])
        (refine Pt.pr_run (v := ?_) (by rfl) ?_ ?_; rotate_left; (focus (intro w'; go_simp; with_reducible rfl)); simp only [Act.put, List.setIfInBounds_toArray, List.set_cons_zero, List.set_cons_succ])
        (refine Pt.rd_run (v := ?_) (by rfl) ?_ ?_; rotate_left; (focus (intro w' hS; obtain s0 := hS; go_simp; with_reducible rfl)); simp only [Act.put, List.setIfInBounds_toArray, List.set_cons_zero, List.set_cons_succ])
        iterate 2 (refine Pt.pr_run (v := ?_) (by rfl) ?_ ?_; rotate_left; (focus (intro w'; go_simp; with_reducible rfl)); simp only [Act.put, List.setIfInBounds_toArray, List.set_cons_zero, List.set_cons_succ])
        generalize hxx : wr.drew = wy at *
        clear hxx H3
        have f1 := H4.frozen 0 rfl 1
        have c1 := H4.cell 0 rfl 1
        have H5 := H4.set 1 (.int .u64 (T : Int))
        clear e1 e2 e3 ik
        have t1 : (storeVar 23 ⟨G, 1, none⟩ (.int .u64 (T : Int))).run Tryz.prog wy = .ok () (wy.setCell ⟨G, 1, none⟩ (.int .u64 (T : Int))) := by go_simp
        refine Pt.run_st ?_
        refine wpList_store_run (by rfl) 23 (.tmp 89) (.tmp 88) (by rfl) ⟨G, 1, none⟩ (.int .u64 (T : Int)) (by rfl) (by rfl) _ t1 ?_
        refine wpList_nil ?_
        clear t1
        simp only [Pl.Then]
        simp only [Act.put, List.setIfInBounds_toArray, List.set_cons_zero, List.set_cons_succ]
        refine Pt.run_fin ?_
        go_wp2
        refine ⟨⟨k + 1, by have := HLT.out; omega, by go_num, by rw [HR.out]; exact H5⟩, by have := HLT.out; simp [intOf]; omega⟩
      · obtain rfl : k = N := by omega
        have hV := HV.out
        rw [← hV] at H3
        have sl := HSL.out
        clear hlt hV
        go_wp2
        refine Pt.wp_plan (fun w' => St w0 w' M (eb G 79 [.string ⟨#[]⟩, .int .u64 (V : Int), .bool false] :: L)) (Pt.prs [1, 2, 3] (Pt.rds [0] (.st 4 (Pt.prs [5, 6] .fin)))) [4] Tryz.mixed (by kernel_rfl) (fun _ _ d _ _ h => by cases d <;> exact h) H3.drew ?_
        have H4 := H3.drew
        simp only [Pt.toL, Pt.rds, Pt.prs, Pt.at_, List.drop_succ_cons, List.drop_zero]
        iterate 3 (refine Pt.pr_run (v := ?_) (by rfl) ?_ ?_; rotate_left; (focus (intro w'; go_simp; with_reducible rfl)); simp only [Act.put, List.setIfInBounds_toArray, List.set_cons_zero, List.set_cons_succ])
        (refine Pt.rd_load (by rfl) 79 (.tmp 2) (by rfl) G 0 (by rfl) [.string ⟨#[]⟩, .int .u64 (V : Int), .bool false] _ (fun _ h => (h.blk 0 rfl).range 0 3 _ rfl) Tryz.underlying79 rfl (by exact Tryz.sizePart) ?_; simp only [Act.put, List.setIfInBounds_toArray, List.set_cons_zero, List.set_cons_succ])
        generalize hxx : wr.drew = wy at *
        clear hxx H3
        have f0 := H4.frozen 0 rfl 0
        have f1 := H4.frozen 0 rfl 1
        have f2 := H4.frozen 0 rfl 2
        have c0 := H4.cell 0 rfl 0
        have c1 := H4.cell 0 rfl 1
        have c2 := H4.cell 0 rfl 2
        have H5 := ((H4.set 0 (.string ⟨#[]⟩)).set 1 (.int .u64 (V : Int))).set 2 (.bool false)
        refine Pt.run_st ?_
        go_wp2_with fail
        try simp only [Pl.Then, Act.put]
        iterate 2 (refine Pt.pr_run (v := ?_) (by rfl) ?_ ?_; rotate_left; (focus (intro w'; go_simp; with_reducible rfl)); simp only [Act.put, List.setIfInBounds_toArray, List.set_cons_zero, List.set_cons_succ])
        refine Pt.run_fin ?_
        go_wp2
        refine ret_row_tmp2 H5 rfl rfl Tryz.underlying79 rfl Tryz.sizePart rfl ?_
        exact ⟨rfl, H5.d0⟩
/-- TAKE. -/
theorem take_any (H : St w0 w M L) (c : UInt8) (s : List UInt8) (hs : s.length ≤ 1000000) :
    Calls Tryz.prog 108 #[.string (str (c :: s))] w (RetTake w0 M L (Tu.take (c :: s))) := by
  by_cases hc : c = 32
  · subst hc
    exact take_text H s hs
  · by_cases hg : 16 ≤ c.toNat ∧ c.toNat ≤ 24 ∧ c.toNat - 16 ≤ s.length ∧ ¬ s.take (min (c.toNat - 16) 1) = [0]
    · have ht : Tu.take (c :: s) = some (⟨[], Tu.val (s.take (c.toNat - 16)), false⟩, s.drop (c.toNat - 16)) := by rw [Tu.take, if_neg hc, if_pos hg]
      rw [ht]
      obtain ⟨h1, h2, h3, h4⟩ := hg
      refine (take_good H c s hs (c.toNat - 16) (by omega) (by omega) h3 ?_).mono fun e w' h => .inl ⟨_, _, rfl, h.1, h.2⟩
      rcases Nat.eq_zero_or_pos (c.toNat - 16) with h5 | h5
      · exact .inl h5
      · right
        rw [Nat.min_eq_right h5] at h4
        cases s with
        | nil => simp at h3; omega
        | cons b r => exact ⟨b, r, rfl, fun hb => h4 (by subst hb; rfl)⟩
    · have ht : Tu.take (c :: s) = none := by rw [Tu.take, if_neg hc, if_neg hg]
      rw [ht]
      refine (take_bad H c s hs hc ?_).mono fun e w' h => .inr ⟨rfl, h.1, h.2⟩
      rcases Nat.lt_or_ge c.toNat 16 with h1 | h1
      · exact .inl h1
      · rcases Nat.lt_or_ge 24 c.toNat with h2 | h2
        · exact .inr (.inl h2)
        · rcases Nat.lt_or_ge s.length (c.toNat - 16) with h3 | h3
          · exact .inr (.inr (.inl ⟨h1, h2, h3⟩))
          · have h4 : s.take (min (c.toNat - 16) 1) = [0] := by
              rcases Classical.em (s.take (min (c.toNat - 16) 1) = [0]) with h | h
              · exact h
              · exact absurd ⟨h1, h2, h3, h⟩ hg
            refine .inr (.inr (.inr ⟨?_, h2, h3, ?_⟩))
            · rcases Nat.eq_or_lt_of_le h1 with h5 | h5
              · rw [← h5] at h4; simp at h4
              · exact h5
            · cases s with
              | nil => simp at h4
              | cons b r =>
                have := congrArg List.head? h4
                have hm : min (c.toNat - 16) 1 ≠ 0 := by intro h0; rw [h0] at h4; simp at h4
                obtain ⟨m, hm2⟩ := Nat.exists_eq_succ_of_ne_zero hm
                rw [hm2, List.take_succ_cons] at h4
                injection h4 with h5 h6
                exact ⟨r, by rw [h5]⟩
end
end Go.Proofs.YtepgmebklhemgaaGreatDoor.Tp
/- The contracts of tuple.Encode, Check and Decode. -/
set_option linter.unusedVariables false
set_option linter.unusedSimpArgs false
set_option maxRecDepth 100000
namespace Go.Proofs.YtepgmebklhemgaaGreatDoor.Tp
open Go.RowKit Wd
theorem Tu.enc_take (l : List Tu.Part) (k : Nat) (h : k < l.length) : Tu.enc (l.take (k + 1)) = Tu.enc (l.take k) ++ Tu.one l[k] := by
  rw [List.take_succ_eq_append_getElem h, Tu.enc_append]
  simp [Tu.enc]
theorem Tu.one_len (p : Tu.Part) (h : p.num < 18446744073709551616) : (Tu.one p).length ≤ 2 * p.text.length + 9 := by
  unfold Tu.one
  split
  · have := Tu.esc_len p.text
    simp
    omega
  · have := Tu.digs_len8 h
    simp
    omega
theorem Tu.enc_len (l : List Tu.Part) (B : Nat) (h : ∀ p ∈ l, p.text.length ≤ B ∧ p.num < 18446744073709551616) : (Tu.enc l).length ≤ l.length * (2 * B + 9) := by
  induction l with
  | nil => simp [Tu.enc]
  | cons p l ih =>
    rw [Tu.enc_cons, List.length_append, List.length_cons, Nat.add_mul, Nat.one_mul]
    have h1 := Tu.one_len p (h p (by simp)).2
    have h2 := (h p (by simp)).1
    have h3 := ih fun q hq => h q (by simp [hq])
    omega
/-- Parts that are not too great. -/
def Tame (l : List Tu.Part) : Prop := l.length ≤ 100000 ∧ ∀ p ∈ l, p.text.length ≤ 100000 ∧ p.num < 18446744073709551616
section
variable {w0 w : World} {M : Mem} {L : List Ent}
def encS (l : List Tu.Part) : List UInt8 := if Tu.check l = 0 then Tu.enc l else []
set_option maxRecDepth 100000 in
set_option maxHeartbeats 1000000 in
theorem encode_any (H : St w0 w M L) (hx : In M MaxI) {A : Option Addr} {c n : Nat} {l : List Tu.Part} (hn : n = l.length) (hl : SrA w0 M L A (pcs l)) (ht : Tame l) :
    Calls Tryz.prog 54 #[.slice A n c] w fun e w' => e = .returned (.tuple #[.string (str (encS l)), .int .i64 (Tu.check l : Int)]) ∧ St w0 w' M L := by
  have hn2 : n ≤ 100000 := by rw [hn]; exact ht.1
  have hct := contains_any 85 (enters_of Tryz.func85 (by kernel_rfl) rfl) (c := c) H hn hl (by omega) (fun p w H => notMay_any H p)
  obtain ⟨S, hS⟩ : ∃ S, S = encS l := ⟨_, rfl⟩
  obtain ⟨C, hC⟩ : ∃ C, C = Tu.check l := ⟨_, rfl⟩
  rw [← hS, ← hC]
  have hS2 : S = if C = 0 then Tu.enc l else [] := by rw [hS, hC]; rfl
  have hC2 : C = if l.all Tu.may then (if 8 < l.length ∨ 1024 < (Tu.enc l).length then 3 else 0) else 1 := hC
  have hbig := Tu.enc_len l 100000 ht.2
  obtain ⟨m, hm⟩ : ∃ m, m = l.all Tu.may := ⟨_, rfl⟩
  rw [← hm] at hC2 hct
  have HCT := Lib.hid hct
  have HN := Lib.hid hn
  have HT := Lib.hid ht
  clear hct hS hC ht hn
  cases m with
  | false =>
    simp only [Bool.false_eq_true, if_false] at hC2
    subst hC2
    simp only [Nat.one_ne_zero, if_false] at hS2
    subst hS2
    clear hm hbig
    go_enter Tryz.func54, Tryz.ntmps54
    go_wp2_with fail
    refine HCT.out.mono ?_
    rintro e w1 ⟨rfl, H1⟩
    simp only [Bool.not_false]
    go_wp2
    go_ret2
    exact ⟨rfl, H1⟩
  | true =>
    simp only [if_true] at hC2
    have HC := Lib.hid hC2
    have HS := Lib.hid hS2
    clear hC2 hS2 hm
    go_enter Tryz.func54, Tryz.ntmps54
    go_wp2_with fail
    refine HCT.out.mono ?_
    rintro e w1 ⟨rfl, H1⟩
    simp only [Bool.not_true]
    have HB := BB.new H1
    go_wp2
    generalize hxx : w1.alloc _ = x2 at *
    generalize hgg : w1.heap.size = B at *
    clear hxx hgg H1
    go_loopw [11] (fun i wr => ∃ k : Nat, k ≤ n ∧ i = .int .i64 k ∧ BB w0 wr M B (Tu.enc (l.take k)) L) (fun i _ => n - (intOf i).toNat)
    case atStart => exact ⟨0, by omega, rfl, HB⟩
    case round =>
      obtain ⟨k, hk, rfl, H3⟩ := hrel
      clear HB
      by_cases hlt : k < n
      · have hk1 : k < l.length := by have := HN.out; omega
        obtain ⟨b, o, rfl, hrg⟩ := RA.at3 (hl.now H3.rest) k hk1
        have hta := Tu.enc_take l k hk1
        have hpt := HT.out.2 l[k] (List.getElem_mem hk1)
        have hpre : (Tu.enc (l.take k)).length ≤ (Tu.enc l).length := by
          have h : Tu.enc l = Tu.enc (l.take k) ++ Tu.enc (l.drop k) := by rw [← Tu.enc_append, List.take_append_drop]
          rw [h, List.length_append]
          omega
        have hbl : (Tu.enc (l.take k)).length ≤ 100000000000 := by
          have := HT.out.1
          have h2 : l.length * (2 * 100000 + 9) ≤ 100000 * (2 * 100000 + 9) := Nat.mul_le_mul_right _ this
          omega
        obtain ⟨p, hp⟩ : ∃ p, p = l[k] := ⟨_, rfl⟩
        rw [← hp] at hrg hta hpt
        have hput := fun w (HB : BB w0 w M B (Tu.enc (l.take k)) L) => put_any HB hx p hpt.2 hbl (by omega)
        obtain ⟨X, hX⟩ : ∃ X, X = Tu.enc (l.take k) := ⟨_, rfl⟩
        rw [← hX] at hput hta H3
        have HPUT := Lib.hid hput
        have HTA := Lib.hid hta
        have HRG := Lib.hid hrg
        have HLT := Lib.hid hlt
        have q1 : (k : Int) < (n : Int) := by omega
        have q1n : k < n := hlt
        unfold pv at HPUT
        clear hput hta hpt hpre hbl hrg hp hk1 hlt hX
        go_wp2_with (refine wpList_load_mid (by rfl) 79 (.tmp 13) (by rfl) b (o + k * 3) (by rfl) [.string (str p.text), .int .u64 (p.num : Int), .bool p.isText] _ HRG.out Tryz.underlying79 rfl (by exact Tryz.sizePart) ?_)
        have H4 := H3.belowK ((Below.refl _ wr).alloc (Nat.le_refl _) (.cells #[.string (str p.text), .int .u64 (p.num : Int), .bool p.isText] 79))
        go_wp2_with fail
        refine (HPUT.out _ H4).mono ?_
        rintro e w4 ⟨rfl, H5⟩
        go_wp2
        exact ⟨⟨k + 1, by have := HLT.out; omega, by go_num, by rw [HTA.out]; exact H5⟩, by have := HLT.out; simp [intOf]; omega⟩
      · obtain rfl : k = n := by omega
        rw [show l.take k = l from by rw [HN.out, List.take_length]] at H3
        obtain ⟨E, hE⟩ : ∃ E, E = (Tu.enc l).length := ⟨_, rfl⟩
        have hlen := blen_any H3
        rw [← hE] at hlen hbig
        have HLEN := Lib.hid hlen
        have hcase : ((8 < (k : Int)) ∧ C = 3) ∨ (¬ 8 < (k : Int) ∧ 1024 < (E : Int) ∧ C = 3) ∨ (¬ 8 < (k : Int) ∧ ¬ 1024 < (E : Int) ∧ C = 0) := by
          have h1 := HC.out
          rw [← hE, ← HN.out] at h1
          by_cases h8 : 8 < k
          · rw [if_pos (.inl h8)] at h1; exact .inl ⟨by omega, h1⟩
          · by_cases h10 : 1024 < E
            · rw [if_pos (.inr h10)] at h1; exact .inr (.inl ⟨by omega, by omega, h1⟩)
            · rw [if_neg (by omega)] at h1; exact .inr (.inr ⟨by omega, by omega, h1⟩)
        have HS2 := HS.out
        clear hlen hE hlt
        rcases hcase with ⟨h1, h2⟩ | ⟨h1, h2, h3⟩ | ⟨h1, h2, h3⟩
        · subst h2
          simp only [Nat.succ_ne_zero, if_false] at HS2
          subst HS2
          go_wp2
          go_ret2
          exact ⟨rfl, H3.rest⟩
        · subst h3
          simp only [Nat.succ_ne_zero, if_false] at HS2
          subst HS2
          go_wp2_with fail
          refine HLEN.out.mono ?_
          rintro e w5 ⟨rfl, rfl⟩
          go_wp2
          go_ret2
          exact ⟨rfl, H3.rest⟩
        · subst h3
          simp only [if_true] at HS2
          have HS3 := Lib.hid HS2
          clear HS2
          go_wp2_with fail
          refine HLEN.out.mono ?_
          rintro e w5 ⟨rfl, rfl⟩
          go_wp2_with fail
          refine (bstr_any H3).mono ?_
          rintro e w6 ⟨rfl, H6⟩
          go_wp2
          go_ret2
          refine ⟨?_, H6⟩
          rw [HS3.out]
          rfl
end
end Go.Proofs.YtepgmebklhemgaaGreatDoor.Tp
/- The contract of tuple.Decode. -/
set_option linter.unusedVariables false
set_option linter.unusedSimpArgs false
set_option maxRecDepth 100000
namespace Go.Proofs.YtepgmebklhemgaaGreatDoor.Tp
open Go.RowKit Wd
theorem Tryz.infoPart : (Tryz.prog.info? 79).map (fun i => (i.zero, i.size, i.bytes)) = some (some (.agg #[.string ⟨#[]⟩, .int .u64 0, .bool false]), 3, 32) := by kernel_rfl
section
variable {w0 w : World} {M : Mem} {L : List Ent}
/-- What Decode gives. -/
def RetDec (w0 : World) (M : Mem) (L : List Ent) (s : List UInt8) (e : Ending) (w' : World) : Prop :=
  (∃ l v, Tu.Key s l ∧ e = .returned (.tuple #[v, .int .i64 0]) ∧ St w0 w' M (er 79 3 v l.length (pcs l) :: L)) ∨ ((∀ l, ¬ Tu.Key s l) ∧ e = .returned (.tuple #[.slice none 0 0, .int .i64 5]) ∧ St w0 w' M L)
set_option maxRecDepth 100000 in
theorem decode_long (s : List UInt8) (hs : 1024 < s.length) :
    Calls Tryz.prog 79 #[.string (str s)] w fun e w' => e = .returned (.tuple #[.slice none 0 0, .int .i64 3]) ∧ w = w' := by
  have q : (1024 : Int) < (s.length : Int) := by omega
  go_enter Tryz.func79, Tryz.ntmps79
  go_wp2
  go_ret2
  exact ⟨rfl, rfl⟩
set_option maxRecDepth 100000 in
set_option maxHeartbeats 1000000 in
theorem decode_any (H : St w0 w M L) (s : List UInt8) (hs : s.length ≤ 1024) :
    Calls Tryz.prog 79 #[.string (str s)] w (RetDec w0 M L s) := by
  have q : ¬ (1024 : Int) < (s.length : Int) := by omega
  have H0 := H.addNil 79 3
  go_enter Tryz.func79, Tryz.ntmps79
  go_wp2
  go_loopw [0, 4] (fun x v wr => ∃ cur l, x = .string (str cur) ∧ (∀ p ∈ l, Tu.ok p) ∧ Tu.enc l ++ cur = s ∧ cur.length ≤ 1024 ∧ l.length ≤ 8 ∧ St w0 wr M (er 79 3 v l.length (pcs l) :: L)) (fun x _ _ => slen x)
  case atStart => exact ⟨s, [], rfl, by simp, rfl, hs, by simp, H0⟩
  case round =>
    obtain ⟨cur, l, rfl, hok, hen, hcl, hl8, H1⟩ := hrel
    clear H0 H q
    have HEN := Lib.hid hen
    have HOK := Lib.hid hok
    clear hen hok
    cases cur with
    | nil =>
      have hkey : Tu.Key s l := ⟨HOK.out, hl8, by have := HEN.out; simpa using this⟩
      have HK := Lib.hid hkey
      clear hkey
      obtain ⟨A1, c1, rfl, hc1⟩ := H1.shape 0 rfl
      go_wp2
      go_ret2
      exact .inl ⟨l, _, HK.out, rfl, H1⟩
    | cons c r =>
      obtain ⟨A1, c1, rfl, hc1⟩ := H1.shape 0 rfl
      have htk := take_any H1 c r (by simp at hcl; omega)
      have hno : (Tu.take (c :: r) = none ∨ 8 ≤ l.length) → ∀ m, ¬ Tu.Key s m := fun h => by
        rw [← HEN.out]
        exact Tu.no_key HOK.out (by simp) h
      obtain ⟨cur, hcur⟩ : ∃ cur, cur = c :: r := ⟨_, rfl⟩
      rw [← hcur] at htk hno HEN hcl ⊢
      have e0 : cur.isEmpty = false := by rw [hcur]; rfl
      have hcn : cur.length = 1 + r.length := by rw [hcur]; simp; omega
      have HCUR := Lib.hid hcur
      have HNO := Lib.hid hno
      have HTK := Lib.hid htk
      have HCN := Lib.hid hcn
      clear hcur hno htk hcn
      go_wp2_with fail
      refine HTK.out.mono ?_
      rintro e w1 (⟨p, rest, hsome, rfl, H2⟩ | ⟨hnone, rfl, H2⟩)
      · have hs2 := Tu.take_some (by rw [HCUR.out] at hsome; exact hsome)
        have hrl : rest.length < cur.length := by
          rw [HCUR.out, hs2.2, List.length_append]
          have := Tu.one_ne p
          have h1 : 0 < (Tu.one p).length := List.length_pos_iff.2 this
          omega
        have hen2 : Tu.enc (l ++ [p]) ++ rest = s := by
          rw [Tu.enc_append, Tu.enc_cons, ← HEN.out, HCUR.out, hs2.2]
          simp [Tu.enc]
        have hok2 : ∀ q ∈ l ++ [p], Tu.ok q := fun q hq => by
          rcases List.mem_append.1 hq with hq | hq
          · exact HOK.out q hq
          · simp only [List.mem_singleton] at hq; subst hq; exact hs2.1
        have HEN2 := Lib.hid hen2
        have HOK2 := Lib.hid hok2
        have HRL := Lib.hid hrl
        clear hen2 hok2 hrl hs2 hsome
        unfold pv
        have H3 := H2.new [.string (str p.text), .int .u64 (p.num : Int), .bool p.isText] 79
        by_cases h8 : l.length = 8
        · have hn2 := HNO.out (.inr (by omega))
          have HN2 := Lib.hid hn2
          have e8 : (l.length : Int) = 8 := by omega
          clear hn2 h8
          go_wp2
          go_ret2
          exact .inr ⟨HN2.out, rfl, H3.d0.d0⟩
        · have e8 : ((l.length : Int) == 8) = false := by simp; omega
          have e8n : ¬ l.length = 8 := h8
          clear h8
          have H4 := H3.newg [.string (str p.text), .int .u64 (p.num : Int), .bool p.isText] 79 (g := w1.heap.size + 1) (by simp)
          have ra := (H4.blk 0 rfl).ra 0 3 [.string (str p.text), .int .u64 (p.num : Int), .bool p.isText] rfl
          go_wp2_with (at_builtin; refine wpList_append_any_st H4.f2 (by rfl) (.tmp 26) (.tmp 28) 24 (by rfl) Tryz.infoPart (by rfl) (by decide) Tryz.underlying24 (by rfl) (some ⟨w1.heap.size + 1, 0, none⟩) 1 1 [.string (str p.text), .int .u64 (p.num : Int), .bool p.isText] (by rfl) (by rfl) (by rintro ⟨⟩) ra (by simp [Value.oneCell']) (by omega) (by omega) ?_)
          intro v5 w5 H5
          have H6 : St w0 w5 M (er 79 3 v5 (l ++ [p]).length (pcs (l ++ [p])) :: L) := by
            rw [List.length_append, pcs_append]
            exact H5.d1.d1
          clear H2 H3 H4 H5 ra
          go_wp2
          refine ⟨⟨rest, l ++ [p], rfl, HOK2.out, HEN2.out, by have := HRL.out; omega, by rw [List.length_append, List.length_singleton]; omega, H6⟩, ?_⟩
          show slen (.string (str rest)) < slen (.string (str cur))
          rw [slen_str, slen_str]
          exact HRL.out
      · have hn2 := HNO.out (.inl hnone)
        have HN2 := Lib.hid hn2
        clear hn2 hnone
        unfold pv
        go_wp2
        go_ret2
        exact .inr ⟨HN2.out, rfl, (H2.alloc _).d0⟩
end
end Go.Proofs.YtepgmebklhemgaaGreatDoor.Tp
