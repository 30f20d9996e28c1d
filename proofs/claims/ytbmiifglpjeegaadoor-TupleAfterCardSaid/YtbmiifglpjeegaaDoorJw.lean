/- tuple.After; TupleAfter walked. -/
import Derived.Test.YtbmiifglpjeegaaDoorJs
import Derived.Test.YtbmiifglpjeegaaDoorJv
set_option linter.unusedVariables false
set_option linter.unusedSimpArgs false
namespace Go.Proofs.YtbmiifglpjeegaaDoor
open Go.RowKit Wd
section
variable {w0 w : World} {M : Mem} {L : List Ent}
set_option maxRecDepth 100000 in
theorem after_no (p : List UInt8) (hp : p = List.replicate p.length 255) (hl : p.length ≤ 1000000) :
    Calls Tryd.prog 16 #[.string (str p)] w fun e w' => e = .returned (.tuple #[.string (str []), .bool false]) ∧ w = w' := by
  have HP := Lib.hid hp
  clear hp
  go_enter Tryd.func16, Tryd.ntmps16
  go_wp2
  go_loopw [4] (fun i wr => ∃ j : Nat, j ≤ p.length ∧ i = .int .i64 j ∧ wr = w) (fun i _ => (intOf i).toNat)
  case atStart => exact ⟨p.length, Nat.le_refl _, rfl, rfl⟩
  case round =>
    obtain ⟨j, hj, rfl, rfl⟩ := hrel
    by_cases h0 : 0 < j
    · obtain ⟨i, hi⟩ : ∃ i, i = j - 1 := ⟨_, rfl⟩
      have e1 : (j : Int) - 1 = (i : Int) := by omega
      have ix := fun w => str_index (P := Tryd.prog) (k := .i64) (i := (i : Int)) Tryd.underlying9 p i (by omega) rfl w
      have h255 : p[i]'(by omega) = 255 := by
        have h : p[i]? = some 255 := by rw [HP.out, List.getElem?_replicate, if_pos (by omega)]
        rw [List.getElem?_eq_getElem (by omega)] at h
        injection h
      simp only [h255] at ix
      rw [show ((255 : UInt8).toNat : Int) = 255 from rfl] at ix
      have q1 : (0 : Int) < (j : Int) := by omega
      have HI := Lib.hid hi
      clear h255 hi
      go_wp2
      refine ⟨⟨i, by have := HI.out; omega, rfl, trivial⟩, ?_⟩
      have := HI.out
      simp [intOf]
      omega
    · obtain rfl : j = 0 := by omega
      clear h0
      go_wp2
      go_ret2
      exact ⟨rfl, rfl⟩
set_option maxRecDepth 100000 in
set_option maxHeartbeats 1000000 in
theorem after_yes (H : St w0 w M L) (p u : List UInt8) (x : UInt8) (k : Nat) (hp : p = u ++ x :: List.replicate k 255) (hx : x ≠ 255) (hl : p.length ≤ 1000000) :
    Calls Tryd.prog 16 #[.string (str p)] w fun e w' => e = .returned (.tuple #[.string (str (u ++ [x + 1])), .bool true]) ∧ St w0 w' M L := by
  obtain ⟨y, hy⟩ : ∃ y, y = x + 1 := ⟨_, rfl⟩
  have hyn : y.toNat = x.toNat + 1 := by rw [hy]; exact Tu.after_succ hx
  rw [← hy]
  have hpl : p.length = u.length + 1 + k := by rw [hp]; simp; omega
  have hpg : ∀ j, u.length < j → (h : j < p.length) → p[j] = 255 := fun j h1 h2 => by
    have h : p[j]? = some 255 := by
      rw [hp, List.getElem?_append_right (by omega)]
      obtain ⟨m, hm⟩ : ∃ m, j - u.length = m + 1 := ⟨j - u.length - 1, by omega⟩
      rw [hm, List.getElem?_cons_succ, List.getElem?_replicate, if_pos (by omega)]
    rw [List.getElem?_eq_getElem h2] at h
    injection h
  have hul : u.length < p.length := by omega
  have hpx : p[u.length]'hul = x := by
    have h : p[u.length]? = some x := by rw [hp, List.getElem?_append_right (Nat.le_refl _)]; simp
    rw [List.getElem?_eq_getElem (by omega)] at h
    injection h
  have htk : p.take u.length = u := by rw [hp]; simp
  have HPL := Lib.hid hpl
  have HPG := Lib.hid hpg
  have HPX := Lib.hid hpx
  have HTK := Lib.hid htk
  have HYN := Lib.hid hyn
  clear hp hpl hpg hpx htk hy hyn
  go_enter Tryd.func16, Tryd.ntmps16
  go_wp2
  go_loopw [4] (fun i wr => ∃ j : Nat, u.length < j ∧ j ≤ p.length ∧ i = .int .i64 j ∧ wr = w) (fun i _ => (intOf i).toNat)
  case atStart => exact ⟨p.length, by have := HPL.out; omega, Nat.le_refl _, rfl, rfl⟩
  case round =>
    obtain ⟨j, hju, hj, rfl, rfl⟩ := hrel
    obtain ⟨i, hi⟩ : ∃ i, i = j - 1 := ⟨_, rfl⟩
    have e1 : (j : Int) - 1 = (i : Int) := by omega
    have ix := fun w => str_index (P := Tryd.prog) (k := .i64) (i := (i : Int)) Tryd.underlying9 p i (by omega) rfl w
    have q1 : (0 : Int) < (j : Int) := by omega
    have q1n : ¬ j = 0 := by omega
    by_cases hlast : u.length + 1 < j
    · have h255 : p[i]'(by omega) = 255 := HPG.out i (by omega) (by omega)
      simp only [h255] at ix
      rw [show ((255 : UInt8).toNat : Int) = 255 from rfl] at ix
      have HI := Lib.hid hi
      clear h255 hi
      go_wp2
      refine ⟨⟨i, by have := HI.out; omega, by have := HI.out; omega, rfl, trivial⟩, ?_⟩
      have := HI.out
      simp [intOf]
      omega
    · have hiu : i = u.length := by omega
      subst hiu
      have hxx := HPX.out
      simp only [hxx] at ix
      have p1 : ((x.toNat : Int) == 255) = false := by
        simp only [beq_eq_false_iff_ne]
        intro h
        exact hx (UInt8.toNat_inj.1 (by show x.toNat = 255; omega))
      have q2 : ((j : Int) == 0) = false := by simp; omega
      have hub : u.length ≤ 1000000 := by omega
      have sl := fun w => str_to (P := Tryd.prog) (k := .i64) (i := (u.length : Int)) Tryd.underlying9 p u.length (by omega) rfl w
      rw [HTK.out] at sl
      have ey : (x.toNat : Int) + 1 = (y.toNat : Int) := by have := HYN.out; omega
      have hyl := y.toNat_lt
      have w2 : IntKind.u8.wrap (y.toNat : Int) = (y.toNat : Int) := by rw [IntKind.wrap_u8]; omega
      have w1 : IntKind.i64.wrap (u.length : Int) = (u.length : Int) := by rw [IntKind.wrap_i64]; omega
      have hadd : ∀ w, (Op.stringOp .add (str u) (str [y])).run Tryd.prog w = .ok (.string (str (u ++ [y]))) w := fun w => by
        exact run_string_add_lists w u [y] (by omega) (by simp)
      clear hi hlast hxx
      go_wp2
      refine Pt.wp_plan (fun w' => St w0 w' M L) (Pt.prs [0, 1, 2, 3, 4, 5, 6, 7, 8] (.go 9 (Pt.rds [10] (Pt.prs [11, 12, 13] .fin)))) [] Tryd.mixed (by kernel_rfl) (fun _ _ d _ _ h => by cases d <;> exact h) H.drew ?_
      have H2 := H.drew
      simp only [Pt.toL, Pt.rds, Pt.prs, Pt.at_, List.drop_succ_cons, List.drop_zero]
      iterate 9 (refine Pt.pr_run (v := ?_) (by rfl) ?_ ?_; rotate_left; (focus (intro w'; go_simp; with_reducible rfl)); simp only [Act.put, List.setIfInBounds_toArray, List.set_cons_zero, List.set_cons_succ])
      have H3 := H2.new [.int .u8 (y.toNat : Int)] 5
      refine Pt.run_go ?_
      go_wp2_with fail
      refine Pt.more (fun w' => St w0 w' M (eb wr.heap.size 5 [.int .u8 (y.toNat : Int)] :: L)) H3.d0 H3 ?_
      (refine Pt.rd_run (v := ?_) (by rfl) ?_ ?_; rotate_left; (focus (intro w' hS; have cv := conv_RB (P := Tryd.prog) (src := 47) (dst := 9) (n := 1) (c := 1) Tryd.underlying47 Tryd.underlying5 Tryd.underlying9 ((hS.2.blk 0 rfl).RB (l := [y]) (o := 0) rfl) rfl; go_simp; with_reducible rfl)); simp only [Act.put, List.setIfInBounds_toArray, List.set_cons_zero, List.set_cons_succ])
      iterate 3 (refine Pt.pr_run (v := ?_) (by rfl) ?_ ?_; rotate_left; (focus (intro w'; go_simp; with_reducible rfl)); simp only [Act.put, List.setIfInBounds_toArray, List.set_cons_zero, List.set_cons_succ])
      refine Pt.run_fin ?_
      go_wp2
      go_ret2
      exact ⟨rfl, H3.d0⟩
end
end Go.Proofs.YtbmiifglpjeegaaDoor
