/- A log at its place; the contracts of its small methods. -/
import Derived.Test.YtnaocjhhnlndmaaGg
import Derived.Test.YtnaocjhhnlndmaaFs
set_option linter.unusedVariables false
set_option linter.unusedSimpArgs false
namespace Go.Proofs.Ytnaocjhhnlndmaa
open Go.RowKit Wd
def lcells (f gen : Nat) (v : Value) (en : Nat) : List Value := [.pointer (some ⟨f, 0, none⟩), .int .u64 (gen : Int), v, .int .i64 (en : Int)]
/-- The log of file F: its generation, its records, their end. -/
def LS (w0 w : World) (M : Mem) (g f : Nat) (F : FM) (gen : Nat) (ls : List (List UInt8)) (en : Nat) (L : List Ent) : Prop :=
  ∃ v ps, Rows M ps ls ∧ FS w0 w M f F (eb g 68 (lcells f gen v en) :: er 22 1 v ps.length (ps.map Pc.v) :: L)
theorem Wd.St.shape8 {w0 w : World} {M : Mem} {L : List Ent} {e : TypeId} {sz n : Nat} {v : Value} {xs : List Value} (h : St w0 w M L) (i : Nat) (hi : L[i]? = some (er e sz v n xs)) : ∃ A c, v = .slice A n c ∧ n ≤ c ∧ (A = none → c = 0) ∧ c ≤ 9223372036854775807 := by
  have ho := h.own i hi
  rcases ho.2 with ⟨rfl, rfl⟩ | ⟨g, cap, cur, rfl, _, _, hc, hm, _⟩
  · exact ⟨_, _, rfl, Nat.le_refl _, fun _ => rfl, by omega⟩
  · exact ⟨_, _, rfl, hc, (by rintro ⟨⟩), hm⟩
section
variable {w0 w : World} {M : Mem} {L : List Ent} {g f gen en : Nat} {F : FM} {ls : List (List UInt8)}
theorem Fs_perm {L' : List Ent} (H : FS w0 w M f F L) (h : L.Perm L') : FS w0 w M f F L' := H.map fun Z _ h' => h'.perm (List.Perm.append_left Z h)
theorem Fs_b2 {a b c : Ent} (H : FS w0 w M f F (c :: a :: b :: L)) : FS w0 w M f F (a :: b :: c :: L) := Fs_perm H ((List.Perm.swap _ _ _).trans (List.Perm.cons a (List.Perm.swap _ _ _)))
theorem Fs_sub {L' : List Ent} (H : FS w0 w M f F L) (h : L'.Sublist L) : FS w0 w M f F L' := H.map fun Z _ h' => h'.sub (List.Sublist.append (List.Sublist.refl Z) h)
theorem Fs_d2 {a b c : Ent} (H : FS w0 w M f F (a :: b :: c :: L)) : FS w0 w M f F (a :: b :: L) := Fs_sub H (.cons_cons _ (.cons_cons _ (List.sublist_cons_self _ _)))
theorem LS.drew (H : LS w0 w M g f F gen ls en L) : LS w0 w.drew M g f F gen ls en L := by
  obtain ⟨v, ps, hr, H⟩ := H
  exact ⟨v, ps, hr, H.drew⟩
theorem LS.c0 (H : LS w0 w M g f F gen ls en L) : w.cell? ⟨g, 0, none⟩ = some (.pointer (some ⟨f, 0, none⟩)) := by
  obtain ⟨v, ps, hr, H⟩ := H
  exact H.cell 0 rfl 0
theorem LS.c1 (H : LS w0 w M g f F gen ls en L) : w.cell? ⟨g, 1, none⟩ = some (.int .u64 (gen : Int)) := by
  obtain ⟨v, ps, hr, H⟩ := H
  exact H.cell 0 rfl 1
theorem LS.c3 (H : LS w0 w M g f F gen ls en L) : w.cell? ⟨g, 3, none⟩ = some (.int .i64 (en : Int)) := by
  obtain ⟨v, ps, hr, H⟩ := H
  exact H.cell 0 rfl 3
theorem lblocks (H : LS w0 w M g f F gen ls en L) : Calls Try.prog 25 #[.pointer (some ⟨f, 0, none⟩)] w fun e w' => e = .returned (.int .i64 (F.n : Int)) ∧ w = w' := by
  obtain ⟨v, ps, hr, H⟩ := H
  exact fs_blocks H
theorem is_any (H : LS w0 w M g f F gen ls en L) : Calls Try.prog 34 #[.pointer (some ⟨g, 0, none⟩)] w fun e w' => e = .returned (.bool true) ∧ w = w' := by
  have c0 := H.c0
  go_enter Try.func34, Try.ntmps34
  go_wp2
  go_ret
  exact ⟨rfl, rfl⟩
set_option maxRecDepth 100000 in
theorem lsize_any (H : LS w0 w M g f F gen ls en L) (h1 : 2 ≤ F.n) (h2 : F.n ≤ 4096) (hg : gen < 18446744073709551616) :
    Calls Try.prog 35 #[.pointer (some ⟨g, 0, none⟩)] w fun e w' => e = .returned (.int .i64 ((64 * Lg.halfN F.n : Nat) : Int)) ∧ LS w0 w' M g f F gen ls en L := by
  obtain ⟨N, hN⟩ : ∃ N, N = Lg.halfN F.n := ⟨_, rfl⟩
  have hN2 : N ≤ 2047 := by rw [hN]; unfold Lg.halfN; omega
  obtain ⟨S, hS⟩ : ∃ S, S = 64 * N := ⟨_, rfl⟩
  have e1 : (N : Int) * 64 = (S : Int) := by omega
  have hh := fun w => half_any F.n gen h1 h2 hg w
  rw [← hN, ← hS]
  rw [← hN] at hh
  have HH := Lib.hid hh
  clear hh hN hS
  go_enter Try.func35, Try.ntmps35
  go_wp2
  refine Pt.wp_plan (fun w' => LS w0 w' M g f F gen ls en L) (Pt.prs [0, 1, 2, 5, 6, 7] (Pt.rds [3, 8] (.go 4 (.go 9 (Pt.prs [10, 11, 12, 13, 14] .fin))))) [] Try.mixed (by kernel_rfl) (fun _ _ d _ _ h => by cases d <;> exact h) H.drew ?_
  have H1 := H.drew
  simp only [Pt.toL, Pt.rds, Pt.prs, Pt.at_, List.drop_succ_cons, List.drop_zero]
  iterate 6 (refine Pt.pr_run (v := ?_) (by rfl) ?_ ?_; rotate_left; (focus (intro w'; go_simp; with_reducible rfl)); simp only [Act.put, List.setIfInBounds_toArray, List.set_cons_zero, List.set_cons_succ])
  (refine Pt.rd_run (v := ?_) (by rfl) ?_ ?_; rotate_left; (focus (intro w' hS; have c0 := hS.c0; go_simp; with_reducible rfl)); simp only [Act.put, List.setIfInBounds_toArray, List.set_cons_zero, List.set_cons_succ])
  (refine Pt.rd_run (v := ?_) (by rfl) ?_ ?_; rotate_left; (focus (intro w' hS; have c1 := hS.c1; go_simp; with_reducible rfl)); simp only [Act.put, List.setIfInBounds_toArray, List.set_cons_zero, List.set_cons_succ])
  refine Pt.run_go ?_
  go_wp2_with fail
  refine (lblocks H1).mono ?_
  rintro e w1 ⟨rfl, rfl⟩
  go_wp2_with fail
  refine Pt.same H1 ?_
  refine Pt.run_go ?_
  go_wp2_with fail
  refine (HH.out _).mono ?_
  rintro e w1 ⟨rfl, rfl⟩
  go_wp2_with fail
  refine Pt.same H1 ?_
  iterate 5 (refine Pt.pr_run (v := ?_) (by rfl) ?_ ?_; rotate_left; (focus (intro w'; go_simp; with_reducible rfl)); simp only [Act.put, List.setIfInBounds_toArray, List.set_cons_zero, List.set_cons_succ])
  refine Pt.run_fin ?_
  go_wp2
  go_ret
  exact ⟨rfl, H1⟩
theorem len_any (H : LS w0 w M g f F gen ls en L) : Calls Try.prog 17 #[.pointer (some ⟨g, 0, none⟩)] w fun e w' => e = .returned (.int .i64 (ls.length : Int)) ∧ w = w' := by
  have hi := is_any H
  obtain ⟨v, ps, hr, H⟩ := H
  obtain ⟨A, c, rfl, _⟩ := H.rest.shape 1 rfl
  have c2 : w.cell? ⟨g, 2, none⟩ = some (.slice A ps.length c) := H.cell 0 rfl 2
  rw [hr.len]
  have HI := Lib.hid hi
  clear hi hr
  go_enter Try.func17, Try.ntmps17
  go_wp2_with fail
  refine HI.out.mono ?_
  rintro e w' ⟨rfl, rfl⟩
  go_wp2
  go_ret
  exact ⟨rfl, rfl⟩
/-- How many bytes a record may have. -/
def Lg.room (size en : Nat) : Nat := min 65535 (size - en - 6)
set_option maxRecDepth 100000 in
theorem room_any (H : LS w0 w M g f F gen ls en L) (h1 : 2 ≤ F.n) (h2 : F.n ≤ 4096) (hg : gen < 18446744073709551616) (he : en ≤ 1000000) :
    Calls Try.prog 19 #[.pointer (some ⟨g, 0, none⟩)] w fun e w' => e = .returned (.int .i64 (Lg.room (64 * Lg.halfN F.n) en : Int)) ∧ LS w0 w' M g f F gen ls en L := by
  obtain ⟨N, hN⟩ : ∃ N, N = 64 * Lg.halfN F.n := ⟨_, rfl⟩
  have hN2 : N ≤ 131072 := by rw [hN]; unfold Lg.halfN; omega
  have hz := fun w (H : LS w0 w M g f F gen ls en L) => lsize_any H h1 h2 hg
  rw [← hN] at hz
  rw [← hN]
  obtain ⟨R, hR⟩ : ∃ R, R = Lg.room N en := ⟨_, rfl⟩
  have hR2 : (R : Int) = min 65535 (max 0 ((N : Int) - (en : Int) - 6)) := by rw [hR]; unfold Lg.room; omega
  rw [← hR]
  have HZ := Lib.hid hz
  have HI := Lib.hid (is_any H)
  have HR := Lib.hid hR2
  clear hz hN hR hR2
  go_enter Try.func19, Try.ntmps19
  go_wp2_with fail
  refine HI.out.mono ?_
  rintro e w' ⟨rfl, rfl⟩
  go_wp2
  refine Pt.wp_plan (fun w' => LS w0 w' M g f F gen ls en L) (Pt.prs [0, 2, 3, 4] (Pt.rds [5] (.go 1 (Pt.prs [6, 7, 8, 9, 10] .fin)))) [] Try.mixed (by kernel_rfl) (fun _ _ d _ _ h => by cases d <;> exact h) H.drew ?_
  have H1 := H.drew
  simp only [Pt.toL, Pt.rds, Pt.prs, Pt.at_, List.drop_succ_cons, List.drop_zero]
  iterate 4 (refine Pt.pr_run (v := ?_) (by rfl) ?_ ?_; rotate_left; (focus (intro w'; go_simp; with_reducible rfl)); simp only [Act.put, List.setIfInBounds_toArray, List.set_cons_zero, List.set_cons_succ])
  (refine Pt.rd_run (v := ?_) (by rfl) ?_ ?_; rotate_left; (focus (intro w' hS; have c3 := hS.c3; go_simp; with_reducible rfl)); simp only [Act.put, List.setIfInBounds_toArray, List.set_cons_zero, List.set_cons_succ])
  refine Pt.run_go ?_
  go_wp2_with fail
  refine (HZ.out _ H1).mono ?_
  rintro e w1 ⟨rfl, H2⟩
  go_wp2_with fail
  refine Pt.same H2 ?_
  have w1' : IntKind.i64.wrap ((N : Int) - (en : Int)) = (N : Int) - (en : Int) := by rw [IntKind.wrap_i64]; omega
  have w2' : IntKind.i64.wrap ((N : Int) - (en : Int) - 6) = (N : Int) - (en : Int) - 6 := by rw [IntKind.wrap_i64]; omega
  iterate 5 (refine Pt.pr_run (v := ?_) (by rfl) ?_ ?_; rotate_left; (focus (intro w'; go_simp; with_reducible rfl)); simp only [Act.put, List.setIfInBounds_toArray, List.set_cons_zero, List.set_cons_succ])
  refine Pt.run_fin ?_
  have hx : (if (if 6 < (N : Int) - (en : Int) then (N : Int) - (en : Int) - 6 else 0) < 65535 then (if 6 < (N : Int) - (en : Int) then (N : Int) - (en : Int) - 6 else 0) else 65535) = (R : Int) := by
    rw [HR.out]
    split <;> split <;> omega
  rw [hx]
  go_wp2
  all_goals (go_ret; exact ⟨rfl, H2⟩)
/-- A record of it: bytes of their own. -/
theorem get_any (H : LS w0 w M g f F gen ls en L) (i : Nat) (hi : i < ls.length) (hl : ∀ l ∈ ls, l.length < 140737488355000) :
    Calls Try.prog 24 #[.pointer (some ⟨g, 0, none⟩), .int .i64 (i : Int)] w fun e w' => ∃ v, e = .returned (.tuple #[v, .bool true]) ∧ LS w0 w' M g f F gen ls en (er 5 1 v ls[i].length (bv ls[i]) :: L) := by
  have hlen := len_any H
  obtain ⟨v, ps, hr, H⟩ := H
  have hip : i < ps.length := by rw [← hr.len]; exact hi
  obtain ⟨A, c, rfl, hc⟩ := H.rest.shape 1 rfl
  have c2 : w.cell? ⟨g, 2, none⟩ = some (.slice A ps.length c) := H.cell 0 rfl 2
  obtain ⟨b, o, rfl, hci⟩ := SrA.at (er_RA (H.rest.get 1 rfl)) i (by rw [List.length_map]; exact hip)
  rw [List.getElem_map] at hci
  have hp := hr.2 ps[i] (List.getElem_mem hip)
  have hpl : ls[i] = (ps[i]).l := by
    have h1 : ls[i]? = some (ps[i]).l := by rw [← hr.1, List.getElem?_map, List.getElem?_eq_getElem hip]; rfl
    rw [List.getElem?_eq_getElem hi] at h1
    injection h1
  have hlb := hl _ (List.getElem_mem hi)
  rw [hpl] at hlb ⊢
  obtain ⟨p, hpe⟩ : ∃ p, p = ps[i] := ⟨_, rfl⟩
  rw [← hpe] at hci hp hlb ⊢
  change World.cell? _ _ = some (Value.slice p.A p.n p.c) at hci
  obtain ⟨⟨o1, o2, o3⟩, o4⟩ := hp
  obtain ⟨Z, HZ, hback⟩ := H.out0
  have hcl := clone_any HZ (A := p.A) (c := p.c) (l := p.l) o2 (by rw [← o1]; exact o3) (Sr.of_in o4) hlb
  rw [← o1] at hcl
  have q1 : (i : Int) < (ls.length : Int) := by omega
  have q2 : (i : Int) < (ps.length : Int) := by omega
  have q3 : ¬ (i : Int) < 0 := by omega
  have HLN := Lib.hid hlen
  have HCL := Lib.hid hcl
  have O1 := Lib.hid o1
  obtain ⟨N, hN⟩ : ∃ N, N = p.n := ⟨_, rfl⟩
  obtain ⟨B, hB⟩ : ∃ B, B = p.A := ⟨_, rfl⟩
  obtain ⟨C, hC⟩ : ∃ C, C = p.c := ⟨_, rfl⟩
  rw [← hN, ← hB, ← hC] at hci HCL
  rw [← hN] at O1
  rw [← O1.out]
  clear hlen hcl o1 o2 o3 o4 hN hB hC hpl hlb hpe hi hip hc
  go_enter Try.func24, Try.ntmps24
  go_wp2_with fail
  refine HLN.out.mono ?_
  rintro e w' ⟨rfl, rfl⟩
  go_wp2_with fail
  refine HCL.out.mono ?_
  rintro e w' ⟨v', rfl, H2⟩
  go_wp2
  go_ret2
  exact ⟨_, rfl, _, ps, hr, Fs_b2 (hback.2 _ _ _ H2)⟩
end
end Go.Proofs.Ytnaocjhhnlndmaa
