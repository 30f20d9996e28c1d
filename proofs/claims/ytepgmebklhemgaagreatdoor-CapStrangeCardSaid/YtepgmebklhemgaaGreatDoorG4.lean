/- A log at its place; the contracts of its small methods. -/
import Derived.Test.YtepgmebklhemgaaGreatDoorA6
import Derived.Test.YtepgmebklhemgaaGreatDoorA4
set_option linter.unusedVariables false
set_option linter.unusedSimpArgs false
namespace Go.Proofs.YtepgmebklhemgaaGreatDoor
open Go.RowKit Wd
def lcells (f gen : Nat) (v : Value) (en : Nat) : List Value := [.pointer (some ⟨f, 0, none⟩), .int .u64 (gen : Int), v, .int .i64 (en : Int)]
/-- The log of file F: its generation, its records, their end. -/
def LS (w0 w : World) (M : Mem) (g f : Nat) (F : FM) (gen : Nat) (ls : List (List UInt8)) (en : Nat) (L : List Ent) : Prop :=
  ∃ v ps, Rows M ps ls ∧ FS w0 w M f F (eb g 170 (lcells f gen v en) :: er 30 1 v ps.length (ps.map Pc.v) :: L)
theorem Wd.St.shape8 {w0 w : World} {M : Mem} {L : List Ent} {e : TypeId} {sz n : Nat} {v : Value} {xs : List Value} (h : St w0 w M L) (i : Nat) (hi : L[i]? = some (er e sz v n xs)) : ∃ A c, v = .slice A n c ∧ n ≤ c ∧ (A = none → c = 0) ∧ c ≤ 9223372036854775807 := by
  have ho := h.own i hi
  rcases ho.2 with ⟨rfl, rfl⟩ | ⟨g, cap, cur, rfl, _, _, hc, hm, _⟩
  · exact ⟨_, _, rfl, Nat.le_refl _, fun _ => rfl, by omega⟩
  · exact ⟨_, _, rfl, hc, (by rintro ⟨⟩), hm⟩
section
variable {w0 w : World} {M : Mem} {L : List Ent} {g f gen en : Nat} {F : FM} {ls : List (List UInt8)}
theorem Fs_perm {L' : List Ent} (H : FS w0 w M f F L) (h : L.Perm L') : FS w0 w M f F L' := H.map fun Z _ h' => h'.perm (List.Perm.append_left Z h)
theorem Fs_b2 {a b c : Ent} (H : FS w0 w M f F (c :: a :: b :: L)) : FS w0 w M f F (a :: b :: c :: L) := Fs_perm H ((List.Perm.swap _ _ _).trans (List.Perm.cons a (List.Perm.swap _ _ _)))
theorem Fs_sub {L' : List Ent} (H : FS w0 w M f F L) (h : L'.Sublist L) : FS w0 w M f F L' := H.map fun Z _ h' => h'.sub (List.Sublist.append (List.Sublist.refl Z) h)
theorem Fs_d2 {a b c : Ent} (H : FS w0 w M f F (a :: b :: c :: L)) : FS w0 w M f F (a :: b :: L) := Fs_sub H (.cons_cons _ (.cons_cons _ (List.sublist_cons_self _ _)))
theorem LS.drew (H : LS w0 w M g f F gen ls en L) : LS w0 w.drew M g f F gen ls en L := by
  obtain ⟨v, ps, hr, H⟩ := H
  exact ⟨v, ps, hr, H.drew⟩
theorem LS.c0 (H : LS w0 w M g f F gen ls en L) : w.cell? ⟨g, 0, none⟩ = some (.pointer (some ⟨f, 0, none⟩)) := by
  obtain ⟨v, ps, hr, H⟩ := H
  exact H.cell 0 rfl 0
theorem LS.c1 (H : LS w0 w M g f F gen ls en L) : w.cell? ⟨g, 1, none⟩ = some (.int .u64 (gen : Int)) := by
  obtain ⟨v, ps, hr, H⟩ := H
  exact H.cell 0 rfl 1
theorem LS.c3 (H : LS w0 w M g f F gen ls en L) : w.cell? ⟨g, 3, none⟩ = some (.int .i64 (en : Int)) := by
  obtain ⟨v, ps, hr, H⟩ := H
  exact H.cell 0 rfl 3
theorem lblocks (H : LS w0 w M g f F gen ls en L) : Calls Tryz.prog 33 #[.pointer (some ⟨f, 0, none⟩)] w fun e w' => e = .returned (.int .i64 (F.n : Int)) ∧ w = w' := by
  obtain ⟨v, ps, hr, H⟩ := H
  exact fs_blocks H
theorem is_any (H : LS w0 w M g f F gen ls en L) : Calls Tryz.prog 96 #[.pointer (some ⟨g, 0, none⟩)] w fun e w' => e = .returned (.bool true) ∧ w = w' := by
  have c0 := H.c0
  go_enter Tryz.func96, Tryz.ntmps96
  go_wp2
  go_ret
  exact ⟨rfl, rfl⟩
set_option maxRecDepth 100000 in
theorem lsize_any (H : LS w0 w M g f F gen ls en L) (h1 : 2 ≤ F.n) (h2 : F.n ≤ 4096) (hg : gen < 18446744073709551616) :
    Calls Tryz.prog 97 #[.pointer (some ⟨g, 0, none⟩)] w fun e w' => e = .returned (.int .i64 ((64 * Lg.halfN F.n : Nat) : Int)) ∧ LS w0 w' M g f F gen ls en L := by
  obtain ⟨N, hN⟩ : ∃ N, N = Lg.halfN F.n := ⟨_, rfl⟩
  have hN2 : N ≤ 2047 := by rw [hN]; unfold Lg.halfN; omega
  obtain ⟨S, hS⟩ : ∃ S, S = 64 * N := ⟨_, rfl⟩
  have e1 : (N : Int) * 64 = (S : Int) := by omega
  have hh := fun w => half_any F.n gen h1 h2 hg w
  rw [← hN, ← hS]
  rw [← hN] at hh
  have HH := Lib.hid hh
  clear hh hN hS
  go_enter Tryz.func97, Tryz.ntmps97
  go_wp2
  refine Pt.wp_plan (fun w' => LS w0 w' M g f F gen ls en L) (Pt.prs [0, 1, 2, 5, 6, 7] (Pt.rds [3, 8] (.go 4 (.go 9 (Pt.prs [10, 11, 12, 13, 14] .fin))))) [] Tryz.mixed (by kernel_rfl) (fun _ _ d _ _ h => by cases d <;> exact h) H.drew ?_
  have H1 := H.drew
  simp only [Pt.toL, Pt.rds, Pt.prs, Pt.at_, List.drop_succ_cons, List.drop_zero]
  iterate 6 (refine Pt.pr_run (v := ?_) (by rfl) ?_ ?_; rotate_left; (focus (intro w'; go_simp; with_reducible rfl)); simp only [Act.put, List.setIfInBounds_toArray, List.set_cons_zero, List.set_cons_succ])
  (refine Pt.rd_run (v := ?_) (by rfl) ?_ ?_; rotate_left; (focus (intro w' hS; have c0 := hS.c0; go_simp; with_reducible rfl)); simp only [Act.put, List.setIfInBounds_toArray, List.set_cons_zero, List.set_cons_succ])
  (refine Pt.rd_run (v := ?_) (by rfl) ?_ ?_; rotate_left; (focus (intro w' hS; have c1 := hS.c1; go_simp; with_reducible rfl)); simp only [Act.put, List.setIfInBounds_toArray, List.set_cons_zero, List.set_cons_succ])
  refine Pt.run_go ?_
  go_wp2_with fail
  refine (lblocks H1).mono ?_
  rintro e w1 ⟨rfl, rfl⟩
  go_wp2_with fail
  refine Pt.same H1 ?_
  refine Pt.run_go ?_
  go_wp2_with fail
  refine (HH.out _).mono ?_
  rintro e w1 ⟨rfl, rfl⟩
  go_wp2_with fail
  refine Pt.same H1 ?_
  iterate 5 (refine Pt.pr_run (v := ?_) (by rfl) ?_ ?_; rotate_left; (focus (intro w'; go_simp; with_reducible rfl)); simp only [Act.put, List.setIfInBounds_toArray, List.set_cons_zero, List.set_cons_succ])
  refine Pt.run_fin ?_
  go_wp2
  go_ret
  exact ⟨rfl, H1⟩
theorem len_any (H : LS w0 w M g f F gen ls en L) : Calls Tryz.prog 81 #[.pointer (some ⟨g, 0, none⟩)] w fun e w' => e = .returned (.int .i64 (ls.length : Int)) ∧ w = w' := by
  have hi := is_any H
  obtain ⟨v, ps, hr, H⟩ := H
  obtain ⟨A, c, rfl, _⟩ := H.rest.shape 1 rfl
  have c2 : w.cell? ⟨g, 2, none⟩ = some (.slice A ps.length c) := H.cell 0 rfl 2
  rw [hr.len]
  have HI := Lib.hid hi
  clear hi hr
  go_enter Tryz.func81, Tryz.ntmps81
  go_wp2_with fail
  refine HI.out.mono ?_
  rintro e w' ⟨rfl, rfl⟩
  go_wp2
  go_ret
  exact ⟨rfl, rfl⟩
/-- How many bytes a record may have. -/
def Lg.room (size en : Nat) : Nat := min 65535 (size - en - 6)
set_option maxRecDepth 100000 in
theorem room_any (H : LS w0 w M g f F gen ls en L) (h1 : 2 ≤ F.n) (h2 : F.n ≤ 4096) (hg : gen < 18446744073709551616) (he : en ≤ 1000000) :
    Calls Tryz.prog 69 #[.pointer (some ⟨g, 0, none⟩)] w fun e w' => e = .returned (.int .i64 (Lg.room (64 * Lg.halfN F.n) en : Int)) ∧ LS w0 w' M g f F gen ls en L := by
  obtain ⟨N, hN⟩ : ∃ N, N = 64 * Lg.halfN F.n := ⟨_, rfl⟩
  have hN2 : N ≤ 131072 := by rw [hN]; unfold Lg.halfN; omega
  have hz := fun w (H : LS w0 w M g f F gen ls en L) => lsize_any H h1 h2 hg
  rw [← hN] at hz
  rw [← hN]
  obtain ⟨R, hR⟩ : ∃ R, R = Lg.room N en := ⟨_, rfl⟩
  have hR2 : (R : Int) = min 65535 (max 0 ((N : Int) - (en : Int) - 6)) := by rw [hR]; unfold Lg.room; omega
  rw [← hR]
  have HZ := Lib.hid hz
  have HI := Lib.hid (is_any H)
  have HR := Lib.hid hR2
  clear hz hN hR hR2
  go_enter Tryz.func69, Tryz.ntmps69
  go_wp2_with fail
  refine HI.out.mono ?_
  rintro e w' ⟨rfl, rfl⟩
  go_wp2
  refine Pt.wp_plan (fun w' => LS w0 w' M g f F gen ls en L) (Pt.prs [0, 2, 3, 4] (Pt.rds [5] (.go 1 (Pt.prs [6, 7, 8, 9, 10] .fin)))) [] Tryz.mixed (by kernel_rfl) (fun _ _ d _ _ h => by cases d <;> exact h) H.drew ?_
  have H1 := H.drew
  simp only [Pt.toL, Pt.rds, Pt.prs, Pt.at_, List.drop_succ_cons, List.drop_zero]
  iterate 4 (refine Pt.pr_run (v := ?_) (by rfl) ?_ ?_; rotate_left; (focus (intro w'; go_simp; with_reducible rfl)); simp only [Act.put, List.setIfInBounds_toArray, List.set_cons_zero, List.set_cons_succ])
  (refine Pt.rd_run (v := ?_) (by rfl) ?_ ?_; rotate_left; (focus (intro w' hS; have c3 := hS.c3; go_simp; with_reducible rfl)); simp only [Act.put, List.setIfInBounds_toArray, List.set_cons_zero, List.set_cons_succ])
  refine Pt.run_go ?_
  go_wp2_with fail
  refine (HZ.out _ H1).mono ?_
  rintro e w1 ⟨rfl, H2⟩
  go_wp2_with fail
  refine Pt.same H2 ?_
  have w1' : IntKind.i64.wrap ((N : Int) - (en : Int)) = (N : Int) - (en : Int) := by rw [IntKind.wrap_i64]; omega
  have w2' : IntKind.i64.wrap ((N : Int) - (en : Int) - 6) = (N : Int) - (en : Int) - 6 := by rw [IntKind.wrap_i64]; omega
  iterate 5 (refine Pt.pr_run (v := ?_) (by rfl) ?_ ?_; rotate_left; (focus (intro w'; go_simp; with_reducible rfl)); simp only [Act.put, List.setIfInBounds_toArray, List.set_cons_zero, List.set_cons_succ])
  refine Pt.run_fin ?_
  have hx : (if (if 6 < (N : Int) - (en : Int) then (N : Int) - (en : Int) - 6 else 0) < 65535 then (if 6 < (N : Int) - (en : Int) then (N : Int) - (en : Int) - 6 else 0) else 65535) = (R : Int) := by
    rw [HR.out]
    split <;> split <;> omega
  rw [hx]
  go_wp2
  all_goals (go_ret; exact ⟨rfl, H2⟩)
/-- A record of it: bytes of their own. -/
theorem get_any (H : LS w0 w M g f F gen ls en L) (i : Nat) (hi : i < ls.length) (hl : ∀ l ∈ ls, l.length < 140737488355000) :
    Calls Tryz.prog 82 #[.pointer (some ⟨g, 0, none⟩), .int .i64 (i : Int)] w fun e w' => ∃ v, e = .returned (.tuple #[v, .bool true]) ∧ LS w0 w' M g f F gen ls en (er 5 1 v ls[i].length (bv ls[i]) :: L) := by
  have hlen := len_any H
  obtain ⟨v, ps, hr, H⟩ := H
  have hip : i < ps.length := by rw [← hr.len]; exact hi
  obtain ⟨A, c, rfl, hc⟩ := H.rest.shape 1 rfl
  have c2 : w.cell? ⟨g, 2, none⟩ = some (.slice A ps.length c) := H.cell 0 rfl 2
  obtain ⟨b, o, rfl, hci⟩ := SrA.at (er_RA (H.rest.get 1 rfl)) i (by rw [List.length_map]; exact hip)
  rw [List.getElem_map] at hci
  have hp := hr.2 ps[i] (List.getElem_mem hip)
  have hpl : ls[i] = (ps[i]).l := by
    have h1 : ls[i]? = some (ps[i]).l := by rw [← hr.1, List.getElem?_map, List.getElem?_eq_getElem hip]; rfl
    rw [List.getElem?_eq_getElem hi] at h1
    injection h1
  have hlb := hl _ (List.getElem_mem hi)
  rw [hpl] at hlb ⊢
  obtain ⟨p, hpe⟩ : ∃ p, p = ps[i] := ⟨_, rfl⟩
  rw [← hpe] at hci hp hlb ⊢
  change World.cell? _ _ = some (Value.slice p.A p.n p.c) at hci
  obtain ⟨⟨o1, o2, o3⟩, o4⟩ := hp
  obtain ⟨Z, HZ, hback⟩ := H.out0
  have hcl := clone_any HZ (A := p.A) (c := p.c) (l := p.l) o2 (by rw [← o1]; exact o3) (Sr.of_in o4) hlb
  rw [← o1] at hcl
  have q1 : (i : Int) < (ls.length : Int) := by omega
  have q2 : (i : Int) < (ps.length : Int) := by omega
  have q3 : ¬ (i : Int) < 0 := by omega
  have HLN := Lib.hid hlen
  have HCL := Lib.hid hcl
  have O1 := Lib.hid o1
  obtain ⟨N, hN⟩ : ∃ N, N = p.n := ⟨_, rfl⟩
  obtain ⟨B, hB⟩ : ∃ B, B = p.A := ⟨_, rfl⟩
  obtain ⟨C, hC⟩ : ∃ C, C = p.c := ⟨_, rfl⟩
  rw [← hN, ← hB, ← hC] at hci HCL
  rw [← hN] at O1
  rw [← O1.out]
  clear hlen hcl o1 o2 o3 o4 hN hB hC hpl hlb hpe hi hip hc
  go_enter Tryz.func82, Tryz.ntmps82
  go_wp2_with fail
  refine HLN.out.mono ?_
  rintro e w' ⟨rfl, rfl⟩
  go_wp2_with fail
  refine HCL.out.mono ?_
  rintro e w' ⟨v', rfl, H2⟩
  go_wp2
  go_ret2
  exact ⟨_, rfl, _, ps, hr, Fs_b2 (hback.2 _ _ _ H2)⟩
end
end Go.Proofs.YtepgmebklhemgaaGreatDoor
/- The contract of log.Open. -/
set_option linter.unusedVariables false
set_option linter.unusedSimpArgs false
namespace Go.Proofs.YtepgmebklhemgaaGreatDoor
open Go.RowKit Wd
theorem Lg.half_le (n g : Nat) (h : 2 ≤ n) : Lg.halfFrom n g + Lg.halfN n ≤ n := by
  unfold Lg.halfFrom Lg.halfN
  have : g % 2 = 0 ∨ g % 2 = 1 := by omega
  rcases this with h0 | h0 <;> rw [h0] <;> omega
/-- A log that was opened. -/
def RetOpen (w0 : World) (M : Mem) (f : Nat) (F : FM) (L : List Ent) (gen : Nat) (ls : List (List UInt8)) (en : Nat) (e : Ending) (w' : World) : Prop :=
  ∃ g M', e = .returned (.tuple #[.pointer (some ⟨g, 0, none⟩), .int .i64 0]) ∧ M.le M' ∧ LS w0 w' M' g f F gen ls en L
theorem Tryz.zero68 : (Tryz.prog.info? 170).map (fun i => (i.zero, i.size)) = some (some (.agg #[.pointer none, .int .u64 0, .slice none 0 0, .int .i64 0]), 4) := by kernel_rfl
section
variable {w0 w : World} {M : Mem} {L : List Ent} {f : Nat} {F : FM}
set_option maxRecDepth 100000 in
set_option maxHeartbeats 1000000 in
theorem open_any (H : FS w0 w M f F L) (h6 : 6 ≤ F.n) :
    Calls Tryz.prog 80 #[.pointer (some ⟨f, 0, none⟩)] w fun e w' =>
      RetOpen w0 M f F L (Lg.generation F.l) (Lg.records (Lg.generation F.l) (Lg.half F.l (Lg.generation F.l))).1 (Lg.records (Lg.generation F.l) (Lg.half F.l (Lg.generation F.l))).2 e w' := by
  have hok := H.1
  have hFl : F.l.length = 64 * F.n := hok.len
  have hF2 : F.n ≤ 4096 := hok.n2
  obtain ⟨G, hG⟩ : ∃ G, G = Lg.generation F.l := ⟨_, rfl⟩
  have hGl : G < 18446744073709551616 := by rw [hG]; exact Lg.generation_lt _
  obtain ⟨hb, hhb⟩ : ∃ hb, hb = Lg.half F.l G := ⟨_, rfl⟩
  obtain ⟨N, hN⟩ : ∃ N, N = Lg.halfN F.n := ⟨_, rfl⟩
  obtain ⟨fr, hfr⟩ : ∃ fr, fr = Lg.halfFrom F.n G := ⟨_, rfl⟩
  have hle : fr + N ≤ F.n := by rw [hfr, hN]; exact Lg.half_le _ _ (by omega)
  have hN2 : 2 ≤ N ∧ N ≤ 2047 := by rw [hN]; unfold Lg.halfN; omega
  have hhe : hb = (F.l.drop (64 * fr)).take (64 * N) := by
    rw [hhb]; unfold Lg.half; rw [hFl, Nat.mul_div_cancel_left _ (by decide), ← hfr, ← hN]
  have hhl : hb.length = 64 * N := by rw [hhe, List.length_take, List.length_drop, hFl]; omega
  obtain ⟨o1, ho1⟩ : ∃ o1, o1 = 64 * fr := ⟨_, rfl⟩
  obtain ⟨sm, hsm⟩ : ∃ sm, sm = fr + N := ⟨_, rfl⟩
  obtain ⟨o2, ho2⟩ : ∃ o2, o2 = 64 * sm := ⟨_, rfl⟩
  obtain ⟨hn, hhn⟩ : ∃ hn, hn = 64 * N := ⟨_, rfl⟩
  have e1 : (fr : Int) * 64 = (o1 : Int) := by omega
  have e2 : (fr : Int) + (N : Int) = (sm : Int) := by omega
  have e3 : (sm : Int) * 64 = (o2 : Int) := by omega
  have w1 : IntKind.i64.wrap (o1 : Int) = (o1 : Int) := by rw [IntKind.wrap_i64]; omega
  have w2 : IntKind.i64.wrap (sm : Int) = (sm : Int) := by rw [IntKind.wrap_i64]; omega
  have w3 : IntKind.i64.wrap (o2 : Int) = (o2 : Int) := by rw [IntKind.wrap_i64]; omega
  have e4 : o2 - o1 = hn := by omega
  have e5 : o1 ≤ o2 := by omega
  have e6 : o2 ≤ 64 * F.n := by omega
  have e7 : o1 < o2 := by omega
  rw [← ho1, ← hhn] at hhe
  rw [← hhn] at hhl
  have hhm : hn ≤ 131072 := by omega
  have hgen := fun (w : World) (M : Mem) (L : List Ent) (H : St w0 w M L) A c (hl : Sr w0 M L A F.l) (hc : 64 * F.n ≤ c) (hc2 : c ≤ 9223372036854775807) => generation_any H (c := c) hFl.symm hl (by omega) hc hc2
  rw [← hG] at hgen
  have hhf := fun w => half_any F.n G (by omega) hF2 hGl w
  rw [← hfr, ← hN] at hhf
  rw [← hG, ← hhb]
  have h6' : ¬ (F.n : Int) < 6 := by omega
  have HGEN := Lib.hid hgen
  have HHF := Lib.hid hhf
  have HHE := Lib.hid hhe
  have HHL := Lib.hid hhl
  have HE6 := Lib.hid e6
  clear hG hhb hN hfr hle hN2 hhe hhl ho1 hsm ho2 hhn hgen hhf hok hFl hF2 e6 h6
  go_enter Tryz.func80, Tryz.ntmps80
  go_wp2_with fail
  refine (fs_blocks H).mono ?_
  rintro e x1 ⟨rfl, rfl⟩
  go_wp2_with fail
  refine (fs_dump H).mono ?_
  rintro e x1 ⟨g0, c0, rfl, H1⟩
  obtain ⟨ok, lb, pv, H2⟩ := H1
  obtain ⟨A0, c1, hA0, hc1, _, hc2⟩ := H2.shape8 3 rfl
  injection hA0 with hA1 hA2 hA3
  subst hA1 hA3
  have s0 : Sr w0 M (ef f lb F pv (er 5 1 (.slice (some ⟨g0, 0, none⟩) (64 * F.n) c0) (64 * F.n) (bv F.l) :: L)) (some ⟨g0, 0, none⟩) F.l := Sr.row 3 rfl
  go_wp2_with fail
  refine (HGEN.out _ _ _ H2 _ _ s0 hc1 hc2).mono ?_
  rintro e x2 ⟨rfl, H3⟩
  have H4 : FS w0 x2 M f F (er 5 1 (.slice (some ⟨g0, 0, none⟩) (64 * F.n) c0) (64 * F.n) (bv F.l) :: L) := ⟨ok, lb, pv, H3⟩
  go_wp2
  have H5 := H4.newg (lcells f G (.slice none 0 0) 0) 170 rfl
  simp only [lcells, Int.natCast_zero, Int.ofNat_zero] at H5
  generalize hxx : x2.alloc _ = x3 at *
  generalize hgg : x2.heap.size = g at *
  clear H2 H3 H4 hxx hgg s0
  refine Pt.wp_plan (fun w' => w'.cell? ⟨g, 1, none⟩ = some (.int .u64 (G : Int))) (Pt.prs [0, 2, 3, 4] (Pt.rds [5] (.go 1 (.go 6 (Pt.prs [7, 8, 9, 10, 11] .fin))))) [] Tryz.mixed (by kernel_rfl) (fun _ _ d _ _ h => by cases d <;> exact h) (H5.drew.cell 0 rfl 1) ?_
  have H6 := H5.drew
  clear H5
  simp only [Pt.toL, Pt.rds, Pt.prs, Pt.at_, List.drop_succ_cons, List.drop_zero]
  iterate 4 (refine Pt.pr_run (v := ?_) (by rfl) ?_ ?_; rotate_left; (focus (intro w'; go_simp; with_reducible rfl)); simp only [Act.put, List.setIfInBounds_toArray, List.set_cons_zero, List.set_cons_succ])
  (refine Pt.rd_run (v := ?_) (by rfl) ?_ ?_; rotate_left; (focus (intro w' hS; obtain s0 := hS; go_simp; with_reducible rfl)); simp only [Act.put, List.setIfInBounds_toArray, List.set_cons_zero, List.set_cons_succ])
  refine Pt.run_go ?_
  go_wp2_with fail
  refine (fs_blocks H6).mono ?_
  rintro e x4 ⟨rfl, rfl⟩
  go_wp2_with fail
  refine Pt.same (H6.cell 0 rfl 1) ?_
  refine Pt.run_go ?_
  go_wp2_with fail
  refine (HHF.out _).mono ?_
  rintro e x4 ⟨rfl, rfl⟩
  go_wp2_with fail
  refine Pt.same (H6.cell 0 rfl 1) ?_
  iterate 5 (refine Pt.pr_run (v := ?_) (by rfl) ?_ ?_; rotate_left; (focus (intro w'; go_simp; with_reducible rfl)); simp only [Act.put, List.setIfInBounds_toArray, List.set_cons_zero, List.set_cons_succ])
  refine Pt.run_fin ?_
  have e6 := HE6.out
  have hco : (o2 : Int) ≤ (c0 : Int) := by omega
  have hce : ¬ c0 = o1 := by omega
  have hs1 : hn ≤ c0 - o1 := by omega
  have hs2 : c0 - o1 ≤ 9223372036854775807 := by omega
  have HS1 := Lib.hid hs1
  have HS2 := Lib.hid hs2
  clear e6 hs1 hs2 hc1
  go_wp2
  refine Pt.wp_plan (fun w' => w'.cell? ⟨g, 1, none⟩ = some (.int .u64 (G : Int))) (Pt.prs [0, 1, 2, 3, 4, 6, 7, 8, 9, 10, 11, 12, 13] (Pt.rds [5] (.go 14 (Pt.prs [15, 16, 17, 18, 19] (.go 20 (Pt.prs [21, 22] (.go 23 .fin))))))) [] Tryz.mixed (by kernel_rfl) (fun _ _ d _ _ h => by cases d <;> exact h) (H6.drew.cell 0 rfl 1) ?_
  have H7 := H6.drew
  clear H6
  simp only [Pt.toL, Pt.rds, Pt.prs, Pt.at_, List.drop_succ_cons, List.drop_zero]
  iterate 13 (refine Pt.pr_run (v := ?_) (by rfl) ?_ ?_; rotate_left; (focus (intro w'; go_simp; with_reducible rfl)); simp only [Act.put, List.setIfInBounds_toArray, List.set_cons_zero, List.set_cons_succ])
  (refine Pt.rd_run (v := ?_) (by rfl) ?_ ?_; rotate_left; (focus (intro w' hS; obtain s0 := hS; go_simp; with_reducible rfl)); simp only [Act.put, List.setIfInBounds_toArray, List.set_cons_zero, List.set_cons_succ])
  refine Pt.run_go ?_
  obtain ⟨ok2, lb2, pv2, H8⟩ := H7
  have sr := (Sr.row 4 rfl : Sr w0 M (ef f lb2 F pv2 (eb g 170 [.pointer (some ⟨f, 0, none⟩), .int .u64 (G : Int), .slice none 0 0, .int .i64 0] :: er 5 1 (.slice (some ⟨g0, 0, none⟩) (64 * F.n) c0) (64 * F.n) (bv F.l) :: L)) (some ⟨g0, 0, none⟩) F.l).sub o1 hn
  rw [← HHE.out, Nat.zero_add] at sr
  have hsc := scan_any H8 G hGl (A := some ⟨g0, o1, none⟩) (c := c0 - o1) (n := hn) (h := hb) HHL.out.symm sr (by rintro ⟨⟩) HS1.out HS2.out (by omega)
  have HSC := Lib.hid hsc
  clear hsc sr
  go_wp2_with fail
  refine HSC.out.mono ?_
  rintro e x5 ⟨v, ps, M', rfl, hM', hrow, H9⟩
  have H10 : FS w0 x5 M' f F (er 30 1 v ps.length (ps.map Pc.v) :: eb g 170 [.pointer (some ⟨f, 0, none⟩), .int .u64 (G : Int), .slice none 0 0, .int .i64 0] :: er 5 1 (.slice (some ⟨g0, 0, none⟩) (64 * F.n) c0) (64 * F.n) (bv F.l) :: L) := ⟨ok2, lb2, pv2, fs_add rfl H9⟩
  have H11 := Fs_perm H10 (List.Perm.swap _ _ _)
  obtain ⟨A5, c5, rfl, _⟩ := H11.rest.shape 1 rfl
  obtain ⟨Z, HZ, hback⟩ := H11.out
  obtain ⟨R2, hR2⟩ : ∃ R, R = (Lg.records G hb).2 := ⟨_, rfl⟩
  rw [← hR2]
  have HR2 := Lib.hid hR2
  have HROW := Lib.hid hrow
  have y2 : x5.cell? ⟨g, 2, none⟩ = some (.slice none 0 0) := HZ.cell 0 rfl 2
  have y3 : x5.cell? ⟨g, 3, none⟩ = some (.int .i64 0) := HZ.cell 0 rfl 3
  have z2 := HZ.frozen 0 rfl 2
  have z3 := HZ.frozen 0 rfl 3
  clear hR2 hrow H8 H9 H10 HSC
  go_wp2_with fail
  refine Pt.same (H11.cell 0 rfl 1) ?_
  iterate 5 (refine Pt.pr_run (v := ?_) (by rfl) ?_ ?_; rotate_left; (focus (intro w'; go_simp; with_reducible rfl)); simp only [Act.put, List.setIfInBounds_toArray, List.set_cons_zero, List.set_cons_succ])
  have H12 := HZ.set 2 (.slice A5 ps.length c5)
  have H13 := H12.set 3 (.int .i64 (R2 : Int))
  refine Pt.run_go ?_
  go_wp2_with fail
  refine Pt.same (H12.cell 0 rfl 1) ?_
  iterate 2 (refine Pt.pr_run (v := ?_) (by rfl) ?_ ?_; rotate_left; (focus (intro w'; go_simp; with_reducible rfl)); simp only [Act.put, List.setIfInBounds_toArray, List.set_cons_zero, List.set_cons_succ])
  refine Pt.run_go ?_
  go_wp2_with fail
  refine Pt.same (H13.cell 0 rfl 1) ?_
  refine Pt.run_fin ?_
  have H14 := hback _ _ _ H13
  have H15 : LS w0 _ M' g f F G (Lg.records G hb).1 R2 L := ⟨_, ps, HROW.out, Fs_d2 H14⟩
  go_wp2
  go_ret2
  exact ⟨g, M', rfl, hM', by rw [← HR2.out]; exact H15⟩
end
end Go.Proofs.YtepgmebklhemgaaGreatDoor
/- The contract of log's put. -/
set_option linter.unusedVariables false
set_option linter.unusedSimpArgs false
namespace Go.Proofs.YtepgmebklhemgaaGreatDoor
open Go.RowKit Wd
/-- A block's bytes s when b lies over it, its first byte at -o. -/
def mgc (o : Int) (b : List UInt8) (k : Nat) (c : UInt8) : UInt8 := if 0 ≤ o + k ∧ o + k < b.length then b[(o + k).toNat]?.getD 0 else c
def mgAt (o : Int) (b s : List UInt8) : List UInt8 := s.mapIdx (mgc o b)
def mgK (o : Int) (b s : List UInt8) (k : Nat) : List UInt8 := (mgAt o b s).take k ++ s.drop k
theorem mgAt_len (o : Int) (b s : List UInt8) : (mgAt o b s).length = s.length := by simp [mgAt]
theorem mgK_zero (o : Int) (b s : List UInt8) : mgK o b s 0 = s := by simp [mgK]
theorem mgK_full (o : Int) (b s : List UInt8) (k : Nat) (h : s.length ≤ k) : mgK o b s k = mgAt o b s := by
  unfold mgK
  rw [List.take_of_length_le (by rw [mgAt_len]; exact h), List.drop_eq_nil_of_le h, List.append_nil]
theorem mgK_len (o : Int) (b s : List UInt8) (k : Nat) (h : k ≤ s.length) : (mgK o b s k).length = s.length := by
  unfold mgK; rw [List.length_append, List.length_take, List.length_drop, mgAt_len]; omega
theorem mgK_step (o : Int) (b s : List UInt8) (k : Nat) (h : k < s.length) : mgK o b s (k + 1) = (mgK o b s k).set k (mgc o b k s[k]) := by
  have hl : k < (mgAt o b s).length := by rw [mgAt_len]; exact h
  have hg : (mgAt o b s)[k] = mgc o b k s[k] := by simp [mgAt]
  unfold mgK
  rw [List.take_succ_eq_append_getElem hl, hg, List.set_append_right _ _ (by rw [List.length_take]; omega), List.length_take, Nat.min_eq_left (by omega), Nat.sub_self, List.drop_eq_getElem_cons h, List.set_cons_zero, List.append_assoc]
  rfl
theorem mgK_same (o : Int) (b s : List UInt8) (k : Nat) (h : k < s.length) (hno : ¬ (0 ≤ o + k ∧ o + k < b.length)) : mgK o b s (k + 1) = mgK o b s k := by
  rw [mgK_step o b s k h]
  have h1 : mgc o b k s[k] = s[k] := by unfold mgc; rw [if_neg hno]
  have h2 : (mgK o b s k)[k]? = some s[k] := by
    unfold mgK
    rw [List.getElem?_append_right (by rw [List.length_take]; omega), List.length_take, mgAt_len, Nat.min_eq_left (by omega), Nat.sub_self, List.getElem?_drop, Nat.add_zero, List.getElem?_eq_getElem h]
  rw [h1]
  apply List.ext_getElem?
  intro j
  rw [List.getElem?_set]
  split
  · rename_i hj
    subst hj
    rw [h2]
    simp [mgK_len o b s k (by omega), h]
  · rfl
/-- The file when j of the blocks are written, the last first. -/
def putN (fr at_ : Nat) (b : List UInt8) (hi : Nat) : Nat → FM → FM
  | 0, F => F
  | j + 1, F => (putN fr at_ b hi j F).write (fr + (hi - j)) (mgAt (64 * ((hi - j : Nat) : Int) - at_) b ((putN fr at_ b hi j F).at_ (fr + (hi - j))))
def putAll (fr at_ : Nat) (b : List UInt8) (F : FM) : FM := { putN fr at_ b ((at_ + b.length - 1) / 64) ((at_ + b.length - 1) / 64 + 1 - at_ / 64) F with pend := [] }
theorem putN_n (fr at_ : Nat) (b : List UInt8) (hi j : Nat) (F : FM) : (putN fr at_ b hi j F).n = F.n := by
  induction j with
  | zero => rfl
  | succ j ih => unfold putN; rw [FM.write_n, ih]
theorem putN_pend (fr at_ : Nat) (b : List UInt8) (hi j : Nat) (F : FM) : (putN fr at_ b hi j F).pend.length ≤ F.pend.length + j := by
  induction j with
  | zero => exact Nat.le_refl _
  | succ j ih => unfold putN; exact Nat.le_trans (FM.write_pend _ _ _) (by omega)
theorem wrapz (x : Int) (h1 : -1000000 ≤ x) (h2 : x ≤ 1000000) : wrap64 x = x := by unfold wrap64; omega
section
variable {w0 w : World} {M : Mem} {L : List Ent} {f g gen en : Nat} {F : FM} {v : Value}
set_option maxRecDepth 100000 in
set_option maxHeartbeats 1000000 in
theorem put_any (H : FS w0 w M f F (eb g 170 (lcells f gen v en) :: L)) (h1 : 2 ≤ F.n) (gn : Nat) (hg : gn < 18446744073709551616) (at_ : Nat) {B : Option Addr} {c m : Nat} {b : List UInt8} (hm : m = b.length) (hb : Sr w0 M L B b) (h0 : 1 ≤ m) (hfit : at_ + m ≤ 64 * Lg.halfN F.n) (hp : F.pend.length < 900000000) :
    Calls Tryz.prog 100 #[.pointer (some ⟨g, 0, none⟩), .int .u64 (gn : Int), .int .i64 (at_ : Int), .slice B m c] w fun e w' => e = .returned (.tuple #[]) ∧ FS w0 w' M f (putAll (Lg.halfFrom F.n gn) at_ b F) (eb g 170 (lcells f gen v en) :: L) := by
  have hF2 : F.n ≤ 4096 := H.1.n2
  obtain ⟨fr, hfr⟩ : ∃ fr, fr = Lg.halfFrom F.n gn := ⟨_, rfl⟩
  obtain ⟨N, hN⟩ : ∃ N, N = Lg.halfN F.n := ⟨_, rfl⟩
  have hle : fr + N ≤ F.n := by rw [hfr, hN]; exact Lg.half_le _ _ h1
  have hhf := fun w => half_any F.n gn h1 hF2 hg w
  rw [← hfr, ← hN] at hhf
  rw [← hN] at hfit
  rw [← hfr]
  obtain ⟨hi, hhi⟩ : ∃ hi, hi = (at_ + m - 1) / 64 := ⟨_, rfl⟩
  obtain ⟨lo, hlo⟩ : ∃ lo, lo = at_ / 64 := ⟨_, rfl⟩
  have hlh : lo ≤ hi := by omega
  have hiN : hi < N := by omega
  obtain ⟨cnt, hcnt⟩ : ∃ cnt, cnt = hi + 1 - lo := ⟨_, rfl⟩
  obtain ⟨FZ, hFZ⟩ : ∃ FZ, FZ = putAll fr at_ b F := ⟨_, rfl⟩
  have hFZe : FZ = { putN fr at_ b hi cnt F with pend := [] } := by rw [hFZ, hcnt, hhi, hlo, hm]; rfl
  rw [← hFZ]
  have hN3 : N ≤ 2047 := by rw [hN]; unfold Lg.halfN; omega
  obtain ⟨am, ham⟩ : ∃ am, am = at_ + m := ⟨_, rfl⟩
  obtain ⟨am1, ham1⟩ : ∃ am1, am1 = at_ + m - 1 := ⟨_, rfl⟩
  have e1 : (at_ : Int) + (m : Int) = (am : Int) := by omega
  have e2 : (am : Int) - 1 = (am1 : Int) := by omega
  have e3 : (am1 : Int) / 64 = (hi : Int) := by omega
  have e3' : (am1 : Int).tdiv 64 = (hi : Int) := by rw [Int.tdiv_eq_ediv_of_nonneg (by omega)]; exact e3
  have e4 : (at_ : Int) / 64 = (lo : Int) := by omega
  have e4' : (at_ : Int).tdiv 64 = (lo : Int) := by rw [Int.tdiv_eq_ediv_of_nonneg (by omega)]; exact e4
  have z0 : w.cell? ⟨g, 0, none⟩ = some (.pointer (some ⟨f, 0, none⟩)) := H.cell 0 rfl 0
  have hbd : am ≤ 131008 := by omega
  have hbd2 : hi ≤ 2047 := by omega
  have hfb : fr + hi < F.n := by omega
  have HHF := Lib.hid hhf
  have HFZ := Lib.hid hFZe
  have HM := Lib.hid hm
  have HFB := Lib.hid hfb
  have HLH := Lib.hid hlh
  have HC := Lib.hid hcnt
  have HAM := Lib.hid ham
  clear hfr hN hhf hhi hlo hFZ hFZe hle hm hfit ham ham1 hiN hN3 h1 hF2 hfb hlh hcnt h0
  go_enter Tryz.func100, Tryz.ntmps100
  go_wp2_with fail
  refine (fs_blocks H).mono ?_
  rintro e x1 ⟨rfl, rfl⟩
  go_wp2_with fail
  refine (HHF.out _).mono ?_
  rintro e x1 ⟨rfl, rfl⟩
  clear z0
  go_wp2
  go_loopw [10] (fun i wr => ∃ j : Nat, j ≤ cnt ∧ i = .int .i64 ((hi : Int) - (j : Int)) ∧ FS w0 wr M f (putN fr at_ b hi j F) (eb g 170 (lcells f gen v en) :: L)) (fun i _ => (intOf i + 1).toNat)
  case atStart => exact ⟨0, by omega, by go_num, H⟩
  case round =>
    obtain ⟨j, hj, rfl, H1⟩ := hrel
    clear H
    by_cases hlt : j < cnt
    · obtain ⟨i, hi'⟩ : ∃ i : Nat, i = hi - j := ⟨_, rfl⟩
      have hie : (hi : Int) - (j : Int) = (i : Int) := by have := HC.out; omega
      have hlo2 : (lo : Int) ≤ (i : Int) := by have := HC.out; omega
      rw [hie]
      have hlo3 : lo ≤ i := by omega
      have z0 : wr.cell? ⟨g, 0, none⟩ = some (.pointer (some ⟨f, 0, none⟩)) := H1.cell 0 rfl 0
      obtain ⟨bi, hbi⟩ : ∃ bi, bi = fr + i := ⟨_, rfl⟩
      have f1 : (fr : Int) + (i : Int) = (bi : Int) := by omega
      have hpn := putN_n fr at_ b hi j F
      have hpp := putN_pend fr at_ b hi j F
      have hjb : j ≤ 2048 := by have := HC.out; omega
      have hstep : putN fr at_ b hi (j + 1) F = (putN fr at_ b hi j F).write bi (mgAt (64 * (i : Int) - at_) b ((putN fr at_ b hi j F).at_ bi)) := by rw [hbi, hi']; rfl
      obtain ⟨FJ, hFJ⟩ : ∃ FJ, FJ = putN fr at_ b hi j F := ⟨_, rfl⟩
      rw [← hFJ] at H1 hpn hpp hstep
      have hbn : bi < FJ.n := by rw [hpn]; have := HFB.out; omega
      obtain ⟨s, hs⟩ : ∃ s, s = FJ.at_ bi := ⟨_, rfl⟩
      have hsl : s.length = 64 := by rw [hs]; exact FM.at_length H1.1 hbn
      obtain ⟨o, ho⟩ : ∃ o : Int, o = 64 * (i : Int) - at_ := ⟨_, rfl⟩
      obtain ⟨I, hI⟩ : ∃ I : Nat, I = i * 64 := ⟨_, rfl⟩
      have f2 : (i : Int) * 64 = (I : Int) := by omega
      have hoI : (I : Int) - at_ = o := by omega
      have hIb : I ≤ 131008 := by omega
      have hbib : (bi : Int) ≤ 4096 := by have := H1.1.n2; omega
      have hIb2 : (I : Int) ≤ 131008 := by omega
      rw [← hs, ← ho] at hstep
      have hbs := fs_read H1 bi hbn
      rw [← hs] at hbs
      have HBS := Lib.hid hbs
      have HST := Lib.hid hstep
      have HSL := Lib.hid hsl
      have HS := Lib.hid hs
      have HBN := Lib.hid hbn
      have HPP := Lib.hid hpp
      have HOI := Lib.hid hoI
      have HIE := Lib.hid hie
      have HLT := Lib.hid hlt
      have HJB := Lib.hid hjb
      clear hbs hstep hsl hs hbn hpp hpn hFJ hbi hi' hie ho hI hoI hlt hj hjb
      go_wp2_with fail
      refine HBS.out.mono ?_
      rintro e x2 ⟨g2, rfl, H2⟩
      have hat : (at_ : Int) ≤ 131008 := by have := HAM.out; omega
      go_wp2
      go_loopw [50] (fun k wr2 => ∃ q : Nat, q ≤ 64 ∧ k = .int .i64 q ∧ FS w0 wr2 M f FJ (eb g2 91 (bv (mgK o b s q)) :: eb g 170 (lcells f gen v en) :: L)) (fun k _ => 64 - (intOf k).toNat)
      case atStart => exact ⟨0, by omega, by go_num, by rw [mgK_zero]; exact H2⟩
      case round =>
        obtain ⟨q, hq, rfl, H3⟩ := hrel
        clear H1 H2
        by_cases hq64 : q < 64
        · obtain ⟨x, hx⟩ : ∃ x : Int, x = (I : Int) + (q : Int) - (at_ : Int) := ⟨_, rfl⟩
          have hxo : o + (q : Int) = x := by have := HOI.out; omega
          have f3 : (I : Int) + (q : Int) - (at_ : Int) = x := hx.symm
          have hq2 : (q : Int) < 64 := by omega
          have hxb : -200000 ≤ x := by omega
          have hxc : x ≤ 200000 := by omega
          have hqs : q < s.length := by rw [HSL.out]; exact hq64
          by_cases hin : 0 ≤ x ∧ x < (m : Int)
          · obtain ⟨hx0, hxm⟩ := hin
            obtain ⟨P, rfl⟩ := Int.eq_ofNat_of_zero_le hx0
            have hPm : P < b.length := by rw [← HM.out]; omega
            obtain ⟨bb, bo, rfl, hcP⟩ := (hb.now H3.rest.d0.d0).at P hPm
            obtain ⟨y, hy⟩ : ∃ y, y = b[P] := ⟨_, rfl⟩
            have hmc : mgc o b q s[q] = y := by
              unfold mgc
              rw [hxo, if_pos ⟨hx0, by omega⟩, Int.toNat_natCast, List.getElem?_eq_getElem hPm, hy]; rfl
            have hst := mgK_step o b s q hqs
            rw [hmc] at hst
            rw [← hy] at hcP
            obtain ⟨Z, HZ, hback⟩ := H3.out
            have H4 := HZ.set q (.int .u8 (y.toNat : Int))
            rw [bv_set, ← hst] at H4
            have z2 := HZ.frozen 0 rfl q
            obtain ⟨yy, hyy⟩ : ∃ yy, wr.cell? ⟨g2, q, none⟩ = some yy := by
              rw [HZ.cell 0 rfl q]
              exact ⟨_, List.getElem?_eq_getElem (by rw [bv_length, mgK_len _ _ _ _ (by omega)]; exact hqs)⟩
            have H5 := hback _ _ _ H4
            have HQ := Lib.hid hq64
            clear hst hmc hy H3 H4 HZ hback hPm hqs hx hxo hq64 hq
            go_wp2
            exact ⟨⟨q + 1, by have := HQ.out; omega, by go_num, H5⟩, by have := HQ.out; simp [intOf]; omega⟩
          · have hsame := mgK_same o b s q hqs (by rw [hxo, ← HM.out]; exact hin)
            rw [← hsame] at H3
            have HQ := Lib.hid hq64
            have hx3 : x < 0 ∨ (0 ≤ x ∧ ¬ x < (m : Int)) := by omega
            clear hsame hin hqs hx hxo hq64 hq
            rcases hx3 with hx3 | ⟨hx3, hx4⟩
            all_goals
              go_wp2
              exact ⟨⟨q + 1, by have := HQ.out; omega, by go_num, H3⟩, by have := HQ.out; simp [intOf]; omega⟩
        · obtain rfl : q = 64 := by omega
          rw [mgK_full _ _ _ _ (by rw [HSL.out]; exact Nat.le_refl _)] at H3
          have z0 : wr.cell? ⟨g, 0, none⟩ = some (.pointer (some ⟨f, 0, none⟩)) := H3.cell 1 rfl 0
          obtain ⟨T, hT⟩ : ∃ T, T = mgAt o b s := ⟨_, rfl⟩
          have hTl : T.length = 64 := by rw [hT, mgAt_len, HSL.out]
          rw [← hT] at H3
          have hst := HST.out
          rw [← hT] at hst
          have hwr := fs_write H3 bi HBN.out (A := some ⟨g2, 0, none⟩) (c := 64) hTl ((H3.rest.blk 0 rfl).RB (by rw [List.drop_zero, List.take_of_length_le (by rw [bv_length]; exact Nat.le_refl _)])) (by have := HPP.out; have := HJB.out; omega)
          have HW := Lib.hid hwr
          have HST2 := Lib.hid hst
          clear hwr hst hT hTl
          go_wp2_with fail
          refine HW.out.mono ?_
          rintro e x5 ⟨rfl, H6⟩
          have H7 := H6.drop
          rw [← HST2.out] at H7
          clear H3 H6 HW
          go_wp2
          exact ⟨⟨j + 1, by have := HLT.out; omega, congrArg (Value.int .i64) (by have := HIE.out; omega), H7⟩, by simp [intOf]⟩
    · obtain rfl : j = cnt := by omega
      have hie : (hi : Int) - (j : Int) < (lo : Int) := by have := HC.out; have := HLH.out; omega
      obtain ⟨x, hx⟩ : ∃ x : Int, x = (hi : Int) - (j : Int) := ⟨_, rfl⟩
      rw [← hx] at hie ⊢
      have z0 : wr.cell? ⟨g, 0, none⟩ = some (.pointer (some ⟨f, 0, none⟩)) := H1.cell 0 rfl 0
      have hie2 : ¬ (lo : Int) ≤ x := by omega
      clear hx hlt
      go_wp2_with fail
      refine (fs_sync H1).mono ?_
      rintro e x5 ⟨rfl, H6⟩
      rw [← HFZ.out] at H6
      go_wp2
      go_end0
      exact ⟨rfl, H6⟩
end
end Go.Proofs.YtepgmebklhemgaaGreatDoor
/- A log's place as entries of memory; the contract of Append. -/
set_option linter.unusedVariables false
set_option linter.unusedSimpArgs false
namespace Go.Proofs.YtepgmebklhemgaaGreatDoor
open Go.RowKit Wd
section
variable {w0 w : World} {M : Mem} {L : List Ent} {f g gen en : Nat} {F : FM} {ls : List (List UInt8)}
/-- All the entries beside a new one; what reads beside the log reads beside all. -/
theorem LS.out (H : LS w0 w M g f F gen ls en L) : ∃ Z : List Ent, St w0 w M Z ∧ (∀ w' M', M.le M' → St w0 w' M' Z → LS w0 w' M' g f F gen ls en L) ∧ (∀ w' M' e', M.le M' → St w0 w' M' (e' :: Z) → LS w0 w' M' g f F gen ls en (e' :: L)) ∧ ∀ A l, Sr w0 M L A l → Sr w0 M Z A l := by
  obtain ⟨v, ps, hr, ok, lb, pv, H⟩ := H
  refine ⟨_, H, fun w' M' hM h => ⟨v, ps, hr.le hM, ok, lb, pv, h⟩, fun w' M' e' hM h => ⟨v, ps, hr.le hM, Fs_b2 ⟨ok, lb, pv, fs_add rfl h⟩⟩, fun A l h w' M' hM H' => h w' M' hM H'.d0.d0.d0.d0.d0⟩
/-- The file behind an appended record. -/
def Lg.appF (F : FM) (gen en : Nat) (b : List UInt8) : FM := putAll (Lg.halfFrom F.n gen) en (Lg.record gen en b ++ List.replicate (min 2 (64 * Lg.halfN F.n - en - (b.length + 6))) 0) F
/-- A record follows. -/
def RetApp (w0 : World) (M : Mem) (g f : Nat) (F : FM) (gen : Nat) (ls : List (List UInt8)) (en : Nat) (b : List UInt8) (L : List Ent) (e : Ending) (w' : World) : Prop :=
  ∃ M', e = .returned (.int .i64 0) ∧ M.le M' ∧ LS w0 w' M' g f (Lg.appF F gen en b) gen (ls ++ [b]) (en + (b.length + 6)) L
set_option maxRecDepth 100000 in
set_option maxHeartbeats 1000000 in
theorem append_any (H : LS w0 w M g f F gen ls en L) (h2n : 2 ≤ F.n) (hF2 : F.n ≤ 4096) (hg : gen < 18446744073709551616) {B : Option Addr} {d m : Nat} {b : List UInt8} (hm : m = b.length) (hB : B = none → d = 0) (hd : m ≤ d) (hb : Sr w0 M L B b) (h1 : 1 ≤ m) (h2 : m ≤ Lg.room (64 * Lg.halfN F.n) en) (hp : F.pend.length < 900000000) (hls : ls.length ≤ 1000000) :
    Calls Tryz.prog 70 #[.pointer (some ⟨g, 0, none⟩), .slice B m d] w fun e w' => RetApp w0 M g f F gen ls en b L e w' := by
  obtain ⟨N, hN⟩ : ∃ N, N = 64 * Lg.halfN F.n := ⟨_, rfl⟩
  have hN2 : N ≤ 131072 := by rw [hN]; unfold Lg.halfN; omega
  rw [← hN] at h2
  have hm1 : m ≤ 65535 := by unfold Lg.room at h2; omega
  have hfit : en + (m + 6) ≤ N := by unfold Lg.room at h2; omega
  obtain ⟨R, hR⟩ : ∃ R, R = Lg.room N en := ⟨_, rfl⟩
  have hroom := fun w (H : LS w0 w M g f F gen ls en L) => room_any H h2n hF2 hg (by omega)
  rw [← hN, ← hR] at hroom
  rw [← hR] at h2
  have hck := fun w => lcheck_any B m d w (by omega)
  rw [if_neg (by omega : ¬ m = 0), if_neg (by omega : ¬ 65535 < m)] at hck
  have hmR : ¬ (R : Int) < (m : Int) := by omega
  have hsz := fun w (H : LS w0 w M g f F gen ls en L) => lsize_any H h2n hF2 hg
  rw [← hN] at hsz
  have HSZ := Lib.hid hsz
  clear hsz
  have HROOM := Lib.hid hroom
  have HCK := Lib.hid hck
  have HI := Lib.hid (is_any H)
  have HM := Lib.hid hm
  have HNE := Lib.hid hN
  have HR := Lib.hid hR
  have HFIT := Lib.hid hfit
  clear hroom hck hm hN hR hfit h2
  go_enter Tryz.func70, Tryz.ntmps70
  go_wp2_with fail
  refine HI.out.mono ?_
  rintro e x1 ⟨rfl, rfl⟩
  go_wp2_with fail
  refine (HCK.out _).mono ?_
  rintro e x1 ⟨rfl, rfl⟩
  go_wp2_with fail
  refine (HROOM.out _ H).mono ?_
  rintro e x1 ⟨rfl, H1⟩
  clear H HI HCK HROOM
  go_wp2
  refine Pt.wp_plan (fun w' => LS w0 w' M g f F gen ls en L) (Pt.prs [0, 1, 2, 4, 5, 6, 8] (Pt.rds [3, 7] (.go 9 (Pt.prs [10] .fin)))) [] Tryz.mixed (by kernel_rfl) (fun _ _ d _ _ h => by cases d <;> exact h) H1.drew ?_
  have H2 := H1.drew
  clear H1
  simp only [Pt.toL, Pt.rds, Pt.prs, Pt.at_, List.drop_succ_cons, List.drop_zero]
  iterate 7 (refine Pt.pr_run (v := ?_) (by rfl) ?_ ?_; rotate_left; (focus (intro w'; go_simp; with_reducible rfl)); simp only [Act.put, List.setIfInBounds_toArray, List.set_cons_zero, List.set_cons_succ])
  (refine Pt.rd_run (v := ?_) (by rfl) ?_ ?_; rotate_left; (focus (intro w' hS; have c1 := hS.c1; go_simp; with_reducible rfl)); simp only [Act.put, List.setIfInBounds_toArray, List.set_cons_zero, List.set_cons_succ])
  (refine Pt.rd_run (v := ?_) (by rfl) ?_ ?_; rotate_left; (focus (intro w' hS; have c3 := hS.c3; go_simp; with_reducible rfl)); simp only [Act.put, List.setIfInBounds_toArray, List.set_cons_zero, List.set_cons_succ])
  refine Pt.run_go ?_
  obtain ⟨Z, HZ, hb0, hb1, hsr⟩ := H2.out
  have hen : en < 4294967296 := by have := HFIT.out; omega
  have hrec := record_any HZ gen en hg hen HM.out hB hd (hsr _ _ hb) (by omega)
  have HREC := Lib.hid hrec
  clear hrec
  go_wp2_with fail
  refine HREC.out.mono ?_
  rintro e x2 ⟨v1, rfl, H3⟩
  have H4 := hb1 _ _ _ (Mem.le.refl M) H3
  obtain ⟨A1, c1, rfl, hc1, hA1⟩ := H3.shape' 0 rfl
  go_wp2_with fail
  refine Pt.same (hb0 _ _ (Mem.le.refl M) H3.d0) ?_
  (refine Pt.pr_run (v := ?_) (by rfl) ?_ ?_; rotate_left; (focus (intro w'; go_simp; with_reducible rfl)); simp only [Act.put, List.setIfInBounds_toArray, List.set_cons_zero, List.set_cons_succ])
  refine Pt.run_fin ?_
  clear H3 hb0 hb1 hsr HZ H2 HREC
  obtain ⟨rl, hrl⟩ : ∃ rl, rl = m + 6 := ⟨_, rfl⟩
  obtain ⟨u1, hu1⟩ : ∃ u1, u1 = N - en := ⟨_, rfl⟩
  obtain ⟨u2, hu2⟩ : ∃ u2, u2 = N - en - rl := ⟨_, rfl⟩
  have hfit := HFIT.out
  have e1 : (N : Int) - (en : Int) = (u1 : Int) := by omega
  have e2 : (u1 : Int) - (rl : Int) = (u2 : Int) := by omega
  have hu1b : u1 ≤ 131072 := by omega
  have hu2b : u2 ≤ 131072 := by omega
  have w1 : IntKind.i64.wrap (u1 : Int) = (u1 : Int) := by rw [IntKind.wrap_i64]; omega
  have w2 : IntKind.i64.wrap (u2 : Int) = (u2 : Int) := by rw [IntKind.wrap_i64]; omega
  rw [← hrl] at H4 hc1 ⊢
  have hsz2 := fun w => lsize_any (w0 := w0) (w := w) (M := M) (L := er 5 1 (.slice A1 rl c1) rl (bv (Lg.record gen en b)) :: L) (f := f) (g := g) (gen := gen) (en := en) (F := F) (ls := ls)
  have HRL := Lib.hid hrl
  have HU2 := Lib.hid hu2
  clear hrl hu1 hu2 hfit hsz2
  go_wp2
  refine Pt.wp_plan (fun w' => LS w0 w' M g f F gen ls en (er 5 1 (.slice A1 rl c1) rl (bv (Lg.record gen en b)) :: L)) (Pt.prs [0, 2, 3, 4, 7, 8] (Pt.rds [5] (.go 1 (Pt.prs [6, 9, 10] (.go 11 (Pt.prs [12] .fin)))))) [] Tryz.mixed (by kernel_rfl) (fun _ _ d _ _ h => by cases d <;> exact h) H4.drew ?_
  have H5 := H4.drew
  clear H4
  simp only [Pt.toL, Pt.rds, Pt.prs, Pt.at_, List.drop_succ_cons, List.drop_zero]
  iterate 6 (refine Pt.pr_run (v := ?_) (by rfl) ?_ ?_; rotate_left; (focus (intro w'; go_simp; with_reducible rfl)); simp only [Act.put, List.setIfInBounds_toArray, List.set_cons_zero, List.set_cons_succ])
  (refine Pt.rd_run (v := ?_) (by rfl) ?_ ?_; rotate_left; (focus (intro w' hS; have c3 := hS.c3; go_simp; with_reducible rfl)); simp only [Act.put, List.setIfInBounds_toArray, List.set_cons_zero, List.set_cons_succ])
  refine Pt.run_go ?_
  go_wp2_with fail
  refine (lsize_any H5 h2n hF2 hg).mono ?_
  rintro e x3 ⟨rfl, H6⟩
  rw [← HNE.out]
  go_wp2_with fail
  refine Pt.same H6 ?_
  iterate 3 (refine Pt.pr_run (v := ?_) (by rfl) ?_ ?_; rotate_left; (focus (intro w'; go_simp; with_reducible rfl)); simp only [Act.put, List.setIfInBounds_toArray, List.set_cons_zero, List.set_cons_succ])
  obtain ⟨T, hT⟩ : ∃ T, T = min 2 u2 := ⟨_, rfl⟩
  have hTi : (if (u2 : Int) < 2 then (u2 : Int) else 2) = (T : Int) := by split <;> omega
  have hT2 : T ≤ 2 := by omega
  rw [hTi]
  have HT := Lib.hid hT
  clear hT hTi e1 e2 w1 w2
  obtain ⟨i0, hi, hz0, hz1, hz2⟩ := info_parts Tryz.info5
  refine Pt.run_go ?_
  refine wpList_make_full x3 (by rfl) (.tmp 41) (.tmp 41) 30 (by rfl) x3.heap.size 5 i0 (.int .u8 0) 1 Tryz.underlying30 hi hz0 hz1 .i64 .i64 _ _ T (by rfl) (by rfl) rfl rfl (by rw [hz2]; omega) (by unfold maxLen; omega) (Nat.le_refl _) ?_
  intro x4 ho hgr
  obtain ⟨Z2, HZ2, hb2, hb3, hsr2⟩ := H6.out
  have hcz : (madeCells (Value.int IntKind.u8 0).cells (T * 1)).toList = bv (List.replicate T 0) := by
    rw [Nat.mul_one, show (Value.int IntKind.u8 0).cells = #[.int .u8 0] from rfl, made_bv, filling_zero]
  rw [hcz] at ho
  have H7 := HZ2.addRow ⟨hgr.os, hgr.tape, hgr.output, hgr.size, fun i hi => hgr.block i hi (by simp)⟩ ho
  have H8 := hb3 _ _ _ (Mem.le.refl M) H7
  refine wpList_nil ?_
  refine Pt.same (hb2 _ _ (Mem.le.refl M) H7.d0) ?_
  simp only [Act.put, List.setIfInBounds_toArray, List.set_cons_zero, List.set_cons_succ]
  generalize x3.heap.size = gz at *
  (refine Pt.pr_run (v := ?_) (by rfl) ?_ ?_; rotate_left; (focus (intro w'; go_simp; with_reducible rfl)); simp only [Act.put, List.setIfInBounds_toArray, List.set_cons_zero, List.set_cons_succ])
  refine Pt.run_fin ?_
  clear H5 H6 H7 hb2 hb3 hsr2 HZ2 ho hgr hcz hi hz0 hz1 hz2
  go_wp2
  refine Pt.wp_plan (fun w' => w'.cell? ⟨g, 1, none⟩ = some (.int .u64 (gen : Int)) ∧ w'.cell? ⟨g, 3, none⟩ = some (.int .i64 (en : Int))) (Pt.prs [0, 1, 2, 3, 5, 6, 7, 9, 11] (Pt.rds [4, 8] (.go 10 (.go 12 (.go 13 .fin))))) [] Tryz.mixed (by kernel_rfl) (fun _ _ d _ _ h => by cases d <;> exact h) ⟨H8.drew.c1, H8.drew.c3⟩ ?_
  have H9 := H8.drew
  clear H8
  simp only [Pt.toL, Pt.rds, Pt.prs, Pt.at_, List.drop_succ_cons, List.drop_zero]
  iterate 9 (refine Pt.pr_run (v := ?_) (by rfl) ?_ ?_; rotate_left; (focus (intro w'; go_simp; with_reducible rfl)); simp only [Act.put, List.setIfInBounds_toArray, List.set_cons_zero, List.set_cons_succ])
  iterate 2 (refine Pt.rd_run (v := ?_) (by rfl) ?_ ?_; rotate_left; (focus (intro w' hS; obtain ⟨s0, s1⟩ := hS; go_simp; with_reducible rfl)); simp only [Act.put, List.setIfInBounds_toArray, List.set_cons_zero, List.set_cons_succ])
  refine Pt.run_go ?_
  obtain ⟨Z3, HZ3, hb4, hb5, hsr3⟩ := H9.out
  have hrlen : (Lg.record gen en b).length = rl := by rw [Lg.record_len, HRL.out, HM.out]
  have hrl2 : rl ≤ 65541 := by have := HRL.out; omega
  have hcl := clone_any HZ3 (A := A1) (c := c1) (l := Lg.record gen en b) hA1 (by rw [hrlen]; exact hc1) (hsr3 _ _ (Sr.row 1 rfl)) (by rw [hrlen]; omega)
  rw [hrlen] at hcl
  have HCL := Lib.hid hcl
  have HRN := Lib.hid hrlen
  clear hcl hrlen
  go_wp2_with fail
  refine HCL.out.mono ?_
  rintro e x5 ⟨v5, rfl, H10⟩
  obtain ⟨A5, c5, rfl, hc5, hA5⟩ := H10.shape' 0 rfl
  have r5 : RB x5 (some ⟨gz, 0, none⟩) (List.replicate T 0) := (hsr3 _ _ (Sr.row 0 rfl)).now H10.d0
  have y1 := hb4 _ _ (Mem.le.refl M) H10.d0
  go_wp2_with fail
  refine Pt.same ⟨y1.c1, y1.c3⟩ ?_
  refine Pt.run_go ?_
  refine wpList_append_st H10 (by rfl) (.tmp 53) (.tmp 54) 30 (by rfl) Tryz.info5 Tryz.underlying30 (by rfl) (some ⟨gz, 0, none⟩) T T (List.replicate T 0) (by rfl) (by rw [List.length_replicate]) (by rintro ⟨⟩) r5 (by omega) ?_
  intro v6 x6 H11
  rw [← bv_append] at H11
  obtain ⟨A6, c6, rfl, hc6, hA6⟩ := H11.shape' 0 rfl
  have y2 := hb4 _ _ (Mem.le.refl M) H11.d0
  refine wpList_nil ?_
  refine Pt.same ⟨y2.c1, y2.c3⟩ ?_
  simp only [Act.put, List.setIfInBounds_toArray, List.set_cons_zero, List.set_cons_succ]
  obtain ⟨D, hD⟩ : ∃ D, D = Lg.record gen en b ++ List.replicate T 0 := ⟨_, rfl⟩
  have hDl : D.length = rl + T := by rw [hD, List.length_append, HRN.out, List.length_replicate]
  rw [← hD] at H11
  have HD := Lib.hid hD
  obtain ⟨v, ps, hrow, H12⟩ := hb5 _ _ _ (Mem.le.refl M) H11
  have hfit := HFIT.out
  have hpu := put_any H12 h2n gen hg en (B := A6) (c := c6) (m := rl + T) (b := D) hDl.symm (Sr.row 1 rfl) (by have := HRL.out; omega) (by have := HRL.out; have := HU2.out; have := HT.out; rw [← HNE.out]; omega) hp
  have hF' : putAll (Lg.halfFrom F.n gen) en D F = Lg.appF F gen en b := by
    unfold Lg.appF
    rw [HD.out, ← HNE.out, ← HM.out, ← HRL.out, ← HU2.out, ← HT.out]
  rw [hF'] at hpu
  have HPU := Lib.hid hpu
  clear hpu hF' hfit hDl H9 H10 H11 H12 y1 y2 r5 hb4 hb5 hsr3 HZ3 HCL
  refine Pt.run_go ?_
  go_wp2_with fail
  refine HPU.out.mono ?_
  rintro e x7 ⟨rfl, H13⟩
  obtain ⟨FA, hFA⟩ : ∃ FA, FA = Lg.appF F gen en b := ⟨_, rfl⟩
  rw [← hFA] at H13
  have HFA := Lib.hid hFA
  clear hFA HPU
  go_wp2_with fail
  refine Pt.same ⟨H13.cell 0 rfl 1, H13.cell 0 rfl 3⟩ ?_
  refine Pt.run_fin ?_
  have H14 := Fs_sub H13 (L' := eb g 170 (lcells f gen v en) :: er 30 1 v ps.length (ps.map Pc.v) :: L) (by repeat (first | exact List.Sublist.refl _ | apply List.Sublist.cons_cons | apply List.Sublist.cons))
  clear H13
  obtain ⟨A8, c8, rfl, hc8⟩ := H14.rest.shape 1 rfl
  have hpl : ps.length ≤ 1000000 := by rw [← hrow.len]; exact hls
  obtain ⟨ne, hne⟩ : ∃ ne, ne = en + rl := ⟨_, rfl⟩
  have hne2 : ne ≤ 131072 := by have := HFIT.out; have := HRL.out; omega
  have e3 : (en : Int) + (rl : Int) = (ne : Int) := by omega
  have w3 : IntKind.i64.wrap (ne : Int) = (ne : Int) := by rw [IntKind.wrap_i64]; omega
  have HROW := Lib.hid hrow
  have HNEN := Lib.hid hne
  have HPL := Lib.hid hpl
  clear hrow hne hpl hls
  go_wp2
  refine Pt.wp_plan (fun w' => w'.cell? ⟨g, 2, none⟩ = some (.slice A8 ps.length c8) ∧ w'.cell? ⟨g, 3, none⟩ = some (.int .i64 (en : Int))) (Pt.prs [0, 1, 2, 3, 4, 6, 10, 11, 12, 14, 15] (Pt.rds [5, 13] (Pt.prs [16] (.go 7 (.go 8 (.go 9 (Pt.prs [17, 18] (.st 19 (Pt.prs [20, 21] (.st 22 .fin)))))))))) [19, 22] Tryz.mixed (by kernel_rfl) (fun _ _ d _ _ h => by cases d <;> exact h) ⟨H14.drew.cell 0 rfl 2, H14.drew.cell 0 rfl 3⟩ ?_
  have H15 := H14.drew
  clear H14
  simp only [Pt.toL, Pt.rds, Pt.prs, Pt.at_, List.drop_succ_cons, List.drop_zero]
  iterate 11 (refine Pt.pr_run (v := ?_) (by rfl) ?_ ?_; rotate_left; (focus (intro w'; go_simp; with_reducible rfl)); simp only [Act.put, List.setIfInBounds_toArray, List.set_cons_zero, List.set_cons_succ])
  iterate 2 (refine Pt.rd_run (v := ?_) (by rfl) ?_ ?_; rotate_left; (focus (intro w' hS; obtain ⟨s0, s1⟩ := hS; go_simp; with_reducible rfl)); simp only [Act.put, List.setIfInBounds_toArray, List.set_cons_zero, List.set_cons_succ])
  (refine Pt.pr_run (v := ?_) (by rfl) ?_ ?_; rotate_left; (focus (intro w'; go_simp; with_reducible rfl)); simp only [Act.put, List.setIfInBounds_toArray, List.set_cons_zero, List.set_cons_succ])
  clear e3 w3
  obtain ⟨ok9, lb9, pv9, H16⟩ := H15
  have hcl := clone_any H16 (A := B) (c := d) (l := b) hB (by rw [← HM.out]; exact hd) (fun w' M' hM H' => hb w' M' hM H'.d0.d0.d0.d0.d0) (by rw [← HM.out]; omega)
  rw [← HM.out] at hcl
  have HCL := Lib.hid hcl
  clear hcl
  refine Pt.run_go ?_
  go_wp2_with fail
  refine HCL.out.mono ?_
  rintro e x9 ⟨v9, rfl, H17⟩
  obtain ⟨A9, c9, rfl, hc9, hA9⟩ := H17.shape' 0 rfl
  go_wp2_with fail
  refine Pt.same ⟨H17.cell 4 rfl 2, H17.cell 4 rfl 3⟩ ?_
  have H17a := H17.alloc (.cells #[.slice A9 m c9] 30)
  refine Pt.run_go ?_
  go_wp2_with fail
  refine Pt.same ⟨H17a.cell 4 rfl 2, H17a.cell 4 rfl 3⟩ ?_
  refine Pt.run_go ?_
  refine wpList_append1_st H17.f5 (by rfl) (.tmp 62) (.tmp 65) 36 (by rfl) Tryz.info22 (by rfl) Tryz.underlying36 (by rfl) (by rfl) (by rfl) (by have := HPL.out; omega) (by have := HPL.out; omega) ?_
  intro v10 x10 H18
  obtain ⟨A10, c10, rfl, hc10⟩ := H18.shape 0 rfl
  refine wpList_nil ?_
  refine Pt.same ⟨H18.cell 5 rfl 2, H18.cell 5 rfl 3⟩ ?_
  simp only [Act.put, List.setIfInBounds_toArray, List.set_cons_zero, List.set_cons_succ]
  obtain ⟨M2, hM2, H19, hin⟩ := H18.f1.keepRow
  have hrow2 := (HROW.out.le hM2).snoc (p := ⟨A9, m, c9, b⟩) ⟨HM.out, hA9, hc9⟩ hin
  have HROW2 := Lib.hid hrow2
  have H20 := H19.f4
  have y2 := H20.cell 0 rfl 2
  have y3 := H20.cell 0 rfl 3
  have z2 := H20.frozen 0 rfl 2
  have z3 := H20.frozen 0 rfl 3
  have H21 := (H20.set 2 (.slice A10 (ps.length + 1) c10)).set 3 (.int .i64 (ne : Int))
  clear hrow2 hin H16 H17 H17a H18 H19 HCL
  have H22 : LS w0 _ M2 g f FA gen (ls ++ [b]) ne L := ⟨_, ps ++ [⟨A9, m, c9, b⟩], HROW2.out, ok9, lb9, pv9, by rw [List.length_append, List.map_append]; exact H21.f4.f4.f4⟩
  iterate 2 (refine Pt.pr_run (v := ?_) (by rfl) ?_ ?_; rotate_left; (focus (intro w'; go_simp; with_reducible rfl)); simp only [Act.put, List.setIfInBounds_toArray, List.set_cons_zero, List.set_cons_succ])
  refine Pt.run_st ?_
  go_wp2_with fail
  simp only [Pl.Then, Act.put]
  iterate 2 (refine Pt.pr_run (v := ?_) (by rfl) ?_ ?_; rotate_left; (focus (intro w'; go_simp; with_reducible rfl)); simp only [Act.put, List.setIfInBounds_toArray, List.set_cons_zero, List.set_cons_succ])
  refine Pt.run_st ?_
  go_wp2_with fail
  simp only [Pl.Then, Act.put]
  refine Pt.run_fin ?_
  go_wp2
  go_ret
  have hend : en + (b.length + 6) = ne := by rw [HNEN.out, HRL.out, HM.out]
  exact ⟨M2, rfl, hM2, by rw [hend, ← HFA.out]; exact H22⟩
end
end Go.Proofs.YtepgmebklhemgaaGreatDoor
