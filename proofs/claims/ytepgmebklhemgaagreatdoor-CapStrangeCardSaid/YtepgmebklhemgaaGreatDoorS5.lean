/- The reference's Find and Turn. -/
import Derived.Test.YtepgmebklhemgaaGreatDoorA9
import Derived.Test.YtepgmebklhemgaaGreatDoorA8
import Derived.Test.YtepgmebklhemgaaGreatDoorSk
import Derived.Test.YtepgmebklhemgaaGreatDoorA5
import Derived.Deep.DeepCutAuto
set_option linter.unusedVariables false
set_option linter.unusedSimpArgs false
namespace Go.Proofs.YtepgmebklhemgaaGreatDoor
open Go.RowKit Wd
theorem Tryz.sz1 : ∀ w, (Go.sizeOf 115).run Tryz.prog w = .ok 2 w := fun w => by go_simp
theorem cells_pa {w0 W : World} {M M' : Mem} {F : List Ent} {b o k : Nat} {l : List Pa} (hl : SrA w0 M F (some ⟨b, o, none⟩) (pas l)) (hk : k < l.length) (hM : M.le M') (H : St w0 W M' F) {S : ByteArray} {V : Value} (h1 : str l[k].key = S) (h3 : l[k].p.v = V) :
    W.cell? ⟨b, o + k * 2, none⟩ = some (.string S) ∧ W.cell? ⟨b, o + k * 2 + 1, none⟩ = some V := by
  have h := SrA.pa2 hl k hk W M' hM H
  subst h1 h3
  exact ⟨h 0 _ rfl, h 1 _ rfl⟩
section
variable {w0 w : World} {M : Mem} {L : List Ent}
set_option maxRecDepth 100000 in
set_option maxHeartbeats 1000000 in
theorem rfind_any (H : St w0 w M L) {A : Option Addr} {c n : Nat} {ps : List Pa} (hn : n = ps.length) (hp : SrA w0 M L A (pas ps)) (key : List UInt8) (hn2 : n ≤ 1000000) :
    Calls Tryz.prog 48 #[.slice A n c, .string (str key)] w fun e w' => e = .returned (.tuple #[.int .i64 (Kv.find (ps.map Pa.pr) key : Int), .bool (Kv.there (ps.map Pa.pr) key)]) ∧ St w0 w' M L := by
  obtain ⟨f1, f2, f3⟩ := Kv.find_step (l := ps.map Pa.pr) (k := key)
  have fle := Kv.find_le (ps.map Pa.pr) key
  obtain ⟨z, hz⟩ : ∃ z, z = Kv.find (ps.map Pa.pr) key := ⟨_, rfl⟩
  obtain ⟨th, hth⟩ : ∃ th, th = Kv.there (ps.map Pa.pr) key := ⟨_, rfl⟩
  rw [← hz, ← hth] at f3
  rw [← hz] at f1 f2 fle
  rw [← hz, ← hth]
  have HF := Lib.hid (And.intro hn (And.intro f1 (And.intro f2 (And.intro f3 fle))))
  clear hn f1 f2 f3 fle hz hth
  go_enter Tryz.func48, Tryz.ntmps48
  go_wp2
  go_loopw [6] (fun i wr => ∃ k : Nat, k ≤ z ∧ i = .int .i64 k ∧ St w0 wr M L) (fun i _ => z - (intOf i).toNat)
  case atStart => exact ⟨0, by omega, rfl, H⟩
  case round =>
    obtain ⟨k, hk, rfl, H1⟩ := hrel
    clear H
    have hzl : z ≤ n := by
      have h1 := HF.out.2.2.2.2
      rw [List.length_map] at h1
      have := HF.out.1
      omega
    by_cases hlt : k < n
    · have hk1 : k < ps.length := by have := HF.out.1; omega
      obtain ⟨b, o, rfl, -⟩ := RA.pa2 (hp.now H1) k hk1
      obtain ⟨x0, -⟩ := cells_pa hp hk1 (Mem.le.refl M) H1 rfl rfl
      have q1 : (k : Int) < (n : Int) := by omega
      have q1n : k < n := hlt
      have hk2 : k < (ps.map Pa.pr).length := by rw [List.length_map]; exact hk1
      have hke : ((ps.map Pa.pr)[k]).1 = ps[k].key := by rw [List.getElem_map]; rfl
      by_cases hkz : k < z
      · have hb := HF.out.2.1 k hk2 hkz
        rw [hke, ← Kv.bytesLess_tlt] at hb
        obtain ⟨X, hX⟩ : ∃ X, X = ps[k].key := ⟨_, rfl⟩
        rw [← hX] at hb x0
        have HKZ := Lib.hid hkz
        clear hX hke hk2 hk1 hkz hlt hzl hk
        go_wp2
        exact ⟨⟨k + 1, by have := HKZ.out; omega, by go_num, H1⟩, by have := HKZ.out; simp [intOf]; omega⟩
      · obtain rfl : k = z := by omega
        have hb := HF.out.2.2.1 hk2
        rw [hke, ← Kv.bytesLess_tlt] at hb
        have hth : th = (ps[k].key == key) := by
          have h3 := HF.out.2.2.2.1
          rw [Bool.eq_iff_iff, h3]
          simp only [beq_iff_eq]
          exact ⟨fun ⟨_, h⟩ => by rw [← hke]; exact h, fun h => ⟨hk2, by rw [hke]; exact h⟩⟩
        obtain ⟨V, hV⟩ : ∃ V, V = ps[k].p.v := ⟨_, rfl⟩
        have k1 := fun W (HW : St w0 W M L) => cells_pa hp hk1 (Mem.le.refl M) HW rfl hV.symm
        obtain ⟨X, hX⟩ : ∃ X, X = ps[k].key := ⟨_, rfl⟩
        rw [← hX] at hb x0 hth
        simp only [← hX] at k1
        have HTH := Lib.hid hth
        have K1 := Lib.hid k1
        clear hX hke hk2 hk1 hkz hlt hk hth k1 hV
        go_wp2_with fail
        refine Pt.wp_plan (fun w' => St w0 w' M L) (Pt.prs [0, 1, 2, 3, 4, 5, 6, 7, 8, 9, 11, 14] (Pt.rds [10] (Pt.prs [12, 13, 15] .fin))) [] Tryz.mixed (by kernel_rfl) (fun _ _ d _ _ h => by cases d <;> exact h) H1.drew ?_
        have H2 := H1.drew
        clear H1
        simp only [Pt.toL, Pt.rds, Pt.prs, Pt.at_, List.drop_succ_cons, List.drop_zero]
        iterate 12 (refine Pt.pr_run (v := ?_) (by rfl) ?_ ?_; rotate_left; (focus (intro w'; go_simp; with_reducible rfl)); simp only [Act.put, List.setIfInBounds_toArray, List.set_cons_zero, List.set_cons_succ])
        (refine Pt.rd_run (v := ?_) (by rfl) ?_ ?_; rotate_left; (focus (intro w' hS; obtain ⟨x0, x1⟩ := K1.out _ hS; go_simp; with_reducible rfl)); simp only [Act.put, List.setIfInBounds_toArray, List.set_cons_zero, List.set_cons_succ])
        iterate 3 (refine Pt.pr_run (v := ?_) (by rfl) ?_ ?_; rotate_left; (focus (intro w'; go_simp; with_reducible rfl)); simp only [Act.put, List.setIfInBounds_toArray, List.set_cons_zero, List.set_cons_succ])
        refine Pt.run_fin ?_
        rw [← HTH.out]
        go_wp2
        go_ret2
        exact ⟨rfl, H2⟩
    · obtain rfl : k = n := by omega
      obtain rfl : k = z := by omega
      have hth : th = false := by
        have h3 := HF.out.2.2.2.1
        cases th with
        | false => rfl
        | true =>
          obtain ⟨h, -⟩ := h3.1 rfl
          rw [List.length_map] at h
          have := HF.out.1
          omega
      subst hth
      go_wp2_with fail
      refine Pt.wp_plan (fun w' => St w0 w' M L) (Pt.prs [0, 1, 2, 3, 4, 5, 6, 7, 8, 9, 11, 14] (Pt.rds [10] (Pt.prs [12, 13, 15] .fin))) [] Tryz.mixed (by kernel_rfl) (fun _ _ d _ _ h => by cases d <;> exact h) H1.drew ?_
      have H2 := H1.drew
      clear H1
      simp only [Pt.toL, Pt.rds, Pt.prs, Pt.at_, List.drop_succ_cons, List.drop_zero]
      iterate 6 (refine Pt.pr_run (v := ?_) (by rfl) ?_ ?_; rotate_left; (focus (intro w'; go_simp; with_reducible rfl)); simp only [Act.put, List.setIfInBounds_toArray, List.set_cons_zero, List.set_cons_succ])
      iterate 5 (refine Pt.pr_skip (by rfl) ?_; simp only [Act.put, List.setIfInBounds_toArray, List.set_cons_zero, List.set_cons_succ])
      (refine Pt.pr_run (v := ?_) (by rfl) ?_ ?_; rotate_left; (focus (intro w'; go_simp; with_reducible rfl)); simp only [Act.put, List.setIfInBounds_toArray, List.set_cons_zero, List.set_cons_succ])
      (refine Pt.rd_skip (by rfl) ?_; simp only [Act.put, List.setIfInBounds_toArray, List.set_cons_zero, List.set_cons_succ])
      (refine Pt.pr_skip (by rfl) ?_; simp only [Act.put, List.setIfInBounds_toArray, List.set_cons_zero, List.set_cons_succ])
      iterate 2 (refine Pt.pr_run (v := ?_) (by rfl) ?_ ?_; rotate_left; (focus (intro w'; go_simp; with_reducible rfl)); simp only [Act.put, List.setIfInBounds_toArray, List.set_cons_zero, List.set_cons_succ])
      refine Pt.run_fin ?_
      go_wp2
      go_ret2
      exact ⟨rfl, H2⟩
end
end Go.Proofs.YtepgmebklhemgaaGreatDoor
