/- The law's own 'does': a write. -/
import Derived.Test.YtinhpiggakillaaDo
set_option linter.unusedVariables false
set_option linter.unusedSimpArgs false
namespace Go.Proofs.Ytinhpiggakillaa
open Go.RowKit Wd
section
variable {w0 w : World} {M : Mem} {L : List Ent} {f : Nat} {F : FM} {R : RM} {A B : Option Addr} {c d j : Nat}
set_option maxRecDepth 100000 in
set_option maxHeartbeats 1000000 in
theorem does_write (HF : FS w0 w M f F L) (hv : RV M R A c B d) (hr : Rel F R j) (hj : j ≤ 60) (D I : Int) (x : UInt8) (K T : Int) (hD : D ≠ 1 ∧ D ≠ 2 ∧ D ≠ 3 ∧ D ≠ 4) :
    Calls Try.prog 14 #[.pointer (some ⟨f, 0, none⟩), .agg (rval R A c B d).toArray, .agg (acs D I x K T).toArray] w (Did w0 M f F j L) := by
  have H3 := ((HF.newg (rval R A c B d) 38 rfl).newg (acs D I x K T) 40 (g := w.heap.size + 1) (by simp)).newg rfz 38 (g := w.heap.size + 1 + 1) (by simp)
  simp only [rval, rfv, acs, rfz] at H3 ⊢
  have d1 : (D == 1) = false := by simpa using hD.1
  have d2 : (D == 2) = false := by simpa using hD.2.1
  have d3 : (D == 3) = false := by simpa using hD.2.2.1
  have d4 : (D == 4) = false := by simpa using hD.2.2.2
  have hm := hr.many
  have hpn := hr.pn
  have HPN := Lib.hid hpn
  clear hpn hD
  go_enter Try.func14, Try.ntmps14
  go_wp2_with fail
  refine (fs_filled H3 x).mono ?_
  rintro e w1 ⟨gb, rfl, H4⟩
  clear HF H3
  generalize w.heap.size = g at *
  have k1 := H4.cell 2 rfl 1
  simp only [List.getElem?_cons_succ, List.getElem?_cons_zero] at k1
  go_wp2_with fail
  refine (fs_wrote H4 I (b := List.replicate 64 x) (by simp) ((H4.rest.blk 0 rfl).RB (by simp [bv])) (by have := HPN.out; omega)).mono ?_
  rintro e w2 ⟨F', r, rfl, hW, H5⟩
  clear H4 k1
  obtain ⟨ok, lb, pv, H6⟩ := H5
  obtain ⟨z0, z1, z2, z3, z4, z5⟩ := H6.cells6 6 rfl
  have k1 := H6.cell 5 rfl 1
  simp only [List.getElem?_cons_succ, List.getElem?_cons_zero] at k1
  go_wp2_with fail
  refine (add_wrote (nb := 64) (cb := 64) (b := List.replicate 64 x) H6 hv hr (by omega) I (by simp) (by omega) (by omega) (by rintro ⟨⟩) (Sr.blk 3 rfl (by simp [bv])) hW).mono ?_
  rintro e w3 ⟨R', A', c', B', d', M', rfl, hM', hv', hr', H7⟩
  clear H6 z0 z1 z2 z3 z4 z5 k1
  have hW' := Lib.hid hW
  clear hW
  simp only [rval, rfv]
  have H8 := H7.newg (rval R' A' c' B' d') 38 rfl
  simp only [rval, rfv] at H8
  have cgb : (w3.alloc (.cells #[.slice A' R'.b.length c', .slice B' R'.ws.length d', .bool R'.set, .int .i64 R'.left, .int .i64 R'.torn, .bool R'.off] 38)).cell? ⟨gb, 0, none⟩ = some (.int .u8 (x.toNat : Int)) := H8.cell 4 rfl 0
  have fgb : (w3.alloc (.cells #[.slice A' R'.b.length c', .slice B' R'.ws.length d', .bool R'.set, .int .i64 R'.left, .int .i64 R'.torn, .bool R'.off] 38)).frozen? ⟨gb, 0, none⟩ = false := H8.frozen 4 rfl 0
  have xlt : (x.toNat : Int) < 256 := by have := x.toNat_lt; omega
  go_upto_region 19 with fail
  have H9 := H8.f4.set 0 (.int .u8 (((x.toNat : Int) + 1) % 256))
  clear cgb fgb H8 H7
  generalize hg3 : w3.heap.size = g3 at *
  generalize hw4 : (w3.alloc (.cells _ 38)).setCell _ _ = w4 at *
  clear hg3 hw4
  obtain ⟨y0, y1, y2, y3, y4, y5⟩ := H9.cells6 1 rfl
  obtain ⟨x0, x1, x2, x3, x4, x5⟩ := H9.cells6 5 rfl
  have f2 := H9.frozen 5 rfl
  go_wp2
  have H10 := (((((((H9.f5.set 0 (.slice A' R'.b.length c')).set 1 (.slice B' R'.ws.length d')).set 2 (.bool R'.set)).set 3 (.int .i64 R'.left)).set 4 (.int .i64 R'.torn)).set 5 (.bool R'.off)))
  refine ret_row_tmp H10 (by rfl) (by rfl) Try.underlying38 (by rfl) (by exact Try.sizeRF) rfl ?_
  refine ⟨F', R', A', c', B', d', M', rfl, hM', hv', hr', ?_, FS.drop (FS.drop ⟨ok, lb, pv, H10.d0.d0.d0⟩)⟩
  rcases hW'.out with ⟨_, _, h⟩ | ⟨_, _, _, _, h⟩ | ⟨_, _, _, _, h⟩
  · rw [h]
  · rw [h]
  · rw [h, FM.write_n]
end
end Go.Proofs.Ytinhpiggakillaa