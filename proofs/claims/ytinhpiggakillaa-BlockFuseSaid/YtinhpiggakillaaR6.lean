/- The reference of files: the contract of Add. -/
import Derived.Test.YtinhpiggakillaaR5
set_option linter.unusedVariables false
set_option linter.unusedSimpArgs false
namespace Go.Proofs.Ytinhpiggakillaa
open Go.RowKit Wd

/-- What Add refuses, or lets be: the file as it was. -/
theorem ref_add_same {w0 w : World} {M : Mem} {F : List Ent} (H : St w0 w M F) (A B D : Option Addr) (c d n m nb cb : Nat) (s o : Bool) (lf t i r : Int) (hn : n ≤ 4096) (hnb : (nb : Int) ≤ 64)
    (hr : (i < 0 ∨ (n : Int) ≤ i) ∧ r = 4 ∨ (0 ≤ i ∧ i < n ∧ nb ≠ 64 ∧ r = 1) ∨ (0 ≤ i ∧ i < n ∧ nb = 64 ∧ o = true ∧ r = 0)) :
    Calls Try.prog 21 #[.agg #[.slice A (64 * n) c, .slice B m d, .bool s, .int .i64 lf, .int .i64 t, .bool o], .int .i64 i, .slice D nb cb] w fun e w' =>
      e = .returned (.tuple #[.agg (rfv A (64 * n) c B m d s lf t o).toArray, .int .i64 r]) ∧ St w0 w' M F := by
  have H1 := (H.new (rfv A (64 * n) c B m d s lf t o) 38)
  have H4 := H1.newg (rfv A (64 * n) c B m d s lf t o) 38 (g := w.heap.size + 1) (by simp)
  rcases hr with ⟨hi | hi, rfl⟩ | ⟨h0, h1, h2, rfl⟩ | ⟨h0, h1, rfl, rfl, rfl⟩
  · go_enter Try.func21, Try.ntmps21
    go_wp2
    exact ret_row_tmp H4 (by rfl) (by rfl) Try.underlying38 (by rfl) (by exact Try.sizeRF) rfl ⟨rfl, H4.d0.d0⟩
  · have g1 : ¬ i < 0 := by omega
    have g2 : decide (((64 * n : Nat) : Int) / 64 ≤ i) = true := by simp; omega
    go_enter Try.func21, Try.ntmps21
    go_wp2
    exact ret_row_tmp H4 (by rfl) (by rfl) Try.underlying38 (by rfl) (by exact Try.sizeRF) rfl ⟨rfl, H4.d0.d0⟩
  · have g1 : ¬ i < 0 := by omega
    have g2 : decide (((64 * n : Nat) : Int) / 64 ≤ i) = false := by simp; omega
    have g3 : ((nb : Int) != 64) = true := by simp; omega
    go_enter Try.func21, Try.ntmps21
    go_wp2
    exact ret_row_tmp H4 (by rfl) (by rfl) Try.underlying38 (by rfl) (by exact Try.sizeRF) rfl ⟨rfl, H4.d0.d0⟩
  · have g1 : ¬ i < 0 := by omega
    have g2 : decide (((64 * n : Nat) : Int) / 64 ≤ i) = false := by simp; omega
    go_enter Try.func21, Try.ntmps21
    go_wp2
    exact ret_row_tmp H4 (by rfl) (by rfl) Try.underlying38 (by rfl) (by exact Try.sizeRF) rfl ⟨rfl, H4.d0.d0⟩
set_option maxRecDepth 100000 in
set_option maxHeartbeats 1000000 in
theorem ref_add_fuse {w0 w : World} {M : Mem} {F : List Ent} (H : St w0 w M F) {A B D : Option Addr} {c d n cb : Nat} {l : List UInt8} {ws : List WE} {b : List UInt8} (t : Int) (hA : A = none → c = 0) (hc : l.length ≤ c) (hl : In M (RB · A l)) (hw : In M (WR · B ws)) (hn : l.length = 64 * n) (hn2 : n ≤ 4096) (hok : ∀ e ∈ ws, e.ok n) (hlen : ws.length ≤ 1000)
    (hb : Sr w0 M F D b) (hbl : b.length = 64) (hcb : 64 ≤ cb) (i : Nat) (hi : i < n) (T : Nat) (hT : (T : Int) = min 64 (max 0 t)) :
    Calls Try.prog 21 #[.agg #[.slice A l.length c, .slice B ws.length d, .bool true, .int .i64 0, .int .i64 t, .bool false], .int .i64 (i : Int), .slice D 64 cb] w fun e w' =>
      ∃ A' c' M', e = .returned (.tuple #[.agg (rfv A' l.length c' none 0 0 false 0 0 true).toArray, .int .i64 0]) ∧ (A' = none → c' = 0) ∧ l.length ≤ c' ∧ M.le M' ∧ In M' (RB · A' (spl (lay l ws) (64 * i) (b.take T))) ∧ St w0 w' M' F := by
  have H1 := (H.new [.slice A l.length c, .slice B ws.length d, .bool true, .int .i64 0, .int .i64 t, .bool false] 38)
  have H2 := H1.newg rfz 38 (g := w.heap.size + 1) (by simp)
  have g1 : ¬ (i : Int) < 0 := by omega
  have g2 : decide ((l.length : Int) / 64 ≤ (i : Int)) = false := by simp; omega
  have q1 : (T : Int) ≤ (cb : Int) := by omega
  have q0 : (0 : Int) ≤ (T : Int) := by omega
  have q2 : (i : Int) < 4096 := by omega
  have q4 : l.length ≤ 262144 := by omega
  have g3 : (i : Int) < (l.length : Int) / 64 := by omega
  clear g2
  have hbT : (b.take T).length = T := by rw [List.length_take, hbl]; omega
  have hT64 : T ≤ 64 := by omega
  have hll := lay_length l n hn ws hok
  have HLL := Lib.hid hll
  have HBT := Lib.hid hbT
  have HN := Lib.hid hn
  have HT := Lib.hid hT
  have HBL := Lib.hid hbl
  clear hn hT hbT hll hbl
  go_enter Try.func21, Try.ntmps21
  go_wp2_with fail
  refine (ref_dump' H2 true false 0 t hA hc hl hw HN.out hn2 hok hlen rfl rfl).mono ?_
  rintro x w3 ⟨A1, c1, M1, rfl, hA1, hc1, hM1, hl1, H3⟩
  clear H1 H2 H
  generalize w.heap.size = g at *
  obtain ⟨z0, z1, z2, z3, z4, z5⟩ := H3.cells6 1 rfl
  go_wp2_with fail
  refine (cut_nat t T HT.out _).mono ?_
  rintro x w4 ⟨rfl, rfl⟩
  go_wp2_with fail
  refine (ref_put' H3 hA1 hl1 ((((hb.le hM1).take T).cons _).cons _) (64 * i) ?_ ?_ ?_ HBT.out.symm (by omega)).mono ?_
  · rw [HLL.out, HBT.out]; omega
  · rw [HLL.out]; omega
  · rw [HLL.out, HN.out]
  rintro x w5 ⟨A2, c2, rfl, hc2, hA2, H5⟩
  obtain ⟨M2, hM2, H6, hrb2, -⟩ := H5.lendRow
  have HR := Lib.hid hrb2
  clear z0 z1 z2 z3 z4 z5 hrb2 H5 H3
  obtain ⟨x0, x1, x2, x3, x4, x5⟩ := H6.cells6 0 rfl
  have f2 := H6.frozen 0 rfl
  go_wp2
  have H7 := ((((((H6.set 0 (.slice A2 l.length c2)).set 1 (.slice none 0 0)).set 2 (.bool false)).set 3 (.int .i64 0)).set 4 (.int .i64 0)).set 5 (.bool true))
  exact ret_row_tmp H7 (by rfl) (by rfl) Try.underlying38 (by rfl) (by exact Try.sizeRF) rfl ⟨A2, c2, M2, rfl, hA2, hc2, hM1.trans hM2, HR.out, H7.d0.d0⟩
theorem Try.infoWE : (Try.prog.info? 46).map (fun i => (i.zero, i.size, i.bytes)) = some (some (.agg #[.int .i64 0, .slice none 0 0]), 2, 32) := by kernel_rfl
theorem wcs_one (ws : List WE) : ∀ u ∈ wcs ws, u.oneCell' = true := by
  intro u hu
  simp only [wcs, List.mem_flatMap] at hu
  obtain ⟨e, _, he⟩ := hu
  simp only [List.mem_cons, List.not_mem_nil, or_false] at he
  rcases he with rfl | rfl <;> rfl
theorem wcs_append (a b : List WE) : wcs (a ++ b) = wcs a ++ wcs b := by simp [wcs]
set_option maxRecDepth 100000 in
set_option maxHeartbeats 1000000 in
theorem ref_add_put {w0 w : World} {M : Mem} {F : List Ent} (H : St w0 w M F) {A B D : Option Addr} {c d n cb : Nat} {ws : List WE} {b : List UInt8} (s : Bool) (lf t : Int) (hw : In M (WR · B ws)) (hn2 : n ≤ 4096) (hlen : ws.length ≤ 1000) (hd : B = none → d = 0)
    (hb : Sr w0 M F D b) (hbl : b.length = 64) (hD : D = none → cb = 0) (i : Nat) (hi : i < n) (hs : s = true → lf ≠ 0) (hlf : -9223372036854775808 < lf) (hlf2 : lf ≤ 9223372036854775807) :
    Calls Try.prog 21 #[.agg #[.slice A (64 * n) c, .slice B ws.length d, .bool s, .int .i64 lf, .int .i64 t, .bool false], .int .i64 (i : Int), .slice D 64 cb] w fun e w' =>
      ∃ B' d' e1 M', e = .returned (.tuple #[.agg (rfv A (64 * n) c B' (ws.length + 1) d' s (lf - 1) t false).toArray, .int .i64 0]) ∧ (B' = none → d' = 0) ∧ ws.length + 1 ≤ d' ∧ M.le M' ∧ e1.at_ = i ∧ e1.l = b ∧ e1.ok n ∧ In M' (WR · B' (ws ++ [e1])) ∧ St w0 w' M' F := by
  have H1 := (H.new [.slice A (64 * n) c, .slice B ws.length d, .bool s, .int .i64 lf, .int .i64 t, .bool false] 38)
  have H2 := Lib.hid (H1.newg rfz 38 (g := w.heap.size + 1) (by simp))
  have g1 : ¬ (i : Int) < 0 := by omega
  have q2 : (i : Int) < 4096 := by omega
  have g3 : (i : Int) < ((64 * n : Nat) : Int) / 64 := by omega
  have HBL := Lib.hid hbl
  have HS := Lib.hid hs
  clear hbl hs H1
  go_enter Try.func21, Try.ntmps21
  go_upto_region 7 with fail
  go_cut [33] (fun v wx => v = .bool false ∧ St w0 wx M (eb (w.heap.size + 1) 38 rfz :: eb w.heap.size 38 [.slice A (64 * n) c, .slice B ws.length d, .bool s, .int .i64 lf, .int .i64 t, .bool false] :: F))
  case first =>
    cases s with
    | false =>
      go_wp2
      go_meet
      exact ⟨rfl, H2.out⟩
    | true =>
      have g4 : (lf == 0) = false := by have := HS.out rfl; simpa using this
      go_wp2
      go_meet
      exact ⟨rfl, H2.out⟩
  case rest =>
    obtain ⟨rfl, Hc⟩ := hcut
    clear H2 H
    generalize w.heap.size = g at *
    obtain ⟨z0, z1, z2, z3, z4, z5⟩ := Hc.cells6 1 rfl
    have f1 := Hc.frozen 1 rfl
    go_upto_region 11 with fail
    have H3 := Hc.f1.set 3 (.int .i64 (lf - 1))
    clear z0 z1 z2 z3 z4 z5 f1 Hc
    generalize wc.setCell ⟨g, 3, none⟩ (.int .i64 (lf - 1)) = w2 at *
    have H4 := H3.lit00 46 2
    have z1 : (w2.alloc (.cells #[] 46)).cell? ⟨g, 1, none⟩ = some (.slice B ws.length d) := H4.cell 1 rfl 1
    have r4 := (hw.now H4).1
    go_wp2_with (at_builtin; refine wpList_append_any_st H4 (by rfl) (.tmp 50) (.tmp 52) 36 (by rfl) Try.infoWE (by rfl) (by omega) Try.underlying36 (by rfl) B ws.length d (wcs ws) (by rfl) (by rw [wcs_length, Nat.mul_comm]) hd r4 (wcs_one ws) (by omega) (by omega) ?_)
    intro v5 w5 H5
    obtain ⟨B1, d1, rfl, hd1⟩ := H5.shape 0 rfl
    try simp only [Nat.zero_add, List.nil_append] at H5
    clear H3 H4 z1 r4
    have H6 := H5.lit0 5
    have r6 := hb.now H6.d0.d0.d0.d0
    go_wp2_with (at_builtin; refine wpList_append_st H6 (by rfl) (.tmp 55) (.tmp 56) 28 (by rfl) Try.info5 Try.underlying28 (by rfl) D 64 cb b (by rfl) HBL.out.symm hD r6 (by omega) ?_)
    intro v7 w7 H7
    obtain ⟨A2, c2, rfl, hc2, hA2⟩ := H7.shape' 0 rfl
    try simp only [Nat.zero_add, List.nil_append] at H7
    clear H5 H6 r6
    have H7' : St w0 w7 M (er 5 1 (.slice A2 64 c2) 64 (bv b) :: _) := H7
    obtain ⟨M2, hM2, H8, hrb2, -⟩ := H7'.lendRow
    have HRB := Lib.hid hrb2
    clear hrb2 H7 H7'
    have H9 := (H8.newg [.int .i64 (i : Int), .slice A2 64 c2] 46 rfl).f1
    have r9 : RA _ (some ⟨w7.heap.size, 0, none⟩) [.int .i64 (i : Int), .slice A2 64 c2] := (H9.blk 1 rfl).ra 0 2 _ rfl
    have z1 : (w7.alloc (.cells #[.int .i64 (i : Int), .slice A2 64 c2] 46)).cell? ⟨g, 1, none⟩ = some (.slice B ws.length d) := H9.cell 2 rfl 1
    go_wp2_with (at_builtin; refine wpList_append_any_st H9 (by rfl) (.tmp 53) (.tmp 59) 36 (by rfl) Try.infoWE (by rfl) (by omega) Try.underlying36 (by rfl) (some ⟨w7.heap.size, 0, none⟩) 1 1 [.int .i64 (i : Int), .slice A2 64 c2] (by rfl) (by rfl) (by rintro ⟨⟩) r9 (by intro u hu; simp at hu; rcases hu with rfl | rfl <;> rfl) (by omega) (by omega) ?_)
    intro v8 w8 H10
    obtain ⟨B3, d3, rfl, hd3, hB3⟩ := H10.shape' 0 rfl
    have hcs : wcs ws ++ [.int .i64 (i : Int), .slice A2 64 c2] = wcs (ws ++ [⟨i, A2, c2, b⟩]) := by rw [wcs_append]; rfl
    have H11 := H10
    rw [hcs] at H11
    clear H8 H9 H10 z1 r9 hcs
    obtain ⟨M3, hM3, H12, hra3, -⟩ := H11.lendRowA
    have hwr : In M3 (WR · B3 (ws ++ [⟨i, A2, c2, b⟩])) := fun W hW => ⟨hra3 W hW, fun e he => by
      rcases List.mem_append.1 he with he | he
      · exact (hw W (hW.le (hM2.trans hM3))).2 e he
      · simp only [List.mem_singleton] at he
        subst he
        exact HRB.out W (hW.le hM3)⟩
    have HWR := Lib.hid hwr
    clear hwr hra3 H11
    have H13 := H12.d0.f1
    obtain ⟨y0, y1, y2, y3, y4, y5⟩ := H13.cells6 1 rfl
    obtain ⟨x0, x1, x2, x3, x4, x5⟩ := H13.cells6 0 rfl
    have f1 := H13.frozen 1 rfl
    have f2 := H13.frozen 0 rfl
    have ne1 : (g + 1 = g) = False := by simp
    go_wp2
    have H14 := ((((((H13.f1.set 1 (.slice B3 (ws.length + 1) d3)).f1.set 0 (.slice A (64 * n) c)).set 1 (.slice B3 (ws.length + 1) d3)).set 2 (.bool s)).set 3 (.int .i64 (lf - 1))).set 4 (.int .i64 t)).set 5 (.bool false)
    exact ret_row_tmp H14 (by rfl) (by rfl) Try.underlying38 (by rfl) (by exact Try.sizeRF) rfl ⟨B3, d3, ⟨i, A2, c2, b⟩, M3, rfl, hB3, hd3, hM2.trans hM3, rfl, rfl, ⟨hi, HBL.out, hA2, hc2⟩, HWR.out, H14.d0.d0⟩
end Go.Proofs.Ytinhpiggakillaa
