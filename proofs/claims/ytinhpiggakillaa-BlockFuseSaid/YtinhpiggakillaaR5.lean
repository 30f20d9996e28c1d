/- The reference of files: the contract of Crash. -/
import Derived.Test.YtinhpiggakillaaR4
import Derived.Deep.DeepCutAuto
set_option linter.unusedVariables false
set_option linter.unusedSimpArgs false
namespace Go.Proofs.Ytinhpiggakillaa
open Go.RowKit Wd

/-- The bytes that a crash leaves. -/
def wrecked (l : List UInt8) (ws : List WE) (K T : Nat) : List UInt8 := match ws[K]? with
  | none => lay l ws
  | some e => spl (lay l (ws.take K)) (64 * e.at_) (e.l.take T)
set_option maxRecDepth 100000 in
theorem ref_crash_all {w0 w : World} {M : Mem} {F : List Ent} (H : St w0 w M F) {A B : Option Addr} {c d n : Nat} {l : List UInt8} {ws : List WE} (s o : Bool) (lf t : Int) (hA : A = none → c = 0) (hc : l.length ≤ c) (hl : In M (RB · A l)) (hw : In M (WR · B ws)) (hn : l.length = 64 * n) (hn2 : n ≤ 4096) (hok : ∀ e ∈ ws, e.ok n) (hlen : ws.length ≤ 1000)
    (k u : Int) (hk : (ws.length : Int) ≤ max 0 k) :
    Calls Try.prog 22 #[.agg #[.slice A l.length c, .slice B ws.length d, .bool s, .int .i64 lf, .int .i64 t, .bool o], .int .i64 k, .int .i64 u] w fun e w' =>
      ∃ A' c' M', e = .returned (.agg (rfv A' l.length c' none 0 0 false 0 0 false).toArray) ∧ (A' = none → c' = 0) ∧ l.length ≤ c' ∧ M.le M' ∧ In M' (RB · A' (lay l ws)) ∧ St w0 w' M' F := by
  have H1 := (H.new [.slice A l.length c, .slice B ws.length d, .bool s, .int .i64 lf, .int .i64 t, .bool o] 38)
  have H2 := H1.newg rfz 38 (g := w.heap.size + 1) (by simp)
  have HN := Lib.hid hn
  clear hn
  have h0 : 0 ≤ (ws.length : Int) := by omega
  by_cases hneg : k < 0
  · obtain rfl : ws = [] := List.eq_nil_of_length_eq_zero (by omega)
    clear hk h0
    go_enter Try.func22, Try.ntmps22
    go_wp2_with fail
    refine (ref_dump H2 s o lf t hA hc hl hw HN.out hn2 hok hlen).mono ?_
    rintro e w3 ⟨A', c', M', rfl, hA', hc', hM', hl', H3⟩
    clear H1 H2 H
    generalize w.heap.size = g at *
    obtain ⟨y0, y1, y2, y3, y4, y5⟩ := H3.cells6 0 rfl
    have f2 := H3.frozen 0 rfl
    go_wp2
    have H4 := ((((((H3.set 0 (.slice A' l.length c')).set 1 (.slice none 0 0)).set 2 (.bool false)).set 3 (.int .i64 0)).set 4 (.int .i64 0)).set 5 (.bool false))
    exact ret_row H4 (by rfl) (by rfl) Try.underlying38 (by rfl) (by exact Try.sizeRF) rfl ⟨A', c', M', rfl, hA', hc', hM', hl', H4.d0.d0⟩
  · have hz : (ws.length : Int) ≤ k := by omega
    clear hk h0
    go_enter Try.func22, Try.ntmps22
    go_wp2_with fail
    refine (ref_dump H2 s o lf t hA hc hl hw HN.out hn2 hok hlen).mono ?_
    rintro e w3 ⟨A', c', M', rfl, hA', hc', hM', hl', H3⟩
    clear H1 H2 H
    generalize w.heap.size = g at *
    obtain ⟨y0, y1, y2, y3, y4, y5⟩ := H3.cells6 0 rfl
    have f2 := H3.frozen 0 rfl
    go_wp2
    have H4 := ((((((H3.set 0 (.slice A' l.length c')).set 1 (.slice none 0 0)).set 2 (.bool false)).set 3 (.int .i64 0)).set 4 (.int .i64 0)).set 5 (.bool false))
    exact ret_row H4 (by rfl) (by rfl) Try.underlying38 (by rfl) (by exact Try.sizeRF) rfl ⟨A', c', M', rfl, hA', hc', hM', hl', H4.d0.d0⟩
set_option maxRecDepth 100000 in
set_option maxHeartbeats 1000000 in
theorem ref_crash_at {w0 w : World} {M : Mem} {F : List Ent} (H : St w0 w M F) {A B : Option Addr} {c d n : Nat} {l : List UInt8} {ws : List WE} (s o : Bool) (lf t : Int) (hA : A = none → c = 0) (hc : l.length ≤ c) (hl : In M (RB · A l)) (hw : In M (WR · B ws)) (hn : l.length = 64 * n) (hn2 : n ≤ 4096) (hok : ∀ e ∈ ws, e.ok n) (hlen : ws.length ≤ 1000) (hd : ws.length ≤ d)
    (k u : Int) (K T : Nat) (hk : (K : Int) = max 0 k) (hK : K < ws.length) (hT : (T : Int) = min 64 (max 0 u)) :
    Calls Try.prog 22 #[.agg #[.slice A l.length c, .slice B ws.length d, .bool s, .int .i64 lf, .int .i64 t, .bool o], .int .i64 k, .int .i64 u] w fun e w' =>
      ∃ A' c' M', e = .returned (.agg (rfv A' l.length c' none 0 0 false 0 0 false).toArray) ∧ (A' = none → c' = 0) ∧ l.length ≤ c' ∧ M.le M' ∧ In M' (RB · A' (spl (lay l (ws.take K)) (64 * (ws[K]).at_) ((ws[K]).l.take T))) ∧ St w0 w' M' F := by
  have H1 := (H.new [.slice A l.length c, .slice B ws.length d, .bool s, .int .i64 lf, .int .i64 t, .bool o] 38)
  have H2 := H1.newg rfz 38 (g := w.heap.size + 1) (by simp)
  have HN := Lib.hid hn
  clear hn
  have qd : (K : Int) ≤ (d : Int) := by omega
  have qK : (K : Int) < (ws.length : Int) := by omega
  have hcd := hd
  have hTn : T ≤ 64 := by omega
  have hT0 : (0 : Int) ≤ (T : Int) := by omega
  have q64 : (T : Int) ≤ 64 := by omega
  obtain ⟨e, he⟩ : ∃ e, e = ws[K] := ⟨_, rfl⟩
  rw [← he]
  have e0 := hok _ (List.getElem_mem hK)
  rw [← he] at e0
  have q1 : (e.at_ : Int) ≤ 4096 := by have := e0.1; omega
  have q2 : (0 : Int) ≤ (e.at_ : Int) := by omega
  have q3 : (T : Int) ≤ (e.c : Int) := by have := e0.2.2.2; omega
  have htk : (ws.take K).length = K := by rw [List.length_take]; omega
  have hokK : ∀ x ∈ ws.take K, x.ok n := fun x hx => hok x (List.mem_of_mem_take hx)
  have HT := Lib.hid hT
  have HE := Lib.hid he
  have HTK := Lib.hid htk
  clear hT he htk
  go_enter Try.func22, Try.ntmps22
  go_upto_if 9 with (fail)
  go_cut [1] (fun s1 wx => s1 = .int .i64 (K : Int) ∧ St w0 wx M (eb (w.heap.size + 1) 38 rfz :: eb w.heap.size 38 [.slice A l.length c, .slice B ws.length d, .bool s, .int .i64 lf, .int .i64 t, .bool o] :: F))
  case first =>
    have HH2 := Lib.hid H2
    clear H1 H2 qd qK
    by_cases hneg : k < 0
    · have e1 : K = 0 := by omega
      have E1 := Lib.hid e1
      clear hk e1
      go_wp2_with fail
      go_meet
      exact ⟨by rw [E1.out]; rfl, HH2.out⟩
    · have e1 : k = (K : Int) := by omega
      have E1 := Lib.hid e1
      clear hk e1
      go_wp2_with fail
      go_meet
      exact ⟨by rw [E1.out], HH2.out⟩
  case rest =>
    obtain ⟨rfl, Hc⟩ := hcut
    clear H1 H2 H hk
    generalize w.heap.size = g at *
    obtain ⟨z0, z1, z2, z3, z4, z5⟩ := Hc.cells6 1 rfl
    go_wp2
    refine Pl.wp_plan (fun w' => w'.cell? ⟨g, 0, none⟩ = some (.slice A l.length c) ∧ w'.cell? ⟨g, 1, none⟩ = some (.slice B ws.length d)) [0, 1, 2, 3, 4, 5, 6] [7] [8] Try.mixed (by kernel_rfl) (fun _ _ d _ _ h => by cases d <;> exact h) ⟨by simpa using z0, by simpa using z1⟩ ?_
    simp only [Pl.pick, List.drop_succ_cons, List.drop_zero]
    iterate 7 (refine Pl.head_run (v := ?_) (by rfl) ?_ ?_; rotate_left; (focus (intro w' hS; obtain ⟨s0, s1⟩ := hS; go_simp; with_reducible rfl)); simp only [Act.put, List.setIfInBounds_toArray, List.set_cons_zero, List.set_cons_succ])
    refine Pl.head_nil ?_
    simp only [Pl.Mid]
    go_wp2_with fail
    refine (ref_dump' Hc.drew false false 0 0 hA hc hl (hw.imp fun W h => h.take K) HN.out hn2 hokK (by rw [HTK.out]; omega) rfl HTK.out.symm).mono ?_
    rintro x w3 ⟨A1, c1, M1, rfl, hA1, hc1, hM1, hl1, H3⟩
    obtain ⟨z0', z1', -, -, -, -⟩ := H3.cells6 1 rfl
    go_wp2_with fail
    refine (⟨⟨z0', z1'⟩, ?_⟩ : (_ ∧ _) ∧ _)
    obtain ⟨b, bo, hB, w1, w2⟩ := ((hw.le hM1).now H3).at K hK
    rw [← HE.out] at w1 w2
    subst hB
    clear z0 z1 z2 z3 z4 z5 z0' Hc
    go_wp2
    refine Pl.wp_plan (fun w' => w'.cell? ⟨g, 1, none⟩ = some (.slice (some ⟨b, bo, none⟩) ws.length d) ∧ w'.cell? ⟨b, bo + K * 2, none⟩ = some (.int .i64 (e.at_ : Int)) ∧ w'.cell? ⟨b, bo + K * 2 + 1, none⟩ = some (.slice e.B 64 e.c)) [0, 1, 2, 3, 4, 5, 6, 7, 8, 9, 10, 11, 12, 13, 14] [15, 16, 17, 18] [19] Try.mixed (by kernel_rfl) (fun _ _ d _ _ h => by cases d <;> exact h) ⟨by simpa using z1', by simpa using w1, by simpa using w2⟩ ?_
    simp only [Pl.pick, List.drop_succ_cons, List.drop_zero]
    iterate 15 (refine Pl.head_run (v := ?_) (by rfl) ?_ ?_; rotate_left; (focus (intro w' hS; obtain ⟨s0, s1, s2⟩ := hS; go_simp; with_reducible rfl)); simp only [Act.put, List.setIfInBounds_toArray, List.set_cons_zero, List.set_cons_succ])
    refine Pl.head_nil ?_
    simp only [Pl.Mid]
    go_wp2_with fail
    refine (cut_nat u T HT.out _).mono ?_
    rintro x w4 ⟨rfl, rfl⟩
    go_wp2_with fail
    refine (⟨⟨by simpa using z1', by simpa using w1, by simpa using w2⟩, ?_⟩ : (_ ∧ _ ∧ _) ∧ _)
    go_wp2_with fail
    refine (⟨⟨by simpa using z1', by simpa using w1, by simpa using w2⟩, ?_⟩ : (_ ∧ _ ∧ _) ∧ _)
    go_wp2_with fail
    have hll := lay_length l n HN.out _ hokK
    have hel : (e.l.take T).length = T := by rw [List.length_take, e0.2.1]; omega
    refine (ref_put' H3.drew hA1 hl1 (Sr.of_in ((hw.le hM1).imp fun W h => (h.2 _ (by rw [HE.out]; exact List.getElem_mem hK)).take T)) (64 * e.at_) ?_ ?_ ?_ hel.symm (by omega)).mono ?_
    · rw [hll, hel]; have := e0.1; omega
    · rw [hll]; omega
    · rw [hll, HN.out]
    rintro x w5 ⟨A2, c2, rfl, hc2, hA2, H5⟩
    obtain ⟨M2, hM2, H6, hrb2, -⟩ := H5.lendRow
    obtain ⟨-, y1, -, -, -, -⟩ := H6.cells6 1 rfl
    obtain ⟨b', bo', hbb, v1, v2⟩ := ((hw.le (hM1.trans hM2)).now H6).at K hK
    injection hbb with hbb
    injection hbb with hb1 hb2
    subst hb1 hb2
    rw [← HE.out] at v1 v2
    go_wp2_with fail
    refine (⟨⟨y1, v1, v2⟩, ?_⟩ : (_ ∧ _ ∧ _) ∧ _)
    go_wp2_with fail
    refine (⟨⟨y1, v1, v2⟩, ?_⟩ : (_ ∧ _ ∧ _) ∧ _)
    have HR := Lib.hid hrb2
    clear z1' w1 w2 y1 v1 v2 hll hel H3 hrb2 H5
    obtain ⟨x0, x1, x2, x3, x4, x5⟩ := H6.cells6 0 rfl
    have f2 := H6.frozen 0 rfl
    go_wp2
    have H7 := ((((((H6.set 0 (.slice A2 l.length c2)).set 1 (.slice none 0 0)).set 2 (.bool false)).set 3 (.int .i64 0)).set 4 (.int .i64 0)).set 5 (.bool false))
    exact ret_row H7 (by rfl) (by rfl) Try.underlying38 (by rfl) (by exact Try.sizeRF) rfl ⟨A2, c2, M2, rfl, hA2, hc2, hM1.trans hM2, HR.out, H7.d0.d0⟩
theorem ref_crash {w0 w : World} {M : Mem} {F : List Ent} (H : St w0 w M F) {A B : Option Addr} {c d n : Nat} {l : List UInt8} {ws : List WE} (s o : Bool) (lf t : Int) (hA : A = none → c = 0) (hc : l.length ≤ c) (hl : In M (RB · A l)) (hw : In M (WR · B ws)) (hn : l.length = 64 * n) (hn2 : n ≤ 4096) (hok : ∀ e ∈ ws, e.ok n) (hlen : ws.length ≤ 1000) (hd : ws.length ≤ d) (k u : Int) :
    Calls Try.prog 22 #[.agg #[.slice A l.length c, .slice B ws.length d, .bool s, .int .i64 lf, .int .i64 t, .bool o], .int .i64 k, .int .i64 u] w fun e w' =>
      ∃ A' c' M', e = .returned (.agg (rfv A' l.length c' none 0 0 false 0 0 false).toArray) ∧ (A' = none → c' = 0) ∧ l.length ≤ c' ∧ M.le M' ∧ In M' (RB · A' (wrecked l ws (max 0 k).toNat (min 64 (max 0 u)).toNat)) ∧ St w0 w' M' F := by
  rcases Nat.lt_or_ge (max 0 k).toNat ws.length with h | h
  · have := ref_crash_at H s o lf t hA hc hl hw hn hn2 hok hlen hd k u (max 0 k).toNat (min 64 (max 0 u)).toNat (by omega) h (by omega)
    unfold wrecked
    rw [List.getElem?_eq_getElem h]
    exact this
  · have := ref_crash_all H (d := d) s o lf t hA hc hl hw hn hn2 hok hlen k u (by omega)
    unfold wrecked
    rw [List.getElem?_eq_none h]
    exact this
end Go.Proofs.Ytinhpiggakillaa
