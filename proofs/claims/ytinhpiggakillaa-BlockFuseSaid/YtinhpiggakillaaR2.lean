/- The reference of files: its model; contracts of cut, Dump. -/
import Derived.Test.YtinhpiggakillaaR1
set_option linter.unusedVariables false
set_option linter.unusedSimpArgs false
namespace Go.Proofs.Ytinhpiggakillaa
open Go.RowKit Wd

/-- A write: which block; where its bytes lie; the bytes. -/
structure WE where
  at_ : Nat
  B : Option Addr
  c : Nat
  l : List UInt8
def wcs (ws : List WE) : List Value := ws.flatMap fun e => [.int .i64 (e.at_ : Int), .slice e.B 64 e.c]
def WR (w : World) (A : Option Addr) (ws : List WE) : Prop := RA w A (wcs ws) ∧ ∀ e ∈ ws, RB w e.B e.l
def WE.ok (e : WE) (n : Nat) : Prop := e.at_ < n ∧ e.l.length = 64 ∧ (e.B = none → e.c = 0) ∧ 64 ≤ e.c
theorem wcs_length (ws : List WE) : (wcs ws).length = 2 * ws.length := by
  induction ws with
  | nil => rfl
  | cons e ws ih => simp [wcs] at ih ⊢; omega
theorem wcs_get (ws : List WE) (j : Nat) (hj : j < ws.length) : (wcs ws)[j * 2]? = some (.int .i64 ((ws[j]).at_ : Int)) ∧ (wcs ws)[j * 2 + 1]? = some (.slice (ws[j]).B 64 (ws[j]).c) := by
  induction ws generalizing j with
  | nil => simp at hj
  | cons e ws ih =>
    cases j with
    | zero => exact ⟨rfl, rfl⟩
    | succ j =>
      have h := ih j (by simpa using hj)
      have e1 : wcs (e :: ws) = .int .i64 (e.at_ : Int) :: .slice e.B 64 e.c :: wcs ws := rfl
      rw [e1, show (j + 1) * 2 = j * 2 + 1 + 1 from by omega, List.getElem?_cons_succ, List.getElem?_cons_succ, List.getElem?_cons_succ, List.getElem?_cons_succ]
      exact h
theorem WR.at {w : World} {A : Option Addr} {ws : List WE} (h : WR w A ws) (j : Nat) (hj : j < ws.length) : ∃ b o, A = some ⟨b, o, none⟩ ∧ w.cell? ⟨b, o + j * 2, none⟩ = some (.int .i64 ((ws[j]).at_ : Int)) ∧ w.cell? ⟨b, o + j * 2 + 1, none⟩ = some (.slice (ws[j]).B 64 (ws[j]).c) := by
  obtain ⟨b, o, rfl, _, hr⟩ := h.1 (by intro h0; have := wcs_length ws; rw [h0] at this; simp at this; omega)
  have hg := wcs_get ws j hj
  exact ⟨b, o, rfl, hr _ _ hg.1, by rw [Nat.add_assoc]; exact hr _ _ hg.2⟩
theorem wcs_take (ws : List WE) (k : Nat) : wcs (ws.take k) = (wcs ws).take (2 * k) := by
  induction ws generalizing k with
  | nil => simp [wcs]
  | cons e ws ih =>
    cases k with
    | zero => rfl
    | succ k =>
      show .int .i64 (e.at_ : Int) :: .slice e.B 64 e.c :: wcs (ws.take k) = _
      rw [ih k, show 2 * (k + 1) = 2 * k + 1 + 1 from by omega]
      rfl
theorem WR.take {w : World} {A : Option Addr} {ws : List WE} (h : WR w A ws) (k : Nat) : WR w A (ws.take k) := by
  refine ⟨fun hne => ?_, fun e he => h.2 e (List.mem_of_mem_take he)⟩
  rw [wcs_take] at hne ⊢
  obtain ⟨b, o, hA, hlt, hr⟩ := h.1 (by intro h0; rw [h0] at hne; simp at hne)
  refine ⟨b, o, hA, hlt, fun j v hj => hr j v ?_⟩
  rw [List.getElem?_take] at hj
  split at hj
  · exact hj
  · cases hj
/-- The bytes when some writes have been put. -/
def lay (l : List UInt8) (ws : List WE) : List UInt8 := ws.foldl (fun b e => spl b (64 * e.at_) e.l) l
theorem lay_snoc (l : List UInt8) (ws : List WE) (e : WE) : lay l (ws ++ [e]) = spl (lay l ws) (64 * e.at_) e.l := by simp [lay]
theorem lay_length (l : List UInt8) (n : Nat) (hl : l.length = 64 * n) (ws : List WE) (hw : ∀ e ∈ ws, e.ok n) : (lay l ws).length = 64 * n := by
  induction ws generalizing l with
  | nil => exact hl
  | cons e ws ih =>
    have he := hw e (by simp)
    refine ih (spl l (64 * e.at_) e.l) ?_ fun x hx => hw x (by simp [hx])
    rw [spl_length _ _ _ (by rw [he.2.1, hl]; have := he.1; omega), hl]
theorem lay_step (l : List UInt8) (ws : List WE) (k : Nat) (hk : k < ws.length) : lay l (ws.take (k + 1)) = spl (lay l (ws.take k)) (64 * (ws[k]).at_) (ws[k]).l := by
  rw [List.take_succ_eq_append_getElem hk, lay_snoc]

theorem cut_any (t : Int) (w : World) : Calls Try.prog 28 #[.int .i64 t] w fun e w' => e = .returned (.int .i64 (min 64 (max 0 t))) ∧ w = w' := by
  by_cases h0 : t < 0
  · have e : min 64 (max 0 t) = 0 := by omega
    rw [e]
    go_enter Try.func28, Try.ntmps28
    go_wp2
    go_ret
    exact ⟨rfl, rfl⟩
  · by_cases h1 : 64 < t
    · have e : min 64 (max 0 t) = 64 := by omega
      rw [e]
      go_enter Try.func28, Try.ntmps28
      go_wp2
      go_ret
      exact ⟨rfl, rfl⟩
    · have e : min 64 (max 0 t) = t := by omega
      rw [e]
      go_enter Try.func28, Try.ntmps28
      go_wp2
      go_ret
      exact ⟨rfl, rfl⟩

theorem cut_nat (t : Int) (T : Nat) (hT : (T : Int) = min 64 (max 0 t)) (w : World) : Calls Try.prog 28 #[.int .i64 t] w fun e w' => e = .returned (.int .i64 (T : Int)) ∧ w = w' := by
  rw [hT]; exact cut_any t w
/-- The reference's file as a value. -/
def rfv (A : Option Addr) (n c : Nat) (B : Option Addr) (m d : Nat) (s : Bool) (lf t : Int) (o : Bool) : List Value := [.slice A n c, .slice B m d, .bool s, .int .i64 lf, .int .i64 t, .bool o]
set_option maxRecDepth 100000 in
theorem ref_dump {w0 w : World} {M : Mem} {F : List Ent} (H : St w0 w M F) {A B : Option Addr} {c d n : Nat} {l : List UInt8} {ws : List WE} (s o : Bool) (lf t : Int) (hA : A = none → c = 0) (hc : l.length ≤ c) (hl : In M (RB · A l)) (hw : In M (WR · B ws)) (hn : l.length = 64 * n) (hn2 : n ≤ 4096) (hok : ∀ e ∈ ws, e.ok n) (hlen : ws.length ≤ 1000) :
    Calls Try.prog 23 #[.agg #[.slice A l.length c, .slice B ws.length d, .bool s, .int .i64 lf, .int .i64 t, .bool o]] w fun e w' =>
      ∃ A' c' M', e = .returned (.slice A' l.length c') ∧ (A' = none → c' = 0) ∧ l.length ≤ c' ∧ M.le M' ∧ In M' (RB · A' (lay l ws)) ∧ St w0 w' M' F := by
  have H1 := H.new [.slice A l.length c, .slice B ws.length d, .bool s, .int .i64 lf, .int .i64 t, .bool o] 38
  have HN := Lib.hid hn
  clear hn
  go_enter Try.func23, Try.ntmps23
  go_wp2
  generalize hg : w.heap.size = g at *
  generalize hw1 : w.alloc _ = w1 at *
  clear hg hw1 H
  go_loopw [3, 4] (fun v i wr => ∃ (k : Nat) (A' : Option Addr) (c' : Nat) (M' : Mem), k ≤ ws.length ∧ i = .int .i64 k ∧ v = .slice A' l.length c' ∧ (A' = none → c' = 0) ∧ l.length ≤ c' ∧ M.le M' ∧ In M' (RB · A' (lay l (ws.take k))) ∧ St w0 wr M' (eb g 38 [.slice A l.length c, .slice B ws.length d, .bool s, .int .i64 lf, .int .i64 t, .bool o] :: F)) (fun _ i _ => ws.length - (intOf i).toNat)
  case atStart => exact ⟨0, A, c, M, by omega, rfl, rfl, hA, hc, Mem.le.refl _, by rw [List.take_zero]; exact hl, H1⟩
  case round =>
    obtain ⟨k, A', c', M', hk, rfl, rfl, hA', hc', hM', hl', Hr⟩ := hrel
    clear H1
    have c1 : wr.cell? ⟨g, 1, none⟩ = some (.slice B ws.length d) := Hr.cell 0 rfl 1
    by_cases hlt : k < ws.length
    · obtain ⟨b, bo, rfl, hc1, hc2⟩ := ((hw.le hM').now Hr).at k hlt
      have e0 := hok ws[k] (List.getElem_mem hlt)
      obtain ⟨e, he⟩ : ∃ e, e = ws[k] := ⟨_, rfl⟩
      have hrb := ((hw.le hM').now Hr).2 _ (List.getElem_mem hlt)
      rw [← he] at hc1 hc2 e0 hrb
      have HE := Lib.hid he
      clear he
      have q1 : (e.at_ : Int) ≤ 4096 := by have := e0.1; omega
      have q2 : (0 : Int) ≤ (e.at_ : Int) := by omega
      go_wp2
      refine Pl.wp_plan (fun w' => w'.cell? ⟨g, 1, none⟩ = some (.slice (some ⟨b, bo, none⟩) ws.length d) ∧ w'.cell? ⟨b, bo + k * 2, none⟩ = some (.int .i64 (e.at_ : Int)) ∧ w'.cell? ⟨b, bo + k * 2 + 1, none⟩ = some (.slice e.B 64 e.c)) [0, 1, 2, 3, 4, 5, 6, 7, 8, 9, 10, 11, 12, 13] [14] [15] Try.mixed (by kernel_rfl) (fun _ _ d _ _ h => by cases d <;> exact h) ⟨by simpa using c1, by simpa using hc1, by simpa using hc2⟩ ?_
      simp only [Pl.pick, List.drop_succ_cons, List.drop_zero]
      iterate 14 (refine Pl.head_run (v := ?_) (by rfl) ?_ ?_; rotate_left; (focus (intro w' hS; obtain ⟨s0, s1, s2⟩ := hS; go_simp; with_reducible rfl)); simp only [Act.put, List.setIfInBounds_toArray, List.set_cons_zero, List.set_cons_succ])
      refine Pl.head_nil ?_
      simp only [Pl.Mid]
      go_wp2_with fail
      refine (ref_put' Hr.drew hA' hl' (Sr.of_in ((hw.le hM').imp fun W h => h.2 _ (by rw [HE.out]; exact List.getElem_mem hlt))) (64 * e.at_) ?_ ?_ ?_ e0.2.1.symm (by omega)).mono ?_
      · rw [lay_length l n HN.out _ fun x hx => hok x (List.mem_of_mem_take hx), e0.2.1]; have := e0.1; omega
      · rw [lay_length l n HN.out _ fun x hx => hok x (List.mem_of_mem_take hx)]; omega
      · rw [lay_length l n HN.out _ fun x hx => hok x (List.mem_of_mem_take hx), HN.out]
      rintro x w2 ⟨A2, c2, rfl, hc2', hA2, H2⟩
      have H3 := H2
      rw [HE.out, ← lay_step l ws k hlt] at H3
      obtain ⟨M2, hM2, H4, hrb2, -⟩ := H3.lendRow
      have hcc := hw.le (hM'.trans hM2)
      have c1' : w2.cell? ⟨g, 1, none⟩ = some (.slice (some ⟨b, bo, none⟩) ws.length d) := H4.cell 0 rfl 1
      obtain ⟨b', bo', hbb, hc1', hc2''⟩ := (hcc.now H4).at k hlt
      injection hbb with hbb
      injection hbb with hb1 hb2
      subst hb1 hb2
      rw [← HE.out] at hc1' hc2''
      go_wp2_with fail
      refine (⟨⟨c1', hc1', hc2''⟩, ?_⟩ : (_ ∧ _ ∧ _) ∧ _)
      have HR2 := Lib.hid hrb2
      clear c1 hc1 hc2 hrb hcc hc1' hc2'' c1' H2 H3 hrb2 Hr e0
      go_wp2
      go_roundw
      case rel => exact ⟨k + 1, A2, c2, M2, by omega, by go_num, rfl, hA2, hc2', hM'.trans hM2, HR2.out, H4⟩
      case measure => simp [intOf]; omega
    · obtain rfl : k = ws.length := by omega
      rw [List.take_length] at hl'
      go_wp2
      go_ret
      exact ⟨A', c', M', rfl, hA', hc', hM', hl', Hr.d0⟩
theorem ref_dump' {w0 w : World} {M : Mem} {F : List Ent} (H : St w0 w M F) {A B : Option Addr} {c d n : Nat} {l : List UInt8} {ws : List WE} (s o : Bool) (lf t : Int) (hA : A = none → c = 0) (hc : l.length ≤ c) (hl : In M (RB · A l)) (hw : In M (WR · B ws)) (hn : l.length = 64 * n) (hn2 : n ≤ 4096) (hok : ∀ e ∈ ws, e.ok n) (hlen : ws.length ≤ 1000)
    {nl m : Nat} (hnl : nl = l.length) (hm : m = ws.length) :
    Calls Try.prog 23 #[.agg #[.slice A nl c, .slice B m d, .bool s, .int .i64 lf, .int .i64 t, .bool o]] w fun e w' =>
      ∃ A' c' M', e = .returned (.slice A' nl c') ∧ (A' = none → c' = 0) ∧ nl ≤ c' ∧ M.le M' ∧ In M' (RB · A' (lay l ws)) ∧ St w0 w' M' F := by
  subst hnl hm; exact ref_dump H s o lf t hA hc hl hw hn hn2 hok hlen
end Go.Proofs.Ytinhpiggakillaa
