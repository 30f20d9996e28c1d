/- Keys of a map turned: kv's turn; a map copied. -/
import Derived.Test.YtpomjaidaignpaaK1
import Derived.Test.YtpomjaidaignpaaK4
import Derived.Test.YtpomjaidaignpaaZb
set_option linter.unusedVariables false
set_option linter.unusedSimpArgs false
namespace Go.Proofs.Ytpomjaidaignpaa
open Go.RowKit Wd
theorem Kv.mturn_snoc {D : List Kv.Pr} {l : List Ac} {k : Nat} (hk : k < l.length) : Kv.mturn D ((l.take (k + 1)).map Ac.act) = Kv.mturn1 (Kv.mturn D ((l.take k).map Ac.act)) l[k].act := by
  rw [List.take_succ_eq_append_getElem hk, List.map_append]
  unfold Kv.mturn
  rw [List.foldl_append]
  rfl
section
variable {P : Program} {ops : Array Oper} {rest : List Oper} {op : Oper} {a : Act} {w0 w : World} {M : Mem} {Q : Exit → Act → World → Prop} {F : List Ent}
theorem wpList_mapset_st {g : Nat} {D : List Pa} {t k e : TypeId} (H : St w0 w M (mp g D :: F)) (hgd : op.guard = none) (m x v : Operand) (ho : op.op = .mapUpdate t m x v) (ht : P.underlying t = some (.map k e)) (hk : P.underlying k = some .string) (p : Pa)
    (hm : a.eval m = .map (some g)) (hx : a.eval x = .string (str p.key)) (hv : a.eval v = p.p.v) (h : ∀ w', St w0 w' M (mp g (putD D p) :: F) → wpList P ops Q rest (a.put op.dst undef) w') : wpList P ops Q (op :: rest) a w := by
  obtain ⟨w', hr, H'⟩ := map_update (P := P) (t := t) (k := k) (e := e) H ht hk p
  refine wpList_plain hgd fun K hK => ?_
  unfold Oper.wp execOp
  simp only [ho, hm, hx, hv, Sem.run_bind, hr, Result.andThen_ok, Sem.run_pure]
  exact hK _ _ (h w' H')
theorem wpList_mapdel_st {g : Nat} {D : List Pa} {t k e : TypeId} (H : St w0 w M (mp g D :: F)) (hgd : op.guard = none) (m x : Operand) (ho : op.op = .call { callee := .builtin .delete, args := #[m, x], argTypes := #[t, k] }) (ht : P.underlying t = some (.map k e)) (hk : P.underlying k = some .string) (key : List UInt8)
    (hm : a.eval m = .map (some g)) (hx : a.eval x = .string (str key)) (h : ∀ w', St w0 w' M (mp g (delD D key) :: F) → wpList P ops Q rest (a.put op.dst (.tuple #[])) w') : wpList P ops Q (op :: rest) a w := by
  obtain ⟨w', hr, H'⟩ := map_delete (P := P) (t := t) (k := k) (e := e) H ht hk op.type key
  refine wpList_go hgd (v := .tuple #[]) (w' := w') ?_ (h w' H')
  unfold execOp
  simp only [ho, resolve, invoke, builtin, Sem.run_bind, Sem.run_pure, Result.andThen_ok, List.map_toArray, List.map_cons, List.map_nil, hm, hx, hr]
end
/-- What turning a map leaves. -/
def RetTurn (w0 : World) (M : Mem) (L : List Ent) (g : Nat) (D : List Pa) (l : List Kv.Act) (e : Ending) (w' : World) : Prop :=
  ∃ D' M', e = .returned (.tuple #[]) ∧ M.le M' ∧ PaIn M' D' ∧ D'.map Pa.pr = Kv.mturn (D.map Pa.pr) l ∧ St w0 w' M' (mp g D' :: L)
section
variable {w0 w : World} {M : Mem} {L : List Ent}
set_option maxRecDepth 100000 in
set_option maxHeartbeats 4000000 in
theorem turn_any {g : Nat} {D : List Pa} (H : St w0 w M (mp g D :: L)) (hD : PaIn M D) {A : Option Addr} {c n : Nat} {l : List Ac} (hn : n = l.length) (hl : SrA w0 M L A (acs l)) (il : AcIn M l) (hn2 : n ≤ 1000000) (hsz : ∀ a ∈ l, a.p.l.length ≤ 1000000) :
    Calls Try.prog 30 #[.map (some g), .slice A n c] w (RetTurn w0 M L g D (l.map Ac.act)) := by
  have HN := Lib.hid hn
  have HI := Lib.hid (And.intro il hsz)
  clear hn il hsz
  go_enter Try.func30, Try.ntmps30
  go_wp2
  go_loopw [8] (fun i wr => ∃ (k : Nat) (D' : List Pa) (M' : Mem), k ≤ n ∧ i = .int .i64 k ∧ M.le M' ∧ PaIn M' D' ∧ D'.map Pa.pr = Kv.mturn (D.map Pa.pr) ((l.take k).map Ac.act) ∧ St w0 wr M' (mp g D' :: L)) (fun i _ => n - (intOf i).toNat)
  case atStart => exact ⟨0, D, M, by omega, rfl, Mem.le.refl _, hD, by simp [Kv.mturn], H⟩
  case round =>
    obtain ⟨k, D', M', hk, rfl, hM, hD', hDe, H1⟩ := hrel
    clear H
    have HM := Lib.hid (And.intro hM (And.intro hD' hDe))
    clear hM hD' hDe
    by_cases hlt : k < n
    · have hk1 : k < l.length := by have := HN.out; omega
      obtain ⟨b, o, rfl, hrg⟩ := RA.ac3 ((hl.le HM.out.1).now H1.d0) k hk1
      have hms := Kv.mturn_snoc (D := D.map Pa.pr) hk1
      rw [← HM.out.2.2] at hms
      have hp := (HI.out.1.le HM.out.1) _ (List.getElem_mem hk1)
      have hz := HI.out.2 _ (List.getElem_mem hk1)
      obtain ⟨p, hpe⟩ : ∃ p, p = l[k] := ⟨_, rfl⟩
      rw [← hpe] at hrg hms hp hz
      obtain ⟨key, set, ⟨PA, PN, PC, PL⟩⟩ := p
      unfold ac Pc.v at hrg
      simp only at hrg hp hz
      obtain ⟨⟨hPN, hPA, hPC⟩, hpr⟩ := hp
      simp only at hPN hPA hPC hpr
      have H5 := (H1.new [.string (str key), .bool set, .slice PA PN PC] 53).f1
      have HRG := Lib.hid hrg
      have HMS := Lib.hid hms
      have HP := Lib.hid (And.intro hPN (And.intro hPA (And.intro hPC (And.intro hpr hz))))
      have HLT := Lib.hid hlt
      have q1 : (k : Int) < (n : Int) := by omega
      have q1n : k < n := hlt
      obtain ⟨S, hSe⟩ : ∃ S, S = str key := ⟨_, rfl⟩
      rw [← hSe] at H5 HRG
      have HSE := Lib.hid hSe
      have r0 := H5.cell 1 rfl 0
      have r1 := H5.cell 1 rfl 1
      have r2 := H5.cell 1 rfl 2
      simp only [List.getElem?_cons_succ, List.getElem?_cons_zero] at r0 r1 r2
      clear hrg hms hPN hPA hPC hpr hpe hk1 hlt hSe hz H1
      cases set with
      | true =>
        go_wp2_with (refine wpList_load_mid (by rfl) 53 (.tmp 10) (by rfl) b (o + k * 3) (by rfl) [.string S, .bool _, .slice PA PN PC] _ HRG.out Try.underlying53 rfl (by exact Try.sizeAct) ?_)
        refine Pt.wp_plan (fun w' => w'.cell? ⟨wr.heap.size, 0, none⟩ = some (.string S) ∧ w'.cell? ⟨wr.heap.size, 2, none⟩ = some (.slice PA PN PC)) (Pt.prs [0, 1, 3] (Pt.rds [2, 4] (.go 5 (.go 6 .fin)))) [] Try.mixed (by kernel_rfl) (fun _ _ d _ _ h => by cases d <;> exact h) ⟨r0, r2⟩ ?_
        have H6 := H5.drew
        clear r0 r1 r2 H5
        simp only [Pt.toL, Pt.rds, Pt.prs, Pt.at_, List.drop_succ_cons, List.drop_zero]
        iterate 3 (refine Pt.pr_run (v := ?_) (by rfl) ?_ ?_; rotate_left; (focus (intro w'; go_simp; with_reducible rfl)); simp only [Act.put, List.setIfInBounds_toArray, List.set_cons_zero, List.set_cons_succ])
        iterate 2 (refine Pt.rd_run (v := ?_) (by rfl) ?_ ?_; rotate_left; (focus (intro w' hS; obtain ⟨s0, s1⟩ := hS; go_simp; with_reducible rfl)); simp only [Act.put, List.setIfInBounds_toArray, List.set_cons_zero, List.set_cons_succ])
        generalize hwx : (wr.alloc (.cells #[.string S, .bool true, .slice PA PN PC] 53)).drew = wx at *
        generalize hgx : wr.heap.size = gx at *
        clear hwx hgx
        have hcl := clone_any (c := PC) H6 (A := PA) (l := PL) HP.out.2.1 (by rw [← HP.out.1]; exact HP.out.2.2.1) (Sr.of_in HP.out.2.2.2.1) (by have := HP.out.2.2.2.2; omega)
        rw [← HP.out.1] at hcl
        have HCL := Lib.hid hcl
        clear hcl
        refine Pt.run_go ?_
        go_wp2_with fail
        refine HCL.out.mono ?_
        rintro e w1 ⟨v1, rfl, H7⟩
        obtain ⟨A7, c7, rfl, hc7, hA7⟩ := H7.shape' 0 rfl
        obtain ⟨M2, hM2, H8, hin2⟩ := H7.keepRow
        have HK := Lib.hid (And.intro hM2 (And.intro hin2 (And.intro hc7 hA7)))
        clear hM2 hin2 hc7 hA7 H7 H6 HCL
        go_wp2_with fail
        refine Pt.same ⟨H8.cell 1 rfl 0, H8.cell 1 rfl 2⟩ ?_
        refine Pt.run_go ?_
        rw [HSE.out] at H8 ⊢
        refine wpList_mapset_st H8 (by rfl) (.tmp 14) (.tmp 16) (.tmp 19) (by rfl) Try.underlying39 Try.underlying9 ⟨key, ⟨A7, PN, c7, PL⟩⟩ (by rfl) (by rfl) (by rfl) ?_
        intro w2 H9
        refine wpList_nil ?_
        simp only [Pl.Then, Act.put, List.setIfInBounds_toArray, List.set_cons_zero, List.set_cons_succ]
        refine Pt.same ⟨H9.cell 1 rfl 0, H9.cell 1 rfl 2⟩ ?_
        refine Pt.run_fin ?_
        clear H8
        go_wp2
        exact ⟨⟨k + 1, putD D' ⟨key, ⟨A7, PN, c7, PL⟩⟩, M2, by have := HLT.out; omega, by go_num, HM.out.1.trans HK.out.1, (HM.out.2.1.le HK.out.1).put ⟨HP.out.1, HK.out.2.2.2, HK.out.2.2.1⟩ HK.out.2.1, by rw [HMS.out, putD_pr]; rfl, H9.d1⟩, by have := HLT.out; simp [intOf]; omega⟩
      | false =>
        go_upto_region 5 with (refine wpList_load_mid (by rfl) 53 (.tmp 10) (by rfl) b (o + k * 3) (by rfl) [.string S, .bool _, .slice PA PN PC] _ HRG.out Try.underlying53 rfl (by exact Try.sizeAct) ?_)
        refine wp_region_lit ?_
        iterate 3 (refine wpList_ex (v := ?_) (by rfl) ?_ ?_; rotate_left; (focus (go_simp; with_reducible rfl)); simp only [Act.put, List.setIfInBounds_toArray, List.set_cons_zero, List.set_cons_succ])
        rw [HSE.out] at H5 ⊢
        refine wpList_mapdel_st H5 (by rfl) (.tmp 20) (.tmp 22) (by rfl) Try.underlying39 Try.underlying9 key (by rfl) (by rfl) ?_
        intro w2 H9
        simp only [Act.put, List.setIfInBounds_toArray, List.set_cons_zero, List.set_cons_succ]
        refine wpList_nil ?_
        clear r0 r1 r2 H5
        go_wp2
        exact ⟨⟨k + 1, delD D' key, M', by have := HLT.out; omega, by go_num, HM.out.1, HM.out.2.1.del key, by rw [HMS.out, delD_pr]; rfl, H9.d1⟩, by have := HLT.out; simp [intOf]; omega⟩
    · obtain rfl : k = n := by omega
      have htk : l.take k = l := by rw [HN.out, List.take_length]
      have hde := HM.out.2.2
      rw [htk] at hde
      have HDE := Lib.hid hde
      clear hde htk hlt
      go_wp2
      go_end0
      exact ⟨D', M', rfl, HM.out.1, HM.out.2.1, HDE.out, H1⟩
end
end Go.Proofs.Ytpomjaidaignpaa
