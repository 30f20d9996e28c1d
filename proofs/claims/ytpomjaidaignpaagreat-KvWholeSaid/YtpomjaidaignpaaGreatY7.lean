/- The law's open: a file of bytes, its store, and the document's. -/
import Derived.Test.YtpomjaidaignpaaGreatY6
import Derived.Test.YtpomjaidaignpaaGreatS4
set_option linter.unusedVariables false
set_option linter.unusedSimpArgs false
namespace Go.Proofs.YtpomjaidaignpaaGreat
open Go.RowKit Wd
section
variable {P : Program} {fn : Func} {R : Ending → World → Prop} {a : Act} {w0 w : World} {M : Mem} {L : List Ent} {g : Nat} {t ty : TypeId} {cs : List Value} {d : TypeDesc}
/-- Four results, the third a row in memory. -/
theorem ret_four (H : St w0 w M (eb g t cs :: L)) {p q s u : Tmp} (hr : fn.results = #[.tmp p, .tmp q, .cell s ty, .tmp u]) (ht : a.tmps.getD s undef = .pointer (some ⟨g, 0, none⟩)) (hu : P.underlying ty = some d) (hd : d.isRow = true) (hi : (P.info? ty).map (·.size) = some cs.length) (hf : a.defers = [])
    (hR : R (.returned (.tuple #[a.tmps.getD p undef, a.tmps.getD q undef, .agg cs.toArray, a.tmps.getD u undef])) w) : bodyPost P fn R .ret a w := by
  refine bodyPost_ret (v := .tuple #[a.tmps.getD p undef, a.tmps.getD q undef, .agg cs.toArray, a.tmps.getD u undef]) ?_ hf hR
  have h1 := load_row H hu hd hi
  have ht' : a.tmps[s]?.getD undef = .pointer (some ⟨g, 0, none⟩) := by rw [← ht]; simp
  simp [results, hr, ht', asAddr, Sem.run_pure, h1]
end
section
variable {w0 w : World} {M : Mem} {L : List Ent} {s g f mb gen en : Nat} {F : FM} {ls : List (List UInt8)} {D : List Pa}
theorem KS.perm {L' : List Ent} (H : KS w0 w M s g f mb F gen ls en D L) (h : L.Perm L') : KS w0 w M s g f mb F gen ls en D L' := by
  obtain ⟨Hd, h1, h2⟩ := H.open_
  exact h2 _ _ _ _ (Mem.le.refl _) H.1 (h1.perm (((List.Perm.append_left Hd h).cons _).cons _))
theorem KS.sub {L' : List Ent} (H : KS w0 w M s g f mb F gen ls en D L) (h : L'.Sublist L) : KS w0 w M s g f mb F gen ls en D L' := by
  obtain ⟨Hd, h1, h2⟩ := H.open_
  exact h2 _ _ _ _ (Mem.le.refl _) H.1 (h1.sub (((List.Sublist.append (List.Sublist.refl Hd) h).cons_cons _).cons_cons _))
/-- The first entry beside the store; what turns it. -/
theorem KS.out1 {a : Ent} (H : KS w0 w M s g f mb F gen ls en D (a :: L)) : ∃ Z : List Ent, St w0 w M (a :: Z) ∧ ∀ w' M' a', M.le M' → St w0 w' M' (a' :: Z) → KS w0 w' M' s g f mb F gen ls en D (a' :: L) := by
  obtain ⟨Hd, h1, h2⟩ := H.open_
  have pm : ∀ a : Ent, (a :: mp mb D :: eb s 70 (scells g mb) :: (Hd ++ L)).Perm (mp mb D :: eb s 70 (scells g mb) :: (Hd ++ a :: L)) := fun a => by
    have h3 : (Hd ++ a :: L).Perm (a :: (Hd ++ L)) := List.perm_middle
    exact ((List.Perm.swap _ _ _).trans ((List.Perm.swap _ _ _).cons _)).trans ((h3.symm.cons _).cons _)
  exact ⟨_, h1.perm (pm a).symm, fun w' M' a' hM h => h2 _ _ _ _ hM (H.1.le hM) (h.perm (pm a'))⟩
end
theorem Kv.of_none {b : List UInt8} (h : Kv.RS.of b = none) : Kv.mload [] (Lg.records (Lg.generation b) (Lg.half b (Lg.generation b))).1 = none := by
  unfold Kv.RS.of at h
  rcases Kv.load_rel (Lg.records (Lg.generation b) (Lg.half b (Lg.generation b))).1 Kv.Rel.nil with ⟨_, h2⟩ | ⟨L', D', h1, h2, _⟩
  · exact h2
  · rw [h1] at h
    cases h
theorem Kv.of_some {b : List UInt8} {S : Kv.RS} {nb : Nat} (hb : b.length = 64 * nb) (h6 : 6 ≤ nb) (h128 : nb ≤ 128) (h : Kv.RS.of b = some S) {F : FM} (hn : F.n = nb) (hl : F.l = b) :
    ∃ D0, Kv.mload [] (Lg.records (Lg.generation b) (Lg.half b (Lg.generation b))).1 = some D0 ∧ Kv.SI F (Lg.generation b) (Lg.records (Lg.generation b) (Lg.half b (Lg.generation b))).1 (Lg.records (Lg.generation b) (Lg.half b (Lg.generation b))).2 D0 S := by
  unfold Kv.RS.of at h
  rcases Kv.load_rel (Lg.records (Lg.generation b) (Lg.half b (Lg.generation b))).1 Kv.Rel.nil with ⟨h1, _⟩ | ⟨L', D', h1, h2, h3⟩
  · rw [h1] at h
    cases h
  · rw [h1] at h
    injection h with h
    subst h
    refine ⟨D', h2, ?_⟩
    have hh := Lg.half_len (gen := Lg.generation b) hb (by omega)
    exact ⟨by omega, by omega, by rw [hl, hn]; exact hb, by rw [hl], by rw [hl], ⟨D', h2, List.Perm.refl _⟩, h3, rfl, rfl, by rw [hn]; exact hh⟩
/-- What the law's open gives. -/
def RetLOpen (w0 : World) (M : Mem) (L : List Ent) (b : List UInt8) (e : Ending) (w' : World) : Prop :=
  ∃ f M', M.le M' ∧
    (Kv.RS.of b = none ∧ e = .returned (.tuple #[.pointer (some ⟨f, 0, none⟩), .pointer none, .agg rs0.toArray, .bool true]) ∧ FS w0 w' M' f (FM.load b) L ∨
     ∃ S cs s g mb D gen ls en, Kv.RS.of b = some S ∧ e = .returned (.tuple #[.pointer (some ⟨f, 0, none⟩), .pointer (some ⟨s, 0, none⟩), .agg cs.toArray, .bool true]) ∧ RsIn M' S cs ∧ Kv.SI (FM.load b) gen ls en (D.map Pa.pr) S ∧ KS w0 w' M' s g f mb (FM.load b) gen ls en D L)
section
variable {w0 w : World} {M : Mem} {L : List Ent}
set_option maxRecDepth 100000 in
set_option maxHeartbeats 4000000 in
theorem lopen_any (H : St w0 w M L) {A : Option Addr} {c n nb : Nat} {b : List UInt8} (hn : n = b.length) (hnb : n = 64 * nb) (h6 : 6 ≤ nb) (h128 : nb ≤ 128) (hl : In M (RB · A b)) (hc : n ≤ c) (hc2 : c ≤ 9223372036854775807) :
    Calls Tryz.prog 5 #[.slice A n c] w (RetLOpen w0 M L b) := by
  have H1 := H.new rs0 30
  have hof := rof20_any (n := n) H1 hn hnb h6 h128 hl hc hc2
  have hld := fun (w : World) (M' : Mem) (L : List Ent) (hM : M.le M') (H : St w0 w M' L) => fs_load H ((hl.le hM).now H) (by rw [← hn, hnb]; omega) (by omega) (by omega) (by rw [← hn]; exact hc)
  rw [← hn] at hld
  have hFn : (FM.load b).n = nb := by show b.length / 64 = nb; rw [← hn, hnb, Nat.mul_div_cancel_left _ (by decide)]
  have hln := (Lg.rec_of_scan _ _ (rfl : Lg.scan (Lg.generation b) (Lg.half b (Lg.generation b)) (Lg.half b (Lg.generation b)).length 0 = ((Lg.scan (Lg.generation b) (Lg.half b (Lg.generation b)) (Lg.half b (Lg.generation b)).length 0).1, (Lg.scan (Lg.generation b) (Lg.half b (Lg.generation b)) (Lg.half b (Lg.generation b)).length 0).2)))
  obtain ⟨F, hF⟩ : ∃ F, F = FM.load b := ⟨_, rfl⟩
  have hFl : F.l = b := by rw [hF]; rfl
  rw [← hF] at hFn
  obtain ⟨gen, hgen⟩ : ∃ gen, gen = Lg.generation b := ⟨_, rfl⟩
  obtain ⟨ls, hls⟩ : ∃ ls, ls = (Lg.records gen (Lg.half b gen)).1 := ⟨_, rfl⟩
  obtain ⟨en, hen⟩ : ∃ en, en = (Lg.records gen (Lg.half b gen)).2 := ⟨_, rfl⟩
  have hrec : Lg.records gen (Lg.half F.l gen) = (ls, en) := by rw [hFl, hls, hen]
  have hhl := Lg.half_len (l := b) (n := nb) (gen := gen) (by omega) (by omega)
  obtain ⟨r, -⟩ := Lg.records_rec hrec
  have hlong := r.long
  have hle := r.le
  rw [hFl, hhl] at hle
  have hlsn : ls.length ≤ 10000 := by
    have h1 : 64 * Lg.halfN nb ≤ 8192 := by unfold Lg.halfN; omega
    rcases hle.2 with h2 | h2
    · rw [h2]; simp
    · omega
  have hno : Kv.RS.of b = none → Kv.mload [] ls = none := fun h => by rw [hls, hgen]; exact Kv.of_none h
  have hso : ∀ S, Kv.RS.of b = some S → ∃ D0, Kv.mload [] ls = some D0 ∧ Kv.SI F gen ls en D0 S := fun S h => by
    obtain ⟨D0, h1, h2⟩ := Kv.of_some (F := F) (nb := nb) (by omega) h6 h128 h hFn hFl
    rw [← hgen, ← hls, ← hen] at h2
    rw [← hgen, ← hls] at h1
    exact ⟨D0, h1, h2⟩
  have hko := fun (w : World) (M : Mem) (L : List Ent) (f : Nat) (H : FS w0 w M f F L) => kopen_any H (by omega) gen ls en (by rw [hFl, hgen]) hrec (fun l hl => by have := hlong l hl; omega) (by omega)
  rw [← hF] at hld
  have HOF := Lib.hid hof
  have HLD := Lib.hid hld
  have HKO := Lib.hid hko
  have HS := Lib.hid (And.intro hno (And.intro hso hF))
  clear hof hld hko hno hso hF hlsn hle hlong r hhl hrec hen hls hgen hFl hln hFn hn hnb h6 h128 hl hc hc2 H1
  go_enter Tryz.func5, Tryz.ntmps5
  go_wp2_with fail
  refine HOF.out.mono ?_
  rintro e w1 ⟨M1, hM1, H2, (⟨hx, rfl⟩ | ⟨S, cs, hx, rfl, hrs⟩)⟩
  · have H3 := H2.newg rs0 30 rfl
    have HM1 := Lib.hid (And.intro hM1 hx)
    unfold rs0
    clear hM1 hx HOF
    go_wp2_with fail
    refine (HLD.out _ _ _ HM1.out.1 H3).mono ?_
    rintro e w2 ⟨f, rfl, H4⟩
    generalize w1.heap.size = gO at *
    generalize w.heap.size = g0 at *
    clear H3 H2 H HLD
    go_wp2_with fail
    refine (HKO.out _ _ _ _ H4).mono ?_
    rintro e w3 (⟨M3, hml, rfl, hM3, H5⟩ | ⟨s, g, mb, D, M3, hml, rfl, hM3, H5⟩)
    · have HM3 := Lib.hid hM3
      clear hM3 hml H4 HKO
      go_wp2_with fail
      refine Pt.wp_plan (fun w' => Blk w' gO 30 rs0) (Pt.prs [0, 2, 3, 4, 5, 6, 7, 8, 9] (Pt.rds [1] (.go 10 (Pt.prs [11] .fin)))) [] Tryz.mixed (by kernel_rfl) (fun _ _ d _ _ h => by cases d <;> exact h) (H5.drew.rest.blk 0 rfl) ?_
      have H6 := H5.drew
      clear H5
      simp only [Pt.toL, Pt.rds, Pt.prs, Pt.at_, List.drop_succ_cons, List.drop_zero]
      iterate 9 (refine Pt.pr_run (v := ?_) (by rfl) ?_ ?_; rotate_left; (focus (intro w'; go_simp; with_reducible rfl)); simp only [Act.put, List.setIfInBounds_toArray, List.set_cons_zero, List.set_cons_succ])
      refine Pt.rd_load (by rfl) 30 (.tmp 6) (by rfl) gO 0 (by rfl) rs0 _ (fun w' h => h.range 0 4 _ rfl) Tryz.underlying30 rfl (by exact Tryz.sizeState) ?_
      simp only [Act.put, List.setIfInBounds_toArray, List.set_cons_zero, List.set_cons_succ]
      obtain ⟨Z, HZ, hb⟩ := (Fs_perm H6 (List.Perm.swap _ _ _)).out
      refine Pt.run_go ?_
      refine wpList_store_st HZ (by rfl) 30 (.tmp 4) (.tmp 36) (by rfl) 0 rs0 (by rfl) (by rfl) (by simp [rs0]) (by exact Tryz.sizeState) (by simp [rs0, Value.oneCell']) ?_
      intro w4 H7
      rw [ins_all rs0 rs0 rfl] at H7
      have H8 := hb _ _ _ H7
      refine wpList_nil ?_
      refine Pt.same (H8.rest.blk 1 rfl) ?_
      simp only [Act.put, List.setIfInBounds_toArray, List.set_cons_zero, List.set_cons_succ]
      (refine Pt.pr_run (v := ?_) (by rfl) ?_ ?_; rotate_left; (focus (intro w'; go_simp; with_reducible rfl)); simp only [Act.put, List.setIfInBounds_toArray, List.set_cons_zero, List.set_cons_succ])
      refine Pt.run_fin ?_
      clear hb HZ H6
      go_wp2
      refine ret_four H7 (by rfl) (by rfl) Tryz.underlying30 (by rfl) (by exact Tryz.sizeState) rfl ?_
      have hF := HS.out.2.2
      rw [hF] at H8
      exact ⟨f, M3, HM1.out.1.trans HM3.out, .inl ⟨HM1.out.2, rfl, H8.drop.drop⟩⟩
    · rw [HS.out.1 HM1.out.2] at hml
      cases hml
  · obtain ⟨A1, n1, c1, ps, A2, n2, c2, qs, rfl, hrr⟩ := hrs
    have H3 := H2.newg [.slice A1 n1 c1, .slice A2 n2 c2, .int .u64 (S.gen : Int), .int .i64 (S.size : Int)] 30 rfl
    have HM1 := Lib.hid (And.intro hM1 (And.intro hx hrr))
    clear hM1 hx hrr HOF
    go_wp2_with fail
    refine (HLD.out _ _ _ HM1.out.1 H3).mono ?_
    rintro e w2 ⟨f, rfl, H4⟩
    generalize w1.heap.size = gO at *
    generalize w.heap.size = g0 at *
    clear H3 H2 H HLD
    go_wp2_with fail
    refine (HKO.out _ _ _ _ H4).mono ?_
    rintro e w3 (⟨M3, hml, rfl, hM3, H5⟩ | ⟨s, g, mb, D, M3, hml, rfl, hM3, H5⟩)
    · obtain ⟨D0, hd, -⟩ := HS.out.2.1 S HM1.out.2.1
      rw [hd] at hml
      cases hml
    · obtain ⟨D0, hd, hsi⟩ := HS.out.2.1 S HM1.out.2.1
      rw [hd] at hml
      injection hml with hml
      subst hml
      have HM3 := Lib.hid (And.intro hM3 hsi)
      clear hM3 hd hsi H4 HKO
      go_wp2_with fail
      refine Pt.wp_plan (fun w' => Blk w' gO 30 [.slice A1 n1 c1, .slice A2 n2 c2, .int .u64 (S.gen : Int), .int .i64 (S.size : Int)]) (Pt.prs [0, 1, 3, 4, 5, 6, 7, 8, 9, 10] (Pt.rds [2] (.go 11 (Pt.prs [12] .fin)))) [] Tryz.mixed (by kernel_rfl) (fun _ _ d _ _ h => by cases d <;> exact h) (H5.drew.rest.blk 0 rfl) ?_
      have H6 := H5.drew
      clear H5
      simp only [Pt.toL, Pt.rds, Pt.prs, Pt.at_, List.drop_succ_cons, List.drop_zero]
      iterate 10 (refine Pt.pr_run (v := ?_) (by rfl) ?_ ?_; rotate_left; (focus (intro w'; go_simp; with_reducible rfl)); simp only [Act.put, List.setIfInBounds_toArray, List.set_cons_zero, List.set_cons_succ])
      refine Pt.rd_load (by rfl) 30 (.tmp 6) (by rfl) gO 0 (by rfl) [.slice A1 n1 c1, .slice A2 n2 c2, .int .u64 (S.gen : Int), .int .i64 (S.size : Int)] _ (fun w' h => h.range 0 4 _ rfl) Tryz.underlying30 rfl (by exact Tryz.sizeState) ?_
      simp only [Act.put, List.setIfInBounds_toArray, List.set_cons_zero, List.set_cons_succ]
      obtain ⟨Z, HZ, hb⟩ := (H6.perm (List.Perm.swap _ _ _)).out1
      refine Pt.run_go ?_
      refine wpList_store_st HZ (by rfl) 30 (.tmp 4) (.tmp 45) (by rfl) 0 [.slice A1 n1 c1, .slice A2 n2 c2, .int .u64 (S.gen : Int), .int .i64 (S.size : Int)] (by rfl) (by rfl) (by simp [rs0]) (by exact Tryz.sizeState) (by simp [Value.oneCell']) ?_
      intro w4 H7
      rw [ins_all rs0 [.slice A1 n1 c1, .slice A2 n2 c2, .int .u64 (S.gen : Int), .int .i64 (S.size : Int)] rfl] at H7
      have H8 := hb _ _ _ (Mem.le.refl _) H7
      refine wpList_nil ?_
      refine Pt.same (H8.rest.blk 1 rfl) ?_
      simp only [Act.put, List.setIfInBounds_toArray, List.set_cons_zero, List.set_cons_succ]
      (refine Pt.pr_run (v := ?_) (by rfl) ?_ ?_; rotate_left; (focus (intro w'; go_simp; with_reducible rfl)); simp only [Act.put, List.setIfInBounds_toArray, List.set_cons_zero, List.set_cons_succ])
      refine Pt.run_fin ?_
      clear hb HZ H6
      go_wp2
      refine ret_four H7 (by rfl) (by rfl) Tryz.underlying30 (by rfl) (by exact Tryz.sizeState) rfl ?_
      have hrs : RsIn M3 S [.slice A1 n1 c1, .slice A2 n2 c2, .int .u64 (S.gen : Int), .int .i64 (S.size : Int)] := RsIn.le ⟨A1, n1, c1, ps, A2, n2, c2, qs, rfl, HM1.out.2.2⟩ HM3.out.1
      have hF := HS.out.2.2
      have hsi := HM3.out.2
      rw [hF] at H8 hsi
      exact ⟨f, M3, HM1.out.1.trans HM3.out.1, .inr ⟨S, _, s, g, mb, D, gen, ls, en, HM1.out.2.1, rfl, hrs, hsi, H8.drop.drop⟩⟩
end
end Go.Proofs.YtpomjaidaignpaaGreat
