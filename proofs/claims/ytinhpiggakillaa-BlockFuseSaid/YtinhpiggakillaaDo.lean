/- The law's own 'does': an act, with the file and with the reference's. -/
import Derived.Test.YtinhpiggakillaaR7
import Derived.Test.YtinhpiggakillaaPt
import Derived.Deep.DeepCutAuto
set_option linter.unusedVariables false
set_option linter.unusedSimpArgs false
namespace Go.Proofs.Ytinhpiggakillaa
open Go.RowKit Wd

/-- The reference's file in memory that is never written. -/
structure RV (M : Mem) (R : RM) (A : Option Addr) (c : Nat) (B : Option Addr) (d : Nat) : Prop where
  hA : A = none → c = 0
  hc : R.b.length ≤ c
  hl : In M (RB · A R.b)
  hB : B = none → d = 0
  hd : R.ws.length ≤ d
  hw : In M (WR · B R.ws)
theorem RV.le {M M' : Mem} {R : RM} {A B : Option Addr} {c d : Nat} (h : RV M R A c B d) (hm : M.le M') : RV M' R A c B d := { h with hl := h.hl.le hm, hw := h.hw.le hm }
def rval (R : RM) (A : Option Addr) (c : Nat) (B : Option Addr) (d : Nat) : List Value := rfv A R.b.length c B R.ws.length d R.set R.left R.torn R.off
def acs (d i : Int) (b : UInt8) (k t : Int) : List Value := [.int .i64 d, .int .i64 i, .int .u8 (b.toNat : Int), .int .i64 k, .int .i64 t]
theorem wr_nil (w : World) : WR w none [] := ⟨fun h => absurd rfl h, fun e he => by cases he⟩
/-- What 'does' leaves. -/
def Did (w0 : World) (M : Mem) (f : Nat) (F : FM) (j : Nat) (L : List Ent) (e : Ending) (w' : World) : Prop :=
  ∃ (F' : FM) (R' : RM) (A' : Option Addr) (c' : Nat) (B' : Option Addr) (d' : Nat) (M' : Mem), e = .returned (.tuple #[.agg (rval R' A' c' B' d').toArray, .bool true]) ∧ M.le M' ∧ RV M' R' A' c' B' d' ∧ Rel F' R' (j + 1) ∧ F'.n = F.n ∧ FS w0 w' M' f F' L
section
variable {w0 w : World} {M : Mem} {L : List Ent} {f : Nat} {F : FM} {R : RM} {A B : Option Addr} {c d j : Nat}
theorem FS.addBlk {w' : World} (H : FS w0 w M f F L) (k : Below w.heap.size w w') {g : Nat} {t : TypeId} {cs : List Value} (ha : Blk w' g t cs) (hg : w.heap.size ≤ g) : FS w0 w' M f F (eb g t cs :: L) := by
  obtain ⟨ok, lb, pv, H⟩ := H
  exact ⟨ok, lb, pv, fs_add rfl (H.addBlk k ha hg)⟩
theorem fs_filled (H : FS w0 w M f F L) (x : UInt8) : Calls Try.prog 11 #[.int .u8 (x.toNat : Int)] w fun e w' => ∃ g, e = .returned (.slice (some ⟨g, 0, none⟩) 64 64) ∧ FS w0 w' M f F (eb g 5 (bv (List.replicate 64 x)) :: L) := by
  refine (filled_any x w).mono ?_
  rintro e w' ⟨rfl, h1, _, h2⟩
  exact ⟨_, rfl, H.addBlk h2 h1 (Nat.le_refl _)⟩
theorem wcs_nil_ra (w : World) (A : Option Addr) : WR w A [] := ⟨fun h => absurd rfl h, fun e he => by cases he⟩
set_option maxRecDepth 100000 in
set_option maxHeartbeats 1000000 in
theorem does_sync (HF : FS w0 w M f F L) (hv : RV M R A c B d) (hr : Rel F R j) (hj : j ≤ 60) (I : Int) (x : UInt8) (K T : Int) :
    Calls Try.prog 14 #[.pointer (some ⟨f, 0, none⟩), .agg (rval R A c B d).toArray, .agg (acs 1 I x K T).toArray] w (Did w0 M f F j L) := by
  have H3 := ((HF.newg (rval R A c B d) 38 rfl).newg (acs 1 I x K T) 40 (g := w.heap.size + 1) (by simp)).newg rfz 38 (g := w.heap.size + 1 + 1) (by simp)
  simp only [rval, rfv, acs, rfz] at H3 ⊢
  go_enter Try.func14, Try.ntmps14
  go_wp2_with fail
  refine (fs_sync H3).mono ?_
  rintro e w1 ⟨rfl, H4⟩
  clear HF H3
  generalize w.heap.size = g at *
  obtain ⟨ok, lb, pv, H5⟩ := H4
  obtain ⟨z0, z1, z2, z3, z4, z5⟩ := H5.cells6 5 rfl
  go_wp2_with fail
  refine (ref_sync H5 R.set R.off R.left R.torn hv.hA hv.hc hv.hl hv.hw hr.len hr.n2 hr.ok (by have := hr.many; omega)).mono ?_
  rintro e w2 ⟨A', c', M', rfl, hA', hc', hM', hl', H6⟩
  clear H5 z0 z1 z2 z3 z4 z5
  simp only [rfv]
  have H7 := H6.f3
  obtain ⟨x0, x1, x2, x3, x4, x5⟩ := H7.cells6 0 rfl
  have f2 := H7.frozen 0 rfl
  have hrs := hr.sync
  have HL := Lib.hid hrs.len
  have HLL := Lib.hid hr.len
  go_wp2
  have H8 := ((((((H7.set 0 (.slice A' R.b.length c')).set 1 (.slice none 0 0)).set 2 (.bool R.set)).set 3 (.int .i64 R.left)).set 4 (.int .i64 R.torn)).set 5 (.bool R.off))
  refine ret_row_tmp H8 (by rfl) (by rfl) Try.underlying38 (by rfl) (by exact Try.sizeRF) rfl ?_
  have e1 : R.sync.b.length = R.b.length := by rw [HL.out, HLL.out]
  refine ⟨{ F with pend := [] }, R.sync, A', c', none, 0, M', ?_, hM', ⟨hA', by rw [e1]; exact hc', hl', fun _ => rfl, Nat.le_refl _, fun W _ => wcs_nil_ra W none⟩, hrs.mono (by omega), rfl, ?_⟩
  · unfold rval
    rw [e1]
    rfl
  · exact FS.drop (FS.drop ⟨ok, lb, pv, H8.d0⟩)
set_option maxRecDepth 100000 in
set_option maxHeartbeats 1000000 in
theorem does_crash (HF : FS w0 w M f F L) (hv : RV M R A c B d) (hr : Rel F R j) (hj : j ≤ 60) (I : Int) (x : UInt8) (K T : Int) (hK : K ≤ 9223372036854775807) :
    Calls Try.prog 14 #[.pointer (some ⟨f, 0, none⟩), .agg (rval R A c B d).toArray, .agg (acs 2 I x K T).toArray] w (Did w0 M f F j L) := by
  have H3 := ((HF.newg (rval R A c B d) 38 rfl).newg (acs 2 I x K T) 40 (g := w.heap.size + 1) (by simp)).newg rfz 38 (g := w.heap.size + 1 + 1) (by simp)
  simp only [rval, rfv, acs, rfz] at H3 ⊢
  have hm := hr.many
  have hpn := hr.pn
  have HPN := Lib.hid hpn
  clear hpn
  go_enter Try.func14, Try.ntmps14
  go_wp2_with fail
  refine (fs_crash H3 K T (by have := HPN.out; omega) hK).mono ?_
  rintro e w1 ⟨rfl, H4⟩
  clear HF H3
  generalize w.heap.size = g at *
  have k0 := H4.cell 1 rfl 3
  have k1 := H4.cell 1 rfl 4
  simp only [List.getElem?_cons_succ, List.getElem?_cons_zero] at k0 k1
  obtain ⟨ok, lb, pv, H5⟩ := H4
  obtain ⟨z0, z1, z2, z3, z4, z5⟩ := H5.cells6 5 rfl
  go_wp2_with fail
  refine (ref_crash H5 R.set R.off R.left R.torn hv.hA hv.hc hv.hl hv.hw hr.len hr.n2 hr.ok (by omega) hv.hd K T).mono ?_
  rintro e w2 ⟨A', c', M', rfl, hA', hc', hM', hl', H6⟩
  clear H5 z0 z1 z2 z3 z4 z5 k0 k1
  simp only [rfv]
  have H7 := H6.f3
  obtain ⟨x0, x1, x2, x3, x4, x5⟩ := H7.cells6 0 rfl
  have f2 := H7.frozen 0 rfl
  have hrs := hr.crash K T
  have HL := Lib.hid hrs.len
  have HLL := Lib.hid hr.len
  go_wp2
  have H8 := ((((((H7.set 0 (.slice A' R.b.length c')).set 1 (.slice none 0 0)).set 2 (.bool false)).set 3 (.int .i64 0)).set 4 (.int .i64 0)).set 5 (.bool false))
  refine ret_row_tmp H8 (by rfl) (by rfl) Try.underlying38 (by rfl) (by exact Try.sizeRF) rfl ?_
  have e1 : (R.crash K T).b.length = R.b.length := by rw [HL.out, HLL.out]; rfl
  refine ⟨F.crash K T, R.crash K T, A', c', none, 0, M', ?_, hM', ⟨hA', by rw [e1]; exact hc', hl', fun _ => rfl, Nat.le_refl _, fun W _ => wcs_nil_ra W none⟩, hrs.mono (by omega), rfl, ?_⟩
  · unfold rval
    rw [e1]
    rfl
  · exact FS.drop (FS.drop ⟨ok, lb, pv, H8.d0⟩)
set_option maxRecDepth 100000 in
set_option maxHeartbeats 1000000 in
theorem does_fuse (HF : FS w0 w M f F L) (hv : RV M R A c B d) (hr : Rel F R j) (hj : j ≤ 60) (I : Int) (x : UInt8) (K T : Int) (hK : K ≤ 9223372036854775807) :
    Calls Try.prog 14 #[.pointer (some ⟨f, 0, none⟩), .agg (rval R A c B d).toArray, .agg (acs 4 I x K T).toArray] w (Did w0 M f F j L) := by
  have H3 := ((HF.newg (rval R A c B d) 38 rfl).newg (acs 4 I x K T) 40 (g := w.heap.size + 1) (by simp)).newg rfz 38 (g := w.heap.size + 1 + 1) (by simp)
  simp only [rval, rfv, acs, rfz] at H3 ⊢
  go_enter Try.func14, Try.ntmps14
  go_wp2_with fail
  refine (fs_fuse H3 K T hK).mono ?_
  rintro e w1 ⟨rfl, H4⟩
  clear HF H3
  generalize w.heap.size = g at *
  have k0 := H4.cell 1 rfl 3
  have k1 := H4.cell 1 rfl 4
  simp only [List.getElem?_cons_succ, List.getElem?_cons_zero] at k0 k1
  obtain ⟨ok, lb, pv, H5⟩ := H4
  obtain ⟨z0, z1, z2, z3, z4, z5⟩ := H5.cells6 5 rfl
  go_wp2_with fail
  refine (ref_fuse H5 A B c d R.b.length R.ws.length R.set R.off R.left R.torn K T).mono ?_
  rintro e w2 ⟨rfl, H6⟩
  clear H5 z0 z1 z2 z3 z4 z5 k0 k1
  simp only [rfv]
  have H7 := H6.f3
  obtain ⟨x0, x1, x2, x3, x4, x5⟩ := H7.cells6 0 rfl
  have f2 := H7.frozen 0 rfl
  have hrs := hr.fuse K T hK
  go_wp2
  have H8 := ((((((H7.set 0 (.slice A R.b.length c)).set 1 (.slice B R.ws.length d)).set 2 (.bool (!R.off))).set 3 (.int .i64 (max 0 K))).set 4 (.int .i64 T)).set 5 (.bool R.off))
  refine ret_row_tmp H8 (by rfl) (by rfl) Try.underlying38 (by rfl) (by exact Try.sizeRF) rfl ?_
  exact ⟨F.fuse K T, R.fuse K T, A, c, B, d, M, rfl, Mem.le.refl _, ⟨hv.hA, hv.hc, hv.hl, hv.hB, hv.hd, hv.hw⟩, hrs.mono (by omega), rfl, FS.drop (FS.drop ⟨ok, lb, pv, H8.d0⟩)⟩

/-- What a write tells, and what it leaves. -/
def Wrote (F : FM) (I : Int) (b : List UInt8) (F' : FM) (r : Int) : Prop :=
  ((I < 0 ∨ (F.n : Int) ≤ I) ∧ r = 4 ∧ F' = F) ∨ (0 ≤ I ∧ I < F.n ∧ b.length ≠ 64 ∧ r = 1 ∧ F' = F) ∨ (0 ≤ I ∧ I < F.n ∧ b.length = 64 ∧ r = 0 ∧ F' = F.write I.toNat b)
theorem fs_wrote (H : FS w0 w M f F L) (I : Int) {D : Option Addr} {cb nb : Nat} {b : List UInt8} (hnb : nb = b.length) (hr : RB w D b) (hp : F.pend.length < 1000000000) :
    Calls Try.prog 10 #[.pointer (some ⟨f, 0, none⟩), .int .i64 I, .slice D nb cb] w fun e w' => ∃ F' r, e = .returned (.int .i64 r) ∧ Wrote F I b F' r ∧ FS w0 w' M f F' L := by
  subst hnb
  by_cases hI : I < 0 ∨ (F.n : Int) ≤ I
  · refine (fs_write_none H I hI _).mono ?_
    rintro e w' ⟨rfl, rfl⟩
    exact ⟨F, 4, rfl, .inl ⟨hI, rfl, rfl⟩, H⟩
  · obtain ⟨i, rfl⟩ := Int.eq_ofNat_of_zero_le (show 0 ≤ I by omega)
    by_cases hb : b.length = 64
    · rw [hb]
      refine (fs_write H i (by omega) hb hr hp).mono ?_
      rintro e w' ⟨rfl, H'⟩
      exact ⟨_, 0, rfl, .inr (.inr ⟨by omega, by omega, hb, rfl, rfl⟩), H'⟩
    · refine (fs_write_arg H i (by omega) D _ cb hb).mono ?_
      rintro e w' ⟨rfl, rfl⟩
      exact ⟨F, 1, rfl, .inr (.inl ⟨by omega, by omega, hb, rfl, rfl⟩), H⟩
theorem add_wrote (H : St w0 w M L) (hv : RV M R A c B d) (hr : Rel F R j) (hj : j ≤ 1000) (I : Int) {D : Option Addr} {cb nb : Nat} {b : List UInt8} (hnb : nb = b.length) (hn64 : nb ≤ 64) (hcb : nb ≤ cb) (hD : D = none → cb = 0) (hb : Sr w0 M L D b) {F' : FM} {r : Int} (hw : Wrote F I b F' r) :
    Calls Try.prog 21 #[.agg (rval R A c B d).toArray, .int .i64 I, .slice D nb cb] w fun e w' => ∃ R' A' c' B' d' M', e = .returned (.tuple #[.agg (rval R' A' c' B' d').toArray, .int .i64 r]) ∧ M.le M' ∧ RV M' R' A' c' B' d' ∧ Rel F' R' (j + 1) ∧ St w0 w' M' L := by
  subst hnb
  have hlen := hr.len
  have same : ∀ rr, ((I < 0 ∨ (F.n : Int) ≤ I) ∧ rr = 4 ∨ (0 ≤ I ∧ I < F.n ∧ b.length ≠ 64 ∧ rr = 1) ∨ (0 ≤ I ∧ I < F.n ∧ b.length = 64 ∧ R.off = true ∧ rr = 0)) → Calls Try.prog 21 #[.agg (rval R A c B d).toArray, .int .i64 I, .slice D b.length cb] w fun e w' => e = .returned (.tuple #[.agg (rval R A c B d).toArray, .int .i64 rr]) ∧ St w0 w' M L := fun rr hh => by
    have := ref_add_same H A B D c d F.n R.ws.length b.length cb R.set R.off R.left R.torn I rr hr.n2 (by omega) hh
    rw [← hlen] at this
    exact this
  rcases hw with ⟨h1, rfl, rfl⟩ | ⟨h0, h1, h2, rfl, rfl⟩ | ⟨h0, h1, h2, rfl, rfl⟩
  · refine (same 4 (.inl ⟨h1, rfl⟩)).mono ?_
    rintro e w' ⟨rfl, H'⟩
    exact ⟨R, A, c, B, d, M, rfl, Mem.le.refl _, hv, hr.mono (by omega), H'⟩
  · refine (same 1 (.inr (.inl ⟨h0, h1, h2, rfl⟩))).mono ?_
    rintro e w' ⟨rfl, H'⟩
    exact ⟨R, A, c, B, d, M, rfl, Mem.le.refl _, hv, hr.mono (by omega), H'⟩
  · obtain ⟨i, rfl⟩ := Int.eq_ofNat_of_zero_le h0
    simp only [Int.toNat_natCast]
    have hi : i < F.n := by omega
    cases ho : R.off with
    | true =>
      refine (same 0 (.inr (.inr ⟨h0, h1, h2, ho, rfl⟩))).mono ?_
      rintro e w' ⟨rfl, H'⟩
      exact ⟨R, A, c, B, d, M, rfl, Mem.le.refl _, hv, by rw [hr.off_ ho]; exact hr.mono (by omega), H'⟩
    | false =>
      by_cases hs : R.set = true ∧ R.left = 0
      · obtain ⟨hs, hl⟩ := hs
        have h3 := ref_add_fuse H (D := D) (cb := cb) (b := b) (d := d) R.torn hv.hA hv.hc hv.hl hv.hw hr.len hr.n2 hr.ok (by have := hr.many; omega) hb h2 (by omega) i hi (min 64 (max 0 R.torn)).toNat (by omega)
        have hrr := hr.blow ho hs hl i hi b h2
        rw [h2]
        unfold rval
        rw [hs, hl, ho]
        refine h3.mono ?_
        rintro e w' ⟨A', c', M', rfl, hA', hc', hM', hl', H'⟩
        have e1 : (R.blow i b).b.length = R.b.length := by rw [hrr.len, hr.len, (show (F.write i b).n = F.n from FM.write_n F i b)]
        refine ⟨R.blow i b, A', c', none, 0, M', ?_, hM', ⟨hA', by rw [e1]; exact hc', hl', fun _ => rfl, Nat.le_refl _, fun W _ => wcs_nil_ra W none⟩, hrr.mono (by omega), H'⟩
        rw [e1]
        rfl
      · have h3 := ref_add_put H (A := A) (c := c) (D := D) (cb := cb) (b := b) R.set R.left R.torn hv.hw hr.n2 (by have := hr.many; omega) hv.hB hb h2 hD i hi (fun h4 h5 => hs ⟨h4, h5⟩) (by have := hr.lo; omega) hr.hi
        rw [h2]
        unfold rval
        rw [ho, hr.len]
        refine h3.mono ?_
        rintro e w' ⟨B', d', e1, M', rfl, hB', hd', hM', ha, hlb, hok, hw', H'⟩
        have hrr := hr.put ho (fun h4 h5 => hs ⟨h4, h5⟩) e1 hok
        rw [ha, hlb] at hrr
        refine ⟨R.put e1, A, c, B', d', M', ?_, hM', ⟨hv.hA, hv.hc, hv.hl.le hM', hB', ?_, hw'⟩, hrr, H'⟩
        · show _ = Ending.returned (.tuple #[.agg (rfv A R.b.length c B' (R.ws ++ [e1]).length d' R.set (R.left - 1) R.torn R.off).toArray, _])
          rw [List.length_append, List.length_singleton, ho, hr.len]
        · show (R.ws ++ [e1]).length ≤ d'
          rw [List.length_append, List.length_singleton]
          exact hd'
end
end Go.Proofs.Ytinhpiggakillaa
