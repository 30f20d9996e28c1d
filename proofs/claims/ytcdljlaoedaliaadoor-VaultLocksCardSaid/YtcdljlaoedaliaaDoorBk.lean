/- The contract of sha's block: what one block of 64 bytes turns a state into. -/
import Derived.Test.YtcdljlaoedaliaaDoorChecked
import Derived.Test.YtcdljlaoedaliaaDoorSt
import Derived.Test.YtcdljlaoedaliaaDoorPl
import Derived.Test.YtcdljlaoedaliaaDoorSp
import Derived.Test.YtcdljlaoedaliaaDoorRo
import Derived.BigQuiet
import Derived.Test.YtcdljlaoedaliaaDoorRs
set_option linter.unusedVariables false
set_option linter.unusedSimpArgs false
namespace Go.Proofs.YtcdljlaoedaliaaDoor
open Go.RowKit Wd

theorem Tryd.zeroH : (Tryd.prog.info? 96).map (fun i => (i.zero, i.size)) = some (some (.agg (Array.replicate 8 (.int .u32 0))), 8) := by kernel_rfl
theorem Tryd.zeroW : (Tryd.prog.info? 97).map (fun i => (i.zero, i.size)) = some (some (.agg (Array.replicate 64 (.int .u32 0))), 64) := by kernel_rfl
theorem Tryd.sizeH : (Tryd.prog.info? 96).map (·.size) = some 8 := by kernel_rfl
theorem Tryd.mixed : Tryd.prog.follows .mixedOrders = true := by kernel_rfl
/-- Block g holds these cells, whatever its type and marks. -/
def Tab (w : World) (g : Nat) (cs : List Value) : Prop := ∃ t fr, w.heap[g]? = some (.cells cs.toArray t fr)
theorem Tab.below {w w' : World} {B g : Nat} {cs : List Value} (h : Tab w g cs) (hb : Below B w w') (hg : g < B) : Tab w' g cs := by
  obtain ⟨t, fr, h⟩ := h
  exact ⟨t, fr, (hb.block g hg).trans h⟩
theorem Tab.drew {w : World} {g : Nat} {cs : List Value} (h : Tab w g cs) : Tab w.drew g cs := h
theorem Tab.lt {w : World} {g : Nat} {cs : List Value} (h : Tab w g cs) : g < w.heap.size := by
  obtain ⟨t, fr, h⟩ := h
  exact (Array.getElem?_eq_some_iff.1 h).1
theorem Tab.cell {w : World} {g : Nat} {cs : List Value} (h : Tab w g cs) (k : Nat) : w.cell? ⟨g, k, none⟩ = cs[k]? := by
  obtain ⟨t, fr, h⟩ := h
  simp [World.cell?, h]
structure Tabs (w : World) : Prop where
  first : Tab w 0 (Sha.wv Sha.first.list)
  known : Tab w 2 (Sha.wv Sha.known)
theorem Tabs.below {w w' : World} {B : Nat} (h : Tabs w) (hb : Below B w w') (h0 : 2 < B) : Tabs w' := ⟨h.first.below hb (by omega), h.known.below hb h0⟩
theorem alloc3 (w : World) (t0 t1 t2 : TypeId) (c0 c1 c2 : List Value) : Blk (((w.alloc (.cells c0.toArray t0)).alloc (.cells c1.toArray t1)).alloc (.cells c2.toArray t2)) w.heap.size t0 c0 ∧
    Blk (((w.alloc (.cells c0.toArray t0)).alloc (.cells c1.toArray t1)).alloc (.cells c2.toArray t2)) (w.heap.size + 1) t1 c1 ∧ Blk (((w.alloc (.cells c0.toArray t0)).alloc (.cells c1.toArray t1)).alloc (.cells c2.toArray t2)) (w.heap.size + 1 + 1) t2 c2 ∧
    Below w.heap.size w (((w.alloc (.cells c0.toArray t0)).alloc (.cells c1.toArray t1)).alloc (.cells c2.toArray t2)) := by
  have e1 : (w.alloc (.cells c0.toArray t0)).heap.size = w.heap.size + 1 := Array.size_push _
  have e2 : ((w.alloc (.cells c0.toArray t0)).alloc (.cells c1.toArray t1)).heap.size = w.heap.size + 1 + 1 := (Array.size_push _).trans (by rw [e1])
  refine ⟨((Blk.new w t0 c0).alloc _).alloc _, ?_, ?_, (((Below.refl w.heap.size w).alloc (Nat.le_refl _) _).alloc (by omega) _).alloc (by omega) _⟩
  · have := (Blk.new (w.alloc (.cells c0.toArray t0)) t1 c1).alloc (.cells c2.toArray t2)
    rwa [e1] at this
  · have := Blk.new ((w.alloc (.cells c0.toArray t0)).alloc (.cells c1.toArray t1)) t2 c2
    rwa [e2] at this
theorem byte_at {w : World} {bb bo j : Nat} {b : List UInt8} (h : w.rangeAt bb bo (bv b)) (hl : b.length = 64) (hj : j < 64) : w.cell? ⟨bb, bo + j, none⟩ = some (.int .u8 ((b.getD j 0).toNat : Int)) := by
  refine h j _ ?_
  rw [bv_get, List.getD_eq_getElem?_getD, List.getElem?_eq_getElem (by omega)]
  rfl
theorem Sha.w8_mod (x : UInt8) : (x.toNat : Int) % 4294967296 = ((Sha.w8 x).toNat : Int) := by
  have := x.toNat_lt
  rw [Sha.w8_nat]
  omega
theorem Sha.not_ (E : UInt32) : bits .xor .u32 (if IntKind.u32.signed = true then -1 else IntKind.u32.max) (E.toNat : Int) = ((Sha.cm E).toNat : Int) := by
  have h0 : (if IntKind.u32.signed = true then (-1 : Int) else IntKind.u32.max) = ((4294967295 : Nat) : Int) := by decide
  rw [h0, u32_xor_nat _ _ (by decide) (U3.lt E)]
  unfold Sha.cm
  rw [U3.xo_nat, Nat.xor_comm]
  rfl
theorem Tabs.lt {w : World} (h : Tabs w) : 2 < w.heap.size := h.known.lt

set_option maxRecDepth 100000 in
set_option maxHeartbeats 16000000 in
theorem block_any (hh : Sha.V8) (b : List UInt8) (bb bo c : Nat) (w : World) (hlen : b.length = 64) (hb : w.rangeAt bb bo (bv b)) (hbb : bb < w.heap.size) (ht : Tabs w) :
    Calls Tryd.prog 89 #[.agg (Sha.wv hh.list).toArray, .slice (some ⟨bb, bo, none⟩) 64 c] w fun e w' =>
      e = .returned (.agg (Sha.wv (Sha.block hh b).list).toArray) ∧ Below w.heap.size w w' := by
  have HLEN := Lib.hid hlen
  have HB := Lib.hid hb
  have HT := Lib.hid ht
  clear hlen hb ht
  obtain ⟨a0, a1, a2, a3, a4, a5, a6, a7⟩ := hh
  obtain ⟨hh, hhh⟩ : ∃ x, x = Sha.V8.mk a0 a1 a2 a3 a4 a5 a6 a7 := ⟨_, rfl⟩
  rw [← hhh]
  have HH := Lib.hid hhh
  clear hhh
  go_enter Tryd.func89, Tryd.ntmps89
  go_wp2
  go_loopw [20] (fun v wr => ∃ i : Nat, i ≤ 16 ∧ v = .int .i64 i ∧ Blk wr w.heap.size 96 (Sha.wv hh.list) ∧ Blk wr (w.heap.size + 1) 96 (Sha.wv (List.replicate 8 0)) ∧ Blk wr (w.heap.size + 1 + 1) 97 (Sha.wv (Sha.filled64 (Sha.words b i))) ∧ Below w.heap.size w wr ∧ Tabs wr) (fun v _ => 16 - (intOf v).toNat)
  case atStart =>
    have k := alloc3 w 96 96 97 (Sha.wv hh.list) (Sha.wv (List.replicate 8 0)) (Sha.wv (Sha.filled64 (Sha.words b 0)))
    exact ⟨0, by omega, rfl, k.1, k.2.1, k.2.2.1, k.2.2.2, HT.out.below k.2.2.2 HT.out.lt⟩
  case round =>
    obtain ⟨i, hi, rfl, b0, b1, b2, hbe, htr⟩ := hrel
    by_cases hlt : i < 16
    · have HI := Lib.hid hlt
      have HBE := Lib.hid hbe
      have HTR := Lib.hid htr
      have hbr := rangeAt_below HB.out hbe hbb
      have i0 : (0 : Int) ≤ (i : Int) := by omega
      have i1 : (i : Int) < 16 := by omega
      have i2 : (i : Int) < 64 := by omega
      have w0 : IntKind.i64.wrap (4 * (i : Int)) = 4 * (i : Int) := by rw [IntKind.wrap_i64]; omega
      have l0 : (0 : Int) ≤ 4 * (i : Int) := by omega
      have m0 : 4 * (i : Int) < 64 := by omega
      have t0 : (4 * (i : Int)).toNat = 4 * i := by omega
      obtain ⟨B0, hB0⟩ : ∃ x, x = b.getD (4 * i) 0 := ⟨_, rfl⟩
      have x0 : (B0.toNat : Int) % 4294967296 = ((Sha.w8 B0).toNat : Int) := Sha.w8_mod _
      have HC0 : Hid (∀ w : World, w.rangeAt bb bo (bv b) → w.cell? ⟨bb, bo + (4 * i), none⟩ = some (.int .u8 (B0.toNat : Int))) := fun w h => by rw [hB0]; exact byte_at h HLEN.out (by omega)
      have w1 : IntKind.i64.wrap (4 * (i : Int) + 1) = 4 * (i : Int) + 1 := by rw [IntKind.wrap_i64]; omega
      have l1 : (0 : Int) ≤ 4 * (i : Int) + 1 := by omega
      have m1 : 4 * (i : Int) + 1 < 64 := by omega
      have t1 : (4 * (i : Int) + 1).toNat = 4 * i + 1 := by omega
      obtain ⟨B1, hB1⟩ : ∃ x, x = b.getD (4 * i + 1) 0 := ⟨_, rfl⟩
      have x1 : (B1.toNat : Int) % 4294967296 = ((Sha.w8 B1).toNat : Int) := Sha.w8_mod _
      have HC1 : Hid (∀ w : World, w.rangeAt bb bo (bv b) → w.cell? ⟨bb, bo + (4 * i + 1), none⟩ = some (.int .u8 (B1.toNat : Int))) := fun w h => by rw [hB1]; exact byte_at h HLEN.out (by omega)
      have w2 : IntKind.i64.wrap (4 * (i : Int) + 2) = 4 * (i : Int) + 2 := by rw [IntKind.wrap_i64]; omega
      have l2 : (0 : Int) ≤ 4 * (i : Int) + 2 := by omega
      have m2 : 4 * (i : Int) + 2 < 64 := by omega
      have t2 : (4 * (i : Int) + 2).toNat = 4 * i + 2 := by omega
      obtain ⟨B2, hB2⟩ : ∃ x, x = b.getD (4 * i + 2) 0 := ⟨_, rfl⟩
      have x2 : (B2.toNat : Int) % 4294967296 = ((Sha.w8 B2).toNat : Int) := Sha.w8_mod _
      have HC2 : Hid (∀ w : World, w.rangeAt bb bo (bv b) → w.cell? ⟨bb, bo + (4 * i + 2), none⟩ = some (.int .u8 (B2.toNat : Int))) := fun w h => by rw [hB2]; exact byte_at h HLEN.out (by omega)
      have w3 : IntKind.i64.wrap (4 * (i : Int) + 3) = 4 * (i : Int) + 3 := by rw [IntKind.wrap_i64]; omega
      have l3 : (0 : Int) ≤ 4 * (i : Int) + 3 := by omega
      have m3 : 4 * (i : Int) + 3 < 64 := by omega
      have t3 : (4 * (i : Int) + 3).toNat = 4 * i + 3 := by omega
      obtain ⟨B3, hB3⟩ : ∃ x, x = b.getD (4 * i + 3) 0 := ⟨_, rfl⟩
      have x3 : (B3.toNat : Int) % 4294967296 = ((Sha.w8 B3).toNat : Int) := Sha.w8_mod _
      have HC3 : Hid (∀ w : World, w.rangeAt bb bo (bv b) → w.cell? ⟨bb, bo + (4 * i + 3), none⟩ = some (.int .u8 (B3.toNat : Int))) := fun w h => by rw [hB3]; exact byte_at h HLEN.out (by omega)
      have y0 : ((Sha.w8 B0).toNat : Int) * 16777216 % 4294967296 = ((U3.sl (Sha.w8 B0) 24).toNat : Int) := U3.shl' _ 24 16777216 (by decide) (by decide)
      have y1 : ((Sha.w8 B1).toNat : Int) * 65536 % 4294967296 = ((U3.sl (Sha.w8 B1) 16).toNat : Int) := U3.shl' _ 16 65536 (by decide) (by decide)
      have y2 : ((Sha.w8 B2).toNat : Int) * 256 % 4294967296 = ((U3.sl (Sha.w8 B2) 8).toNat : Int) := U3.shl' _ 8 256 (by decide) (by decide)
      have z1 := U3.or_ (U3.sl (Sha.w8 B0) 24) (U3.sl (Sha.w8 B1) 16)
      have z2 := U3.or_ (U3.og (U3.sl (Sha.w8 B0) 24) (U3.sl (Sha.w8 B1) 16)) (U3.sl (Sha.w8 B2) 8)
      have z3 := U3.or_ (U3.og (U3.og (U3.sl (Sha.w8 B0) 24) (U3.sl (Sha.w8 B1) 16)) (U3.sl (Sha.w8 B2) 8)) (Sha.w8 B3)
      have hWD : Sha.word b i = U3.og (U3.og (U3.og (U3.sl (Sha.w8 B0) 24) (U3.sl (Sha.w8 B1) 16)) (U3.sl (Sha.w8 B2) 8)) (Sha.w8 B3) := by rw [hB0, hB1, hB2, hB3]; rfl
      rw [← hWD] at z3
      clear hWD hB0 hB1 hB2 hB3
      obtain ⟨WD, hWD⟩ : ∃ x, x = Sha.word b i := ⟨_, rfl⟩
      rw [← hWD] at z3
      have HWD := Lib.hid hWD
      clear hWD

      clear hlt hbe htr hi
      go_wp2
      refine Pl.wp_plan (fun w' => w'.rangeAt bb bo (bv b)) [0, 1, 2, 3, 4, 5, 6, 7, 8, 9, 10, 11, 12, 13, 14, 15, 16, 17, 18, 19, 20, 21, 22, 23, 24, 25, 26, 27, 28, 29, 30, 31, 32, 33] [] [34, 35] Tryd.mixed (by kernel_rfl) (fun _ _ d _ _ h => by cases d <;> exact h) hbr ?_
      simp only [Pl.pick, List.drop_succ_cons, List.drop_zero]
      clear hbr
      (refine Pl.head_run (v := ?_) (by rfl) ?_ ?_; rotate_left; (focus (intro w' hS; have s0 := hS; have c0 := HC0.out w' s0; have c1 := HC1.out w' s0; have c2 := HC2.out w' s0; have c3 := HC3.out w' s0; go_simp; with_reducible rfl)); simp only [Act.put, List.setIfInBounds_toArray, List.set_cons_zero, List.set_cons_succ])
      (refine Pl.head_run (v := ?_) (by rfl) ?_ ?_; rotate_left; (focus (intro w' hS; have s0 := hS; have c0 := HC0.out w' s0; have c1 := HC1.out w' s0; have c2 := HC2.out w' s0; have c3 := HC3.out w' s0; go_simp; with_reducible rfl)); simp only [Act.put, List.setIfInBounds_toArray, List.set_cons_zero, List.set_cons_succ])
      (refine Pl.head_run (v := ?_) (by rfl) ?_ ?_; rotate_left; (focus (intro w' hS; have s0 := hS; have c0 := HC0.out w' s0; have c1 := HC1.out w' s0; have c2 := HC2.out w' s0; have c3 := HC3.out w' s0; go_simp; with_reducible rfl)); simp only [Act.put, List.setIfInBounds_toArray, List.set_cons_zero, List.set_cons_succ])
      (refine Pl.head_run (v := ?_) (by rfl) ?_ ?_; rotate_left; (focus (intro w' hS; have s0 := hS; have c0 := HC0.out w' s0; have c1 := HC1.out w' s0; have c2 := HC2.out w' s0; have c3 := HC3.out w' s0; go_simp; with_reducible rfl)); simp only [Act.put, List.setIfInBounds_toArray, List.set_cons_zero, List.set_cons_succ])
      (refine Pl.head_run (v := ?_) (by rfl) ?_ ?_; rotate_left; (focus (intro w' hS; have s0 := hS; have c0 := HC0.out w' s0; have c1 := HC1.out w' s0; have c2 := HC2.out w' s0; have c3 := HC3.out w' s0; go_simp; with_reducible rfl)); simp only [Act.put, List.setIfInBounds_toArray, List.set_cons_zero, List.set_cons_succ])
      (refine Pl.head_run (v := ?_) (by rfl) ?_ ?_; rotate_left; (focus (intro w' hS; have s0 := hS; have c0 := HC0.out w' s0; have c1 := HC1.out w' s0; have c2 := HC2.out w' s0; have c3 := HC3.out w' s0; go_simp; with_reducible rfl)); simp only [Act.put, List.setIfInBounds_toArray, List.set_cons_zero, List.set_cons_succ])
      (refine Pl.head_run (v := ?_) (by rfl) ?_ ?_; rotate_left; (focus (intro w' hS; have s0 := hS; have c0 := HC0.out w' s0; have c1 := HC1.out w' s0; have c2 := HC2.out w' s0; have c3 := HC3.out w' s0; go_simp; with_reducible rfl)); simp only [Act.put, List.setIfInBounds_toArray, List.set_cons_zero, List.set_cons_succ])
      (refine Pl.head_run (v := ?_) (by rfl) ?_ ?_; rotate_left; (focus (intro w' hS; have s0 := hS; have c0 := HC0.out w' s0; have c1 := HC1.out w' s0; have c2 := HC2.out w' s0; have c3 := HC3.out w' s0; go_simp; with_reducible rfl)); simp only [Act.put, List.setIfInBounds_toArray, List.set_cons_zero, List.set_cons_succ])
      (refine Pl.head_run (v := ?_) (by rfl) ?_ ?_; rotate_left; (focus (intro w' hS; have s0 := hS; have c0 := HC0.out w' s0; have c1 := HC1.out w' s0; have c2 := HC2.out w' s0; have c3 := HC3.out w' s0; go_simp; with_reducible rfl)); simp only [Act.put, List.setIfInBounds_toArray, List.set_cons_zero, List.set_cons_succ])
      (refine Pl.head_run (v := ?_) (by rfl) ?_ ?_; rotate_left; (focus (intro w' hS; have s0 := hS; have c0 := HC0.out w' s0; have c1 := HC1.out w' s0; have c2 := HC2.out w' s0; have c3 := HC3.out w' s0; go_simp; with_reducible rfl)); simp only [Act.put, List.setIfInBounds_toArray, List.set_cons_zero, List.set_cons_succ])
      (refine Pl.head_run (v := ?_) (by rfl) ?_ ?_; rotate_left; (focus (intro w' hS; have s0 := hS; have c0 := HC0.out w' s0; have c1 := HC1.out w' s0; have c2 := HC2.out w' s0; have c3 := HC3.out w' s0; go_simp; with_reducible rfl)); simp only [Act.put, List.setIfInBounds_toArray, List.set_cons_zero, List.set_cons_succ])
      (refine Pl.head_run (v := ?_) (by rfl) ?_ ?_; rotate_left; (focus (intro w' hS; have s0 := hS; have c0 := HC0.out w' s0; have c1 := HC1.out w' s0; have c2 := HC2.out w' s0; have c3 := HC3.out w' s0; go_simp; with_reducible rfl)); simp only [Act.put, List.setIfInBounds_toArray, List.set_cons_zero, List.set_cons_succ])
      (refine Pl.head_run (v := ?_) (by rfl) ?_ ?_; rotate_left; (focus (intro w' hS; have s0 := hS; have c0 := HC0.out w' s0; have c1 := HC1.out w' s0; have c2 := HC2.out w' s0; have c3 := HC3.out w' s0; go_simp; with_reducible rfl)); simp only [Act.put, List.setIfInBounds_toArray, List.set_cons_zero, List.set_cons_succ])
      (refine Pl.head_run (v := ?_) (by rfl) ?_ ?_; rotate_left; (focus (intro w' hS; have s0 := hS; have c0 := HC0.out w' s0; have c1 := HC1.out w' s0; have c2 := HC2.out w' s0; have c3 := HC3.out w' s0; go_simp; with_reducible rfl)); simp only [Act.put, List.setIfInBounds_toArray, List.set_cons_zero, List.set_cons_succ])
      (refine Pl.head_run (v := ?_) (by rfl) ?_ ?_; rotate_left; (focus (intro w' hS; have s0 := hS; have c0 := HC0.out w' s0; have c1 := HC1.out w' s0; have c2 := HC2.out w' s0; have c3 := HC3.out w' s0; go_simp; with_reducible rfl)); simp only [Act.put, List.setIfInBounds_toArray, List.set_cons_zero, List.set_cons_succ])
      (refine Pl.head_run (v := ?_) (by rfl) ?_ ?_; rotate_left; (focus (intro w' hS; have s0 := hS; have c0 := HC0.out w' s0; have c1 := HC1.out w' s0; have c2 := HC2.out w' s0; have c3 := HC3.out w' s0; go_simp; with_reducible rfl)); simp only [Act.put, List.setIfInBounds_toArray, List.set_cons_zero, List.set_cons_succ])
      (refine Pl.head_run (v := ?_) (by rfl) ?_ ?_; rotate_left; (focus (intro w' hS; have s0 := hS; have c0 := HC0.out w' s0; have c1 := HC1.out w' s0; have c2 := HC2.out w' s0; have c3 := HC3.out w' s0; go_simp; with_reducible rfl)); simp only [Act.put, List.setIfInBounds_toArray, List.set_cons_zero, List.set_cons_succ])
      (refine Pl.head_run (v := ?_) (by rfl) ?_ ?_; rotate_left; (focus (intro w' hS; have s0 := hS; have c0 := HC0.out w' s0; have c1 := HC1.out w' s0; have c2 := HC2.out w' s0; have c3 := HC3.out w' s0; go_simp; with_reducible rfl)); simp only [Act.put, List.setIfInBounds_toArray, List.set_cons_zero, List.set_cons_succ])
      (refine Pl.head_run (v := ?_) (by rfl) ?_ ?_; rotate_left; (focus (intro w' hS; have s0 := hS; have c0 := HC0.out w' s0; have c1 := HC1.out w' s0; have c2 := HC2.out w' s0; have c3 := HC3.out w' s0; go_simp; with_reducible rfl)); simp only [Act.put, List.setIfInBounds_toArray, List.set_cons_zero, List.set_cons_succ])
      (refine Pl.head_run (v := ?_) (by rfl) ?_ ?_; rotate_left; (focus (intro w' hS; have s0 := hS; have c0 := HC0.out w' s0; have c1 := HC1.out w' s0; have c2 := HC2.out w' s0; have c3 := HC3.out w' s0; go_simp; with_reducible rfl)); simp only [Act.put, List.setIfInBounds_toArray, List.set_cons_zero, List.set_cons_succ])
      (refine Pl.head_run (v := ?_) (by rfl) ?_ ?_; rotate_left; (focus (intro w' hS; have s0 := hS; have c0 := HC0.out w' s0; have c1 := HC1.out w' s0; have c2 := HC2.out w' s0; have c3 := HC3.out w' s0; go_simp; with_reducible rfl)); simp only [Act.put, List.setIfInBounds_toArray, List.set_cons_zero, List.set_cons_succ])
      (refine Pl.head_run (v := ?_) (by rfl) ?_ ?_; rotate_left; (focus (intro w' hS; have s0 := hS; have c0 := HC0.out w' s0; have c1 := HC1.out w' s0; have c2 := HC2.out w' s0; have c3 := HC3.out w' s0; go_simp; with_reducible rfl)); simp only [Act.put, List.setIfInBounds_toArray, List.set_cons_zero, List.set_cons_succ])
      (refine Pl.head_run (v := ?_) (by rfl) ?_ ?_; rotate_left; (focus (intro w' hS; have s0 := hS; have c0 := HC0.out w' s0; have c1 := HC1.out w' s0; have c2 := HC2.out w' s0; have c3 := HC3.out w' s0; go_simp; with_reducible rfl)); simp only [Act.put, List.setIfInBounds_toArray, List.set_cons_zero, List.set_cons_succ])
      (refine Pl.head_run (v := ?_) (by rfl) ?_ ?_; rotate_left; (focus (intro w' hS; have s0 := hS; have c0 := HC0.out w' s0; have c1 := HC1.out w' s0; have c2 := HC2.out w' s0; have c3 := HC3.out w' s0; go_simp; with_reducible rfl)); simp only [Act.put, List.setIfInBounds_toArray, List.set_cons_zero, List.set_cons_succ])
      (refine Pl.head_run (v := ?_) (by rfl) ?_ ?_; rotate_left; (focus (intro w' hS; have s0 := hS; have c0 := HC0.out w' s0; have c1 := HC1.out w' s0; have c2 := HC2.out w' s0; have c3 := HC3.out w' s0; go_simp; with_reducible rfl)); simp only [Act.put, List.setIfInBounds_toArray, List.set_cons_zero, List.set_cons_succ])
      (refine Pl.head_run (v := ?_) (by rfl) ?_ ?_; rotate_left; (focus (intro w' hS; have s0 := hS; have c0 := HC0.out w' s0; have c1 := HC1.out w' s0; have c2 := HC2.out w' s0; have c3 := HC3.out w' s0; go_simp; with_reducible rfl)); simp only [Act.put, List.setIfInBounds_toArray, List.set_cons_zero, List.set_cons_succ])
      (refine Pl.head_run (v := ?_) (by rfl) ?_ ?_; rotate_left; (focus (intro w' hS; have s0 := hS; have c0 := HC0.out w' s0; have c1 := HC1.out w' s0; have c2 := HC2.out w' s0; have c3 := HC3.out w' s0; go_simp; with_reducible rfl)); simp only [Act.put, List.setIfInBounds_toArray, List.set_cons_zero, List.set_cons_succ])
      (refine Pl.head_run (v := ?_) (by rfl) ?_ ?_; rotate_left; (focus (intro w' hS; have s0 := hS; have c0 := HC0.out w' s0; have c1 := HC1.out w' s0; have c2 := HC2.out w' s0; have c3 := HC3.out w' s0; go_simp; with_reducible rfl)); simp only [Act.put, List.setIfInBounds_toArray, List.set_cons_zero, List.set_cons_succ])
      (refine Pl.head_run (v := ?_) (by rfl) ?_ ?_; rotate_left; (focus (intro w' hS; have s0 := hS; have c0 := HC0.out w' s0; have c1 := HC1.out w' s0; have c2 := HC2.out w' s0; have c3 := HC3.out w' s0; go_simp; with_reducible rfl)); simp only [Act.put, List.setIfInBounds_toArray, List.set_cons_zero, List.set_cons_succ])
      (refine Pl.head_run (v := ?_) (by rfl) ?_ ?_; rotate_left; (focus (intro w' hS; have s0 := hS; have c0 := HC0.out w' s0; have c1 := HC1.out w' s0; have c2 := HC2.out w' s0; have c3 := HC3.out w' s0; go_simp; with_reducible rfl)); simp only [Act.put, List.setIfInBounds_toArray, List.set_cons_zero, List.set_cons_succ])
      (refine Pl.head_run (v := ?_) (by rfl) ?_ ?_; rotate_left; (focus (intro w' hS; have s0 := hS; have c0 := HC0.out w' s0; have c1 := HC1.out w' s0; have c2 := HC2.out w' s0; have c3 := HC3.out w' s0; go_simp; with_reducible rfl)); simp only [Act.put, List.setIfInBounds_toArray, List.set_cons_zero, List.set_cons_succ])
      (refine Pl.head_run (v := ?_) (by rfl) ?_ ?_; rotate_left; (focus (intro w' hS; have s0 := hS; have c0 := HC0.out w' s0; have c1 := HC1.out w' s0; have c2 := HC2.out w' s0; have c3 := HC3.out w' s0; go_simp; with_reducible rfl)); simp only [Act.put, List.setIfInBounds_toArray, List.set_cons_zero, List.set_cons_succ])
      (refine Pl.head_run (v := ?_) (by rfl) ?_ ?_; rotate_left; (focus (intro w' hS; have s0 := hS; have c0 := HC0.out w' s0; have c1 := HC1.out w' s0; have c2 := HC2.out w' s0; have c3 := HC3.out w' s0; go_simp; with_reducible rfl)); simp only [Act.put, List.setIfInBounds_toArray, List.set_cons_zero, List.set_cons_succ])
      (refine Pl.head_run (v := ?_) (by rfl) ?_ ?_; rotate_left; (focus (intro w' hS; have s0 := hS; have c0 := HC0.out w' s0; have c1 := HC1.out w' s0; have c2 := HC2.out w' s0; have c3 := HC3.out w' s0; go_simp; with_reducible rfl)); simp only [Act.put, List.setIfInBounds_toArray, List.set_cons_zero, List.set_cons_succ])

      refine Pl.head_nil ?_
      simp only [Pl.Mid]
      obtain ⟨OLD, hOLD⟩ : ∃ x : UInt32, wr.cell? ⟨w.heap.size + 1 + 1, i, none⟩ = some (.int .u32 (x.toNat : Int)) := ⟨_, by
        rw [b2.cell]; exact Sha.wv_at _ _ (by rw [Sha.filled64_length _ (by rw [Sha.words_length]; have := HI.out; omega)]; have := HI.out; omega)⟩
      have f2 := b2.frozen i
      go_wp2
      generalize hw3 : wr.setCell ⟨w.heap.size + 1 + 1, i, none⟩ (.int .u32 (WD.toNat : Int)) = w3
      have hk3 : Keeps wr w3 (· = w.heap.size + 1 + 1) := by rw [← hw3]; exact (Keeps.refl wr (· = w.heap.size + 1 + 1)).setCell (.inl rfl) _
      have hb3 := (hk3.below (B := w.heap.size) HBE.out.size (fun k hk => by omega)).trans_of HBE.out
      have hn3 : Blk w3 (w.heap.size + 1 + 1) 97 (Sha.wv (Sha.filled64 (Sha.words b (i + 1)))) := by
        rw [← hw3]
        have := b2.set_ i (.int .u32 (WD.toNat : Int))
        rw [Sha.wv_set] at this
        have e := Sha.filled64_set (Sha.words b i) (Sha.word b i) (by rw [Sha.words_length]; have := HI.out; omega)
        rw [Sha.words_length, ← Sha.words_succ] at e
        rw [← e, ← HWD.out]
        exact this
      have hi := HI.out
      exact ⟨⟨i + 1, by omega, by rw [Int.natCast_add]; rfl, (hk3.blk b0 (by omega)).drew, (hk3.blk b1 (by omega)).drew, hn3.drew, hb3.drew, HT.out.below hb3.drew HT.out.lt⟩, by simp [intOf]; omega⟩
    · obtain rfl : i = 16 := by omega
      clear hi hlt
      go_wp2
      go_loopw [7] (fun v wr => ∃ i : Nat, 16 ≤ i ∧ i ≤ 64 ∧ v = .int .i64 i ∧ Blk wr w.heap.size 96 (Sha.wv hh.list) ∧ Blk wr (w.heap.size + 1) 96 (Sha.wv (List.replicate 8 0)) ∧ Blk wr (w.heap.size + 1 + 1) 97 (Sha.wv (Sha.filled64 (Sha.grow (i - 16) (Sha.words b 16)))) ∧ Below w.heap.size w wr ∧ Tabs wr) (fun v _ => 64 - (intOf v).toNat)
      case atStart => exact ⟨16, by omega, by omega, rfl, b0, b1, b2, hbe, htr⟩
      case round =>
        clear b0 b1 b2 hbe htr
        obtain ⟨i, hi1, hi2, rfl, b0, b1, b2, hbe, htr⟩ := hrel
        by_cases hlt : i < 64
        · have HI := Lib.hid hlt
          have HI1 := Lib.hid hi1
          have HBE := Lib.hid hbe
          have HTR := Lib.hid htr
          have hll : (Sha.grow (i - 16) (Sha.words b 16)).length = i := by rw [Sha.grow_length, Sha.words_length]; omega
          have HLL := Lib.hid hll
          clear hll
          have i0 : (0 : Int) ≤ (i : Int) := by omega
          have i1 : (i : Int) < 64 := by omega
          have w2 : IntKind.i64.wrap ((i : Int) - 2) = (i : Int) - 2 := by rw [IntKind.wrap_i64]; omega
          have l2 : (0 : Int) ≤ (i : Int) - 2 := by omega
          have n2 : (2 : Int) ≤ (i : Int) := by omega
          have m2 : (i : Int) - 2 < 64 := by omega
          have t2 : ((i : Int) - 2).toNat = i - 2 := by omega
          obtain ⟨A2, hA2⟩ : ∃ x, x = (Sha.grow (i - 16) (Sha.words b 16)).getD (i - 2) 0 := ⟨_, rfl⟩
          have c2 : wr.cell? ⟨w.heap.size + 1 + 1, i - 2, none⟩ = some (.int .u32 (A2.toNat : Int)) := by
            have h1 := HI1.out
            have h2 := HI.out
            have h3 : i - 2 < i := by omega
            rw [b2.cell, Sha.wv_at _ _ (by rw [Sha.filled64_length _ (by rw [HLL.out]; omega)]; omega), hA2, Sha.filled64_get _ _ (by rw [HLL.out]; exact h3)]
          have HA2 := Lib.hid hA2
          clear hA2
          have w7 : IntKind.i64.wrap ((i : Int) - 7) = (i : Int) - 7 := by rw [IntKind.wrap_i64]; omega
          have l7 : (0 : Int) ≤ (i : Int) - 7 := by omega
          have n7 : (7 : Int) ≤ (i : Int) := by omega
          have m7 : (i : Int) - 7 < 64 := by omega
          have t7 : ((i : Int) - 7).toNat = i - 7 := by omega
          obtain ⟨A7, hA7⟩ : ∃ x, x = (Sha.grow (i - 16) (Sha.words b 16)).getD (i - 7) 0 := ⟨_, rfl⟩
          have c7 : wr.cell? ⟨w.heap.size + 1 + 1, i - 7, none⟩ = some (.int .u32 (A7.toNat : Int)) := by
            have h1 := HI1.out
            have h2 := HI.out
            have h3 : i - 7 < i := by omega
            rw [b2.cell, Sha.wv_at _ _ (by rw [Sha.filled64_length _ (by rw [HLL.out]; omega)]; omega), hA7, Sha.filled64_get _ _ (by rw [HLL.out]; exact h3)]
          have HA7 := Lib.hid hA7
          clear hA7
          have w15 : IntKind.i64.wrap ((i : Int) - 15) = (i : Int) - 15 := by rw [IntKind.wrap_i64]; omega
          have l15 : (0 : Int) ≤ (i : Int) - 15 := by omega
          have n15 : (15 : Int) ≤ (i : Int) := by omega
          have m15 : (i : Int) - 15 < 64 := by omega
          have t15 : ((i : Int) - 15).toNat = i - 15 := by omega
          obtain ⟨A15, hA15⟩ : ∃ x, x = (Sha.grow (i - 16) (Sha.words b 16)).getD (i - 15) 0 := ⟨_, rfl⟩
          have c15 : wr.cell? ⟨w.heap.size + 1 + 1, i - 15, none⟩ = some (.int .u32 (A15.toNat : Int)) := by
            have h1 := HI1.out
            have h2 := HI.out
            have h3 : i - 15 < i := by omega
            rw [b2.cell, Sha.wv_at _ _ (by rw [Sha.filled64_length _ (by rw [HLL.out]; omega)]; omega), hA15, Sha.filled64_get _ _ (by rw [HLL.out]; exact h3)]
          have HA15 := Lib.hid hA15
          clear hA15
          have w16 : IntKind.i64.wrap ((i : Int) - 16) = (i : Int) - 16 := by rw [IntKind.wrap_i64]; omega
          have l16 : (0 : Int) ≤ (i : Int) - 16 := by omega
          have n16 : (16 : Int) ≤ (i : Int) := by omega
          have m16 : (i : Int) - 16 < 64 := by omega
          have t16 : ((i : Int) - 16).toNat = i - 16 := by omega
          obtain ⟨A16, hA16⟩ : ∃ x, x = (Sha.grow (i - 16) (Sha.words b 16)).getD (i - 16) 0 := ⟨_, rfl⟩
          have c16 : wr.cell? ⟨w.heap.size + 1 + 1, i - 16, none⟩ = some (.int .u32 (A16.toNat : Int)) := by
            have h1 := HI1.out
            have h2 := HI.out
            have h3 : i - 16 < i := by omega
            rw [b2.cell, Sha.wv_at _ _ (by rw [Sha.filled64_length _ (by rw [HLL.out]; omega)]; omega), hA16, Sha.filled64_get _ _ (by rw [HLL.out]; exact h3)]
          have HA16 := Lib.hid hA16
          clear hA16
          have y1 := U3.xor_ (U3.rr A15 7) (U3.rr A15 18)
          have y2 : (A15.toNat : Int) / 8 = ((U3.sr A15 3).toNat : Int) := U3.shr_ A15 3 8 (by decide) (by decide)
          have y3 := U3.xor_ (U3.xo (U3.rr A15 7) (U3.rr A15 18)) (U3.sr A15 3)
          have y4 := U3.xor_ (U3.rr A2 17) (U3.rr A2 19)
          have y5 : (A2.toNat : Int) / 1024 = ((U3.sr A2 10).toNat : Int) := U3.shr_ A2 10 1024 (by decide) (by decide)
          have y6 := U3.xor_ (U3.xo (U3.rr A2 17) (U3.rr A2 19)) (U3.sr A2 10)
          have y7 := U3.add' A16 (U3.xo (U3.xo (U3.rr A15 7) (U3.rr A15 18)) (U3.sr A15 3))
          have y8 := U3.add' (U3.ad A16 (U3.xo (U3.xo (U3.rr A15 7) (U3.rr A15 18)) (U3.sr A15 3))) A7
          have y9 := U3.add' (U3.ad (U3.ad A16 (U3.xo (U3.xo (U3.rr A15 7) (U3.rr A15 18)) (U3.sr A15 3))) A7) (U3.xo (U3.xo (U3.rr A2 17) (U3.rr A2 19)) (U3.sr A2 10))
          have hNX : Sha.nextW (Sha.grow (i - 16) (Sha.words b 16)) = U3.ad (U3.ad (U3.ad A16 (U3.xo (U3.xo (U3.rr A15 7) (U3.rr A15 18)) (U3.sr A15 3))) A7) (U3.xo (U3.xo (U3.rr A2 17) (U3.rr A2 19)) (U3.sr A2 10)) := by
            unfold Sha.nextW
            rw [HLL.out, ← HA16.out, ← HA15.out, ← HA7.out, ← HA2.out]
            rfl
          obtain ⟨NX, hN⟩ : ∃ x, x = Sha.nextW (Sha.grow (i - 16) (Sha.words b 16)) := ⟨_, rfl⟩
          rw [← hNX, ← hN] at y9
          have HNX := Lib.hid hN
          clear hNX hN

          clear hlt hi1 hi2 hbe htr
          go_wp2
          go_quiet (fail)
          go_wp2_with fail
          refine (rot_7 A15 _).mono ?_
          rintro e w' ⟨rfl, rfl⟩
          go_wp2_with fail
          refine (rot_18 A15 _).mono ?_
          rintro e w' ⟨rfl, rfl⟩
          go_wp2_with fail
          refine (rot_17 A2 _).mono ?_
          rintro e w' ⟨rfl, rfl⟩
          go_wp2_with fail
          refine (rot_19 A2 _).mono ?_
          rintro e w' ⟨rfl, rfl⟩
          go_wp2_with fail
          refine Pl.wp_plan (fun w' => w'.cell? ⟨w.heap.size + 1 + 1, i - 16, none⟩ = some (.int .u32 (A16.toNat : Int)) ∧ w'.cell? ⟨w.heap.size + 1 + 1, i - 7, none⟩ = some (.int .u32 (A7.toNat : Int))) [0, 1, 2, 3, 4, 5, 6, 7, 8, 9, 10, 11, 12, 13] [] [14, 15] Tryd.mixed (by kernel_rfl) (fun _ _ d _ _ h => by cases d <;> exact h) ⟨by simpa using c16, by simpa using c7⟩ ?_
          simp only [Pl.pick, List.drop_succ_cons, List.drop_zero]
          clear c16 c7 c2 c15
          iterate 14 (refine Pl.head_run (v := ?_) (by rfl) ?_ ?_; rotate_left; (focus (intro w' hS; obtain ⟨s0, s1⟩ := hS; go_simp; with_reducible rfl)); simp only [Act.put, List.setIfInBounds_toArray, List.set_cons_zero, List.set_cons_succ])
          refine Pl.head_nil ?_
          simp only [Pl.Mid]
          obtain ⟨OLD, hOLD⟩ : ∃ x : UInt32, wr.cell? ⟨w.heap.size + 1 + 1, i, none⟩ = some (.int .u32 (x.toNat : Int)) := ⟨_, by
            rw [b2.cell]; exact Sha.wv_at _ _ (by rw [Sha.filled64_length _ (by rw [HLL.out]; have := HI.out; omega)]; exact HI.out)⟩
          have f2 := b2.frozen i
          go_wp2
          generalize hw3 : (wr.drewN (nq + 1)).setCell ⟨w.heap.size + 1 + 1, i, none⟩ (.int .u32 (NX.toNat : Int)) = w3
          have hk3 : Keeps wr w3 (· = w.heap.size + 1 + 1) := by rw [← hw3]; exact ((Keeps.refl wr (· = w.heap.size + 1 + 1)).drewN (nq + 1)).setCell (.inl rfl) _
          have hb3 := (hk3.below (B := w.heap.size) HBE.out.size (fun k hk => by omega)).trans_of HBE.out
          have hn3 : Blk w3 (w.heap.size + 1 + 1) 97 (Sha.wv (Sha.filled64 (Sha.grow (i + 1 - 16) (Sha.words b 16)))) := by
            rw [← hw3]
            have := (b2.drewN (nq + 1)).set_ i (.int .u32 (NX.toNat : Int))
            rw [Sha.wv_set] at this
            have e := Sha.filled64_set (Sha.grow (i - 16) (Sha.words b 16)) (Sha.nextW (Sha.grow (i - 16) (Sha.words b 16))) (by rw [HLL.out]; exact HI.out)
            rw [HLL.out] at e
            have e2 : i + 1 - 16 = (i - 16) + 1 := by have := HI1.out; omega
            rw [e2]
            show Blk _ _ _ (Sha.wv (Sha.filled64 (Sha.grow (i - 16) (Sha.words b 16) ++ [Sha.nextW (Sha.grow (i - 16) (Sha.words b 16))])))
            rw [← e, ← HNX.out]
            exact this
          have hi := HI.out
          have hi1 := HI1.out
          refine ⟨⟨_, _, _, _, _, _, _, _, _, _, _, _, _, _, _, _, _, _, _, _, _, _, _, _, _, _, _, _, _, _, _, _, _, _, _, _, _, _, _, _, _, _, _, _, _, _, _, _, ?rel, rfl⟩, ?measure⟩
          case rel =>
            exact ⟨i + 1, by omega, by omega, by rw [Int.natCast_add]; rfl, (hk3.blk b0 (by omega)), (hk3.blk b1 (by omega)), hn3, hb3, HT.out.below hb3 HT.out.lt⟩
          case measure => simp [intOf]; omega
        · obtain rfl : i = 64 := by omega
          clear hi1 hi2 hlt
          have b2 : Blk wr (w.heap.size + 1 + 1) 97 (Sha.wv (Sha.filled64 (Sha.sched b))) := b2
          have e0 : wr.cell? ⟨w.heap.size, 0, none⟩ = some (.int .u32 (a0.toNat : Int)) := by rw [b0.cell, HH.out]; rfl
          have e1 : wr.cell? ⟨w.heap.size, 1, none⟩ = some (.int .u32 (a1.toNat : Int)) := by rw [b0.cell, HH.out]; rfl
          have e2 : wr.cell? ⟨w.heap.size, 2, none⟩ = some (.int .u32 (a2.toNat : Int)) := by rw [b0.cell, HH.out]; rfl
          have e3 : wr.cell? ⟨w.heap.size, 3, none⟩ = some (.int .u32 (a3.toNat : Int)) := by rw [b0.cell, HH.out]; rfl
          have e4 : wr.cell? ⟨w.heap.size, 4, none⟩ = some (.int .u32 (a4.toNat : Int)) := by rw [b0.cell, HH.out]; rfl
          have e5 : wr.cell? ⟨w.heap.size, 5, none⟩ = some (.int .u32 (a5.toNat : Int)) := by rw [b0.cell, HH.out]; rfl
          have e6 : wr.cell? ⟨w.heap.size, 6, none⟩ = some (.int .u32 (a6.toNat : Int)) := by rw [b0.cell, HH.out]; rfl
          have e7 : wr.cell? ⟨w.heap.size, 7, none⟩ = some (.int .u32 (a7.toNat : Int)) := by rw [b0.cell, HH.out]; rfl
          go_wp2
          have bv : Blk (wr.alloc (.cells (Sha.wv hh.list).toArray 96)) wr.heap.size 96 (Sha.wv hh.list) := Blk.new _ _ _
          have b0 := b0.alloc (.cells (Sha.wv hh.list).toArray 96)
          have b1 := b1.alloc (.cells (Sha.wv hh.list).toArray 96)
          have hvb := b2.lt
          have b2 := b2.alloc (.cells (Sha.wv hh.list).toArray 96)
          have hbe := hbe.alloc hbe.size (.cells (Sha.wv hh.list).toArray 96)
          have hl : Sha.wv hh.list = [.int .u32 (a0.toNat : Int), .int .u32 (a1.toNat : Int), .int .u32 (a2.toNat : Int), .int .u32 (a3.toNat : Int), .int .u32 (a4.toNat : Int), .int .u32 (a5.toNat : Int), .int .u32 (a6.toNat : Int), .int .u32 (a7.toNat : Int)] := by rw [HH.out]; rfl
          generalize hw1 : wr.alloc (.cells (Sha.wv hh.list).toArray 96) = w1 at bv b0 b1 b2 hbe
          rw [hl] at hw1
          rw [hw1]
          clear hw1 hl e0 e1 e2 e3 e4 e5 e6 e7 htr
          generalize hvn : wr.heap.size = vb at *
          clear hvn
          go_loopw [103] (fun v wr => ∃ i : Nat, i ≤ 64 ∧ v = .int .i64 i ∧ Blk wr w.heap.size 96 (Sha.wv hh.list) ∧ Blk wr (w.heap.size + 1) 96 (Sha.wv (List.replicate 8 0)) ∧ Blk wr (w.heap.size + 1 + 1) 97 (Sha.wv (Sha.filled64 (Sha.sched b))) ∧ Blk wr vb 96 (Sha.wv (Sha.rounds Sha.known (Sha.sched b) i hh).list) ∧ Below w.heap.size w wr ∧ Tabs wr) (fun v _ => 64 - (intOf v).toNat)
          case atStart => exact ⟨0, by omega, rfl, b0, b1, b2, bv, hbe, HT.out.below hbe HT.out.lt⟩
          case round =>
            clear b0 b1 b2 bv hbe
            obtain ⟨i, hi, rfl, b0, b1, b2, bv, hbe, htr⟩ := hrel
            by_cases hlt : i < 64
            · have HI := Lib.hid hlt
              have HBE := Lib.hid hbe
              have HTR := Lib.hid htr
              obtain ⟨A, B, C, D, E, F, G, H, hV⟩ : ∃ A B C D E F G H, Sha.rounds Sha.known (Sha.sched b) i hh = ⟨A, B, C, D, E, F, G, H⟩ := ⟨_, _, _, _, _, _, _, _, rfl⟩
              have HV := Lib.hid hV
              rw [hV] at bv
              have e0 : wr.cell? ⟨vb, 0, none⟩ = some (.int .u32 (A.toNat : Int)) := by rw [bv.cell]; rfl
              have f0 := bv.frozen 0
              have e1 : wr.cell? ⟨vb, 1, none⟩ = some (.int .u32 (B.toNat : Int)) := by rw [bv.cell]; rfl
              have f1 := bv.frozen 1
              have e2 : wr.cell? ⟨vb, 2, none⟩ = some (.int .u32 (C.toNat : Int)) := by rw [bv.cell]; rfl
              have f2 := bv.frozen 2
              have e3 : wr.cell? ⟨vb, 3, none⟩ = some (.int .u32 (D.toNat : Int)) := by rw [bv.cell]; rfl
              have f3 := bv.frozen 3
              have e4 : wr.cell? ⟨vb, 4, none⟩ = some (.int .u32 (E.toNat : Int)) := by rw [bv.cell]; rfl
              have f4 := bv.frozen 4
              have e5 : wr.cell? ⟨vb, 5, none⟩ = some (.int .u32 (F.toNat : Int)) := by rw [bv.cell]; rfl
              have f5 := bv.frozen 5
              have e6 : wr.cell? ⟨vb, 6, none⟩ = some (.int .u32 (G.toNat : Int)) := by rw [bv.cell]; rfl
              have f6 := bv.frozen 6
              have e7 : wr.cell? ⟨vb, 7, none⟩ = some (.int .u32 (H.toNat : Int)) := by rw [bv.cell]; rfl
              have f7 := bv.frozen 7
              obtain ⟨K, hK⟩ : ∃ x, x = Sha.known.getD i 0 := ⟨_, rfl⟩
              obtain ⟨W, hW⟩ : ∃ x, x = (Sha.sched b).getD i 0 := ⟨_, rfl⟩
              have ek : wr.cell? ⟨2, i, none⟩ = some (.int .u32 (K.toNat : Int)) := by rw [htr.known.cell, Sha.wv_at _ _ (by exact hlt), hK]
              have ew : wr.cell? ⟨w.heap.size + 1 + 1, i, none⟩ = some (.int .u32 (W.toNat : Int)) := by
                have hsl : (Sha.sched b).length = 64 := by unfold Sha.sched; rw [Sha.grow_length, Sha.words_length]
                rw [b2.cell, Sha.wv_at _ _ (by rw [Sha.filled64_length _ (by omega)]; exact hlt), Sha.filled64_get _ _ (by omega), hW]
              have HK := Lib.hid hK
              have HW := Lib.hid hW
              have i0 : (0 : Int) ≤ (i : Int) := by omega
              have i1 : (i : Int) < 64 := by omega
              have x1 := U3.xor_ (U3.rr E 6) (U3.rr E 11)
              have x2 := U3.xor_ (U3.xo (U3.rr E 6) (U3.rr E 11)) (U3.rr E 25)
              have y1 := U3.and_ E F
              have y2 : bits .xor .u32 (if IntKind.u32.signed = true then -1 else IntKind.u32.max) (E.toNat : Int) = ((Sha.cm E).toNat : Int) := Sha.not_ E
              have y3 := U3.and_ (Sha.cm E) G
              have y4 := U3.xor_ (U3.an E F) (U3.an (Sha.cm E) G)
              have z1 := U3.add' H (U3.xo (U3.xo (U3.rr E 6) (U3.rr E 11)) (U3.rr E 25))
              have z2 := U3.add' (U3.ad H (U3.xo (U3.xo (U3.rr E 6) (U3.rr E 11)) (U3.rr E 25))) (U3.xo (U3.an E F) (U3.an (Sha.cm E) G))
              have z3 := U3.add' (U3.ad (U3.ad H (U3.xo (U3.xo (U3.rr E 6) (U3.rr E 11)) (U3.rr E 25))) (U3.xo (U3.an E F) (U3.an (Sha.cm E) G))) K
              have z4 := U3.add' (U3.ad (U3.ad (U3.ad H (U3.xo (U3.xo (U3.rr E 6) (U3.rr E 11)) (U3.rr E 25))) (U3.xo (U3.an E F) (U3.an (Sha.cm E) G))) K) W
              have hT : Sha.tOf ⟨A, B, C, D, E, F, G, H⟩ K W = U3.ad (U3.ad (U3.ad (U3.ad H (U3.xo (U3.xo (U3.rr E 6) (U3.rr E 11)) (U3.rr E 25))) (U3.xo (U3.an E F) (U3.an (Sha.cm E) G))) K) W := rfl
              obtain ⟨T, hT2⟩ : ∃ x, x = Sha.tOf ⟨A, B, C, D, E, F, G, H⟩ K W := ⟨_, rfl⟩
              rw [← hT, ← hT2] at z4
              have HTT := Lib.hid hT2
              have v1 := U3.xor_ (U3.rr A 2) (U3.rr A 13)
              have v2 := U3.xor_ (U3.xo (U3.rr A 2) (U3.rr A 13)) (U3.rr A 22)
              have v3 := U3.and_ A B
              have v4 := U3.and_ A C
              have v5 := U3.and_ B C
              have v6 := U3.xor_ (U3.an A B) (U3.an A C)
              have v7 := U3.xor_ (U3.xo (U3.an A B) (U3.an A C)) (U3.an B C)
              have v8 := U3.add' (U3.xo (U3.xo (U3.rr A 2) (U3.rr A 13)) (U3.rr A 22)) (U3.xo (U3.xo (U3.an A B) (U3.an A C)) (U3.an B C))
              have hU : Sha.uOf ⟨A, B, C, D, E, F, G, H⟩ = U3.ad (U3.xo (U3.xo (U3.rr A 2) (U3.rr A 13)) (U3.rr A 22)) (U3.xo (U3.xo (U3.an A B) (U3.an A C)) (U3.an B C)) := rfl
              obtain ⟨U, hU2⟩ : ∃ x, x = Sha.uOf ⟨A, B, C, D, E, F, G, H⟩ := ⟨_, rfl⟩
              rw [← hU, ← hU2] at v8
              have HU := Lib.hid hU2
              have t1 := U3.add' T U
              have t2 := U3.add' D T
              clear hT hT2 hU hU2
              clear hV hK hW hlt hi hbe htr
              go_wp2
              go_quiet (fail)
              go_wp2_with fail
              refine (rot_6 E _).mono ?_
              rintro e w' ⟨rfl, rfl⟩
              go_wp2_with fail
              refine (rot_11 E _).mono ?_
              rintro e w' ⟨rfl, rfl⟩
              go_wp2_with fail
              refine (rot_25 E _).mono ?_
              rintro e w' ⟨rfl, rfl⟩
              go_wp2_with fail
              go_quiet (fail)
              go_wp2_with fail
              refine (rot_2 A _).mono ?_
              rintro e w' ⟨rfl, rfl⟩
              go_wp2_with fail
              refine (rot_13 A _).mono ?_
              rintro e w' ⟨rfl, rfl⟩
              go_wp2_with fail
              refine (rot_22 A _).mono ?_
              rintro e w' ⟨rfl, rfl⟩
              go_wp2
              refine ⟨⟨_, _, _, _, _, _, _, _, _, _, _, _, _, _, _, _, _, _, _, _, _, _, _, _, _, _, _, _, _, _, _, _, _, _, _, _, _, _, _, _, _, _, _, _, _, _, _, _, _, _, _, _, _, _, _, _, _, _, _, _, _, _, _, _, _, _, _, _, _, _, _, _, _, _, _, _, _, _, _, _, _, _, _, _, _, _, _, _, ?rel, rfl⟩, ?measure⟩
              case rel =>
                have hi := HI.out
                generalize hw3 : ((((((((World.drewN wr _).setCell ⟨vb, 0, none⟩ _).setCell ⟨vb, 1, none⟩ _).setCell ⟨vb, 2, none⟩ _).setCell ⟨vb, 3, none⟩ _).setCell ⟨vb, 4, none⟩ _).setCell ⟨vb, 5, none⟩ _).setCell ⟨vb, 6, none⟩ _).setCell ⟨vb, 7, none⟩ _ = w3
                have hk3 : Keeps wr w3 (· = vb) := by
                  rw [← hw3]
                  exact (((((((((Keeps.refl wr (· = vb)).drewN _).setCell (p := ⟨vb, 0, none⟩) (.inl rfl) _).setCell (p := ⟨vb, 1, none⟩) (.inl rfl) _).setCell (p := ⟨vb, 2, none⟩) (.inl rfl) _).setCell (p := ⟨vb, 3, none⟩) (.inl rfl) _).setCell (p := ⟨vb, 4, none⟩) (.inl rfl) _).setCell (p := ⟨vb, 5, none⟩) (.inl rfl) _).setCell (p := ⟨vb, 6, none⟩) (.inl rfl) _).setCell (p := ⟨vb, 7, none⟩) (.inl rfl) _
                have hb3 := (hk3.below (B := w.heap.size) HBE.out.size (fun k hk => by omega)).trans_of HBE.out
                have hr : Sha.rounds Sha.known (Sha.sched b) (i + 1) hh = ⟨U3.ad T U, A, B, C, U3.ad D T, E, F, G⟩ := by
                  show Sha.round (Sha.rounds Sha.known (Sha.sched b) i hh) _ _ = _
                  rw [HV.out, ← HK.out, ← HW.out, HTT.out, HU.out]
                  rfl
                have hn3 : Blk w3 vb 96 (Sha.wv (Sha.rounds Sha.known (Sha.sched b) (i + 1) hh).list) := by
                  rw [hr, ← hw3]
                  exact (((((((((bv.drewN _).set_ 0 _).set_ 1 _).set_ 2 _).set_ 3 _).set_ 4 _).set_ 5 _).set_ 6 _).set_ 7 _)
                exact ⟨i + 1, by omega, by rw [Int.natCast_add]; rfl, hk3.blk b0 (by omega), hk3.blk b1 (by omega), hk3.blk b2 (by omega), hn3, hb3, HT.out.below hb3 HT.out.lt⟩
              case measure => simp [intOf]; have := HI.out; omega
            · obtain rfl : i = 64 := by omega
              clear hi hlt b2 htr
              obtain ⟨vv, hvv⟩ : ∃ x, x = Sha.rounds Sha.known (Sha.sched b) 64 hh := ⟨_, rfl⟩
              rw [← hvv] at bv
              have hfin : Sha.block hh b = Sha.add8 hh vv := by rw [hvv]; rfl
              have HF := Lib.hid hfin
              clear hfin hvv
              go_wp2
              go_loopw [185] (fun v wr => ∃ i : Nat, i ≤ 8 ∧ v = .int .i64 i ∧ Blk wr w.heap.size 96 (Sha.wv (Sha.mixed8 hh.list vv.list i)) ∧ Blk wr (w.heap.size + 1) 96 (Sha.wv (List.replicate 8 0)) ∧ Blk wr vb 96 (Sha.wv vv.list) ∧ Below w.heap.size w wr) (fun v _ => 8 - (intOf v).toNat)
              case atStart => exact ⟨0, by omega, rfl, b0, b1, bv, hbe⟩
              case round =>
                clear b0 b1 bv hbe
                obtain ⟨i, hi, rfl, b0, b1, bv, hbe⟩ := hrel
                by_cases hlt : i < 8
                · have HI := Lib.hid hlt
                  have HBE := Lib.hid hbe
                  have i0 : (0 : Int) ≤ (i : Int) := by omega
                  have i1 : (i : Int) < 8 := by omega
                  obtain ⟨X, hX⟩ : ∃ x, x = hh.list.getD i 0 := ⟨_, rfl⟩
                  obtain ⟨Y, hY⟩ : ∃ x, x = vv.list.getD i 0 := ⟨_, rfl⟩
                  have cx : wr.cell? ⟨w.heap.size, i, none⟩ = some (.int .u32 (X.toNat : Int)) := by rw [b0.cell, Sha.wv_at _ _ (by rw [Sha.mixed8_length]; exact hlt), Sha.mixed8_get _ _ _ hlt, hX]
                  have cy : wr.cell? ⟨vb, i, none⟩ = some (.int .u32 (Y.toNat : Int)) := by rw [bv.cell, Sha.wv_at _ _ (by rw [Sha.V8.list_length]; exact hlt), hY]
                  have f0 := b0.frozen i
                  have s1 := U3.add' X Y
                  have HX := Lib.hid hX
                  have HY := Lib.hid hY
                  clear hX hY hlt hi hbe
                  go_wp2
                  refine Pl.wp_plan (fun w' => w'.cell? ⟨w.heap.size, i, none⟩ = some (.int .u32 (X.toNat : Int)) ∧ w'.cell? ⟨vb, i, none⟩ = some (.int .u32 (Y.toNat : Int))) [0, 1, 2, 3, 4, 5, 6] [] [7, 8] Tryd.mixed (by kernel_rfl) (fun _ _ d _ _ h => by cases d <;> exact h) ⟨by simpa using cx, by simpa using cy⟩ ?_
                  simp only [Pl.pick, List.drop_succ_cons, List.drop_zero]
                  iterate 7 (refine Pl.head_run (v := ?_) (by rfl) ?_ ?_; rotate_left; (focus (intro w' hS; obtain ⟨s0, s1⟩ := hS; go_simp; with_reducible rfl)); simp only [Act.put, List.setIfInBounds_toArray, List.set_cons_zero, List.set_cons_succ])
                  refine Pl.head_nil ?_
                  simp only [Pl.Mid]
                  go_wp2
                  generalize hw3 : wr.setCell ⟨w.heap.size, i, none⟩ (.int .u32 ((U3.ad X Y).toNat : Int)) = w3
                  have hk3 : Keeps wr w3 (· = w.heap.size) := by rw [← hw3]; exact (Keeps.refl wr (· = w.heap.size)).setCell (.inl rfl) _
                  have hb3 := (hk3.below (B := w.heap.size) HBE.out.size (fun k hk => by omega)).trans_of HBE.out
                  have hn3 : Blk w3 w.heap.size 96 (Sha.wv (Sha.mixed8 hh.list vv.list (i + 1))) := by
                    rw [← hw3]
                    have := b0.set_ i (.int .u32 ((U3.ad X Y).toNat : Int))
                    rw [Sha.wv_set] at this
                    rw [← Sha.mixed8_set _ _ _ HI.out, ← HX.out, ← HY.out]
                    exact this
                  have hi := HI.out
                  exact ⟨⟨i + 1, by omega, by rw [Int.natCast_add]; rfl, hn3.drew, (hk3.blk b1 (by omega)).drew, (hk3.blk bv (by omega)).drew, hb3.drew⟩, by simp [intOf]; omega⟩
                · obtain rfl : i = 8 := by omega
                  clear hi hlt
                  rw [Sha.mixed8_end, ← HF.out] at b0
                  obtain ⟨r, hr⟩ : ∃ r, r = Sha.block hh b := ⟨_, rfl⟩
                  rw [← hr] at b0
                  have HR := Lib.hid hr
                  clear hr
                  obtain ⟨r0, r1, r2, r3, r4, r5, r6, r7⟩ := r
                  have e0 : wr.cell? ⟨w.heap.size, 0, none⟩ = some (.int .u32 (r0.toNat : Int)) := by rw [b0.cell]; rfl
                  have z0 : wr.cell? ⟨w.heap.size + 1, 0, none⟩ = some (.int .u32 0) := by rw [b1.cell]; rfl
                  have f0 := b1.frozen 0
                  have e1 : wr.cell? ⟨w.heap.size, 1, none⟩ = some (.int .u32 (r1.toNat : Int)) := by rw [b0.cell]; rfl
                  have z1 : wr.cell? ⟨w.heap.size + 1, 1, none⟩ = some (.int .u32 0) := by rw [b1.cell]; rfl
                  have f1 := b1.frozen 1
                  have e2 : wr.cell? ⟨w.heap.size, 2, none⟩ = some (.int .u32 (r2.toNat : Int)) := by rw [b0.cell]; rfl
                  have z2 : wr.cell? ⟨w.heap.size + 1, 2, none⟩ = some (.int .u32 0) := by rw [b1.cell]; rfl
                  have f2 := b1.frozen 2
                  have e3 : wr.cell? ⟨w.heap.size, 3, none⟩ = some (.int .u32 (r3.toNat : Int)) := by rw [b0.cell]; rfl
                  have z3 : wr.cell? ⟨w.heap.size + 1, 3, none⟩ = some (.int .u32 0) := by rw [b1.cell]; rfl
                  have f3 := b1.frozen 3
                  have e4 : wr.cell? ⟨w.heap.size, 4, none⟩ = some (.int .u32 (r4.toNat : Int)) := by rw [b0.cell]; rfl
                  have z4 : wr.cell? ⟨w.heap.size + 1, 4, none⟩ = some (.int .u32 0) := by rw [b1.cell]; rfl
                  have f4 := b1.frozen 4
                  have e5 : wr.cell? ⟨w.heap.size, 5, none⟩ = some (.int .u32 (r5.toNat : Int)) := by rw [b0.cell]; rfl
                  have z5 : wr.cell? ⟨w.heap.size + 1, 5, none⟩ = some (.int .u32 0) := by rw [b1.cell]; rfl
                  have f5 := b1.frozen 5
                  have e6 : wr.cell? ⟨w.heap.size, 6, none⟩ = some (.int .u32 (r6.toNat : Int)) := by rw [b0.cell]; rfl
                  have z6 : wr.cell? ⟨w.heap.size + 1, 6, none⟩ = some (.int .u32 0) := by rw [b1.cell]; rfl
                  have f6 := b1.frozen 6
                  have e7 : wr.cell? ⟨w.heap.size, 7, none⟩ = some (.int .u32 (r7.toNat : Int)) := by rw [b0.cell]; rfl
                  have z7 : wr.cell? ⟨w.heap.size + 1, 7, none⟩ = some (.int .u32 0) := by rw [b1.cell]; rfl
                  have f7 := b1.frozen 7
                  go_wp2
                  generalize hw3 : (((((((wr.setCell ⟨w.heap.size + 1, 0, none⟩ _).setCell ⟨w.heap.size + 1, 1, none⟩ _).setCell ⟨w.heap.size + 1, 2, none⟩ _).setCell ⟨w.heap.size + 1, 3, none⟩ _).setCell ⟨w.heap.size + 1, 4, none⟩ _).setCell ⟨w.heap.size + 1, 5, none⟩ _).setCell ⟨w.heap.size + 1, 6, none⟩ _).setCell ⟨w.heap.size + 1, 7, none⟩ _ = w3
                  have hk3 : Keeps wr w3 (· = w.heap.size + 1) := by
                    rw [← hw3]
                    exact ((((((((Keeps.refl wr (· = w.heap.size + 1)).setCell (p := ⟨w.heap.size + 1, 0, none⟩) (.inl rfl) _).setCell (p := ⟨w.heap.size + 1, 1, none⟩) (.inl rfl) _).setCell (p := ⟨w.heap.size + 1, 2, none⟩) (.inl rfl) _).setCell (p := ⟨w.heap.size + 1, 3, none⟩) (.inl rfl) _).setCell (p := ⟨w.heap.size + 1, 4, none⟩) (.inl rfl) _).setCell (p := ⟨w.heap.size + 1, 5, none⟩) (.inl rfl) _).setCell (p := ⟨w.heap.size + 1, 6, none⟩) (.inl rfl) _).setCell (p := ⟨w.heap.size + 1, 7, none⟩) (.inl rfl) _
                  have hb3 := (hk3.below (B := w.heap.size) hbe.size (fun k hk => by omega)).trans_of hbe
                  have hn3 : Blk w3 (w.heap.size + 1) 96 (Sha.wv (Sha.V8.list ⟨r0, r1, r2, r3, r4, r5, r6, r7⟩)) := by
                    rw [← hw3]
                    exact ((((((((b1.set_ 0 _).set_ 1 _).set_ 2 _).set_ 3 _).set_ 4 _).set_ 5 _).set_ 6 _).set_ 7 _)
                  refine bodyPost_ret (results_row rfl _ _ _ rfl (hn3.range 0 8 _ rfl) Tryd.underlying96 rfl (by exact Tryd.sizeH)) rfl ?_
                  rw [← HR.out]
                  exact ⟨rfl, hb3⟩
end Go.Proofs.YtcdljlaoedaliaaDoor
