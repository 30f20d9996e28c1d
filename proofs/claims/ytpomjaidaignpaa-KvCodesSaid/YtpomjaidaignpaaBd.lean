/- Contract of block's Write. -/
import Derived.Test.YtpomjaidaignpaaBc
import Derived.Test.YtpomjaidaignpaaPl
import Derived.Test.YtpomjaidaignpaaSt
import Derived.ArgAppend
import Derived.Laws.CopyOwn
set_option linter.unusedVariables false
set_option linter.unusedSimpArgs false
namespace Go.Proofs.Ytpomjaidaignpaa
open Go.RowKit Wd

/-- Bytes behind a store into their midst. -/
def spl (l : List UInt8) (o : Nat) (m : List UInt8) : List UInt8 := l.take o ++ m ++ l.drop (o + m.length)
theorem bv_spl (l : List UInt8) (o : Nat) (m : List UInt8) : bv (spl l o m) = ins (bv l) o (bv m) := by
  simp [spl, ins, bv_append, bv_take, bv_drop, bv_length]
theorem spl_length (l : List UInt8) (o : Nat) (m : List UInt8) (h : o + m.length ≤ l.length) : (spl l o m).length = l.length := by
  simp [spl]; omega
theorem spl_nil (l : List UInt8) (o : Nat) : spl l o [] = l := by simp [spl]
def FM.put (F : FM) (i : Nat) (m : List UInt8) : FM := { F with left := if F.set then F.left - 1 else F.left, pend := F.pend ++ [⟨i, F.at_ i, m⟩], l := spl F.l (64 * i) m }
def FM.fused (F : FM) (i : Nat) (m : List UInt8) : FM := { F with pend := [], set := false, off := true, l := spl F.l (64 * i) (m.take F.torn.toNat) }
def FM.write (F : FM) (i : Nat) (m : List UInt8) : FM := if F.off then F else if F.set && F.left == 0 then F.fused i m else F.put i m

theorem FM.fused_ok {F : FM} (h : F.ok) (i : Nat) (hi : i < F.n) (m : List UInt8) (hm : m.length = 64) : (F.fused i m).ok := by
  have hl := h.len
  exact { h with len := (by show (spl F.l (64 * i) (m.take F.torn.toNat)).length = _; rw [spl_length _ _ _ (by rw [List.length_take]; omega)]; exact hl), pend := fun p hp => by simp [FM.fused] at hp }
theorem FM.put_ok {F : FM} (h : F.ok) (i : Nat) (hi : i < F.n) (m : List UInt8) (hm : m.length = 64) (hl : F.set = true → F.left ≠ 0) : (F.put i m).ok := by
  have hlen := h.len
  have h0 := h.left
  have h1 := h.left2
  refine { h with len := ?_, pend := ?_, left := ?_, left2 := ?_ }
  · show (spl F.l (64 * i) m).length = _
    rw [spl_length _ _ _ (by omega)]
    exact hlen
  · intro p hp
    have hp' : p ∈ F.pend ++ [⟨i, F.at_ i, m⟩] := hp
    rcases List.mem_append.1 hp' with hp' | hp'
    · exact h.pend p hp'
    · rw [List.mem_singleton] at hp'
      subst hp'
      exact ⟨hi, FM.at_length h hi, hm⟩
  · show 0 ≤ (if F.set then F.left - 1 else F.left)
    split
    · rename_i hs; have := hl hs; omega
    · exact h0
  · show (if F.set then F.left - 1 else F.left) ≤ _
    split <;> omega
theorem Try.size5 : (Try.prog.info? 5).map (·.size) = some 1 := by kernel_rfl
theorem pc_now (p : PW) (h : p.was.length = 64) (n : Nat) : ((pc p).drop 65).take n = (bv p.now).take n := by
  unfold pc
  rw [List.drop_succ_cons, List.drop_left' (by rw [bv_length, h])]
/-- A range of a block that is known whole, as an append's law asks for it. -/
theorem range_news {w : World} {b o : Nat} {cs : List Value} (h : w.rangeAt b o cs) : ∀ j u, cs[j]? = some u → w.cell? ((⟨b, o, none⟩ : Addr).add j) = some u := fun j u hu => by
  rw [Addr.add_mid]; exact h j u hu
theorem Try.zero64 : (Try.prog.info? 113).map (fun i => (i.zero, i.size)) = some (some (.agg (.int .i64 0 :: List.replicate 128 (.int .u8 0)).toArray), 129) := by kernel_rfl
theorem Try.size64 : (Try.prog.info? 113).map (·.size) = some 129 := by kernel_rfl
theorem Try.info64 : (Try.prog.info? 113).map (fun i => (i.zero, i.size, i.bytes)) = some (some (.agg (.int .i64 0 :: List.replicate 128 (.int .u8 0)).toArray), 129, 136) := by kernel_rfl
theorem Try.places64 : placesOf Try.prog 113 = some [(0, 1), (1, 64), (65, 64)] := by kernel_rfl
theorem Try.mixed : Try.prog.follows .mixedOrders = true := by kernel_rfl

/-- The cells of a new variable of type 'write'. -/
def zc64 : Array Value := (.int .i64 0 :: List.replicate 128 (.int .u8 0)).toArray
theorem pc_length (p : PW) (n : Nat) (h : p.ok n) : (pc p).length = 129 := by simp [pc, bv_length, h.2.1, h.2.2]

theorem pc_one (p : PW) : ∀ u ∈ pc p, u.oneCell' = true := by
  intro u hu
  simp only [pc, List.mem_cons, List.mem_append] at hu
  rcases hu with rfl | hu | hu
  · rfl
  · exact bv_one _ u hu
  · exact bv_one _ u hu
theorem run_build_write (i : Nat) (was now : List UInt8) (h1 : was.length = 64) (h2 : now.length = 64) (w : World) :
    (Instr.build 113 #[(0, .int .i64 (i : Int)), (1, .agg (bv was).toArray), (2, .agg (bv now).toArray)]).run Try.prog w = .ok (.agg (pc ⟨i, was, now⟩).toArray) w := by
  have := run_build3 (n0 := 1) (n1 := 64) (n2 := 64) Try.zero64 (by simp [Value.cells]) Try.places64 rfl (.int .i64 (i : Int)) (.agg (bv was).toArray) (.agg (bv now).toArray) rfl (by simp [Value.cells, bv_length, h1]) (by simp [Value.cells, bv_length, h2]) w
  rw [this]
  simp [Value.cells, pc]

theorem write_off {w : World} {base f lb : Nat} {F : FM} {pv : Value} (hF : IsF w base f lb F pv) (i : Nat) (hi : i < F.n) (A : Option Addr) (c : Nat) (ho : F.off = true) :
    Calls Try.prog 50 #[.pointer (some ⟨f, 0, none⟩), .int .i64 (i : Int), .slice A 64 c] w fun e w' => e = .returned (.int .i64 0) ∧ w = w' := by
  obtain ⟨-, -, -, c3, -, -⟩ := hF.cells
  rw [ho] at c3
  have n2 := hF.ok.n2
  have g1 : ¬ (i : Int) < 0 := by omega
  have g2 : (i : Int) < (F.n : Int) := by omega
  clear ho
  go_enter Try.func50, Try.ntmps50
  go_wp2_with (go_at_call 59; refine (blocks_any hF).mono ?_; rintro e w' ⟨rfl, rfl⟩)
  go_ret
  exact ⟨rfl, rfl⟩
theorem write_none {w : World} {base f lb : Nat} {F : FM} {pv : Value} (hF : IsF w base f lb F pv) (i : Int) (hi : i < 0 ∨ (F.n : Int) ≤ i) (v : Value) :
    Calls Try.prog 50 #[.pointer (some ⟨f, 0, none⟩), .int .i64 i, v] w fun e w' => e = .returned (.int .i64 4) ∧ w = w' := by
  rcases hi with hi | hi
  · go_enter Try.func50, Try.ntmps50
    go_wp2
    go_ret
    exact ⟨rfl, rfl⟩
  · have g1 : ¬ i < 0 := by omega
    go_enter Try.func50, Try.ntmps50
    go_wp2_with (go_at_call 59; refine (blocks_any hF).mono ?_; rintro e w' ⟨rfl, rfl⟩)
    go_ret
    exact ⟨rfl, rfl⟩
theorem write_arg {w : World} {base f lb : Nat} {F : FM} {pv : Value} (hF : IsF w base f lb F pv) (i : Nat) (hi : i < F.n) (A : Option Addr) (n c : Nat) (hn : n ≠ 64) :
    Calls Try.prog 50 #[.pointer (some ⟨f, 0, none⟩), .int .i64 (i : Int), .slice A n c] w fun e w' => e = .returned (.int .i64 1) ∧ w = w' := by
  have n2 := hF.ok.n2
  have g1 : ¬ (i : Int) < 0 := by omega
  have g2 : (i : Int) < (F.n : Int) := by omega
  have g3 : ((n : Int) != 64) = true := by simp; omega
  go_enter Try.func50, Try.ntmps50
  go_wp2_with (go_at_call 59; refine (blocks_any hF).mono ?_; rintro e w' ⟨rfl, rfl⟩)
  go_ret
  exact ⟨rfl, rfl⟩

set_option maxRecDepth 100000 in
theorem write_fused {w : World} {base f lb : Nat} {F : FM} {pv : Value} (hF : IsF w base f lb F pv) (i : Nat) (hi : i < F.n) (bb bo c : Nat) (m : List UInt8) (hm : m.length = 64) (hb : w.rangeAt bb bo (bv m)) (hbb : bb < w.heap.size)
    (ho : F.off = false) (hs : F.set = true) (hl : F.left = 0) :
    Calls Try.prog 50 #[.pointer (some ⟨f, 0, none⟩), .int .i64 (i : Int), .slice (some ⟨bb, bo, none⟩) 64 c] w fun e w' =>
      e = .returned (.int .i64 0) ∧ IsF w' base f lb (F.fused i m) (.slice none 0 0) ∧ Keeps w w' (fun k => k = f ∨ k = lb) := by
  obtain ⟨c0, c1, c2, c3, c4, c5⟩ := hF.cells
  rw [ho] at c3
  rw [hs] at c2
  rw [hl] at c4
  have n2 := hF.ok.n2
  have g1 : ¬ (i : Int) < 0 := by omega
  have g2 : (i : Int) < (F.n : Int) := by omega
  have g0 : (0 : Int) ≤ (i : Int) := by omega
  have hr := hF.range i
  have hlen := FM.at_length hF.ok hi
  have HL := Lib.hid hlen
  have HM := Lib.hid hm
  have hs2a := arrayAt_ok (P := Try.prog) Try.underlying111 (some ⟨bb, bo, none⟩) 64 c (Nat.le_refl _)
  have t0 := hF.ok.torn
  have t1 := hF.ok.torn2
  have HO := Lib.hid ho
  have HS := Lib.hid hs
  have HE := Lib.hid hl
  clear ho hs hl hlen hm
  go_enter Try.func50, Try.ntmps50
  go_wp2_with (go_at_call 59; refine (blocks_any hF).mono ?_; rintro e w' ⟨rfl, rfl⟩)
  refine Pl.wp_plan (fun w' => w'.cell? ⟨f, 0, none⟩ = some (.slice (some ⟨lb, 0, none⟩) F.n F.n) ∧ w'.rangeAt lb (i * 64) (bv (F.at_ i)) ∧ w'.rangeAt bb bo (bv m)) [0, 1, 2, 3, 4, 5, 6, 7, 8, 9, 10, 11] [12] [13] Try.mixed (by kernel_rfl) (fun _ _ d _ _ h => by cases d <;> exact h) ⟨by simpa using c0, by simpa using hr, by simpa using hb⟩ ?_
  simp only [Pl.pick, List.drop_succ_cons, List.drop_zero]
  iterate 7 (refine Pl.head_run (v := ?_) (by rfl) ?_ ?_; rotate_left; (focus (intro w' hS; obtain ⟨s0, s1, s2⟩ := hS; go_simp; with_reducible rfl)); simp only [Act.put, List.setIfInBounds_toArray, List.set_cons_zero, List.set_cons_succ])
  (refine Pl.head_load_mid (by rfl) 111 (.tmp 31) (by rfl) lb (i * 64) (by rfl) (bv (F.at_ i)) _ (fun _ h => h.2.1) Try.underlying111 rfl (by rw [bv_length, HL.out]; exact Try.size62) ?_; simp only [Act.put, List.setIfInBounds_toArray, List.set_cons_zero, List.set_cons_succ])
  iterate 2 (refine Pl.head_run (v := ?_) (by rfl) ?_ ?_; rotate_left; (focus (intro w' hS; obtain ⟨s0, s1, s2⟩ := hS; go_simp; with_reducible rfl)); simp only [Act.put, List.setIfInBounds_toArray, List.set_cons_zero, List.set_cons_succ])
  (refine Pl.head_load_mid (by rfl) 111 (.tmp 34) (by rfl) bb bo (by rfl) (bv m) _ (fun _ h => h.2.2) Try.underlying111 rfl (by rw [bv_length, HM.out]; exact Try.size62) ?_; simp only [Act.put, List.setIfInBounds_toArray, List.set_cons_zero, List.set_cons_succ])
  (refine Pl.head_build (by rfl) _ _ (by rfl) (pc ⟨i, F.at_ i, m⟩).toArray (fun W => (by simp only [List.map_toArray, List.map_cons, List.map_nil]; exact run_build_write i (F.at_ i) m HL.out HM.out W)) ?_; simp only [Act.put, List.setIfInBounds_toArray, List.set_cons_zero, List.set_cons_succ])
  refine Pl.head_nil ?_
  simp only [Pl.Mid]
  refine wpList_alloc_blk (by rfl) 113 (by rfl) Try.zero64 ?_
  intro w1 hn1 hbe1 hsz1
  refine wpList_nil ?_
  refine (⟨⟨?_, ?_, ?_⟩, ?_⟩ : (_ ∧ _ ∧ _) ∧ _)
  · exact (hF.below (hbe1.trans_drew)).cells.1
  · exact (hF.below (hbe1.trans_drew)).range i
  · exact rangeAt_below hb hbe1.trans_drew hbb
  simp only [Act.put, List.setIfInBounds_toArray, List.set_cons_zero, List.set_cons_succ]
  refine wpList_store_blk (by rfl) 113 (.tmp 7) (.tmp 36) (by rfl) w.heap.size 0 (pc ⟨i, F.at_ i, m⟩) (by rfl) (by rfl) 113 _ hn1 ?_ ?_ ?_ ?_
  · rw [pc_length _ F.n ⟨hi, HL.out, HM.out⟩]; simp [Value.cells]
  · rw [pc_length _ F.n ⟨hi, HL.out, HM.out⟩]; exact Try.size64
  · exact pc_one _
  intro w2 hn2 hk2 hsz2
  rw [ins_all _ _ (by rw [pc_length _ F.n ⟨hi, HL.out, HM.out⟩]; simp [Value.cells])] at hn2
  have hbe2 : Below w.heap.size w w2 := (hk2.below (B := w.heap.size) hbe1.size (fun k hk => by subst hk; exact Nat.le_refl _)).trans_of hbe1.trans_drew
  have hF2 := hF.below hbe2
  have hwb : w.heap.size < w2.heap.size := hn2.lt
  obtain ⟨d0, d1, d2, d3, d4, d5⟩ := hF2.cells
  clear c0 c1 c2 c3 c4 c5 hn1 hbe1 hsz1 hk2 hsz2 hr hs2a
  rw [HO.out] at d3
  rw [HS.out] at d2
  rw [HE.out] at d4
  have hf1 := hF2.blk.frozen 1
  have hf2 := hF2.blk.frozen 2
  have hf3 := hF2.blk.frozen 3
  go_wp2
  generalize hw3 : ((w2.setCell ⟨f, 1, none⟩ (.slice none 0 0)).setCell ⟨f, 2, none⟩ (.bool false)).setCell ⟨f, 3, none⟩ (.bool true) = w3
  have hb3 : Blk w3 f 82 (fcells lb (F.fused i m) (.slice none 0 0)) := by
    rw [← hw3]
    have := ((hF2.blk.set_ 1 (.slice none 0 0)).set_ 2 (.bool false)).set_ 3 (.bool true)
    simpa [fcells, FM.fused] using this
  have hk3 : Keeps w2 w3 (· = f) := by
    rw [← hw3]
    exact (((Keeps.refl w2 (· = f)).setCell (p := ⟨f, 1, none⟩) (.inl rfl) _).setCell (p := ⟨f, 2, none⟩) (.inl rfl) _).setCell (p := ⟨f, 3, none⟩) (.inl rfl) _
  clear hw3 d0 d1 d2 d3 d4 d5 hf1 hf2 hf3
  have hr3 : Blk w3 lb 111 (bv F.l) := hk3.blk hF2.row hF2.ne.symm
  have hn3 : Blk w3 w.heap.size 113 (pc ⟨i, F.at_ i, m⟩) := hk3.blk hn2 (hn2.ne_ hF2.blk (by decide))
  have d0 : w3.cell? ⟨f, 0, none⟩ = some (.slice (some ⟨lb, 0, none⟩) F.n F.n) := by rw [hb3.cell]; rfl
  have d5 : w3.cell? ⟨f, 5, none⟩ = some (.int .i64 F.torn) := by rw [hb3.cell]; rfl
  refine Pl.wp_plan (fun w' => w'.cell? ⟨f, 0, none⟩ = some (.slice (some ⟨lb, 0, none⟩) F.n F.n) ∧ w'.cell? ⟨f, 5, none⟩ = some (.int .i64 F.torn)) [0, 1, 2, 3, 4, 5, 6, 7, 8, 9, 10, 11, 12] [13] [] Try.mixed (by kernel_rfl) (fun _ _ d _ _ h => by cases d <;> exact h) ⟨by simpa using d0, by simpa using d5⟩ ?_
  simp only [Pl.pick, List.drop_succ_cons, List.drop_zero]
  iterate 13 (refine Pl.head_run (v := ?_) (by rfl) ?_ ?_; rotate_left; (focus (intro w' hS; obtain ⟨s0, s1⟩ := hS; go_simp; with_reducible rfl)); simp only [Act.put, List.setIfInBounds_toArray, List.set_cons_zero, List.set_cons_succ])
  refine Pl.head_nil ?_
  simp only [Pl.Mid]
  refine wpList_copy_blk (by rfl) (.tmp 67) (.tmp 69) 25 25 (by rfl) 5 Try.underlying25 Try.size5 lb (i * 64) F.torn.toNat 64 (some ⟨w.heap.size, 65, none⟩) 64 64 (by rfl) (by rfl) (bv F.l) 111 hr3 (bv (m.take F.torn.toNat)) ?_ ?_ ?_ (bv_one _) ?_
  · rw [bv_length, List.length_take, HM.out]; exact Nat.min_comm _ _
  · intro _
    refine ⟨_, rfl, ?_⟩
    have h1 := (hn3.drew).range 65 F.torn.toNat (bv (m.take F.torn.toNat)) (by rw [pc_now _ HL.out, bv_take])
    exact range_news h1
  · rw [bv_length, bv_length, List.length_take, HM.out, hF.ok.len]; omega
  intro w4 hl4 hk4 hsz4
  refine wpList_nil ?_
  refine (⟨⟨?_, ?_⟩, ?_⟩ : (_ ∧ _) ∧ _)
  · exact (hk4.blk hb3.drew hF.ne).cell 0
  · exact (hk4.blk hb3.drew hF.ne).cell 5
  simp only [Act.put, List.setIfInBounds_toArray, List.set_cons_zero, List.set_cons_succ]
  go_wp2
  go_ret
  have hkk : Keeps w w4 (fun k => k = f ∨ k = lb) :=
    (((Keeps.of_below hbe2 _).trans hk3 (fun k hk => .inl (.inl hk))).drew).trans hk4 (fun k hk => .inl (.inr hk))
  refine ⟨rfl, ⟨F.fused_ok hF.ok i hi m HM.out, hk4.blk hb3.drew hF.ne, ?_, World.ownsRow_nil _ _ _ _, hF.hf, hF.hl⟩, hkk⟩
  rw [show (F.fused i m).l = spl F.l (64 * i) (m.take F.torn.toNat) from rfl, bv_spl, Nat.mul_comm]
  exact hl4

set_option maxRecDepth 100000 in
set_option maxHeartbeats 400000 in
theorem write_put {w : World} {base f lb : Nat} {F : FM} {pv : Value} (hF : IsF w base f lb F pv) (i : Nat) (hi : i < F.n) (bb bo c : Nat) (m : List UInt8) (hm : m.length = 64) (hb : w.rangeAt bb bo (bv m)) (hbb : bb < w.heap.size)
    (ho : F.off = false) (hl : F.set = true → F.left ≠ 0) (hp : F.pend.length < 1000000000) :
    Calls Try.prog 50 #[.pointer (some ⟨f, 0, none⟩), .int .i64 (i : Int), .slice (some ⟨bb, bo, none⟩) 64 c] w fun e w' =>
      e = .returned (.int .i64 0) ∧ ∃ pv', IsF w' base f lb (F.put i m) pv' ∧ Keeps w w' (fun k => k = f ∨ k = lb) ∧ (∀ k, pv'.ownBlock = some k → w.heap.size ≤ k) := by
  obtain ⟨c0, c1, c2, c3, c4, c5⟩ := hF.cells
  obtain ⟨A, pcap, hpv, hcap⟩ := own_slice hF.own
  subst hpv
  have hFb := hF.hf
  rw [ho] at c3
  have n2 := hF.ok.n2
  have g1 : ¬ (i : Int) < 0 := by omega
  have g2 : (i : Int) < (F.n : Int) := by omega
  have g0 : (0 : Int) ≤ (i : Int) := by omega
  have hr := hF.range i
  have hlen := FM.at_length hF.ok hi
  have HL := Lib.hid hlen
  have HM := Lib.hid hm
  have hs2a := arrayAt_ok (P := Try.prog) Try.underlying111 (some ⟨bb, bo, none⟩) 64 c (Nat.le_refl _)
  have p0 : (F.pend.length : Int) ≤ (pcap : Int) := by omega
  have p1 : (0 : Int) ≤ (F.pend.length : Int) := by omega
  have HO := Lib.hid ho
  have HE := Lib.hid hl
  have b0 := hF.ok.left
  have b1 := hF.ok.left2
  clear ho hl hlen hm
  go_enter Try.func50, Try.ntmps50
  go_wp2_with (go_at_call 59; refine (blocks_any hF).mono ?_; rintro e w' ⟨rfl, rfl⟩)
  refine Pl.wp_plan (fun w' => w'.cell? ⟨f, 0, none⟩ = some (.slice (some ⟨lb, 0, none⟩) F.n F.n) ∧ w'.rangeAt lb (i * 64) (bv (F.at_ i)) ∧ w'.rangeAt bb bo (bv m)) [0, 1, 2, 3, 4, 5, 6, 7, 8, 9, 10, 11] [12] [13] Try.mixed (by kernel_rfl) (fun _ _ d _ _ h => by cases d <;> exact h) ⟨by simpa using c0, by simpa using hr, by simpa using hb⟩ ?_
  simp only [Pl.pick, List.drop_succ_cons, List.drop_zero]
  iterate 7 (refine Pl.head_run (v := ?_) (by rfl) ?_ ?_; rotate_left; (focus (intro w' hS; obtain ⟨s0, s1, s2⟩ := hS; go_simp; with_reducible rfl)); simp only [Act.put, List.setIfInBounds_toArray, List.set_cons_zero, List.set_cons_succ])
  (refine Pl.head_load_mid (by rfl) 111 (.tmp 31) (by rfl) lb (i * 64) (by rfl) (bv (F.at_ i)) _ (fun _ h => h.2.1) Try.underlying111 rfl (by rw [bv_length, HL.out]; exact Try.size62) ?_; simp only [Act.put, List.setIfInBounds_toArray, List.set_cons_zero, List.set_cons_succ])
  iterate 2 (refine Pl.head_run (v := ?_) (by rfl) ?_ ?_; rotate_left; (focus (intro w' hS; obtain ⟨s0, s1, s2⟩ := hS; go_simp; with_reducible rfl)); simp only [Act.put, List.setIfInBounds_toArray, List.set_cons_zero, List.set_cons_succ])
  (refine Pl.head_load_mid (by rfl) 111 (.tmp 34) (by rfl) bb bo (by rfl) (bv m) _ (fun _ h => h.2.2) Try.underlying111 rfl (by rw [bv_length, HM.out]; exact Try.size62) ?_; simp only [Act.put, List.setIfInBounds_toArray, List.set_cons_zero, List.set_cons_succ])
  (refine Pl.head_build (by rfl) _ _ (by rfl) (pc ⟨i, F.at_ i, m⟩).toArray (fun W => (by simp only [List.map_toArray, List.map_cons, List.map_nil]; exact run_build_write i (F.at_ i) m HL.out HM.out W)) ?_; simp only [Act.put, List.setIfInBounds_toArray, List.set_cons_zero, List.set_cons_succ])
  refine Pl.head_nil ?_
  simp only [Pl.Mid]
  refine wpList_alloc_blk (by rfl) 113 (by rfl) Try.zero64 ?_
  intro w1 hn1 hbe1 hsz1
  refine wpList_nil ?_
  refine (⟨⟨?_, ?_, ?_⟩, ?_⟩ : (_ ∧ _ ∧ _) ∧ _)
  · exact (hF.below (hbe1.trans_drew)).cells.1
  · exact (hF.below (hbe1.trans_drew)).range i
  · exact rangeAt_below hb hbe1.trans_drew hbb
  simp only [Act.put, List.setIfInBounds_toArray, List.set_cons_zero, List.set_cons_succ]
  refine wpList_store_blk (by rfl) 113 (.tmp 7) (.tmp 36) (by rfl) w.heap.size 0 (pc ⟨i, F.at_ i, m⟩) (by rfl) (by rfl) 113 _ hn1 ?_ ?_ ?_ ?_
  · rw [pc_length _ F.n ⟨hi, HL.out, HM.out⟩]; simp [Value.cells]
  · rw [pc_length _ F.n ⟨hi, HL.out, HM.out⟩]; exact Try.size64
  · exact pc_one _
  intro w2 hn2 hk2 hsz2
  rw [ins_all _ _ (by rw [pc_length _ F.n ⟨hi, HL.out, HM.out⟩]; simp [Value.cells])] at hn2
  have hbe2 : Below w.heap.size w w2 := (hk2.below (B := w.heap.size) hbe1.size (fun k hk => by subst hk; exact Nat.le_refl _)).trans_of hbe1.trans_drew
  have hF2 := hF.below hbe2
  have hwb : w.heap.size < w2.heap.size := hn2.lt
  obtain ⟨d0, d1, d2, d3, d4, d5⟩ := hF2.cells
  clear c0 c1 c2 c3 c4 c5 hn1 hbe1 hsz1 hk2 hsz2 hr hs2a
  rw [HO.out] at d3
  have hf4 := hF2.blk.frozen 4
  have hsz2 : w.heap.size ≤ w2.heap.size := hbe2.size
  have hset : F.set = true ∨ F.set = false := by cases F.set <;> simp
  rcases hset with hs | hs
  · have hl0 : (F.left == 0) = false := by have := HE.out hs; simp [this]
    have HS := Lib.hid hs
    rw [hs] at d2
    clear hs
    go_wp2
    generalize hw3 : w2.setCell ⟨f, 4, none⟩ (.int .i64 (F.left - 1)) = w3
    have hb3 : Blk w3 f 82 (fcells lb { F with left := (F.put i m).left } (.slice A F.pend.length pcap)) := by
      rw [← hw3]
      have := hF2.blk.set_ 4 (.int .i64 (F.left - 1))
      simpa [fcells, FM.put, HS.out] using this
    have hk3 : Keeps w2 w3 (· = f) := by
      rw [← hw3]
      exact (Keeps.refl w2 (· = f)).setCell (p := ⟨f, 4, none⟩) (.inl rfl) _
    have hz3 : w2.heap.size ≤ w3.heap.size := hk3.size
    clear hw3 d0 d1 d2 d3 d4 d5 hf4 HS hl0
    have hr3 : Blk w3 lb 111 (bv F.l) := hk3.blk hF2.row hF2.ne.symm
    have hn3 : Blk w3 w.heap.size 113 (pc ⟨i, F.at_ i, m⟩) := hk3.blk hn2 (hn2.ne_ hF2.blk (by decide))
    have ho3 : w3.ownsRow base 113 129 (.slice A F.pend.length pcap) F.pend.length (pcs F.pend) := hk3.own hF2.own (own_ne hF2.own hF2.blk (by decide))
    have d1 : w3.cell? ⟨f, 1, none⟩ = some (.slice A F.pend.length pcap) := by rw [hb3.cell]; rfl
    refine Pl.wp_plan (fun w' => w'.cell? ⟨f, 1, none⟩ = some (.slice A F.pend.length pcap) ∧ Blk w' w.heap.size 113 (pc ⟨i, F.at_ i, m⟩)) [0, 1, 2, 3, 4, 5, 6, 7, 8, 9, 10, 11, 12, 13, 14, 15, 16] [17, 18] [19, 20, 21] Try.mixed (by kernel_rfl) (fun _ _ d _ _ h => by cases d <;> exact h) ⟨by simpa using d1, hn3.drew⟩ ?_
    simp only [Pl.pick, List.drop_succ_cons, List.drop_zero]
    iterate 16 (refine Pl.head_run (v := ?_) (by rfl) ?_ ?_; rotate_left; (focus (intro w' hS; obtain ⟨s0, s1⟩ := hS; go_simp; with_reducible rfl)); simp only [Act.put, List.setIfInBounds_toArray, List.set_cons_zero, List.set_cons_succ])
    (refine Pl.head_load_mid (by rfl) 113 (.tmp 7) (by rfl) w.heap.size 0 (by rfl) (pc ⟨i, F.at_ i, m⟩) _ (fun _ h => h.2.range 0 129 _ (by rw [List.drop_zero, List.take_of_length_le (by rw [pc_length _ F.n ⟨hi, HL.out, HM.out⟩]; exact Nat.le_refl _)])) Try.underlying113 rfl (by rw [pc_length _ F.n ⟨hi, HL.out, HM.out⟩]; exact Try.size64) ?_; simp only [Act.put, List.setIfInBounds_toArray, List.set_cons_zero, List.set_cons_succ])
    refine Pl.head_nil ?_
    simp only [Pl.Mid]
    refine wpList_buildSlice_blk (by rfl) 80 (.tmp 98) (by rfl) Try.underlying80 Try.zero64 (by simp [Value.cells]) (by omega) (by omega) (pc ⟨i, F.at_ i, m⟩) (by rfl) (pc_length _ F.n ⟨hi, HL.out, HM.out⟩) ?_
    intro w4 hn4 hbe4 hsz4
    refine wpList_nil ?_
    refine (⟨⟨?_, ?_⟩, ?_⟩ : (_ ∧ _) ∧ _)
    · exact (Blk.below (w := w3.drew) hb3 hbe4 hb3.lt).cell 1
    · exact Blk.below (w := w3.drew) hn3 hbe4 hn3.lt
    simp only [Act.put, List.setIfInBounds_toArray, List.set_cons_zero, List.set_cons_succ]
    obtain ⟨i0, hi0, hz0, hz1, hz2⟩ := info_parts Try.info64
    have ho4 : w4.ownsRow base 113 129 (.slice A F.pend.length pcap) F.pend.length (pcs F.pend) := (Keeps.of_below (w := w3.drew) hbe4 (fun _ => False)).own ho3 (fun _ _ h => h)
    refine wpList_append_grows w4 (by rfl) (.tmp 97) (.tmp 99) 80 (by rfl) 113 i0 _ 129 136 Try.underlying80 hi0 hz0 hz1 hz2 (by simp [Value.cells]) (by omega) A F.pend.length F.pend.length (pcs F.pend) (by rfl) (fun h => ⟨own_none ho4 h, own_none ho4 h⟩) ho4.1 (own_holds ho4) ⟨w3.drew.heap.size, 0, none⟩ 1 1 (pc ⟨i, F.at_ i, m⟩) (by rfl) (by rw [pc_length _ F.n ⟨hi, HL.out, HM.out⟩]) ?_ (pc_one _) (by omega) (by unfold maxLen; omega) (by omega) ?_
    · exact range_news (hn4.range 0 129 _ (by rw [List.drop_zero, List.take_of_length_le (by rw [pc_length _ F.n ⟨hi, HL.out, HM.out⟩]; exact Nat.le_refl _)]))
    intro pv5 w5 ho5 hg5
    have hk5 : Keeps w3 w5 (fun _ => False) := ((Keeps.refl w3 (fun _ => False)).drew.then_below hbe4).grown hg5 (fun k hk => by cases hk)
    have hb5 : Blk w5 f 82 _ := hk5.blk hb3 id
    have hn5 : Blk w5 w.heap.size 113 _ := hk5.blk hn3 id
    have hr5 : Blk w5 lb 111 _ := hk5.blk hr3 id
    refine wpList_nil ?_
    refine (⟨⟨hb5.cell 1, hn5⟩, ?_⟩ : (_ ∧ _) ∧ _)
    obtain ⟨A5, pcap5, hpv5, hcap5⟩ := own_slice ho5
    subst hpv5
    have hfr : ∀ k, (Value.slice A5 (F.pend.length + 1) pcap5).ownBlock = some k → w.heap.size ≤ k := fun k hk => by
      have h0 := (ho5.lt k hk).1
      have h1 := hbe2.size
      have h2 := hbe4.size
      have h3 : w3.drew.heap.size = w3.heap.size := rfl
      have h4 := hk3.size
      omega
    have HFR := Lib.hid hfr
    clear hfr
    have ho5' : w5.ownsRow base 113 129 (.slice A5 (F.pend.length + 1) pcap5) (F.pend.length + 1) (pcs F.pend ++ pc ⟨i, F.at_ i, m⟩) := own_mono ho5 (by have h1 := hF.blk.lt; have h2 := hbe4.size; have h3 : w3.drew.heap.size = w3.heap.size := rfl; omega)
    clear ho5 hg5 hn4 hbe4 hsz4 ho4 ho3 hr3 hn3 d1
    simp only [Act.put, List.setIfInBounds_toArray, List.set_cons_zero, List.set_cons_succ]
    have e1 : w5.cell? ⟨f, 1, none⟩ = some (.slice A F.pend.length pcap) := by rw [hb5.cell]; rfl
    have e2 := hb5.frozen 1
    go_wp2
    generalize hw6 : w5.setCell ⟨f, 1, none⟩ (.slice A5 (F.pend.length + 1) pcap5) = w6
    have hb6 : Blk w6 f 82 (fcells lb { F with left := (F.put i m).left } (.slice A5 (F.pend.length + 1) pcap5)) := by
      rw [← hw6]
      have := hb5.set_ 1 (.slice A5 (F.pend.length + 1) pcap5)
      simpa [fcells] using this
    have hk6 : Keeps w5 w6 (· = f) := by
      rw [← hw6]
      exact (Keeps.refl w5 (· = f)).setCell (p := ⟨f, 1, none⟩) (.inl rfl) _
    have hr6 : Blk w6 lb 111 (bv F.l) := hk6.blk hr5 hF2.ne.symm
    have hn6 : Blk w6 w.heap.size 113 (pc ⟨i, F.at_ i, m⟩) := hk6.blk hn5 (hn2.ne_ hF2.blk (by decide))
    have ho6 := hk6.own ho5' (own_ne ho5' hb5 (by decide))
    have d0 : w6.cell? ⟨f, 0, none⟩ = some (.slice (some ⟨lb, 0, none⟩) F.n F.n) := by rw [hb6.cell]; rfl
    clear hw6 e1 e2 hr5 hn5 hb5
    refine Pl.wp_plan (fun w' => w'.cell? ⟨f, 0, none⟩ = some (.slice (some ⟨lb, 0, none⟩) F.n F.n) ∧ Blk w' w.heap.size 113 (pc ⟨i, F.at_ i, m⟩)) [0, 1, 2, 3, 4, 5, 6] [] [7, 8] Try.mixed (by kernel_rfl) (fun _ _ d _ _ h => by cases d <;> exact h) ⟨by simpa using d0, hn6.drew⟩ ?_
    simp only [Pl.pick, List.drop_succ_cons, List.drop_zero]
    iterate 6 (refine Pl.head_run (v := ?_) (by rfl) ?_ ?_; rotate_left; (focus (intro w' hS; obtain ⟨s0, s1⟩ := hS; go_simp; with_reducible rfl)); simp only [Act.put, List.setIfInBounds_toArray, List.set_cons_zero, List.set_cons_succ])
    (refine Pl.head_load_mid (by rfl) 111 (.tmp 108) (by rfl) w.heap.size 65 (by rfl) (bv m) _ (fun _ h => h.2.range 65 64 _ (by rw [pc_now _ HL.out, bv_take, List.take_of_length_le (by rw [HM.out]; exact Nat.le_refl _)])) Try.underlying111 rfl (by rw [bv_length, HM.out]; exact Try.size62) ?_; simp only [Act.put, List.setIfInBounds_toArray, List.set_cons_zero, List.set_cons_succ])
    refine Pl.head_nil ?_
    simp only [Pl.Mid]
    have hr6' := hr6.drew
    have hsz : (bv m).length = 64 := by rw [bv_length, HM.out]
    have HSZ := Lib.hid hsz
    clear hsz
    go_wp2_with (refine wpList_store_blk (by rfl) 111 (.tmp 110) (.tmp 109) (by rfl) lb (i * 64) (bv m) (by rfl) (by rfl) 111 (bv F.l) hr6' (by rw [HSZ.out, bv_length, hF.ok.len]; omega) (by rw [HSZ.out]; exact Try.size62) (bv_one _) ?_; intro w7 hl7 hk7 hsz7)
    go_ret
    have hkk : Keeps w w7 (fun k => k = f ∨ k = lb) :=
      ((((Keeps.of_below hbe2 _).trans hk3 (fun k hk => .inl (.inl hk))).trans hk5 (fun k hk => hk.elim)).trans hk6 (fun k hk => .inl (.inl hk))).drew.trans hk7 (fun k hk => .inl (.inr hk))
    refine ⟨rfl, .slice A5 (F.pend.length + 1) pcap5, ⟨FM.put_ok hF.ok i hi m HM.out HE.out, ?_, ?_, ?_, hF.hf, hF.hl⟩, hkk, HFR.out⟩
    · exact (hk7.blk hb6.drew hF.ne)
    · rw [show (F.put i m).l = spl F.l (64 * i) m from rfl, bv_spl, Nat.mul_comm]
      exact hl7
    · have h1 := hk7.own (w := w6.drew) ho6 (own_ne ho6 hr6 (by decide))
      rw [show (F.put i m).pend = F.pend ++ [⟨i, F.at_ i, m⟩] from rfl, List.length_append, List.length_singleton, show pcs (F.pend ++ [⟨i, F.at_ i, m⟩]) = pcs F.pend ++ pc ⟨i, F.at_ i, m⟩ from by simp [pcs]]
      exact h1
  · have HS := Lib.hid hs
    rw [hs] at d2
    clear hs
    go_wp2
    obtain ⟨w3, hw3⟩ : ∃ w3, w3 = w2 := ⟨_, rfl⟩
    have hb3 : Blk w3 f 82 (fcells lb { F with left := (F.put i m).left } (.slice A F.pend.length pcap)) := by
      rw [hw3]
      have := hF2.blk
      simpa [fcells, FM.put, HS.out] using this
    have hk3 : Keeps w2 w3 (· = f) := by
      rw [hw3]
      exact Keeps.refl w2 (· = f)
    have hz3 : w2.heap.size ≤ w3.heap.size := hk3.size
    rw [← hw3]
    clear hw3 d0 d1 d2 d3 d4 d5 hf4 HS
    have hr3 : Blk w3 lb 111 (bv F.l) := hk3.blk hF2.row hF2.ne.symm
    have hn3 : Blk w3 w.heap.size 113 (pc ⟨i, F.at_ i, m⟩) := hk3.blk hn2 (hn2.ne_ hF2.blk (by decide))
    have ho3 : w3.ownsRow base 113 129 (.slice A F.pend.length pcap) F.pend.length (pcs F.pend) := hk3.own hF2.own (own_ne hF2.own hF2.blk (by decide))
    have d1 : w3.cell? ⟨f, 1, none⟩ = some (.slice A F.pend.length pcap) := by rw [hb3.cell]; rfl
    refine Pl.wp_plan (fun w' => w'.cell? ⟨f, 1, none⟩ = some (.slice A F.pend.length pcap) ∧ Blk w' w.heap.size 113 (pc ⟨i, F.at_ i, m⟩)) [0, 1, 2, 3, 4, 5, 6, 7, 8, 9, 10, 11, 12, 13, 14, 15, 16] [17, 18] [19, 20, 21] Try.mixed (by kernel_rfl) (fun _ _ d _ _ h => by cases d <;> exact h) ⟨by simpa using d1, hn3.drew⟩ ?_
    simp only [Pl.pick, List.drop_succ_cons, List.drop_zero]
    iterate 16 (refine Pl.head_run (v := ?_) (by rfl) ?_ ?_; rotate_left; (focus (intro w' hS; obtain ⟨s0, s1⟩ := hS; go_simp; with_reducible rfl)); simp only [Act.put, List.setIfInBounds_toArray, List.set_cons_zero, List.set_cons_succ])
    (refine Pl.head_load_mid (by rfl) 113 (.tmp 7) (by rfl) w.heap.size 0 (by rfl) (pc ⟨i, F.at_ i, m⟩) _ (fun _ h => h.2.range 0 129 _ (by rw [List.drop_zero, List.take_of_length_le (by rw [pc_length _ F.n ⟨hi, HL.out, HM.out⟩]; exact Nat.le_refl _)])) Try.underlying113 rfl (by rw [pc_length _ F.n ⟨hi, HL.out, HM.out⟩]; exact Try.size64) ?_; simp only [Act.put, List.setIfInBounds_toArray, List.set_cons_zero, List.set_cons_succ])
    refine Pl.head_nil ?_
    simp only [Pl.Mid]
    refine wpList_buildSlice_blk (by rfl) 80 (.tmp 98) (by rfl) Try.underlying80 Try.zero64 (by simp [Value.cells]) (by omega) (by omega) (pc ⟨i, F.at_ i, m⟩) (by rfl) (pc_length _ F.n ⟨hi, HL.out, HM.out⟩) ?_
    intro w4 hn4 hbe4 hsz4
    refine wpList_nil ?_
    refine (⟨⟨?_, ?_⟩, ?_⟩ : (_ ∧ _) ∧ _)
    · exact (Blk.below (w := w3.drew) hb3 hbe4 hb3.lt).cell 1
    · exact Blk.below (w := w3.drew) hn3 hbe4 hn3.lt
    simp only [Act.put, List.setIfInBounds_toArray, List.set_cons_zero, List.set_cons_succ]
    obtain ⟨i0, hi0, hz0, hz1, hz2⟩ := info_parts Try.info64
    have ho4 : w4.ownsRow base 113 129 (.slice A F.pend.length pcap) F.pend.length (pcs F.pend) := (Keeps.of_below (w := w3.drew) hbe4 (fun _ => False)).own ho3 (fun _ _ h => h)
    refine wpList_append_grows w4 (by rfl) (.tmp 97) (.tmp 99) 80 (by rfl) 113 i0 _ 129 136 Try.underlying80 hi0 hz0 hz1 hz2 (by simp [Value.cells]) (by omega) A F.pend.length F.pend.length (pcs F.pend) (by rfl) (fun h => ⟨own_none ho4 h, own_none ho4 h⟩) ho4.1 (own_holds ho4) ⟨w3.drew.heap.size, 0, none⟩ 1 1 (pc ⟨i, F.at_ i, m⟩) (by rfl) (by rw [pc_length _ F.n ⟨hi, HL.out, HM.out⟩]) ?_ (pc_one _) (by omega) (by unfold maxLen; omega) (by omega) ?_
    · exact range_news (hn4.range 0 129 _ (by rw [List.drop_zero, List.take_of_length_le (by rw [pc_length _ F.n ⟨hi, HL.out, HM.out⟩]; exact Nat.le_refl _)]))
    intro pv5 w5 ho5 hg5
    have hk5 : Keeps w3 w5 (fun _ => False) := ((Keeps.refl w3 (fun _ => False)).drew.then_below hbe4).grown hg5 (fun k hk => by cases hk)
    have hb5 : Blk w5 f 82 _ := hk5.blk hb3 id
    have hn5 : Blk w5 w.heap.size 113 _ := hk5.blk hn3 id
    have hr5 : Blk w5 lb 111 _ := hk5.blk hr3 id
    refine wpList_nil ?_
    refine (⟨⟨hb5.cell 1, hn5⟩, ?_⟩ : (_ ∧ _) ∧ _)
    obtain ⟨A5, pcap5, hpv5, hcap5⟩ := own_slice ho5
    subst hpv5
    have hfr : ∀ k, (Value.slice A5 (F.pend.length + 1) pcap5).ownBlock = some k → w.heap.size ≤ k := fun k hk => by
      have h0 := (ho5.lt k hk).1
      have h1 := hbe2.size
      have h2 := hbe4.size
      have h3 : w3.drew.heap.size = w3.heap.size := rfl
      have h4 := hk3.size
      omega
    have HFR := Lib.hid hfr
    clear hfr
    have ho5' : w5.ownsRow base 113 129 (.slice A5 (F.pend.length + 1) pcap5) (F.pend.length + 1) (pcs F.pend ++ pc ⟨i, F.at_ i, m⟩) := own_mono ho5 (by have h1 := hF.blk.lt; have h2 := hbe4.size; have h3 : w3.drew.heap.size = w3.heap.size := rfl; omega)
    clear ho5 hg5 hn4 hbe4 hsz4 ho4 ho3 hr3 hn3 d1
    simp only [Act.put, List.setIfInBounds_toArray, List.set_cons_zero, List.set_cons_succ]
    have e1 : w5.cell? ⟨f, 1, none⟩ = some (.slice A F.pend.length pcap) := by rw [hb5.cell]; rfl
    have e2 := hb5.frozen 1
    go_wp2
    generalize hw6 : w5.setCell ⟨f, 1, none⟩ (.slice A5 (F.pend.length + 1) pcap5) = w6
    have hb6 : Blk w6 f 82 (fcells lb { F with left := (F.put i m).left } (.slice A5 (F.pend.length + 1) pcap5)) := by
      rw [← hw6]
      have := hb5.set_ 1 (.slice A5 (F.pend.length + 1) pcap5)
      simpa [fcells] using this
    have hk6 : Keeps w5 w6 (· = f) := by
      rw [← hw6]
      exact (Keeps.refl w5 (· = f)).setCell (p := ⟨f, 1, none⟩) (.inl rfl) _
    have hr6 : Blk w6 lb 111 (bv F.l) := hk6.blk hr5 hF2.ne.symm
    have hn6 : Blk w6 w.heap.size 113 (pc ⟨i, F.at_ i, m⟩) := hk6.blk hn5 (hn2.ne_ hF2.blk (by decide))
    have ho6 := hk6.own ho5' (own_ne ho5' hb5 (by decide))
    have d0 : w6.cell? ⟨f, 0, none⟩ = some (.slice (some ⟨lb, 0, none⟩) F.n F.n) := by rw [hb6.cell]; rfl
    clear hw6 e1 e2 hr5 hn5 hb5
    refine Pl.wp_plan (fun w' => w'.cell? ⟨f, 0, none⟩ = some (.slice (some ⟨lb, 0, none⟩) F.n F.n) ∧ Blk w' w.heap.size 113 (pc ⟨i, F.at_ i, m⟩)) [0, 1, 2, 3, 4, 5, 6] [] [7, 8] Try.mixed (by kernel_rfl) (fun _ _ d _ _ h => by cases d <;> exact h) ⟨by simpa using d0, hn6.drew⟩ ?_
    simp only [Pl.pick, List.drop_succ_cons, List.drop_zero]
    iterate 6 (refine Pl.head_run (v := ?_) (by rfl) ?_ ?_; rotate_left; (focus (intro w' hS; obtain ⟨s0, s1⟩ := hS; go_simp; with_reducible rfl)); simp only [Act.put, List.setIfInBounds_toArray, List.set_cons_zero, List.set_cons_succ])
    (refine Pl.head_load_mid (by rfl) 111 (.tmp 108) (by rfl) w.heap.size 65 (by rfl) (bv m) _ (fun _ h => h.2.range 65 64 _ (by rw [pc_now _ HL.out, bv_take, List.take_of_length_le (by rw [HM.out]; exact Nat.le_refl _)])) Try.underlying111 rfl (by rw [bv_length, HM.out]; exact Try.size62) ?_; simp only [Act.put, List.setIfInBounds_toArray, List.set_cons_zero, List.set_cons_succ])
    refine Pl.head_nil ?_
    simp only [Pl.Mid]
    have hr6' := hr6.drew
    have hsz : (bv m).length = 64 := by rw [bv_length, HM.out]
    have HSZ := Lib.hid hsz
    clear hsz
    go_wp2_with (refine wpList_store_blk (by rfl) 111 (.tmp 110) (.tmp 109) (by rfl) lb (i * 64) (bv m) (by rfl) (by rfl) 111 (bv F.l) hr6' (by rw [HSZ.out, bv_length, hF.ok.len]; omega) (by rw [HSZ.out]; exact Try.size62) (bv_one _) ?_; intro w7 hl7 hk7 hsz7)
    go_ret
    have hkk : Keeps w w7 (fun k => k = f ∨ k = lb) :=
      ((((Keeps.of_below hbe2 _).trans hk3 (fun k hk => .inl (.inl hk))).trans hk5 (fun k hk => hk.elim)).trans hk6 (fun k hk => .inl (.inl hk))).drew.trans hk7 (fun k hk => .inl (.inr hk))
    refine ⟨rfl, .slice A5 (F.pend.length + 1) pcap5, ⟨FM.put_ok hF.ok i hi m HM.out HE.out, ?_, ?_, ?_, hF.hf, hF.hl⟩, hkk, HFR.out⟩
    · exact (hk7.blk hb6.drew hF.ne)
    · rw [show (F.put i m).l = spl F.l (64 * i) m from rfl, bv_spl, Nat.mul_comm]
      exact hl7
    · have h1 := hk7.own (w := w6.drew) ho6 (own_ne ho6 hr6 (by decide))
      rw [show (F.put i m).pend = F.pend ++ [⟨i, F.at_ i, m⟩] from rfl, List.length_append, List.length_singleton, show pcs (F.pend ++ [⟨i, F.at_ i, m⟩]) = pcs F.pend ++ pc ⟨i, F.at_ i, m⟩ from by simp [pcs]]
      exact h1
end Go.Proofs.Ytpomjaidaignpaa
