/- Contract of block's Write, all cases together; of Crash. -/
import Derived.Test.YtnaocjhhnlndmaaBd
set_option linter.unusedVariables false
set_option linter.unusedSimpArgs false
namespace Go.Proofs.Ytnaocjhhnlndmaa
open Go.RowKit Wd

theorem write_any {w : World} {base f lb : Nat} {F : FM} {pv : Value} (hF : IsF w base f lb F pv) (i : Nat) (hi : i < F.n) (bb bo c : Nat) (m : List UInt8) (hm : m.length = 64) (hb : w.rangeAt bb bo (bv m)) (hbb : bb < w.heap.size) (hp : F.pend.length < 1000000000) :
    Calls Try.prog 46 #[.pointer (some ⟨f, 0, none⟩), .int .i64 (i : Int), .slice (some ⟨bb, bo, none⟩) 64 c] w fun e w' =>
      e = .returned (.int .i64 0) ∧ ∃ pv', IsF w' base f lb (F.write i m) pv' ∧ Keeps w w' (fun k => k = f ∨ k = lb) := by
  unfold FM.write
  by_cases ho : F.off = true
  · rw [if_pos ho]
    exact (write_off hF i hi _ c ho).mono fun e w' ⟨he, hw⟩ => ⟨he, pv, by subst hw; exact hF, by subst hw; exact Keeps.refl _ _⟩
  · rw [if_neg ho]
    have ho' : F.off = false := by simpa using ho
    by_cases hs : (F.set && F.left == 0) = true
    · rw [if_pos hs]
      simp only [Bool.and_eq_true, beq_iff_eq] at hs
      exact (write_fused hF i hi bb bo c m hm hb hbb ho' hs.1 hs.2).mono fun e w' ⟨he, h1, h2⟩ => ⟨he, _, h1, h2⟩
    · rw [if_neg hs]
      refine (write_put hF i hi bb bo c m hm hb hbb ho' (fun h1 h2 => hs (by simp [h1, h2])) hp).mono fun e w' ⟨he, pv', h1, h2, _⟩ => ⟨he, pv', h1, h2⟩

/-- The same; and where the pending writes lie. -/
theorem write_anyF {w : World} {base f lb : Nat} {F : FM} {pv : Value} (hF : IsF w base f lb F pv) (i : Nat) (hi : i < F.n) (bb bo c : Nat) (m : List UInt8) (hm : m.length = 64) (hb : w.rangeAt bb bo (bv m)) (hbb : bb < w.heap.size) (hp : F.pend.length < 1000000000) :
    Calls Try.prog 46 #[.pointer (some ⟨f, 0, none⟩), .int .i64 (i : Int), .slice (some ⟨bb, bo, none⟩) 64 c] w fun e w' =>
      e = .returned (.int .i64 0) ∧ ∃ pv', IsF w' base f lb (F.write i m) pv' ∧ Keeps w w' (fun k => k = f ∨ k = lb) ∧ (∀ k, pv'.ownBlock = some k → pv.ownBlock = some k ∨ w.heap.size ≤ k) := by
  unfold FM.write
  by_cases ho : F.off = true
  · rw [if_pos ho]
    exact (write_off hF i hi _ c ho).mono fun e w' ⟨he, hw⟩ => ⟨he, pv, by subst hw; exact hF, by subst hw; exact Keeps.refl _ _, fun k hk => .inl hk⟩
  · rw [if_neg ho]
    have ho' : F.off = false := by simpa using ho
    by_cases hs : (F.set && F.left == 0) = true
    · rw [if_pos hs]
      simp only [Bool.and_eq_true, beq_iff_eq] at hs
      exact (write_fused hF i hi bb bo c m hm hb hbb ho' hs.1 hs.2).mono fun e w' ⟨he, h1, h2⟩ => ⟨he, _, h1, h2, fun k hk => by cases hk⟩
    · rw [if_neg hs]
      exact (write_put hF i hi bb bo c m hm hb hbb ho' (fun h1 h2 => hs (by simp [h1, h2])) hp).mono fun e w' ⟨he, pv', h1, h2, h3⟩ => ⟨he, pv', h1, h2, fun k hk => .inr (h3 k hk)⟩

/-- The bytes behind the undoing of writes, the last one first. -/
def undo (l : List UInt8) : List PW → List UInt8
  | [] => l
  | p :: r => spl (undo l r) (64 * p.at_) p.was
/-- The bytes behind a crash that lets k writes last, and T bytes of the next one. -/
def crashed (l : List UInt8) (ps : List PW) (k T : Nat) : List UInt8 := match ps.drop k with
  | [] => l
  | p :: r => spl (undo l (p :: r)) (64 * p.at_) (p.now.take T)
def FM.crash (F : FM) (k t : Int) : FM := { F with set := false, off := false, pend := [], l := crashed F.l F.pend (max 0 k).toNat (min 64 (max 0 t)).toNat }

theorem undo_length (l : List UInt8) (n : Nat) (hl : l.length = 64 * n) : ∀ ps : List PW, (∀ p ∈ ps, p.ok n) → (undo l ps).length = 64 * n
  | [], _ => hl
  | p :: r, h => by
    have hp := h p List.mem_cons_self
    have ih := undo_length l n hl r fun q hq => h q (List.mem_cons_of_mem _ hq)
    unfold undo
    rw [spl_length _ _ _ (by have := hp.1; have := hp.2.1; omega), ih]
theorem crashed_length (l : List UInt8) (n : Nat) (hl : l.length = 64 * n) (ps : List PW) (hp : ∀ p ∈ ps, p.ok n) (k T : Nat) : (crashed l ps k T).length = 64 * n := by
  unfold crashed
  split
  · exact hl
  · rename_i p r he
    have hall : ∀ q ∈ p :: r, q.ok n := fun q hq => hp q (List.mem_of_mem_drop (by rw [he]; exact hq))
    have h1 := undo_length l n hl (p :: r) hall
    have h2 := hall p List.mem_cons_self
    rw [spl_length _ _ _ (by have := h2.1; have := h2.2.2; rw [List.length_take]; omega), h1]
theorem FM.crash_ok {F : FM} (h : F.ok) (k t : Int) : (F.crash k t).ok :=
  { h with len := crashed_length F.l F.n h.len F.pend h.pend _ _, pend := fun p hp => by simp [FM.crash] at hp }

theorem crash_nil (k t : Int) (w : World) : Calls Try.prog 23 #[.pointer none, .int .i64 k, .int .i64 t] w fun e w' => e = .returned (.tuple #[]) ∧ w = w' := by
  go_enter Try.func23, Try.ntmps23
  go_wp2
  refine bodyPost_ret (results_none rfl _ _ _) rfl ?_
  exact ⟨rfl, rfl⟩

/-- The bytes when the writes from j on have been undone; at k the first bytes of that write stand. -/
def atCrash (l : List UInt8) (ps : List PW) (k T j : Nat) : List UInt8 := if j ≤ k then crashed l ps k T else undo l (ps.drop j)
theorem atCrash_start (l : List UInt8) (ps : List PW) (k T : Nat) : atCrash l ps k T ps.length = l := by
  unfold atCrash crashed
  split
  · rename_i h
    rw [List.drop_eq_nil_of_le h]
  · rw [List.drop_length]; rfl
theorem atCrash_end (l : List UInt8) (ps : List PW) (k T j : Nat) (h : j ≤ k) : atCrash l ps k T j = crashed l ps k T := if_pos h
theorem undo_step (l : List UInt8) (ps : List PW) (q : Nat) (hq : q < ps.length) : undo l (ps.drop q) = spl (undo l (ps.drop (q + 1))) (64 * (ps[q]).at_) (ps[q]).was := by
  rw [List.drop_eq_getElem_cons hq]; rfl
theorem atCrash_mid (l : List UInt8) (ps : List PW) (k T q : Nat) (hq : q < ps.length) (h : k < q) : atCrash l ps k T q = spl (atCrash l ps k T (q + 1)) (64 * (ps[q]).at_) (ps[q]).was := by
  unfold atCrash
  rw [if_neg (by omega), if_neg (by omega), undo_step l ps q hq]
theorem atCrash_last (l : List UInt8) (ps : List PW) (k T q : Nat) (hq : q < ps.length) (h : q = k) : atCrash l ps k T q = spl (spl (atCrash l ps k T (q + 1)) (64 * (ps[q]).at_) (ps[q]).was) (64 * (ps[q]).at_) ((ps[q]).now.take T) := by
  subst h
  unfold atCrash crashed
  rw [if_pos (Nat.le_refl _), if_neg (by omega), List.drop_eq_getElem_cons hq]
  rfl
theorem atCrash_length (l : List UInt8) (n : Nat) (hl : l.length = 64 * n) (ps : List PW) (hp : ∀ p ∈ ps, p.ok n) (k T j : Nat) : (atCrash l ps k T j).length = 64 * n := by
  unfold atCrash
  split
  · exact crashed_length l n hl ps hp k T
  · exact undo_length l n hl _ fun p h => hp p (List.mem_of_mem_drop h)
theorem pcs_get (n : Nat) : ∀ (ps : List PW) (q : Nat) (hq : q < ps.length), (∀ p ∈ ps, p.ok n) → ((pcs ps).drop (q * 129)).take 129 = pc (ps[q])
  | [], q, hq, _ => by simp at hq
  | p :: r, 0, _, h => by
    show (((pc p ++ pcs r)).drop (0 * 129)).take 129 = pc p
    rw [Nat.zero_mul, List.drop_zero, List.take_left' (pc_length p n (h p List.mem_cons_self))]
  | p :: r, q + 1, hq, h => by
    have hl := pc_length p n (h p List.mem_cons_self)
    have e : (q + 1) * 129 = (pc p).length + q * 129 := by omega
    show (((pc p ++ pcs r)).drop ((q + 1) * 129)).take 129 = _
    rw [e, List.drop_length_add_append]
    exact pcs_get n r q (by simpa using hq) fun x hx => h x (List.mem_cons_of_mem _ hx)
theorem pc_was (p : PW) (h : p.was.length = 64) : ((pc p).drop 1).take 64 = bv p.was := by
  unfold pc
  rw [List.drop_succ_cons, List.drop_zero, List.take_left' (by rw [bv_length, h])]
theorem own_range {w : World} {base n c : Nat} {e : TypeId} {size : Nat} {A : Option Addr} {xs : List Value} (h : w.ownsRow base e size (.slice A n c) n xs) (hn : 0 < n) : ∃ g, A = some ⟨g, 0, none⟩ ∧ w.rangeAt g 0 xs := by
  obtain ⟨g, cap, hv, _, _⟩ := h.form hn
  injection hv with hv _ _
  subst hv
  exact ⟨g, rfl, fun j v hj => by have := own_holds h _ rfl j v hj; rwa [Addr.add_mid] at this⟩
theorem range_part {w : World} {b : Nat} {xs : List Value} (h : w.rangeAt b 0 xs) (o n : Nat) (m : List Value) (hm : (xs.drop o).take n = m) : w.rangeAt b o m := by
  intro j v hj
  subst hm
  rw [List.getElem?_take] at hj
  split at hj
  · rw [List.getElem?_drop] at hj
    have := h _ v hj
    rwa [Nat.zero_add] at this
  · cases hj

set_option maxRecDepth 100000 in
set_option maxHeartbeats 1600000 in
theorem crash_any {w : World} {base f lb : Nat} {F : FM} {pv : Value} (hF : IsF w base f lb F pv) (k t : Int) (hp : F.pend.length < 1000000000) (hk : k ≤ 9223372036854775807) :
    Calls Try.prog 23 #[.pointer (some ⟨f, 0, none⟩), .int .i64 k, .int .i64 t] w fun e w' =>
      e = .returned (.tuple #[]) ∧ IsF w' base f lb (F.crash k t) (.slice none 0 0) ∧ Keeps w w' (fun k => k = f ∨ k = lb) := by
  obtain ⟨c0, c1, c2, c3, c4, c5⟩ := hF.cells
  obtain ⟨A, pcap, hpv, hcap⟩ := own_slice hF.own
  subst hpv
  have hf2 := hF.blk.frozen 2
  have hf3 := hF.blk.frozen 3
  have p1 : (0 : Int) ≤ (F.pend.length : Int) := by omega
  obtain ⟨K, hK⟩ : ∃ K : Nat, K = (max 0 k).toNat := ⟨_, rfl⟩
  obtain ⟨T, hT⟩ : ∃ T : Nat, T = (min 64 (max 0 t)).toNat := ⟨_, rfl⟩
  have HK := Lib.hid hK
  have HT := Lib.hid hT
  have k1 : k ≤ (K : Int) := by omega
  have k2 : 0 < k → (K : Int) ≤ k := by omega
  have k3 : k ≤ 0 → (K : Int) ≤ 0 := by omega
  have t1 : t ≤ 0 ∨ (0 < t ∧ t < 64) ∨ 64 ≤ t := by omega
  have HT1 := Lib.hid t1
  have HK2 := Lib.hid k2
  have HK3 := Lib.hid k3
  clear hK hT t1 k2 k3
  go_enter Try.func23, Try.ntmps23
  go_wp2
  all_goals
    generalize hw1 : (w.setCell ⟨f, 2, none⟩ (.bool false)).setCell ⟨f, 3, none⟩ (.bool false) = w1
    have hb1 : Blk w1 f 63 (fcells lb { F with set := false, off := false } (.slice A F.pend.length pcap)) := by
      rw [← hw1]
      have := (hF.blk.set_ 2 (.bool false)).set_ 3 (.bool false)
      simpa [fcells] using this
    have hk1 : Keeps w w1 (fun k => k = f ∨ k = lb) := by
      rw [← hw1]
      exact ((Keeps.refl w (fun k => k = f ∨ k = lb)).setCell (p := ⟨f, 2, none⟩) (.inl (.inl rfl)) _).setCell (p := ⟨f, 3, none⟩) (.inl (.inl rfl)) _
    have hr1 : Blk w1 lb 65 (bv (atCrash F.l F.pend K T F.pend.length)) := by
      rw [← hw1, atCrash_start]
      exact (hF.row.far hF.ne.symm _).far hF.ne.symm _
    clear hw1 c0 c1 c2 c3 c4 c5 hf2 hf3
    have d1 : w1.cell? ⟨f, 1, none⟩ = some (.slice A F.pend.length pcap) := by rw [hb1.cell]; rfl
    go_wp2
    go_loopw [6] (fun i wr => ∃ j : Nat, j ≤ F.pend.length ∧ min K F.pend.length ≤ j ∧ i = .int .i64 ((j : Int) - 1) ∧ Blk wr f 63 (fcells lb { F with set := false, off := false } (.slice A F.pend.length pcap)) ∧ Blk wr lb 65 (bv (atCrash F.l F.pend K T j)) ∧ Keeps w wr (fun k => k = f ∨ k = lb)) (fun i _ => (intOf i + 1).toNat)
    case atStart => exact ⟨F.pend.length, Nat.le_refl _, Nat.min_le_right _ _, rfl, hb1, hr1, hk1⟩
    case round =>
      obtain ⟨j, hj1, hj2, rfl, hb2, hr2, hkr⟩ := hrel
      clear hb1 hr1 hk1 d1
      have d0 : wr.cell? ⟨f, 0, none⟩ = some (.slice (some ⟨lb, 0, none⟩) F.n F.n) := by rw [hb2.cell]; rfl
      have d1 : wr.cell? ⟨f, 1, none⟩ = some (.slice A F.pend.length pcap) := by rw [hb2.cell]; rfl
      by_cases hKj : K < j
      · obtain ⟨q, rfl⟩ : ∃ q, j = q + 1 := ⟨j - 1, by omega⟩
        rw [show (((q + 1 : Nat) : Int) - 1) = (q : Int) from by omega]
        have hqlt : q < F.pend.length := by omega
        have q0 : (0 : Int) ≤ (q : Int) := by omega
        have q1 : (q : Int) < (F.pend.length : Int) := by omega
        have q2 : k ≤ (q : Int) := by
          have := HK2.out
          have := HK3.out
          omega
        have hor : wr.ownsRow base 72 129 (.slice A F.pend.length pcap) F.pend.length (pcs F.pend) := hkr.own hF.own (fun k hk h => by
          rcases h with h | h
          · exact own_ne hF.own hF.blk (by decide) k hk h
          · exact own_ne hF.own hF.row (by decide) k hk h)
        obtain ⟨g, hA, hgr⟩ := own_range hor (by omega)
        subst hA
        obtain ⟨p, hpq⟩ : ∃ p, p = F.pend[q] := ⟨_, rfl⟩
        have hpk : p.ok F.n := by rw [hpq]; exact hF.ok.pend _ (List.getElem_mem _)
        have hgp : wr.rangeAt g (q * 129) (pc p) := range_part hgr _ 129 _ (by rw [hpq]; exact pcs_get F.n F.pend q hqlt hF.ok.pend)
        have HP := Lib.hid hpq
        have HKj := Lib.hid hKj
        have hlenq : (atCrash F.l F.pend K T (q + 1)).length = 64 * F.n := atCrash_length _ _ hF.ok.len _ hF.ok.pend _ _ _
        have HLQ := Lib.hid hlenq
        have a0 : (0 : Int) ≤ (p.at_ : Int) := by omega
        have a1 : (p.at_ : Int) < (F.n : Int) := by have := hpk.1; omega
        have n2 := hF.ok.n2
        have HPC := Lib.hid (pc_length p F.n hpk)
        have hpk2 : Hid (p.ok F.n) := hpk
        clear hpq hKj hlenq hgr hpk
        go_wp2_with (first | (refine wpList_load_mid (by rfl) 72 (.tmp 34) (by rfl) g (q * 129) (by rfl) (pc p) _ hgp Try.underlying72 rfl (by rw [HPC.out]; exact Try.size64) ?_) | (refine wpList_alloc_blk (by rfl) 72 (by rfl) Try.zero64 ?_; intro w2 hn2 hbe2 hsz2) | (refine wpList_store_blk (by rfl) 72 (.tmp 7) (.tmp 35) (by rfl) wr.heap.size 0 (pc p) (by rfl) (by rfl) 72 _ hn2 (by rw [HPC.out]; simp [Value.cells]) (by rw [HPC.out]; exact Try.size64) (pc_one _) ?_; intro w3 hn3 hk3 hsz3))
        rw [ins_all _ _ (by rw [HPC.out]; simp [Value.cells])] at hn3
        have hz2 : wr.heap.size < w2.heap.size := by omega
        have hkr3 : Keeps wr w3 (fun _ => False) := ((Keeps.of_below hbe2 (fun _ => False)).trans hk3 (fun k hk => .inr (by omega)))
        have hb3 : Blk w3 f 63 _ := hkr3.blk hb2 id
        have hr3 : Blk w3 lb 65 _ := hkr3.blk hr2 id
        have e0 : w3.cell? ⟨f, 0, none⟩ = some (.slice (some ⟨lb, 0, none⟩) F.n F.n) := by rw [hb3.cell]; rfl
        have e1 : w3.cell? ⟨wr.heap.size, 0, none⟩ = some (.int .i64 (p.at_ : Int)) := by rw [hn3.cell]; rfl
        clear hn2 hbe2 hsz2 hk3 hsz3 hb2 hr2 d0 d1 hgp hor
        simp only [Act.put, List.setIfInBounds_toArray, List.set_cons_zero, List.set_cons_succ]
        refine Pl.wp_plan (fun w' => w'.cell? ⟨f, 0, none⟩ = some (.slice (some ⟨lb, 0, none⟩) F.n F.n) ∧ w'.cell? ⟨wr.heap.size, 0, none⟩ = some (.int .i64 (p.at_ : Int)) ∧ Blk w' wr.heap.size 72 (pc p)) [0, 1, 2, 3, 4, 5, 6, 7] [] [8, 9] Try.mixed (by kernel_rfl) (fun _ _ d _ _ h => by cases d <;> exact h) ⟨by simpa using e0, by simpa using e1, hn3.drew⟩ ?_
        simp only [Pl.pick, List.drop_succ_cons, List.drop_zero]
        iterate 7 (refine Pl.head_run (v := ?_) (by rfl) ?_ ?_; rotate_left; (focus (intro w' hS; obtain ⟨s0, s1, s2⟩ := hS; go_simp; with_reducible rfl)); simp only [Act.put, List.setIfInBounds_toArray, List.set_cons_zero, List.set_cons_succ])
        (refine Pl.head_load_mid (by rfl) 65 (.tmp 42) (by rfl) wr.heap.size 1 (by rfl) (bv p.was) _ (fun _ h => h.2.2.range 1 64 _ (by rw [pc_was _ hpk2.out.2.1])) Try.underlying65 rfl (by rw [bv_length, hpk2.out.2.1]; exact Try.size62) ?_; simp only [Act.put, List.setIfInBounds_toArray, List.set_cons_zero, List.set_cons_succ])
        refine Pl.head_nil ?_
        simp only [Pl.Mid]
        have hr3' := hr3.drew
        have HW := Lib.hid (show (bv p.was).length = 64 by rw [bv_length, hpk2.out.2.1])
        go_wp2_with (refine wpList_store_blk (by rfl) 65 (.tmp 44) (.tmp 43) (by rfl) lb (p.at_ * 64) (bv p.was) (by rfl) (by rfl) 65 _ hr3' (by rw [HW.out, bv_length, HLQ.out]; omega) (by rw [HW.out]; exact Try.size62) (bv_one _) ?_; intro w5 hl5 hk5 hsz5)
        all_goals
          have hb5 : Blk w5 f 63 _ := hk5.blk hb3.drew hF.ne
          have hne5 : wr.heap.size ≠ lb := hn3.ne_ hr3 (by decide)
          have hn5 : Blk w5 wr.heap.size 72 _ := hk5.blk hn3.drew hne5
          have hkr5 : Keeps w w5 (fun k => k = f ∨ k = lb) := ((hkr.trans hkr3 (fun k hk => hk.elim)).drew).trans hk5 (fun k hk => .inl (.inr hk))
        · have hqK : q = K := by
            have h1 : (((q : Int) == k) = true) ∨ (((q : Int) == 0) = true) := by first | exact .inl (by assumption) | exact .inr (by assumption)
            have h2 := HK2.out
            have h3 := HK3.out
            have h4 := HKj.out
            rcases h1 with h1 | h1 <;> (rw [beq_iff_eq] at h1; omega)
          have HQK := Lib.hid hqK
          have e0 : w5.cell? ⟨f, 0, none⟩ = some (.slice (some ⟨lb, 0, none⟩) F.n F.n) := by rw [hb5.cell]; rfl
          have e1 : w5.cell? ⟨wr.heap.size, 0, none⟩ = some (.int .i64 (p.at_ : Int)) := by rw [hn5.cell]; rfl
          have hl5len : Hid ((ins (bv (atCrash F.l F.pend K T (q + 1))) (p.at_ * 64) (bv p.was)).length = 64 * F.n) := by
            show _ = _
            rw [← Nat.mul_comm 64, ← bv_spl, bv_length, spl_length _ _ _ (by rw [HLQ.out, hpk2.out.2.1]; have := hpk2.out.1; omega), HLQ.out]
          clear hb3 hr3 hr3' hn3 hk5 hsz5 hqK
          have ht3 : t ≤ 0 ∧ ¬ (0 : Int) < t ∨ ((0 : Int) < t ∧ t < 64 ∧ (0 : Int) ≤ t ∧ t ≤ 64) ∨ ((0 : Int) < t ∧ ¬ t < 64) := by have := HT1.out; omega
          rcases ht3 with ⟨ht, ht2⟩ | ⟨ht, ht2, ht4, ht5⟩ | ⟨ht, ht2⟩
          · skip
            refine Pl.wp_plan (fun w' => w'.cell? ⟨f, 0, none⟩ = some (.slice (some ⟨lb, 0, none⟩) F.n F.n) ∧ w'.cell? ⟨wr.heap.size, 0, none⟩ = some (.int .i64 (p.at_ : Int)) ∧ Blk w' wr.heap.size 72 (pc p)) [0, 1, 2, 3, 4, 5, 6, 7, 8, 9, 10, 11, 12] [13] [] Try.mixed (by kernel_rfl) (fun _ _ d _ _ h => by cases d <;> exact h) ⟨by simpa using e0, by simpa using e1, hn5.drew⟩ ?_
            simp only [Pl.pick, List.drop_succ_cons, List.drop_zero]
            iterate 13 (refine Pl.head_run (v := ?_) (by rfl) ?_ ?_; rotate_left; (focus (intro w' hS; obtain ⟨s0, s1, s2⟩ := hS; go_simp; with_reducible rfl)); simp only [Act.put, List.setIfInBounds_toArray, List.set_cons_zero, List.set_cons_succ])
            refine Pl.head_nil ?_
            simp only [Pl.Mid]
            refine wpList_copy_blk (by rfl) (.tmp 58) (.tmp 60) 22 22 (by rfl) 5 Try.underlying22 Try.size5 lb (p.at_ * 64) 0 64 (some ⟨wr.heap.size, 65, none⟩) 64 64 (by rfl) (by rfl) _ 65 hl5.drew (bv (p.now.take (0))) ?_ ?_ ?_ (bv_one _) ?_
            · rw [bv_length, List.length_take, hpk2.out.2.2]; try exact Nat.min_comm _ _
            · intro _
              refine ⟨_, rfl, ?_⟩
              have h1 := (hn5.drew).range 65 (0) (bv (p.now.take (0))) (by rw [pc_now _ hpk2.out.2.1, bv_take])
              exact range_news h1
            · rw [bv_length, List.length_take, hpk2.out.2.2, hl5len.out]; have := hpk2.out.1; omega
            intro w6 hl6 hk6 hsz6
            refine wpList_nil ?_
            refine (⟨⟨?_, ?_, ?_⟩, ?_⟩ : (_ ∧ _ ∧ _) ∧ _)
            · exact (hk6.blk hb5.drew hF.ne).cell 0
            · exact (hk6.blk hn5.drew hne5).cell 0
            · exact hk6.blk hn5.drew hne5
            simp only [Act.put, List.setIfInBounds_toArray, List.set_cons_zero, List.set_cons_succ]
            go_wp2
            go_roundw
            case rel =>
              refine ⟨q, by omega, (by have := HQK.out; omega), by go_num, hk6.blk hb5.drew hF.ne, ?_, (hkr5.drew).trans hk6 (fun k hk => .inl (.inr hk))⟩
              have hTT : p.now.take T = p.now.take (0) := by rw [show T = 0 from by have := HT.out; omega]
              rw [atCrash_last _ _ _ _ _ hqlt HQK.out, ← HP.out, bv_spl, bv_spl, Nat.mul_comm, hTT]
              exact hl6
            case measure => simp [intOf]; try omega
          · skip
            refine Pl.wp_plan (fun w' => w'.cell? ⟨f, 0, none⟩ = some (.slice (some ⟨lb, 0, none⟩) F.n F.n) ∧ w'.cell? ⟨wr.heap.size, 0, none⟩ = some (.int .i64 (p.at_ : Int)) ∧ Blk w' wr.heap.size 72 (pc p)) [0, 1, 2, 3, 4, 5, 6, 7, 8, 9, 10, 11, 12] [13] [] Try.mixed (by kernel_rfl) (fun _ _ d _ _ h => by cases d <;> exact h) ⟨by simpa using e0, by simpa using e1, hn5.drew⟩ ?_
            simp only [Pl.pick, List.drop_succ_cons, List.drop_zero]
            iterate 13 (refine Pl.head_run (v := ?_) (by rfl) ?_ ?_; rotate_left; (focus (intro w' hS; obtain ⟨s0, s1, s2⟩ := hS; go_simp; with_reducible rfl)); simp only [Act.put, List.setIfInBounds_toArray, List.set_cons_zero, List.set_cons_succ])
            refine Pl.head_nil ?_
            simp only [Pl.Mid]
            refine wpList_copy_blk (by rfl) (.tmp 58) (.tmp 60) 22 22 (by rfl) 5 Try.underlying22 Try.size5 lb (p.at_ * 64) t.toNat 64 (some ⟨wr.heap.size, 65, none⟩) 64 64 (by rfl) (by rfl) _ 65 hl5.drew (bv (p.now.take (t.toNat))) ?_ ?_ ?_ (bv_one _) ?_
            · rw [bv_length, List.length_take, hpk2.out.2.2]; try exact Nat.min_comm _ _
            · intro _
              refine ⟨_, rfl, ?_⟩
              have h1 := (hn5.drew).range 65 (t.toNat) (bv (p.now.take (t.toNat))) (by rw [pc_now _ hpk2.out.2.1, bv_take])
              exact range_news h1
            · rw [bv_length, List.length_take, hpk2.out.2.2, hl5len.out]; have := hpk2.out.1; omega
            intro w6 hl6 hk6 hsz6
            refine wpList_nil ?_
            refine (⟨⟨?_, ?_, ?_⟩, ?_⟩ : (_ ∧ _ ∧ _) ∧ _)
            · exact (hk6.blk hb5.drew hF.ne).cell 0
            · exact (hk6.blk hn5.drew hne5).cell 0
            · exact hk6.blk hn5.drew hne5
            simp only [Act.put, List.setIfInBounds_toArray, List.set_cons_zero, List.set_cons_succ]
            go_wp2
            go_roundw
            case rel =>
              refine ⟨q, by omega, (by have := HQK.out; omega), by go_num, hk6.blk hb5.drew hF.ne, ?_, (hkr5.drew).trans hk6 (fun k hk => .inl (.inr hk))⟩
              have hTT : p.now.take T = p.now.take (t.toNat) := by rw [show T = t.toNat from by have := HT.out; omega]
              rw [atCrash_last _ _ _ _ _ hqlt HQK.out, ← HP.out, bv_spl, bv_spl, Nat.mul_comm, hTT]
              exact hl6
            case measure => simp [intOf]; try omega
          · skip
            refine Pl.wp_plan (fun w' => w'.cell? ⟨f, 0, none⟩ = some (.slice (some ⟨lb, 0, none⟩) F.n F.n) ∧ w'.cell? ⟨wr.heap.size, 0, none⟩ = some (.int .i64 (p.at_ : Int)) ∧ Blk w' wr.heap.size 72 (pc p)) [0, 1, 2, 3, 4, 5, 6, 7, 8, 9, 10, 11, 12] [13] [] Try.mixed (by kernel_rfl) (fun _ _ d _ _ h => by cases d <;> exact h) ⟨by simpa using e0, by simpa using e1, hn5.drew⟩ ?_
            simp only [Pl.pick, List.drop_succ_cons, List.drop_zero]
            iterate 13 (refine Pl.head_run (v := ?_) (by rfl) ?_ ?_; rotate_left; (focus (intro w' hS; obtain ⟨s0, s1, s2⟩ := hS; go_simp; with_reducible rfl)); simp only [Act.put, List.setIfInBounds_toArray, List.set_cons_zero, List.set_cons_succ])
            refine Pl.head_nil ?_
            simp only [Pl.Mid]
            refine wpList_copy_blk (by rfl) (.tmp 58) (.tmp 60) 22 22 (by rfl) 5 Try.underlying22 Try.size5 lb (p.at_ * 64) 64 64 (some ⟨wr.heap.size, 65, none⟩) 64 64 (by rfl) (by rfl) _ 65 hl5.drew (bv (p.now.take (64))) ?_ ?_ ?_ (bv_one _) ?_
            · rw [bv_length, List.length_take, hpk2.out.2.2]; try exact Nat.min_comm _ _
            · intro _
              refine ⟨_, rfl, ?_⟩
              have h1 := (hn5.drew).range 65 (64) (bv (p.now.take (64))) (by rw [pc_now _ hpk2.out.2.1, bv_take])
              exact range_news h1
            · rw [bv_length, List.length_take, hpk2.out.2.2, hl5len.out]; have := hpk2.out.1; omega
            intro w6 hl6 hk6 hsz6
            refine wpList_nil ?_
            refine (⟨⟨?_, ?_, ?_⟩, ?_⟩ : (_ ∧ _ ∧ _) ∧ _)
            · exact (hk6.blk hb5.drew hF.ne).cell 0
            · exact (hk6.blk hn5.drew hne5).cell 0
            · exact hk6.blk hn5.drew hne5
            simp only [Act.put, List.setIfInBounds_toArray, List.set_cons_zero, List.set_cons_succ]
            go_wp2
            go_roundw
            case rel =>
              refine ⟨q, by omega, (by have := HQK.out; omega), by go_num, hk6.blk hb5.drew hF.ne, ?_, (hkr5.drew).trans hk6 (fun k hk => .inl (.inr hk))⟩
              have hTT : p.now.take T = p.now.take (64) := by rw [show T = 64 from by have := HT.out; omega]
              rw [atCrash_last _ _ _ _ _ hqlt HQK.out, ← HP.out, bv_spl, bv_spl, Nat.mul_comm, hTT]
              exact hl6
            case measure => simp [intOf]; try omega
        · have hqK : K < q := by
            have h4 := HKj.out
            first
              | (have h1 : (((q : Int) == k) = false) := (by assumption); have h0 : 0 < k := (by assumption); have h2 := HK2.out h0; rw [beq_eq_false_iff_ne] at h1; omega)
              | (have h1 : (((q : Int) == 0) = false) := (by assumption); have h0 : k ≤ 0 := (by assumption); have h2 := HK3.out h0; rw [beq_eq_false_iff_ne] at h1; omega)
          go_roundw
          case rel =>
            refine ⟨q, by omega, by omega, by go_num, hb5, ?_, hkr5⟩
            rw [atCrash_mid _ _ _ _ _ hqlt hqK, ← HP.out, bv_spl, Nat.mul_comm]
            exact hl5
          case measure => simp [intOf]; try omega
      · have hjj : j ≤ K := by omega
        have h5 := HK2.out
        have h6 := HK3.out
        have hx : (j : Int) - 1 < k ∨ (j : Int) - 1 < 0 := by
          rcases Int.lt_or_le 0 k with h | h
          · have := h5 h; omega
          · have := h6 h; omega
        have hf1 := hb2.frozen 1
        rw [atCrash_end _ _ _ _ _ hjj] at hr2
        first
          | (have hx1 : (j : Int) - 1 < k := (by omega); have hx2 : 0 < k := (by assumption); clear hx h5 h6; go_wp2)
          | (have hx1 : (j : Int) - 1 < 0 := (by omega); clear hx h5 h6; go_wp2)
        go_end0
        refine ⟨rfl, ⟨FM.crash_ok hF.ok k t, ?_, ?_, World.ownsRow_nil _ _ _ _, hF.hf, hF.hl⟩, hkr.setCell (p := ⟨f, 1, none⟩) (.inl (.inl rfl)) _⟩
        · have := hb2.set_ 1 (.slice none 0 0)
          simpa [fcells, FM.crash] using this
        · have h7 : (F.crash k t).l = crashed F.l F.pend K T := by
            rw [HK.out, HT.out]; rfl
          rw [h7]
          exact hr2.far hF.ne.symm _
end Go.Proofs.Ytnaocjhhnlndmaa
