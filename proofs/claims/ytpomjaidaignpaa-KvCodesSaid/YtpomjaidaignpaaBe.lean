/- Contract of block's Write, all cases together; of Crash. -/
import Derived.Test.YtpomjaidaignpaaBd
set_option linter.unusedVariables false
set_option linter.unusedSimpArgs false
namespace Go.Proofs.Ytpomjaidaignpaa
open Go.RowKit Wd

theorem write_any {w : World} {base f lb : Nat} {F : FM} {pv : Value} (hF : IsF w base f lb F pv) (i : Nat) (hi : i < F.n) (bb bo c : Nat) (m : List UInt8) (hm : m.length = 64) (hb : w.rangeAt bb bo (bv m)) (hbb : bb < w.heap.size) (hp : F.pend.length < 1000000000) :
    Calls Try.prog 50 #[.pointer (some ⟨f, 0, none⟩), .int .i64 (i : Int), .slice (some ⟨bb, bo, none⟩) 64 c] w fun e w' =>
      e = .returned (.int .i64 0) ∧ ∃ pv', IsF w' base f lb (F.write i m) pv' ∧ Keeps w w' (fun k => k = f ∨ k = lb) := by
  unfold FM.write
  by_cases ho : F.off = true
  · rw [if_pos ho]
    exact (write_off hF i hi _ c ho).mono fun e w' ⟨he, hw⟩ => ⟨he, pv, by subst hw; exact hF, by subst hw; exact Keeps.refl _ _⟩
  · rw [if_neg ho]
    have ho' : F.off = false := by simpa using ho
    by_cases hs : (F.set && F.left == 0) = true
    · rw [if_pos hs]
      simp only [Bool.and_eq_true, beq_iff_eq] at hs
      exact (write_fused hF i hi bb bo c m hm hb hbb ho' hs.1 hs.2).mono fun e w' ⟨he, h1, h2⟩ => ⟨he, _, h1, h2⟩
    · rw [if_neg hs]
      refine (write_put hF i hi bb bo c m hm hb hbb ho' (fun h1 h2 => hs (by simp [h1, h2])) hp).mono fun e w' ⟨he, pv', h1, h2, _⟩ => ⟨he, pv', h1, h2⟩

/-- The same; and where the pending writes lie. -/
theorem write_anyF {w : World} {base f lb : Nat} {F : FM} {pv : Value} (hF : IsF w base f lb F pv) (i : Nat) (hi : i < F.n) (bb bo c : Nat) (m : List UInt8) (hm : m.length = 64) (hb : w.rangeAt bb bo (bv m)) (hbb : bb < w.heap.size) (hp : F.pend.length < 1000000000) :
    Calls Try.prog 50 #[.pointer (some ⟨f, 0, none⟩), .int .i64 (i : Int), .slice (some ⟨bb, bo, none⟩) 64 c] w fun e w' =>
      e = .returned (.int .i64 0) ∧ ∃ pv', IsF w' base f lb (F.write i m) pv' ∧ Keeps w w' (fun k => k = f ∨ k = lb) ∧ (∀ k, pv'.ownBlock = some k → pv.ownBlock = some k ∨ w.heap.size ≤ k) := by
  unfold FM.write
  by_cases ho : F.off = true
  · rw [if_pos ho]
    exact (write_off hF i hi _ c ho).mono fun e w' ⟨he, hw⟩ => ⟨he, pv, by subst hw; exact hF, by subst hw; exact Keeps.refl _ _, fun k hk => .inl hk⟩
  · rw [if_neg ho]
    have ho' : F.off = false := by simpa using ho
    by_cases hs : (F.set && F.left == 0) = true
    · rw [if_pos hs]
      simp only [Bool.and_eq_true, beq_iff_eq] at hs
      exact (write_fused hF i hi bb bo c m hm hb hbb ho' hs.1 hs.2).mono fun e w' ⟨he, h1, h2⟩ => ⟨he, _, h1, h2, fun k hk => by cases hk⟩
    · rw [if_neg hs]
      exact (write_put hF i hi bb bo c m hm hb hbb ho' (fun h1 h2 => hs (by simp [h1, h2])) hp).mono fun e w' ⟨he, pv', h1, h2, h3⟩ => ⟨he, pv', h1, h2, fun k hk => .inr (h3 k hk)⟩

/-- The bytes behind the undoing of writes, the last one first. -/
def undo (l : List UInt8) : List PW → List UInt8
  | [] => l
  | p :: r => spl (undo l r) (64 * p.at_) p.was
/-- The bytes behind a crash that lets k writes last, and T bytes of the next one. -/
def crashed (l : List UInt8) (ps : List PW) (k T : Nat) : List UInt8 := match ps.drop k with
  | [] => l
  | p :: r => spl (undo l (p :: r)) (64 * p.at_) (p.now.take T)
def FM.crash (F : FM) (k t : Int) : FM := { F with set := false, off := false, pend := [], l := crashed F.l F.pend (max 0 k).toNat (min 64 (max 0 t)).toNat }

theorem undo_length (l : List UInt8) (n : Nat) (hl : l.length = 64 * n) : ∀ ps : List PW, (∀ p ∈ ps, p.ok n) → (undo l ps).length = 64 * n
  | [], _ => hl
  | p :: r, h => by
    have hp := h p List.mem_cons_self
    have ih := undo_length l n hl r fun q hq => h q (List.mem_cons_of_mem _ hq)
    unfold undo
    rw [spl_length _ _ _ (by have := hp.1; have := hp.2.1; omega), ih]
theorem crashed_length (l : List UInt8) (n : Nat) (hl : l.length = 64 * n) (ps : List PW) (hp : ∀ p ∈ ps, p.ok n) (k T : Nat) : (crashed l ps k T).length = 64 * n := by
  unfold crashed
  split
  · exact hl
  · rename_i p r he
    have hall : ∀ q ∈ p :: r, q.ok n := fun q hq => hp q (List.mem_of_mem_drop (by rw [he]; exact hq))
    have h1 := undo_length l n hl (p :: r) hall
    have h2 := hall p List.mem_cons_self
    rw [spl_length _ _ _ (by have := h2.1; have := h2.2.2; rw [List.length_take]; omega), h1]
theorem FM.crash_ok {F : FM} (h : F.ok) (k t : Int) : (F.crash k t).ok :=
  { h with len := crashed_length F.l F.n h.len F.pend h.pend _ _, pend := fun p hp => by simp [FM.crash] at hp }

/-- The bytes when the writes from j on have been undone; at k the first bytes of that write stand. -/
def atCrash (l : List UInt8) (ps : List PW) (k T j : Nat) : List UInt8 := if j ≤ k then crashed l ps k T else undo l (ps.drop j)
theorem atCrash_start (l : List UInt8) (ps : List PW) (k T : Nat) : atCrash l ps k T ps.length = l := by
  unfold atCrash crashed
  split
  · rename_i h
    rw [List.drop_eq_nil_of_le h]
  · rw [List.drop_length]; rfl
theorem atCrash_end (l : List UInt8) (ps : List PW) (k T j : Nat) (h : j ≤ k) : atCrash l ps k T j = crashed l ps k T := if_pos h
theorem undo_step (l : List UInt8) (ps : List PW) (q : Nat) (hq : q < ps.length) : undo l (ps.drop q) = spl (undo l (ps.drop (q + 1))) (64 * (ps[q]).at_) (ps[q]).was := by
  rw [List.drop_eq_getElem_cons hq]; rfl
theorem atCrash_mid (l : List UInt8) (ps : List PW) (k T q : Nat) (hq : q < ps.length) (h : k < q) : atCrash l ps k T q = spl (atCrash l ps k T (q + 1)) (64 * (ps[q]).at_) (ps[q]).was := by
  unfold atCrash
  rw [if_neg (by omega), if_neg (by omega), undo_step l ps q hq]
theorem atCrash_last (l : List UInt8) (ps : List PW) (k T q : Nat) (hq : q < ps.length) (h : q = k) : atCrash l ps k T q = spl (spl (atCrash l ps k T (q + 1)) (64 * (ps[q]).at_) (ps[q]).was) (64 * (ps[q]).at_) ((ps[q]).now.take T) := by
  subst h
  unfold atCrash crashed
  rw [if_pos (Nat.le_refl _), if_neg (by omega), List.drop_eq_getElem_cons hq]
  rfl
theorem atCrash_length (l : List UInt8) (n : Nat) (hl : l.length = 64 * n) (ps : List PW) (hp : ∀ p ∈ ps, p.ok n) (k T j : Nat) : (atCrash l ps k T j).length = 64 * n := by
  unfold atCrash
  split
  · exact crashed_length l n hl ps hp k T
  · exact undo_length l n hl _ fun p h => hp p (List.mem_of_mem_drop h)
theorem pcs_get (n : Nat) : ∀ (ps : List PW) (q : Nat) (hq : q < ps.length), (∀ p ∈ ps, p.ok n) → ((pcs ps).drop (q * 129)).take 129 = pc (ps[q])
  | [], q, hq, _ => by simp at hq
  | p :: r, 0, _, h => by
    show (((pc p ++ pcs r)).drop (0 * 129)).take 129 = pc p
    rw [Nat.zero_mul, List.drop_zero, List.take_left' (pc_length p n (h p List.mem_cons_self))]
  | p :: r, q + 1, hq, h => by
    have hl := pc_length p n (h p List.mem_cons_self)
    have e : (q + 1) * 129 = (pc p).length + q * 129 := by omega
    show (((pc p ++ pcs r)).drop ((q + 1) * 129)).take 129 = _
    rw [e, List.drop_length_add_append]
    exact pcs_get n r q (by simpa using hq) fun x hx => h x (List.mem_cons_of_mem _ hx)
theorem pc_was (p : PW) (h : p.was.length = 64) : ((pc p).drop 1).take 64 = bv p.was := by
  unfold pc
  rw [List.drop_succ_cons, List.drop_zero, List.take_left' (by rw [bv_length, h])]
theorem own_range {w : World} {base n c : Nat} {e : TypeId} {size : Nat} {A : Option Addr} {xs : List Value} (h : w.ownsRow base e size (.slice A n c) n xs) (hn : 0 < n) : ∃ g, A = some ⟨g, 0, none⟩ ∧ w.rangeAt g 0 xs := by
  obtain ⟨g, cap, hv, _, _⟩ := h.form hn
  injection hv with hv _ _
  subst hv
  exact ⟨g, rfl, fun j v hj => by have := own_holds h _ rfl j v hj; rwa [Addr.add_mid] at this⟩
theorem range_part {w : World} {b : Nat} {xs : List Value} (h : w.rangeAt b 0 xs) (o n : Nat) (m : List Value) (hm : (xs.drop o).take n = m) : w.rangeAt b o m := by
  intro j v hj
  subst hm
  rw [List.getElem?_take] at hj
  split at hj
  · rw [List.getElem?_drop] at hj
    have := h _ v hj
    rwa [Nat.zero_add] at this
  · cases hj

end Go.Proofs.Ytpomjaidaignpaa
