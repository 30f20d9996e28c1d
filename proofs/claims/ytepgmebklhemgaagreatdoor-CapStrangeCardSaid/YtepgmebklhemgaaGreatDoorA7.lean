/- Records one behind the other, in plain Lean. No program is in sight. -/
import Derived.Test.YtepgmebklhemgaaGreatDoorA6
import Derived.Test.YtepgmebklhemgaaGreatDoorG4
set_option linter.unusedVariables false
set_option linter.unusedSimpArgs false
namespace Go.Proofs.YtepgmebklhemgaaGreatDoor
open Go.RowKit Wd
namespace Lg
/-- Records of a generation, from a place on. -/
def recs (gen : Nat) : Nat → List (List UInt8) → List UInt8
  | _, [] => []
  | at_, b :: r => record gen at_ b ++ recs gen (at_ + (b.length + 6)) r
def total (l : List (List UInt8)) : Nat := (l.map fun b => b.length + 6).sum
theorem recs_len (gen at_ : Nat) (l : List (List UInt8)) : (recs gen at_ l).length = total l := by
  induction l generalizing at_ with
  | nil => rfl
  | cons b r ih =>
    rw [recs, List.length_append, record_len, ih]
    simp [total]
theorem total_snoc (l : List (List UInt8)) (b : List UInt8) : total (l ++ [b]) = total l + (b.length + 6) := by simp [total]
theorem recs_snoc (gen at_ : Nat) (l : List (List UInt8)) (b : List UInt8) : recs gen at_ (l ++ [b]) = recs gen at_ l ++ record gen (at_ + total l) b := by
  induction l generalizing at_ with
  | nil => simp [recs, total]
  | cons a r ih =>
    rw [List.cons_append, recs, recs, ih, List.append_assoc]
    congr 3
    simp [total]
    omega
theorem total_take {l : List (List UInt8)} {k : Nat} (hk : k < l.length) : total (l.take (k + 1)) = total (l.take k) + (l[k].length + 6) := by
  rw [List.take_succ_eq_append_getElem hk, total_snoc]
theorem total_append (a b : List (List UInt8)) : total (a ++ b) = total a + total b := by simp [total]
theorem total_take_le (l : List (List UInt8)) (k : Nat) : total (l.take k) ≤ total l := by
  have h := total_append (l.take k) (l.drop k)
  rw [List.take_append_drop] at h
  omega
end Lg
end Go.Proofs.YtepgmebklhemgaaGreatDoor
/- Records as they are read of bytes of which the beginning is known, in plain Lean. No program is in sight. -/
set_option linter.unusedVariables false
set_option linter.unusedSimpArgs false
namespace Go.Proofs.YtepgmebklhemgaaGreatDoor
open Go.RowKit Wd
namespace Lg
/-- Reading from a place on gives these records and gets so far. -/
inductive Rec (gen : Nat) (h : List UInt8) : Nat → List (List UInt8) → Nat → Prop
  | nil (a : Nat) : Rec gen h a [] a
  | cons {a n en : Nat} {ls : List (List UInt8)} (ht : there gen h a = some n) (hr : Rec gen h (a + 6 + n) ls en) : Rec gen h a ((h.drop (a + 6)).take n :: ls) en
theorem Rec.le {gen : Nat} {h : List UInt8} {a en : Nat} {ls : List (List UInt8)} (r : Rec gen h a ls en) : a + 7 * ls.length ≤ en ∧ (ls = [] ∨ en ≤ h.length) := by
  induction r with
  | nil a => exact ⟨by simp, .inl rfl⟩
  | @cons a n en ls ht hr ih =>
    obtain ⟨_, _, h3, h4, _⟩ := there_some ht
    refine ⟨by rw [List.length_cons]; omega, .inr ?_⟩
    rcases ih.2 with h5 | h5
    · subst h5
      cases hr
      omega
    · exact h5
theorem Rec.snoc {gen : Nat} {h : List UInt8} {a en n : Nat} {ls : List (List UInt8)} (r : Rec gen h a ls en) (ht : there gen h en = some n) : Rec gen h a (ls ++ [(h.drop (en + 6)).take n]) (en + 6 + n) := by
  induction r with
  | nil a => exact .cons ht (.nil _)
  | cons ht' hr ih => exact .cons ht' (ih ht)
theorem rec_of_scan {gen : Nat} {h : List UInt8} : ∀ (f a : Nat) {ls : List (List UInt8)} {en : Nat}, scan gen h f a = (ls, en) → Rec gen h a ls en
  | 0, a, ls, en, hs => by
    simp only [scan, Prod.mk.injEq] at hs
    obtain ⟨rfl, rfl⟩ := hs
    exact .nil _
  | f + 1, a, ls, en, hs => by
    simp only [scan] at hs
    cases ht : there gen h a with
    | none =>
      rw [ht] at hs
      simp only [Prod.mk.injEq] at hs
      obtain ⟨rfl, rfl⟩ := hs
      exact .nil _
    | some n =>
      rw [ht] at hs
      simp only [Prod.mk.injEq] at hs
      obtain ⟨rfl, rfl⟩ := hs
      exact .cons ht (rec_of_scan f _ rfl)
theorem scan_none {gen : Nat} {h : List UInt8} : ∀ (f a : Nat) {ls : List (List UInt8)} {en : Nat}, h.length ≤ a + f → scan gen h f a = (ls, en) → there gen h en = none
  | 0, a, ls, en, hf, hs => by
    simp only [scan, Prod.mk.injEq] at hs
    obtain ⟨rfl, rfl⟩ := hs
    unfold there
    rw [if_neg (by omega)]
  | f + 1, a, ls, en, hf, hs => by
    simp only [scan] at hs
    cases ht : there gen h a with
    | none =>
      rw [ht] at hs
      simp only [Prod.mk.injEq] at hs
      obtain ⟨rfl, rfl⟩ := hs
      exact ht
    | some n =>
      rw [ht] at hs
      simp only [Prod.mk.injEq] at hs
      obtain ⟨rfl, rfl⟩ := hs
      exact scan_none f _ (by omega) rfl
theorem scan_rec {gen : Nat} {h : List UInt8} {a en : Nat} {ls : List (List UInt8)} (r : Rec gen h a ls en) : ∀ f, scan gen h (ls.length + f) a = (ls ++ (scan gen h f en).1, (scan gen h f en).2) := by
  induction r with
  | nil a => intro f; simp
  | @cons a n en ls ht hr ih =>
    intro f
    rw [List.length_cons, Nat.add_right_comm]
    simp only [scan, ht, ih f, List.cons_append]
/-- What reading gives that has got so far: these, and whatever comes behind. -/
theorem records_more {gen : Nat} {h : List UInt8} {en : Nat} {ls : List (List UInt8)} (r : Rec gen h 0 ls en) : ∃ more e2, records gen h = (ls ++ more, e2) := by
  have hle := r.le
  have hl : ls.length ≤ h.length := by
    rcases hle.2 with h1 | h1
    · subst h1; simp
    · omega
  obtain ⟨f, hf⟩ : ∃ f, h.length = ls.length + f := ⟨h.length - ls.length, by omega⟩
  refine ⟨(scan gen h f en).1, (scan gen h f en).2, ?_⟩
  unfold records
  rw [hf]
  exact scan_rec r f
theorem records_end {gen : Nat} {h : List UInt8} {en : Nat} {ls : List (List UInt8)} (r : Rec gen h 0 ls en) (ht : there gen h en = none) : records gen h = (ls, en) := by
  have hle := r.le
  have hl : ls.length ≤ h.length := by
    rcases hle.2 with h1 | h1
    · subst h1; simp
    · omega
  obtain ⟨f, hf⟩ : ∃ f, h.length = ls.length + f := ⟨h.length - ls.length, by omega⟩
  unfold records
  rw [hf, scan_rec r f, scan_stop f ht, List.append_nil]
theorem records_rec {gen : Nat} {h : List UInt8} {en : Nat} {ls : List (List UInt8)} (hr : records gen h = (ls, en)) : Rec gen h 0 ls en ∧ there gen h en = none :=
  ⟨rec_of_scan _ _ hr, scan_none _ _ (by omega) hr⟩
theorem part_same {h h' : List UInt8} {E a m : Nat} (ht : h'.take E = h.take E) (ha : a + m ≤ E) : (h'.drop a).take m = (h.drop a).take m := by
  have e : ∀ l : List UInt8, (l.drop a).take m = ((l.take E).drop a).take m := fun l => by
    rw [List.drop_take, List.take_take, Nat.min_eq_left (by omega)]
  rw [e h', e h, ht]
theorem there_same {gen : Nat} {h h' : List UInt8} {E a n : Nat} (hl : h'.length = h.length) (ht : h'.take E = h.take E) (hn : there gen h a = some n) (hE : a + 6 + n ≤ E) : there gen h' a = some n := by
  obtain ⟨h1, h2, h3, h4, h5⟩ := there_some hn
  unfold there
  rw [if_pos (by omega)]
  simp only
  have e1 : num ((h'.drop a).take 2) = n := by rw [part_same ht (by omega), ← h2]
  have e2 : (h'.drop (a + 6)).take n = (h.drop (a + 6)).take n := part_same ht (by omega)
  have e3 : (h'.drop a).take (6 + n) = (h.drop a).take (6 + n) := part_same ht (by omega)
  rw [e1, e2, e3]
  exact if_pos ⟨h3, by omega, h5⟩
/-- Bytes that begin alike have records that begin alike. -/
theorem Rec.same {gen : Nat} {h h' : List UInt8} {a en E : Nat} {ls : List (List UInt8)} (r : Rec gen h a ls en) (hE : en ≤ E) (hl : h'.length = h.length) (ht : h'.take E = h.take E) : Rec gen h' a ls en := by
  induction r with
  | nil a => exact .nil _
  | @cons a n en ls hn hr ih =>
    have h1 := hr.le.1
    have h2 := there_same hl ht hn (by omega)
    rw [← part_same (h := h) (h' := h') ht (by omega : a + 6 + n ≤ E)]
    exact .cons h2 (ih hE)
/-! ### Numbers in bytes, there and back -/
theorem be_succ (n k : Nat) : be n (k + 1) = be (n / 256) k ++ [UInt8.ofNat n] := by
  unfold be
  rw [List.range_succ, List.map_append]
  congr 1
  · refine List.map_congr_left fun j hj => ?_
    have hj : j < k := List.mem_range.1 hj
    congr 1
    rw [Nat.div_div_eq_div_mul, show (256 : Nat) = 2 ^ 8 from rfl, ← Nat.pow_add]
    congr 2
    omega
  · simp
theorem num_be (n k : Nat) (h : n < 256 ^ k) : num (be n k) = n := by
  induction k generalizing n with
  | zero =>
    have : n = 0 := by simpa using h
    subst this
    rfl
  | succ k ih =>
    rw [be_succ, num_snoc, ih (n / 256) (by rw [Nat.pow_succ] at h; omega), UInt8.toNat_ofNat']
    omega
/-- A record that lies there is read. -/
theorem there_record {gen a : Nat} {h b rest : List UInt8} (hd : h.drop a = record gen a b ++ rest) (h1 : 1 ≤ b.length) (h2 : b.length ≤ 65535) : there gen h a = some b.length ∧ (h.drop (a + 6)).take b.length = b := by
  have hl : (h.drop a).length = b.length + 6 + rest.length := by rw [hd, List.length_append, record_len]
  rw [List.length_drop] at hl
  have hb : (h.drop (a + 6)).take b.length = b := by
    rw [← List.drop_drop, hd]
    unfold record
    rw [List.append_assoc, List.append_assoc, List.drop_append, be_len, List.drop_eq_nil_of_le (by rw [be_len]; omega), List.nil_append, List.drop_append, be_len, List.drop_eq_nil_of_le (by rw [be_len]; omega), List.nil_append]
    simp
  refine ⟨?_, hb⟩
  have h2b : (h.drop a).take 2 = be b.length 2 := by
    rw [hd]
    unfold record
    rw [List.append_assoc, List.append_assoc, List.take_append_of_le_length (by rw [be_len]; omega), List.take_of_length_le (by rw [be_len]; omega)]
  unfold there
  rw [if_pos (by omega)]
  simp only
  rw [h2b, num_be _ _ (by omega), hb]
  refine if_pos ⟨h1, by omega, ?_⟩
  rw [hd, List.take_append_of_le_length (by rw [record_len]; omega), List.take_of_length_le (by rw [record_len]; omega)]
theorem there_zero {gen a : Nat} {h rest : List UInt8} (hd : h.drop a = 0 :: 0 :: rest) : there gen h a = none := by
  unfold there
  split
  · simp only
    rw [hd]
    refine if_neg fun h => ?_
    have : num ((0 :: 0 :: rest : List UInt8).take 2) = 0 := rfl
    rw [this] at h
    omega
  · rfl
theorem there_end {gen a : Nat} {h : List UInt8} (he : h.length ≤ a + 6) : there gen h a = none := by
  unfold there
  rw [if_neg (by omega)]
end Lg
end Go.Proofs.YtepgmebklhemgaaGreatDoor
/- What appending to a log and restarting it leave of a file's bytes, the power gone in between or not. -/
set_option linter.unusedVariables false
set_option linter.unusedSimpArgs false
namespace Go.Proofs.YtepgmebklhemgaaGreatDoor
open Go.RowKit Wd
/-! ### Bytes by their places -/
theorem spl_get (l : List UInt8) (o : Nat) (m : List UInt8) (h : o + m.length ≤ l.length) (p : Nat) : (spl l o m)[p]? = if o ≤ p ∧ p < o + m.length then m[p - o]? else l[p]? := by
  unfold spl
  have h1 : (l.take o).length = o := by rw [List.length_take]; omega
  rw [List.append_assoc]
  by_cases hp : p < o
  · rw [List.getElem?_append_left (by omega), List.getElem?_take, if_pos hp, if_neg (by omega)]
  · rw [List.getElem?_append_right (by omega), h1]
    by_cases hq : p < o + m.length
    · rw [List.getElem?_append_left (by omega), if_pos ⟨by omega, hq⟩]
    · rw [List.getElem?_append_right (by omega), List.getElem?_drop, if_neg (by omega)]
      congr 1
      omega
/-- Each byte is as it was, or as it should be. -/
def Mixed (A G l : List UInt8) : Prop := l.length = A.length ∧ ∀ p : Nat, l[p]? = A[p]? ∨ l[p]? = G[p]?
theorem mgAt_get (o : Int) (b s : List UInt8) (k : Nat) (hk : k < s.length) : (mgAt o b s)[k]? = if 0 ≤ o + k ∧ o + k < b.length then b[(o + k).toNat]? else s[k]? := by
  unfold mgAt
  rw [List.getElem?_mapIdx, List.getElem?_eq_getElem hk]
  simp only [Option.map_some]
  unfold mgc
  split
  · rename_i h
    have h1 : (o + k).toNat < b.length := by omega
    rw [List.getElem?_eq_getElem h1]
    rfl
  · rfl
section
variable {F : FM} {fr at_ hi : Nat} {b : List UInt8}
/-- One write of put, over a file whose blocks from the next one on are as they should be. -/
theorem put_block {J : FM} {A G : List UInt8} {n i : Nat} (hA : A.length = 64 * n) (hlen : J.l.length = 64 * n) (hG : G = spl A (64 * fr + at_) b) (hfit : 64 * fr + at_ + b.length ≤ 64 * n) (hi : fr + i < n) (hJ : ∀ p, p < 64 * (fr + i + 1) → J.l[p]? = A[p]?) (k : Nat) (hk : k < 64) :
    (mgAt (64 * (i : Int) - at_) b (J.at_ (fr + i)))[k]? = G[64 * (fr + i) + k]? := by
  have hl : (J.at_ (fr + i)).length = 64 := by unfold FM.at_; rw [List.length_take, List.length_drop]; omega
  rw [mgAt_get _ _ _ _ (by omega), hG, spl_get _ _ _ (by omega)]
  by_cases hin : 0 ≤ (64 * (i : Int) - at_) + k ∧ (64 * (i : Int) - at_) + k < b.length
  · rw [if_pos hin, if_pos (by omega)]
    congr 1
    omega
  · rw [if_neg hin, if_neg (by omega)]
    unfold FM.at_
    rw [List.getElem?_take, if_pos hk, List.getElem?_drop]
    exact hJ _ (by omega)
/-- What j of put's writes leave. -/
theorem putN_l (hlen : F.l.length = 64 * F.n) (hfit : 64 * fr + at_ + b.length ≤ 64 * F.n) (hb : 1 ≤ b.length) (hhi : hi = (at_ + b.length - 1) / 64) (hoff : F.off = false) :
    ∀ j, j ≤ hi + 1 - at_ / 64 → ((F.set = false → (putN fr at_ b hi j F).set = false ∧ (putN fr at_ b hi j F).off = false) ∧ (putN fr at_ b hi j F).torn = F.torn ∧ (putN fr at_ b hi j F).l.length = F.l.length ∧
      (((putN fr at_ b hi j F).off = false ∧ ∀ p, (putN fr at_ b hi j F).l[p]? = if p < 64 * (fr + hi + 1 - j) then F.l[p]? else (spl F.l (64 * fr + at_) b)[p]?) ∨
       ((putN fr at_ b hi j F).off = true ∧ Mixed F.l (spl F.l (64 * fr + at_) b) (putN fr at_ b hi j F).l)))
  | 0, _ => by
    refine ⟨fun h => ⟨h, hoff⟩, rfl, rfl, .inl ⟨hoff, fun p => ?_⟩⟩
    show F.l[p]? = _
    split
    · rfl
    · rw [spl_get _ _ _ (by omega), if_neg (by omega)]
  | j + 1, hj => by
    obtain ⟨h1, h2, h3, h4⟩ := putN_l hlen hfit hb hhi hoff j (by omega)
    have hn := putN_n fr at_ b hi j F
    unfold putN
    obtain ⟨J, hJ⟩ : ∃ J, J = putN fr at_ b hi j F := ⟨_, rfl⟩
    rw [← hJ] at h1 h2 h3 h4 hn ⊢
    obtain ⟨i, hi2⟩ : ∃ i, i = hi - j := ⟨_, rfl⟩
    rw [← hi2]
    have hib : 64 * (fr + i) + 64 ≤ 64 * F.n := by omega
    rcases h4 with ⟨h5, h6⟩ | ⟨h5, h6⟩
    · have hmid := put_block (fr := fr) (at_ := at_) (b := b) (J := J) (A := F.l) (G := spl F.l (64 * fr + at_) b) (n := F.n) (i := i) hlen (by omega) rfl hfit (by omega) (fun p hp => by rw [h6 p, if_pos (by omega)])
      obtain ⟨m, hm⟩ : ∃ m, m = mgAt (64 * (i : Int) - at_) b (J.at_ (fr + i)) := ⟨_, rfl⟩
      rw [← hm] at hmid ⊢
      have hml : m.length = 64 := by
        rw [hm, mgAt_len]
        unfold FM.at_
        rw [List.length_take, List.length_drop]
        omega
      unfold FM.write
      rw [if_neg (by rw [h5]; decide)]
      split
      · rename_i hs
        simp only [Bool.and_eq_true] at hs
        have hs' : ¬ F.set = false := fun h => by have := (h1 h).1; rw [hs.1] at this; cases this
        have hlt : (m.take J.torn.toNat).length ≤ 64 := by rw [List.length_take]; omega
        have hl2 : (spl J.l (64 * (fr + i)) (m.take J.torn.toNat)).length = J.l.length := spl_length _ _ _ (by omega)
        refine ⟨fun h => absurd h hs', h2, by show (spl J.l _ _).length = _; rw [hl2, h3], .inr ⟨rfl, by show (spl J.l _ _).length = _; rw [hl2, h3], fun p => ?_⟩⟩
        suffices hz : (spl J.l (64 * (fr + i)) (m.take J.torn.toNat))[p]? = F.l[p]? ∨ (spl J.l (64 * (fr + i)) (m.take J.torn.toNat))[p]? = (spl F.l (64 * fr + at_) b)[p]? from hz
        rw [spl_get J.l _ _ (by omega)]
        split
        · rename_i hp
          rw [List.length_take] at hp
          rw [List.getElem?_take, if_pos (by omega), hmid _ (by omega), show 64 * (fr + i) + (p - 64 * (fr + i)) = p from by omega]
          exact .inr rfl
        · rw [h6 p]
          split
          · exact .inl rfl
          · exact .inr rfl
      · have hl2 : (spl J.l (64 * (fr + i)) m).length = J.l.length := spl_length _ _ _ (by omega)
        refine ⟨fun h => ⟨(h1 h).1, h5⟩, h2, by show (spl J.l _ _).length = _; rw [hl2, h3], .inl ⟨h5, fun p => ?_⟩⟩
        show (spl J.l (64 * (fr + i)) m)[p]? = _
        rw [spl_get _ _ _ (by omega), hml]
        split
        · rename_i hp
          rw [hmid _ (by omega), show 64 * (fr + i) + (p - 64 * (fr + i)) = p from by omega, if_neg (by omega)]
        · rename_i hp
          rw [h6 p]
          by_cases hq : p < 64 * (fr + hi + 1 - j)
          · rw [if_pos hq, if_pos (by omega)]
          · rw [if_neg hq, if_neg (by omega)]
    · unfold FM.write
      rw [if_pos h5]
      exact ⟨h1, h2, h3, .inr ⟨h5, h6⟩⟩
/-- What put leaves: all, or (the power gone) some. -/
theorem putAll_l (hlen : F.l.length = 64 * F.n) (hfit : 64 * fr + at_ + b.length ≤ 64 * F.n) (hb : 1 ≤ b.length) (hoff : F.off = false) :
    (F.set = false → (putAll fr at_ b F).set = false ∧ (putAll fr at_ b F).off = false) ∧ (putAll fr at_ b F).torn = F.torn ∧ (putAll fr at_ b F).pend = [] ∧ (putAll fr at_ b F).n = F.n ∧ (putAll fr at_ b F).l.length = F.l.length ∧
      ((putAll fr at_ b F).off = false ∧ (putAll fr at_ b F).l = spl F.l (64 * fr + at_) b ∨ (putAll fr at_ b F).off = true ∧ Mixed F.l (spl F.l (64 * fr + at_) b) (putAll fr at_ b F).l) := by
  have h := putN_l (hi := (at_ + b.length - 1) / 64) hlen hfit hb rfl hoff ((at_ + b.length - 1) / 64 + 1 - at_ / 64) (Nat.le_refl _)
  have hn := putN_n fr at_ b ((at_ + b.length - 1) / 64) ((at_ + b.length - 1) / 64 + 1 - at_ / 64) F
  obtain ⟨h1, h2, h3, h4⟩ := h
  refine ⟨h1, h2, rfl, hn, h3, ?_⟩
  rcases h4 with ⟨h5, h6⟩ | ⟨h5, h6⟩
  · refine .inl ⟨h5, List.ext_getElem? fun p => ?_⟩
    show (putN _ _ _ _ _ _).l[p]? = _
    rw [h6 p]
    split
    · rename_i hp
      rw [spl_get _ _ _ (by omega), if_neg (by omega)]
    · rfl
  · exact .inr ⟨h5, h6⟩
end
namespace Lg
/-! ### Which generation bytes have -/
/-- The generation of a head's block; 0, where it is none. -/
def hv (k : List UInt8) : Nat := if head (num (k.take 8)) = k then num (k.take 8) else 0
def blk (l : List UInt8) (i : Nat) : List UInt8 := (l.drop (64 * i)).take 64
theorem genOf_blk (l : List UInt8) (i : Nat) : genOf l i = num ((blk l i).take 8) := by
  unfold genOf blk
  rw [List.take_take]
  rfl
theorem pick_hv (l : List UInt8) (best i : Nat) : pick l best i = max best (hv (blk l i)) := by
  unfold pick hv
  rw [genOf_blk]
  show (if head _ = blk l i then _ else _) = _
  split
  · rfl
  · rw [Nat.max_zero]
theorem generation_hv (l : List UInt8) : generation l = max (hv (blk l 0)) (hv (blk l 1)) := by
  unfold generation
  rw [pick_hv, pick_hv, Nat.zero_max]
theorem hv_le (k : List UInt8) : hv k ≤ num (k.take 8) := by
  unfold hv
  split <;> omega
theorem hv_head (g : Nat) (hg : g < 18446744073709551616) : hv (head g) = g := by
  have h : (head g).take 8 = be g 8 := by
    unfold head
    rw [List.append_assoc, List.take_append_of_le_length (by rw [be_len]; omega), List.take_of_length_le (by rw [be_len]; omega)]
  unfold hv
  rw [h, num_be _ _ (by omega), if_pos rfl]
theorem blk_same {l l' : List UInt8} (h : ∀ p, p < 128 → l'[p]? = l[p]?) (i : Nat) (hi : i < 2) : blk l' i = blk l i := by
  unfold blk
  apply List.ext_getElem?
  intro k
  rw [List.getElem?_take, List.getElem?_take]
  split
  · rw [List.getElem?_drop, List.getElem?_drop]
    exact h _ (by omega)
  · rfl
theorem generation_same {l l' : List UInt8} (h : ∀ p, p < 128 → l'[p]? = l[p]?) : generation l' = generation l := by
  rw [generation_hv, generation_hv, blk_same h 0 (by omega), blk_same h 1 (by omega)]
/-- A half's bytes by their places. -/
theorem half_len {l : List UInt8} {n gen : Nat} (hl : l.length = 64 * n) (h2 : 2 ≤ n) : (half l gen).length = 64 * halfN n := by
  have h1 := half_le n gen h2
  unfold half
  rw [hl, Nat.mul_div_cancel_left _ (by decide), List.length_take, List.length_drop, hl]
  omega
theorem half_get {l : List UInt8} {n gen : Nat} (hl : l.length = 64 * n) (p : Nat) : (half l gen)[p]? = if p < 64 * halfN n then l[64 * halfFrom n gen + p]? else none := by
  unfold half
  rw [hl, Nat.mul_div_cancel_left _ (by decide), List.getElem?_take, List.getElem?_drop]
theorem half_same {l l' : List UInt8} {n gen : Nat} (hl : l.length = 64 * n) (hl' : l'.length = 64 * n) (h : ∀ p, p < 64 * halfN n → l'[64 * halfFrom n gen + p]? = l[64 * halfFrom n gen + p]?) : half l' gen = half l gen := by
  apply List.ext_getElem?
  intro p
  rw [half_get hl, half_get hl']
  split
  · rename_i hp; exact h p hp
  · rfl
theorem half_spl {l : List UInt8} {n gen o : Nat} {m : List UInt8} (hl : l.length = 64 * n) (h2 : 2 ≤ n) (hm : o + m.length ≤ 64 * halfN n) : half (spl l (64 * halfFrom n gen + o) m) gen = spl (half l gen) o m := by
  have h1 := half_le n gen h2
  have hs : (spl l (64 * halfFrom n gen + o) m).length = 64 * n := by rw [spl_length _ _ _ (by omega)]; exact hl
  apply List.ext_getElem?
  intro p
  rw [half_get hs, spl_get _ _ _ (by omega), spl_get _ _ _ (by rw [half_len hl h2]; omega), half_get hl]
  by_cases hp : o ≤ p ∧ p < o + m.length
  · rw [if_pos hp, if_pos (by omega), if_pos (by omega)]
    congr 1
    omega
  · rw [if_neg hp]
    split
    · rw [if_neg (by omega)]
    · rfl
theorem half_other {n gen : Nat} (h2 : 2 ≤ n) (p q : Nat) (hp : p < 64 * halfN n) (hq : q < 64 * halfN n) : 64 * halfFrom n gen + p ≠ 64 * halfFrom n (gen + 1) + q := by
  unfold halfFrom
  obtain ⟨h, hh⟩ : ∃ h, h = halfN n := ⟨_, rfl⟩
  rw [← hh] at hp hq ⊢
  have : gen % 2 = 0 ∧ (gen + 1) % 2 = 1 ∨ gen % 2 = 1 ∧ (gen + 1) % 2 = 0 := by omega
  rcases this with ⟨a, b⟩ | ⟨a, b⟩ <;> rw [a, b] <;> omega
theorem halfFrom_ge (n gen : Nat) : 2 ≤ halfFrom n gen := by unfold halfFrom; omega
/-! ### Records -/
theorem Rec.total {gen : Nat} {h : List UInt8} {a en : Nat} {ls : List (List UInt8)} (r : Rec gen h a ls en) : en = a + total ls := by
  induction r with
  | nil a => simp [Lg.total]
  | @cons a n en ls ht hr ih =>
    obtain ⟨_, _, h3, h4, _⟩ := there_some ht
    have hl : ((h.drop (a + 6)).take n).length = n := by rw [List.length_take, List.length_drop]; omega
    rw [ih]
    simp only [Lg.total, List.map_cons, List.sum_cons, hl]
    omega
theorem Rec.long {gen : Nat} {h : List UInt8} {a en : Nat} {ls : List (List UInt8)} (r : Rec gen h a ls en) : ∀ b ∈ ls, 1 ≤ b.length ∧ b.length ≤ 65535 := by
  induction r with
  | nil a => simp
  | @cons a n en ls ht hr ih =>
    obtain ⟨h1, h2, h3, h4, _⟩ := there_some ht
    intro b hb
    rcases List.mem_cons.1 hb with rfl | hb
    · have hl : ((h.drop (a + 6)).take n).length = n := by rw [List.length_take, List.length_drop]; omega
      rw [hl]
      refine ⟨h3, ?_⟩
      have := num_lt ((h.drop a).take 2)
      rw [← h2, List.length_take, List.length_drop] at this
      have h5 : 256 ^ min 2 (h.length - a) ≤ 256 ^ 2 := Nat.pow_le_pow_right (by decide) (by omega)
      omega
    · exact ih b hb
/-- A record appended, and behind it nothing. -/
theorem records_snoc {gen en T : Nat} {h b : List UInt8} {ls : List (List UInt8)} (hr : records gen h = (ls, en)) (h1 : 1 ≤ b.length) (h2 : b.length ≤ 65535) (hfit : en + (b.length + 6) ≤ h.length) (hT : T = min 2 (h.length - en - (b.length + 6))) :
    records gen (spl h en (record gen en b ++ List.replicate T 0)) = (ls ++ [b], en + (b.length + 6)) := by
  obtain ⟨r, -⟩ := records_rec hr
  obtain ⟨h', hh⟩ : ∃ h', h' = spl h en (record gen en b ++ List.replicate T 0) := ⟨_, rfl⟩
  have hml : (record gen en b ++ List.replicate T 0).length = b.length + 6 + T := by rw [List.length_append, record_len, List.length_replicate]
  have hl' : h'.length = h.length := by rw [hh, spl_length _ _ _ (by rw [hml]; omega)]
  have hst : h'.take en = h.take en := by
    rw [hh]
    unfold spl
    rw [List.append_assoc, List.take_append_of_le_length (by rw [List.length_take]; omega), List.take_take, Nat.min_self]
  have r1 := r.same (Nat.le_refl _) hl' hst
  have hd : h'.drop en = record gen en b ++ (List.replicate T 0 ++ h.drop (en + (b.length + 6 + T))) := by
    rw [hh]
    unfold spl
    rw [hml, List.append_assoc, List.drop_append, List.length_take, Nat.min_eq_left (by omega), List.drop_eq_nil_of_le (by rw [List.length_take]; omega), Nat.sub_self, List.drop_zero, List.nil_append, List.append_assoc]
  obtain ⟨ht, hb⟩ := there_record hd h1 h2
  have r2 := r1.snoc ht
  rw [hb] at r2
  rw [← hh, show en + (b.length + 6) = en + 6 + b.length from by omega]
  refine records_end r2 ?_
  by_cases hT2 : T = 2
  · refine there_zero (rest := h.drop (en + (b.length + 6 + T))) ?_
    rw [show en + 6 + b.length = en + (b.length + 6) from by omega, ← List.drop_drop, hd, List.drop_append, record_len, Nat.sub_self, List.drop_zero, List.drop_eq_nil_of_le (by rw [record_len]; omega), List.nil_append, hT2]
    rfl
  · exact there_end (by rw [hl']; omega)
/-- Records that lie one behind the other are read. -/
theorem rec_recs {gen : Nat} {h : List UInt8} : ∀ (own : List (List UInt8)) (a : Nat) {rest : List UInt8}, h.drop a = recs gen a own ++ rest → (∀ b ∈ own, 1 ≤ b.length ∧ b.length ≤ 65535) → Rec gen h a own (a + total own)
  | [], a, rest, _, _ => by simpa [total] using Rec.nil (gen := gen) (h := h) a
  | b :: r, a, rest, hd, hb => by
    rw [recs, List.append_assoc] at hd
    obtain ⟨ht, he⟩ := there_record hd (hb b (by simp)).1 (hb b (by simp)).2
    have hd2 : h.drop (a + (b.length + 6)) = recs gen (a + (b.length + 6)) r ++ rest := by
      rw [← List.drop_drop, hd, List.drop_append, record_len, Nat.sub_self, List.drop_zero, List.drop_eq_nil_of_le (by rw [record_len]; omega), List.nil_append]
    have ih := rec_recs r (a + (b.length + 6)) hd2 fun x hx => hb x (by simp [hx])
    have e1 : a + (b.length + 6) = a + 6 + b.length := by omega
    have e2 : a + (b.length + 6) + total r = a + total (b :: r) := by simp [total]; omega
    rw [e2, e1] at ih
    have := Rec.cons ht ih
    rw [he] at this
    exact this
theorem records_recs {gen : Nat} {own : List (List UInt8)} {h : List UInt8} (hh : h = recs gen 0 own ++ List.replicate (h.length - total own) 0) (hfit : total own ≤ h.length) (hb : ∀ b ∈ own, 1 ≤ b.length ∧ b.length ≤ 65535) : records gen h = (own, total own) := by
  have r := rec_recs (gen := gen) (h := h) own 0 (rest := List.replicate (h.length - total own) 0) (by rw [List.drop_zero]; exact hh) hb
  rw [Nat.zero_add] at r
  refine records_end r ?_
  by_cases h2 : total own + 2 ≤ h.length
  · obtain ⟨k, hk⟩ : ∃ k, h.length - total own = k + 2 := ⟨h.length - total own - 2, by omega⟩
    refine there_zero (rest := List.replicate k 0) ?_
    have : h.drop (total own) = (recs gen 0 own ++ List.replicate (h.length - total own) 0).drop (total own) := by rw [← hh]
    rw [this, List.drop_append, recs_len, Nat.sub_self, List.drop_zero, List.drop_eq_nil_of_le (by rw [recs_len]; omega), List.nil_append, hk]
    rfl
  · exact there_end (by omega)
end Lg
end Go.Proofs.YtepgmebklhemgaaGreatDoor
/- The file behind an append and behind a restart: its generation and its records, the power gone in between or not. -/
set_option linter.unusedVariables false
set_option linter.unusedSimpArgs false
namespace Go.Proofs.YtepgmebklhemgaaGreatDoor
open Go.RowKit Wd
/-- The bytes that put writes anew at a restart. -/
def Lg.reX (N gen : Nat) (own : List (List UInt8)) : List UInt8 := Lg.recs (gen + 1) 0 own ++ List.replicate (N - Lg.total own) 0
/-- The file behind a restart. -/
def Lg.reF (F : FM) (gen : Nat) (own : List (List UInt8)) : FM :=
  { (putAll (Lg.halfFrom F.n (gen + 1)) 0 (Lg.recs (gen + 1) 0 own ++ List.replicate (64 * Lg.halfN F.n - Lg.total own) 0) F).write ((gen + 1) % 2) (Lg.head (gen + 1)) with pend := [] }
/-- What stays of a file's state at each step of the log's. -/
structure FM.Kept (F F' : FM) : Prop where
  set : F.set = false → F'.set = false ∧ F'.off = false
  pend : F'.pend = []
  n : F'.n = F.n
  len : F'.l.length = F.l.length
namespace Lg
theorem reX_len {N gen : Nat} {own : List (List UInt8)} (h : total own ≤ N) : (reX N gen own).length = N := by
  unfold reX
  rw [List.length_append, recs_len, List.length_replicate]
  omega
section
variable {F : FM} {gen en : Nat} {ls : List (List UInt8)} {b : List UInt8}
/-- The file with the record, all of it written. -/
def appL (l : List UInt8) (n gen en : Nat) (b : List UInt8) : List UInt8 := spl l (64 * halfFrom n gen + en) (record gen en b ++ List.replicate (min 2 (64 * halfN n - en - (b.length + 6))) 0)
theorem appM_len {n gen en : Nat} {b : List UInt8} (hfit : en + (b.length + 6) ≤ 64 * halfN n) : (record gen en b ++ List.replicate (min 2 (64 * halfN n - en - (b.length + 6))) 0).length = b.length + 6 + min 2 (64 * halfN n - en - (b.length + 6)) := by
  rw [List.length_append, record_len, List.length_replicate]
theorem appL_get {l : List UInt8} {n p : Nat} (hl : l.length = 64 * n) (h2 : 2 ≤ n) (hfit : en + (b.length + 6) ≤ 64 * halfN n) (hp : p < 64 * halfFrom n gen + en) : (appL l n gen en b)[p]? = l[p]? := by
  have h1 := half_le n gen h2
  have h3 := appM_len (gen := gen) hfit
  unfold appL
  rw [spl_get _ _ _ (by rw [h3]; omega), if_neg (by omega)]
theorem appL_len {l : List UInt8} {n : Nat} (hl : l.length = 64 * n) (h2 : 2 ≤ n) (hfit : en + (b.length + 6) ≤ 64 * halfN n) : (appL l n gen en b).length = 64 * n := by
  have h1 := half_le n gen h2
  have h3 := appM_len (gen := gen) hfit
  unfold appL
  rw [spl_length _ _ _ (by rw [h3]; omega)]
  exact hl
theorem appF_l (hlen : F.l.length = 64 * F.n) (h2 : 2 ≤ F.n) (hoff : F.off = false) (hfit : en + (b.length + 6) ≤ 64 * halfN F.n) :
    F.Kept (appF F gen en b) ∧ ((appF F gen en b).off = false ∧ (appF F gen en b).l = appL F.l F.n gen en b ∨ (appF F gen en b).off = true ∧ Mixed F.l (appL F.l F.n gen en b) (appF F gen en b).l) := by
  have h1 := half_le F.n gen h2
  have h3 := appM_len (gen := gen) hfit
  obtain ⟨a1, a2, a3, a4, a5, a6⟩ := putAll_l (F := F) (fr := halfFrom F.n gen) (at_ := en) (b := record gen en b ++ List.replicate (min 2 (64 * halfN F.n - en - (b.length + 6))) 0) hlen (by rw [h3]; omega) (by rw [h3]; omega) hoff
  exact ⟨⟨a1, a3, a4, a5⟩, a6⟩
theorem mixed_low {A G l : List UInt8} (h : Mixed A G l) {q : Nat} (hG : ∀ p, p < q → G[p]? = A[p]?) : ∀ p, p < q → l[p]? = A[p]? := fun p hp => by
  rcases h.2 p with h1 | h1
  · exact h1
  · rw [h1, hG p hp]
theorem app_gen {l l' : List UInt8} {n : Nat} (h : ∀ p, p < 64 * halfFrom n gen + en → l'[p]? = l[p]?) : generation l' = generation l ∧ ∀ i, i < 2 → blk l' i = blk l i := by
  have h1 := halfFrom_ge n gen
  exact ⟨generation_same fun p hp => h p (by omega), fun i hi => blk_same (fun p hp => h p (by omega)) i hi⟩
theorem app_rec {l : List UInt8} {n : Nat} (hl : l.length = 64 * n) (h2 : 2 ≤ n) (hr : records gen (half l gen) = (ls, en)) (h1 : 1 ≤ b.length) (h3 : b.length ≤ 65535) (hfit : en + (b.length + 6) ≤ 64 * halfN n) :
    records gen (half (appL l n gen en b) gen) = (ls ++ [b], en + (b.length + 6)) := by
  unfold appL
  rw [half_spl hl h2 (by rw [appM_len hfit]; omega)]
  exact records_snoc hr h1 h3 (by rw [half_len hl h2]; exact hfit) (by rw [half_len hl h2])
theorem app_mix {l l' : List UInt8} {n : Nat} (hl : l.length = 64 * n) (hl' : l'.length = 64 * n) (h2 : 2 ≤ n) (hr : records gen (half l gen) = (ls, en)) (h : ∀ p, p < 64 * halfFrom n gen + en → l'[p]? = l[p]?) :
    ∃ more e2, records gen (half l' gen) = (ls ++ more, e2) := by
  obtain ⟨r, -⟩ := records_rec hr
  refine records_more (r.same (Nat.le_refl _) (by rw [half_len hl h2, half_len hl' h2]) ?_)
  apply List.ext_getElem?
  intro p
  rw [List.getElem?_take, List.getElem?_take]
  split
  · rw [half_get hl', half_get hl]
    split
    · exact h _ (by omega)
    · rfl
  · rfl
/-! ### Restart -/
/-- The file with the new half; with the new head, so many bytes of it. -/
def reL1 (l : List UInt8) (n gen : Nat) (own : List (List UInt8)) : List UInt8 := spl l (64 * halfFrom n (gen + 1)) (reX (64 * halfN n) gen own)
def reL (l : List UInt8) (n gen : Nat) (own : List (List UInt8)) (t : Nat) : List UInt8 := spl (reL1 l n gen own) (64 * ((gen + 1) % 2)) ((head (gen + 1)).take t)
variable {own : List (List UInt8)}
theorem reF_l (hlen : F.l.length = 64 * F.n) (h6 : 6 ≤ F.n) (hoff : F.off = false) (ht : F.torn ≤ 64) (hfit : total own ≤ 64 * halfN F.n) :
    F.Kept (reF F gen own) ∧ ((reF F gen own).off = false ∧ (reF F gen own).l = reL F.l F.n gen own 64 ∨ (reF F gen own).off = true ∧ Mixed F.l (reL1 F.l F.n gen own) (reF F gen own).l ∨ (reF F gen own).off = true ∧ ∃ t, t ≤ 64 ∧ (reF F gen own).l = reL F.l F.n gen own t) := by
  have h1 := half_le F.n (gen + 1) (by omega)
  have h2 := halfFrom_ge F.n (gen + 1)
  have h3 := reX_len (gen := gen) hfit
  have h4 : 2 ≤ halfN F.n := by unfold halfN; omega
  obtain ⟨a1, a2, a3, a4, a5, a6⟩ := putAll_l (F := F) (fr := halfFrom F.n (gen + 1)) (at_ := 0) (b := reX (64 * halfN F.n) gen own) hlen (by rw [h3]; omega) (by rw [h3]; omega) hoff
  have hl1 : spl F.l (64 * halfFrom F.n (gen + 1) + 0) (reX (64 * halfN F.n) gen own) = reL1 F.l F.n gen own := rfl
  rw [hl1] at a6
  have hX : reF F gen own = { (putAll (halfFrom F.n (gen + 1)) 0 (reX (64 * halfN F.n) gen own) F).write ((gen + 1) % 2) (head (gen + 1)) with pend := [] } := rfl
  rw [hX]
  obtain ⟨J, hJ⟩ : ∃ J, J = putAll (halfFrom F.n (gen + 1)) 0 (reX (64 * halfN F.n) gen own) F := ⟨_, rfl⟩
  rw [← hJ] at a1 a2 a3 a4 a5 a6 ⊢
  have hg := Nat.mod_lt (gen + 1) (by decide : 0 < 2)
  have hspl : ∀ m : List UInt8, m.length ≤ 64 → (spl J.l (64 * ((gen + 1) % 2)) m).length = J.l.length := fun m hm => spl_length _ _ _ (by omega)
  have hhl := head_len (gen + 1)
  rcases a6 with ⟨h5, h6'⟩ | ⟨h5, h6'⟩
  · unfold FM.write
    rw [if_neg (by rw [h5]; decide)]
    split
    · rename_i hs
      simp only [Bool.and_eq_true] at hs
      have hs' : ¬ F.set = false := fun h => by have := (a1 h).1; rw [hs.1] at this; cases this
      refine ⟨⟨fun h => absurd h hs', rfl, a4, ?_⟩, .inr (.inr ⟨rfl, J.torn.toNat, by rw [a2]; omega, ?_⟩)⟩
      · show (spl J.l _ _).length = _
        rw [hspl _ (by rw [List.length_take]; omega), a5]
      · show spl J.l _ _ = _
        rw [h6']
        rfl
    · refine ⟨⟨fun h => ⟨(a1 h).1, h5⟩, rfl, a4, ?_⟩, .inl ⟨h5, ?_⟩⟩
      · show (spl J.l _ _).length = _
        rw [hspl _ (by omega), a5]
      · show spl J.l _ _ = _
        rw [h6']
        unfold reL
        rw [List.take_of_length_le (by omega)]
  · unfold FM.write
    rw [if_pos h5]
    exact ⟨⟨a1, rfl, a4, a5⟩, .inr (.inl ⟨h5, h6'⟩)⟩
section
variable {l : List UInt8} {n : Nat}
theorem reL1_len (hl : l.length = 64 * n) (h6 : 6 ≤ n) (hfit : total own ≤ 64 * halfN n) : (reL1 l n gen own).length = 64 * n := by
  have h1 := half_le n (gen + 1) (by omega)
  unfold reL1
  rw [spl_length _ _ _ (by rw [reX_len hfit]; omega)]
  exact hl
theorem reL1_get (hl : l.length = 64 * n) (h6 : 6 ≤ n) (hfit : total own ≤ 64 * halfN n) (p : Nat) (hp : p < 128 ∨ ∃ q, q < 64 * halfN n ∧ p = 64 * halfFrom n gen + q) : (reL1 l n gen own)[p]? = l[p]? := by
  have h1 := half_le n (gen + 1) (by omega)
  have h2 := halfFrom_ge n (gen + 1)
  have h3 := reX_len (gen := gen) hfit
  unfold reL1
  rw [spl_get _ _ _ (by rw [h3]; omega), h3]
  refine if_neg fun h => ?_
  rcases hp with hp | ⟨q, hq, rfl⟩
  · omega
  · exact half_other (n := n) (gen := gen) (by omega) q (64 * halfFrom n gen + q - 64 * halfFrom n (gen + 1)) hq (by omega) (by omega)
theorem reL_len (hl : l.length = 64 * n) (h6 : 6 ≤ n) (hfit : total own ≤ 64 * halfN n) (t : Nat) : (reL l n gen own t).length = 64 * n := by
  have hg := Nat.mod_lt (gen + 1) (by decide : 0 < 2)
  unfold reL
  rw [spl_length _ _ _ (by rw [reL1_len hl h6 hfit, List.length_take, head_len]; omega), reL1_len hl h6 hfit]
theorem reL_get (hl : l.length = 64 * n) (h6 : 6 ≤ n) (hfit : total own ≤ 64 * halfN n) (t p : Nat) (hp : p < 64 * ((gen + 1) % 2) ∨ 64 * ((gen + 1) % 2) + 64 ≤ p) : (reL l n gen own t)[p]? = (reL1 l n gen own)[p]? := by
  have hg := Nat.mod_lt (gen + 1) (by decide : 0 < 2)
  have hm : ((head (gen + 1)).take t).length ≤ 64 := by rw [List.length_take, head_len]; omega
  unfold reL
  rw [spl_get _ _ _ (by rw [reL1_len hl h6 hfit]; omega), if_neg (by omega)]
/-- The half that counts stays. -/
theorem reL_half (hl : l.length = 64 * n) (h6 : 6 ≤ n) (hfit : total own ≤ 64 * halfN n) (t : Nat) : half (reL l n gen own t) gen = half l gen := by
  have h2 := halfFrom_ge n gen
  refine half_same hl (reL_len hl h6 hfit t) fun p hp => ?_
  rw [reL_get hl h6 hfit t _ (by omega), reL1_get hl h6 hfit _ (.inr ⟨p, hp, rfl⟩)]
theorem mix_half {l' : List UInt8} (hl : l.length = 64 * n) (h6 : 6 ≤ n) (hfit : total own ≤ 64 * halfN n) (hm : Mixed l (reL1 l n gen own) l') : generation l' = generation l ∧ half l' gen = half l gen := by
  have hx : ∀ p, (p < 128 ∨ ∃ q, q < 64 * halfN n ∧ p = 64 * halfFrom n gen + q) → l'[p]? = l[p]? := fun p hp => by
    rcases hm.2 p with h | h
    · exact h
    · rw [h, reL1_get hl h6 hfit p hp]
  exact ⟨generation_same fun p hp => hx p (.inl hp), half_same hl (by rw [hm.1]; exact hl) fun p hp => hx _ (.inr ⟨p, hp, rfl⟩)⟩
/-- The new half is all there. -/
theorem reL_new (hl : l.length = 64 * n) (h6 : 6 ≤ n) (hfit : total own ≤ 64 * halfN n) (t : Nat) (hb : ∀ b ∈ own, 1 ≤ b.length ∧ b.length ≤ 65535) : records (gen + 1) (half (reL l n gen own t) (gen + 1)) = (own, total own) := by
  have h1 := half_le n (gen + 1) (by omega)
  have h2 := halfFrom_ge n (gen + 1)
  have h3 := reX_len (gen := gen) hfit
  have he : half (reL l n gen own t) (gen + 1) = reX (64 * halfN n) gen own := by
    apply List.ext_getElem?
    intro p
    rw [half_get (reL_len hl h6 hfit t)]
    split
    · rename_i hp
      rw [reL_get hl h6 hfit t _ (by omega)]
      unfold reL1
      rw [spl_get _ _ _ (by rw [h3]; omega), if_pos (by omega), Nat.add_sub_cancel_left]
    · rename_i hp
      rw [List.getElem?_eq_none (by rw [h3]; omega)]
  rw [he]
  refine records_recs ?_ (by rw [h3]; exact hfit) hb
  rw [h3]
  rfl
/-- The other head stays; this one begins with t bytes of the new one. -/
theorem reL_other (hl : l.length = 64 * n) (h6 : 6 ≤ n) (hfit : total own ≤ 64 * halfN n) (t i : Nat) (hi : i < 2) (hne : i ≠ (gen + 1) % 2) : blk (reL l n gen own t) i = blk l i := by
  have hg := Nat.mod_lt (gen + 1) (by decide : 0 < 2)
  unfold blk
  apply List.ext_getElem?
  intro k
  rw [List.getElem?_take, List.getElem?_take]
  split
  · rw [List.getElem?_drop, List.getElem?_drop, reL_get hl h6 hfit t _ (by omega), reL1_get hl h6 hfit _ (.inl (by omega))]
  · rfl
theorem reL_this (hl : l.length = 64 * n) (h6 : 6 ≤ n) (hfit : total own ≤ 64 * halfN n) (t : Nat) (ht : t ≤ 64) : blk (reL l n gen own t) ((gen + 1) % 2) = (head (gen + 1)).take t ++ (blk l ((gen + 1) % 2)).drop t := by
  have hg := Nat.mod_lt (gen + 1) (by decide : 0 < 2)
  have hm : ((head (gen + 1)).take t).length = t := by rw [List.length_take, head_len]; omega
  apply List.ext_getElem?
  intro k
  unfold blk
  rw [List.getElem?_take]
  by_cases hk : k < 64
  · rw [if_pos hk, List.getElem?_drop]
    unfold reL
    rw [spl_get _ _ _ (by rw [reL1_len hl h6 hfit]; omega), hm]
    by_cases hkt : k < t
    · rw [if_pos (by omega), List.getElem?_append_left (by omega), Nat.add_sub_cancel_left]
    · rw [if_neg (by omega), List.getElem?_append_right (by omega), hm, List.getElem?_drop, List.getElem?_take, if_pos (by omega), List.getElem?_drop, reL1_get hl h6 hfit _ (.inl (by omega))]
      congr 1
      omega
  · rw [if_neg hk, List.getElem?_append_right (by omega), hm, List.getElem?_drop, List.getElem?_take, if_neg (by omega)]
theorem hv_gen (l : List UInt8) (i : Nat) (hi : i < 2) : hv (blk l i) ≤ generation l := by
  rw [generation_hv]
  have : i = 0 ∨ i = 1 := by omega
  rcases this with rfl | rfl
  · exact Nat.le_max_left _ _
  · exact Nat.le_max_right _ _
theorem generation_two (l : List UInt8) (g : Nat) : generation l = max (hv (blk l (g % 2))) (hv (blk l ((g + 1) % 2))) := by
  rw [generation_hv]
  have : g % 2 = 0 ∧ (g + 1) % 2 = 1 ∨ g % 2 = 1 ∧ (g + 1) % 2 = 0 := by omega
  rcases this with ⟨a, b⟩ | ⟨a, b⟩
  · rw [a, b]
  · rw [a, b, Nat.max_comm]
theorem par_ne (g : Nat) : g % 2 ≠ (g + 1) % 2 := by omega
/-- Behind the whole restart. -/
theorem re_gen (hl : l.length = 64 * n) (h6 : 6 ≤ n) (hfit : total own ≤ 64 * halfN n) (hg : generation l = gen) (hlt : gen + 1 < 18446744073709551616) : generation (reL l n gen own 64) = gen + 1 := by
  rw [generation_two _ gen, reL_other hl h6 hfit 64 _ (Nat.mod_lt _ (by decide)) (par_ne gen), reL_this hl h6 hfit 64 (Nat.le_refl _), List.take_of_length_le (by rw [head_len]; omega), List.drop_eq_nil_of_le (by unfold blk; rw [List.length_take]; omega), List.append_nil, hv_head _ hlt]
  have := hv_gen l (gen % 2) (Nat.mod_lt _ (by decide))
  omega
/-- Heads as a fresh file's log has them. -/
structure Heads (l : List UInt8) (gen : Nat) : Prop where
  this : hv (blk l (gen % 2)) = gen
  num : ∀ i, i < 2 → num ((blk l i).take 8) ≤ gen
  small : gen < 255
theorem Heads.same {l' : List UInt8} (h : Heads l gen) (hb : ∀ i, i < 2 → blk l' i = blk l i) : Heads l' gen :=
  ⟨by rw [hb _ (Nat.mod_lt _ (by decide))]; exact h.this, fun i hi => by rw [hb i hi]; exact h.num i hi, h.small⟩
theorem head_take8 (g : Nat) : (head g).take 8 = be g 8 := by
  unfold head
  rw [List.append_assoc, List.take_append_of_le_length (by rw [be_len]; omega), List.take_of_length_le (by rw [be_len]; omega)]
theorem Heads.re (h : Heads l gen) (hl : l.length = 64 * n) (h6 : 6 ≤ n) (hfit : total own ≤ 64 * halfN n) (hs : gen + 1 < 255) : Heads (reL l n gen own 64) (gen + 1) := by
  have ht : blk (reL l n gen own 64) ((gen + 1) % 2) = head (gen + 1) := by
    rw [reL_this hl h6 hfit 64 (Nat.le_refl _), List.take_of_length_le (by rw [head_len]; omega), List.drop_eq_nil_of_le (by unfold blk; rw [List.length_take]; omega), List.append_nil]
  refine ⟨by rw [ht]; exact hv_head _ (by omega), fun i hi => ?_, hs⟩
  by_cases hi2 : i = (gen + 1) % 2
  · subst hi2
    rw [ht, head_take8, num_be _ _ (by omega)]
    exact Nat.le_refl _
  · rw [reL_other hl h6 hfit 64 i hi hi2]
    have := h.num i hi
    omega
/-- A number below 256 in eight bytes: seven noughts ahead. -/
theorem num_small : ∀ (k : List UInt8) (c : UInt8), num (k ++ [c]) < 256 → k = List.replicate k.length 0 := by
  intro k c h
  rw [num_snoc] at h
  have h0 : num k = 0 := by omega
  clear h c
  induction hk : k.length generalizing k with
  | zero => simpa using hk
  | succ m ih =>
    obtain ⟨a, x, rfl⟩ : ∃ a x, k = a ++ [x] := ⟨k.dropLast, k.getLast (by rintro rfl; simp at hk), (List.dropLast_concat_getLast _).symm⟩
    rw [num_snoc] at h0
    rw [List.length_append] at hk
    have := ih a (by omega) (by simpa using hk)
    have hx : x = 0 := UInt8.toNat_inj.1 (by show x.toNat = 0; omega)
    rw [this, hx, List.replicate_succ']
theorem be8_small (g : Nat) (hg : g < 256) : (be g 8).take 7 = List.replicate 7 0 := by
  have h := num_be g 8 (by omega)
  have e : be g 8 = be (g / 256) 7 ++ [UInt8.ofNat g] := be_succ g 7
  rw [e] at h ⊢
  have h2 := num_small _ _ (by rw [h]; exact hg)
  rw [be_len] at h2
  rw [List.take_append_of_le_length (by rw [be_len]; omega), List.take_of_length_le (by rw [be_len]; omega)]
  exact h2
theorem take7_small {k : List UInt8} (hk : k.length = 8) (h : num k < 256) : k.take 7 = List.replicate 7 0 := by
  obtain ⟨a, x, rfl⟩ : ∃ a x, k = a ++ [x] := ⟨k.dropLast, k.getLast (by rintro rfl; simp at hk), (List.dropLast_concat_getLast _).symm⟩
  have ha : a.length = 7 := by rw [List.length_append] at hk; simpa using hk
  have := num_small a x h
  rw [ha] at this
  rw [List.take_append_of_le_length (by omega), List.take_of_length_le (by omega)]
  exact this
/-- THE TORN HEAD: the old generation counts, or the new one does. -/
theorem re_torn (hl : l.length = 64 * n) (h6 : 6 ≤ n) (hfit : total own ≤ 64 * halfN n) (h : Heads l gen) (t : Nat) (ht : t ≤ 64) : generation (reL l n gen own t) = gen ∨ generation (reL l n gen own t) = gen + 1 := by
  have hs := h.small
  have hold := h.num ((gen + 1) % 2) (Nat.mod_lt _ (by decide))
  rw [generation_two _ gen, reL_other hl h6 hfit t _ (Nat.mod_lt _ (by decide)) (par_ne gen), h.this, reL_this hl h6 hfit t ht]
  have hbl : (blk l ((gen + 1) % 2)).length = 64 := by
    have hg := Nat.mod_lt (gen + 1) (by decide : 0 < 2)
    unfold blk
    rw [List.length_take, List.length_drop, hl]
    omega
  obtain ⟨o, ho⟩ : ∃ o, o = blk l ((gen + 1) % 2) := ⟨_, rfl⟩
  rw [← ho] at hold hbl ⊢
  have hnum : num (((head (gen + 1)).take t ++ o.drop t).take 8) = gen + 1 ∨ num (((head (gen + 1)).take t ++ o.drop t).take 8) ≤ gen := by
    by_cases ht8 : 8 ≤ t
    · refine .inl ?_
      rw [List.take_append_of_le_length (by rw [List.length_take, head_len]; omega), List.take_take, Nat.min_eq_left ht8, head_take8, num_be _ _ (by omega)]
    · refine .inr ?_
      have e1 : (head (gen + 1)).take t = o.take t := by
        have e2 : (head (gen + 1)).take 7 = List.replicate 7 0 := by
          have : (head (gen + 1)).take 7 = ((head (gen + 1)).take 8).take 7 := by rw [List.take_take]; rfl
          rw [this, head_take8]
          exact be8_small _ (by omega)
        have e3 : o.take 7 = List.replicate 7 0 := by
          have : o.take 7 = (o.take 8).take 7 := by rw [List.take_take]; rfl
          rw [this]
          exact take7_small (by rw [List.length_take]; omega) (by omega)
        have e4 : ∀ x : List UInt8, x.take t = (x.take 7).take t := fun x => by rw [List.take_take, Nat.min_eq_left (by omega)]
        rw [e4, e2, e4 o, e3]
      rw [e1, List.take_append_drop]
      exact hold
  have hle := hv_le ((head (gen + 1)).take t ++ o.drop t)
  unfold hv at hle ⊢
  split at hle
  · rename_i he
    rw [if_pos he]
    omega
  · rename_i he
    rw [if_neg he]
    omega
end
end
end Lg
end Go.Proofs.YtepgmebklhemgaaGreatDoor
