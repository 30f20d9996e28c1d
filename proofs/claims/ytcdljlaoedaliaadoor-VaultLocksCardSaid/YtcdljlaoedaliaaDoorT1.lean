/- Accounts in plain Lean. No program is in sight. -/
import Derived.Test.YtcdljlaoedaliaaDoorWd
import Derived.Test.YtcdljlaoedaliaaDoorRt
import Derived.Test.YtcdljlaoedaliaaDoorChecked
import Derived.Test.YtcdljlaoedaliaaDoorPt
import Derived.Test.YtcdljlaoedaliaaDoorSo
import Derived.Test.YtcdljlaoedaliaaDoorBk
import Derived.Test.YtcdljlaoedaliaaDoorAg
import Derived.Deep.DeepCutAuto
import Derived.Test.YtcdljlaoedaliaaDoorWk
import Derived.Shelf.Abstract
import Derived.Lib.SliceRun
set_option linter.unusedVariables false
set_option linter.unusedSimpArgs false
namespace Go.Proofs.YtcdljlaoedaliaaDoor
namespace Va
structure Acc where
  t : Nat
  salt : List UInt8
  tag : List UInt8
  off : Bool
  hs : salt.length = 16
  ht : tag.length = 32
deriving DecidableEq
/-- The first k may be. -/
def good (l : List Acc) (k : Nat) : Prop := ∀ j, j < k → (h : j < l.length) → l[j].t ≠ 0 ∧ (0 < j → (l[j - 1]'(by omega)).t < l[j].t)
def May (l : List Acc) : Prop := good l l.length ∧ l.length ≤ 64
theorem good_zero (l : List Acc) : good l 0 := fun j hj => absurd hj (Nat.not_lt_zero j)
theorem good_succ {l : List Acc} {k : Nat} (h : good l k) (hk : k < l.length) (h1 : l[k].t ≠ 0) (h2 : 0 < k → (l[k - 1]'(by omega)).t < l[k].t) : good l (k + 1) := fun j hj hl => by
  rcases Nat.lt_or_ge j k with h3 | h3
  · exact h j h3 hl
  · obtain rfl : j = k := by omega
    exact ⟨h1, h2⟩
theorem good.bad1 {l : List Acc} {k : Nat} (hk : k < l.length) (h1 : l[k].t = 0) : ¬ good l l.length := fun h => (h k hk hk).1 h1
theorem good.bad2 {l : List Acc} {k : Nat} (hk : k < l.length) (h0 : 0 < k) (h1 : ¬ (l[k - 1]'(by omega)).t < l[k].t) : ¬ good l l.length := fun h => h1 ((h k hk hk).2 h0)
theorem good.pair {l : List Acc} (h : good l l.length) : l.Pairwise fun a b => a.t < b.t := by
  rw [List.pairwise_iff_getElem]
  intro i j hi hj hij
  obtain ⟨d, rfl⟩ : ∃ d, j = i + 1 + d := ⟨j - (i + 1), by omega⟩
  induction d with
  | zero => exact (h (i + 1) hj hj).2 (by omega)
  | succ d ih =>
    have h1 := (h (i + 1 + (d + 1)) hj hj).2 (by omega)
    exact Nat.lt_trans (ih (by omega) (by omega)) h1
theorem good_of {l : List Acc} (h1 : ∀ a ∈ l, a.t ≠ 0) (h2 : l.Pairwise fun a b => a.t < b.t) : good l l.length := fun j hj hl =>
  ⟨h1 _ (List.getElem_mem hl), fun h0 => List.pairwise_iff_getElem.1 h2 (j - 1) j (by omega) hl (by omega)⟩
theorem May.pair {l : List Acc} (h : May l) : l.Pairwise fun a b => a.t < b.t := h.1.pair
theorem May.ne {l : List Acc} (h : May l) : ∀ a ∈ l, a.t ≠ 0 := fun a ha => by
  obtain ⟨j, hj, rfl⟩ := List.getElem_of_mem ha
  exact (h.1 j hj hj).1
/-- Is there one of tenant t? -/
def has (t : Nat) (l : List Acc) : Bool := l.any fun a => a.t == t
/-- One more, in its place. -/
def put (a : Acc) (l : List Acc) : List Acc := l.takeWhile (fun x => decide (x.t < a.t)) ++ a :: l.dropWhile (fun x => decide (x.t < a.t))
/-- One in its place. -/
def swap (a : Acc) (l : List Acc) : List Acc := l.map fun x => if x.t = a.t then a else x
theorem takeWhile_at {l : List Acc} {t i : Nat} (ha : ∀ x ∈ l.take i, x.t < t) (hb : ∀ x ∈ l.drop i, ¬ x.t < t) : l.takeWhile (fun x => decide (x.t < t)) = l.take i ∧ l.dropWhile (fun x => decide (x.t < t)) = l.drop i := by
  have h1 : ∀ (a b : List Acc), (∀ x ∈ a, x.t < t) → (∀ x ∈ b, ¬ x.t < t) → (a ++ b).takeWhile (fun x => decide (x.t < t)) = a ∧ (a ++ b).dropWhile (fun x => decide (x.t < t)) = b := by
    intro a
    induction a with
    | nil =>
      intro b _ hb
      cases b with
      | nil => exact ⟨rfl, rfl⟩
      | cons y b =>
        have := hb y (by simp)
        simp [this]
    | cons y a ih =>
      intro b ha hb
      have h2 := ih b (fun x hx => ha x (by simp [hx])) hb
      have h3 := ha y (by simp)
      simp [h3, h2.1, h2.2]
  have h2 := h1 (l.take i) (l.drop i) ha hb
  rwa [List.take_append_drop] at h2
/-- Where a list is cut by t. -/
def Cut (t : Nat) (l : List Acc) (i : Nat) : Prop := i ≤ l.length ∧ (∀ x ∈ l.take i, x.t < t) ∧ ∀ x ∈ l.drop i, ¬ x.t < t
theorem Cut.has {t i : Nat} {l : List Acc} (h : Cut t l i) (hp : l.Pairwise fun a b => a.t < b.t) : has t l = true ↔ ∃ h : i < l.length, l[i].t = t := by
  unfold Va.has
  rw [List.any_eq_true]
  constructor
  · rintro ⟨a, ha, he⟩
    have he : a.t = t := by simpa using he
    obtain ⟨j, hj, rfl⟩ := List.getElem_of_mem ha
    rcases Nat.lt_trichotomy j i with h1 | h1 | h1
    · have h5 : j < (l.take i).length := by rw [List.length_take]; omega
      have hm := List.getElem_mem h5
      rw [List.getElem_take] at hm
      have := h.2.1 l[j] hm
      omega
    · subst h1
      exact ⟨hj, he⟩
    · have h2 := h.2.2 (l[i]'(by omega)) (by rw [List.drop_eq_getElem_cons (by omega)]; exact List.mem_cons_self)
      have h3 := List.pairwise_iff_getElem.1 hp i j (by omega) hj h1
      omega
  · rintro ⟨h1, h2⟩
    exact ⟨l[i], List.getElem_mem h1, by simpa using h2⟩
theorem Cut.put {a : Acc} {i : Nat} {l : List Acc} (h : Cut a.t l i) : put a l = l.take i ++ a :: l.drop i := by
  obtain ⟨h1, h2⟩ := takeWhile_at h.2.1 h.2.2
  unfold Va.put
  rw [h1, h2]
theorem Cut.swap {a : Acc} {i : Nat} {l : List Acc} (h : Cut a.t l i) (hp : l.Pairwise fun a b => a.t < b.t) (hi : i < l.length) (he : l[i].t = a.t) : swap a l = l.set i a := by
  unfold Va.swap
  apply List.ext_getElem
  · simp
  · intro j h1 h2
    rw [List.length_map] at h1
    rw [List.getElem_map, List.getElem_set]
    rcases Nat.lt_trichotomy j i with h3 | h3 | h3
    · have := List.pairwise_iff_getElem.1 hp j i h1 hi h3
      rw [if_neg (by omega), if_neg (by omega)]
    · subst h3
      rw [if_pos he, if_pos rfl]
    · have := List.pairwise_iff_getElem.1 hp i j hi h1 h3
      rw [if_neg (by omega), if_neg (by omega)]
end Va
end Go.Proofs.YtcdljlaoedaliaaDoor
/- Accounts in memory; numbers compared; vault.Check and the reference's May. -/
set_option linter.unusedVariables false
set_option linter.unusedSimpArgs false
namespace Go.Proofs.YtcdljlaoedaliaaDoor
open Go.RowKit Wd
open Va (Acc)
def ac (p : Acc) : List Value := .int .u64 (p.t : Int) :: (bv p.salt ++ (bv p.tag ++ [.bool p.off]))
def acs (l : List Acc) : List Value := l.flatMap ac
theorem ac_length (p : Acc) : (ac p).length = 50 := by
  unfold ac
  simp only [List.length_cons, List.length_append, bv_length, p.hs, p.ht, List.length_nil]
theorem acs_length (l : List Acc) : (acs l).length = l.length * 50 := by
  induction l with
  | nil => rfl
  | cons a l ih =>
    have h := ac_length a
    simp only [acs, List.flatMap_cons, List.length_append, List.length_cons] at ih ⊢
    omega
theorem acs_append (l m : List Acc) : acs (l ++ m) = acs l ++ acs m := by simp [acs]
theorem acs_at (l : List Acc) (j : Nat) (hj : j < l.length) : ((acs l).drop (j * 50)).take 50 = ac l[j] := by
  induction l generalizing j with
  | nil => simp at hj
  | cons a l ih =>
    have e1 : acs (a :: l) = ac a ++ acs l := rfl
    cases j with
    | zero =>
      rw [e1, Nat.zero_mul, List.drop_zero, List.take_append_of_le_length (by rw [ac_length]; omega), List.take_of_length_le (by rw [ac_length]; omega)]
      rfl
    | succ j =>
      rw [e1, show (j + 1) * 50 = (ac a).length + j * 50 from by rw [ac_length]; omega, List.drop_append, Nat.add_sub_cancel_left, List.drop_eq_nil_of_le (by omega), List.nil_append]
      exact ih j (by simpa using hj)
theorem ac_one (p : Acc) : ∀ u ∈ ac p, u.oneCell' = true := by
  intro u hu
  unfold ac at hu
  rcases List.mem_cons.1 hu with rfl | hu
  · rfl
  · rcases List.mem_append.1 hu with hu | hu
    · exact bv_one _ u hu
    · rcases List.mem_append.1 hu with hu | hu
      · exact bv_one _ u hu
      · obtain rfl := List.mem_singleton.1 hu
        rfl
theorem acs_one (l : List Acc) : ∀ u ∈ acs l, u.oneCell' = true := by
  intro u hu
  obtain ⟨p, -, hp⟩ := List.mem_flatMap.1 hu
  exact ac_one p u hp
theorem ac_t (p : Acc) : (ac p)[0]? = some (.int .u64 (p.t : Int)) := rfl
theorem ac_off (p : Acc) : (ac p)[49]? = some (.bool p.off) := by
  unfold ac
  rw [List.getElem?_cons_succ, List.getElem?_append_right (by rw [bv_length, p.hs]; omega), bv_length, p.hs, List.getElem?_append_right (by rw [bv_length, p.ht]; omega), bv_length, p.ht]
  rfl
theorem ac_salt (p : Acc) : ((ac p).drop 1).take 16 = bv p.salt := by
  unfold ac
  rw [List.drop_succ_cons, List.drop_zero, List.take_append_of_le_length (by rw [bv_length, p.hs]; omega), List.take_of_length_le (by rw [bv_length, p.hs]; omega)]
theorem ac_tag (p : Acc) : ((ac p).drop 17).take 32 = bv p.tag := by
  unfold ac
  rw [List.drop_succ_cons, List.drop_append, List.drop_eq_nil_of_le (by rw [bv_length, p.hs]; omega), bv_length, p.hs, Nat.sub_self, List.drop_zero, List.nil_append, List.take_append_of_le_length (by rw [bv_length, p.ht]; omega), List.take_of_length_le (by rw [bv_length, p.ht]; omega)]
theorem RA.at50 {w : World} {B : Option Addr} {l : List Acc} (h : RA w B (acs l)) (j : Nat) (hj : j < l.length) : ∃ b o, B = some ⟨b, o, none⟩ ∧ w.rangeAt b (o + j * 50) (ac l[j]) := by
  obtain ⟨b, o, rfl, _, hr⟩ := h (by intro h0; have := acs_length l; rw [h0] at this; simp at this; omega)
  refine ⟨b, o, rfl, fun k v hk => ?_⟩
  rw [← acs_at l j hj, List.getElem?_take] at hk
  split at hk
  · rw [List.getElem?_drop] at hk
    rw [Nat.add_assoc]
    exact hr _ v hk
  · cases hk
/-- The cells at A read so wherever F and M hold. -/
def SrA (w0 : World) (M : Mem) (F : List Ent) (A : Option Addr) (cs : List Value) : Prop := ∀ w' M', M.le M' → St w0 w' M' F → RA w' A cs
section
variable {w0 w : World} {M M' : Mem} {L : List Ent}
theorem SrA.cons {A : Option Addr} {cs : List Value} (h : SrA w0 M L A cs) (e : Ent) : SrA w0 M (e :: L) A cs := fun w' M' hM H => h w' M' hM H.d0
theorem SrA.le {A : Option Addr} {cs : List Value} (h : SrA w0 M L A cs) (hm : M.le M') : SrA w0 M' L A cs := fun w' M'' hM H => h w' M'' (hm.trans hM) H
theorem SrA.now {A : Option Addr} {cs : List Value} (h : SrA w0 M L A cs) (H : St w0 w M L) : RA w A cs := h w M (Mem.le.refl M) H
theorem SrA.row {e : TypeId} {sz n c : Nat} {A : Option Addr} {cs : List Value} (i : Nat) (hi : L[i]? = some (er e sz (.slice A n c) n cs)) : SrA w0 M L A cs := fun w' M' hM H => er_RA (H.get i hi)
theorem SrA.of_in {A : Option Addr} {cs : List Value} (h : In M (RA · A cs)) : SrA w0 M L A cs := fun w' M' hM H => (h.le hM).now H
/-- One account of a list, wherever F and M hold. -/
theorem SrA.at50 {b o : Nat} {l : List Acc} (h : SrA w0 M L (some ⟨b, o, none⟩) (acs l)) (j : Nat) (hj : j < l.length) : ∀ W, St w0 W M L → W.rangeAt b (o + j * 50) (ac l[j]) := fun W hW => by
  obtain ⟨b', o', he, hc⟩ := RA.at50 (h.now hW) j hj
  injection he with he
  injection he with h1 h2
  subst h1 h2
  exact hc
theorem Wd.In.oldRA {w0 w : World} {M : Mem} {L : List Ent} (H : St w0 w M L) {A : Option Addr} {cs : List Value} (hb : RA w0 A cs) : In M fun W => RA W A cs := fun W hW hl => by
  obtain ⟨b, o, rfl, hlt, hr⟩ := hb hl
  have he : W.heap[b]? = w0.heap[b]? := by
    have h1 := H.old b hlt
    rw [Array.getElem?_eq_getElem hlt] at h1 ⊢
    exact hW b _ h1
  refine ⟨b, o, rfl, ?_, fun j v hj => (World.cell?_of_block (w := w0) he).trans (hr j v hj)⟩
  rw [Array.getElem?_eq_getElem hlt] at he
  exact (Array.getElem?_eq_some_iff.1 he).1
theorem Tryd.sizeAcc : (Tryd.prog.info? 71).map (·.size) = some 50 := by kernel_rfl
def zeroAcc : List Value := .int .u64 0 :: (bv (List.replicate 16 0) ++ (bv (List.replicate 32 0) ++ [.bool false]))
theorem Tryd.infoAcc : (Tryd.prog.info? 71).map (fun i => (i.zero, i.size, i.bytes)) = some (some (.agg zeroAcc.toArray), 50, 64) := by kernel_rfl
/-- Numbers compared. -/
def ncmp (n m : Int) : Int := if n < m then -1 else if m < n then 1 else 0
theorem ncmp_cases (n m : Int) : (n < m ∧ ncmp n m = -1) ∨ (n = m ∧ ncmp n m = 0) ∨ (m < n ∧ ncmp n m = 1) := by
  unfold ncmp
  rcases Int.lt_trichotomy n m with h | h | h
  · exact .inl ⟨h, by simp [h]⟩
  · exact .inr (.inl ⟨h, by simp [h]⟩)
  · exact .inr (.inr ⟨h, by have : ¬ n < m := by omega
                            simp [h, this]⟩)
theorem isNaN_any (n : Int) (w : World) : Calls Tryd.prog 80 #[.int .u64 n] w fun e w' => e = .returned (.bool false) ∧ w = w' := by
  go_enter Tryd.func80, Tryd.ntmps80
  go_wp2
  go_ret
  simp
theorem ncmp_any (n m : Int) (w : World) : Calls Tryd.prog 60 #[.int .u64 n, .int .u64 m] w fun e w' => e = .returned (.int .i64 (ncmp n m)) ∧ w = w' := by
  have hc := ncmp_cases n m
  obtain ⟨R, hR⟩ : ∃ R, R = ncmp n m := ⟨_, rfl⟩
  rw [← hR] at hc ⊢
  clear hR
  go_enter Tryd.func60, Tryd.ntmps60
  go_wp2_with fail
  refine (isNaN_any n w).mono ?_
  rintro e w1 ⟨rfl, rfl⟩
  go_wp2_with fail
  refine (isNaN_any m w).mono ?_
  rintro e w1 ⟨rfl, rfl⟩
  rcases hc with ⟨h, rfl⟩ | ⟨h, rfl⟩ | ⟨h, rfl⟩
  · go_wp2
    go_ret
    exact ⟨rfl, rfl⟩
  · subst h
    go_wp2
    go_ret
    exact ⟨rfl, rfl⟩
  · have q : ¬ n < m := by omega
    go_wp2
    go_ret
    exact ⟨rfl, rfl⟩
/-- vault.find's closure. -/
theorem find1_any (H : St w0 w M L) (p : Acc) (t : Nat) : Calls Tryd.prog 59 #[.agg (ac p).toArray, .int .u64 (t : Int)] w fun e w' => e = .returned (.int .i64 (ncmp p.t t)) ∧ St w0 w' M L := by
  have H1 := H.new (ac p) 71
  have hl := ac_length p
  have c0 := H1.cell 0 rfl 0
  rw [ac_t] at c0
  have H2 := H1.d0
  obtain ⟨X, hX⟩ : ∃ X, X = ac p := ⟨_, rfl⟩
  rw [← hX] at H1 c0 H2 hl ⊢
  have HL := Lib.hid hl
  clear hX hl H H1
  go_enter Tryd.func59, Tryd.ntmps59
  go_wp2_with fail
  refine (ncmp_any _ _ _).mono ?_
  rintro e w1 ⟨rfl, rfl⟩
  go_wp2
  go_ret
  exact ⟨rfl, H2⟩
end
end Go.Proofs.YtcdljlaoedaliaaDoor
/- vault.Check and the reference's May. -/
set_option linter.unusedVariables false
set_option linter.unusedSimpArgs false
namespace Go.Proofs.YtcdljlaoedaliaaDoor
open Go.RowKit Wd
open Va (Acc)
theorem objAcc (t : TypeId) : Obj.cells zeroAcc.toArray t (0, 0) = .cells #[.int .u64 0, .int .u8 0, .int .u8 0, .int .u8 0, .int .u8 0, .int .u8 0, .int .u8 0, .int .u8 0, .int .u8 0, .int .u8 0, .int .u8 0, .int .u8 0, .int .u8 0, .int .u8 0, .int .u8 0, .int .u8 0, .int .u8 0, .int .u8 0, .int .u8 0, .int .u8 0, .int .u8 0, .int .u8 0, .int .u8 0, .int .u8 0, .int .u8 0, .int .u8 0, .int .u8 0, .int .u8 0, .int .u8 0, .int .u8 0, .int .u8 0, .int .u8 0, .int .u8 0, .int .u8 0, .int .u8 0, .int .u8 0, .int .u8 0, .int .u8 0, .int .u8 0, .int .u8 0, .int .u8 0, .int .u8 0, .int .u8 0, .int .u8 0, .int .u8 0, .int .u8 0, .int .u8 0, .int .u8 0, .int .u8 0, .bool false] t (0, 0) := rfl
/-- 0 where the list may be, 1 (ErrArg) else. -/
def RetCk (w0 : World) (M : Mem) (L : List Ent) (P : Prop) (e : Ending) (w' : World) : Prop := ((P ∧ e = .returned (.int .i64 0)) ∨ (¬ P ∧ e = .returned (.int .i64 1))) ∧ St w0 w' M L
def RetB (w0 : World) (M : Mem) (L : List Ent) (P : Prop) (e : Ending) (w' : World) : Prop := ∃ b, e = .returned (.bool b) ∧ (b = true ↔ P) ∧ St w0 w' M L
section
variable {w0 w : World} {M : Mem} {L : List Ent}
set_option maxRecDepth 100000 in
set_option maxHeartbeats 2000000 in
theorem vcheck_any (H : St w0 w M L) {A : Option Addr} {c n : Nat} {l : List Acc} (hn : n = l.length) (hn2 : n ≤ 1000000) (hl : SrA w0 M L A (acs l)) :
    Calls Tryd.prog 11 #[.slice A n c] w (RetCk w0 M L (Va.May l)) := by
  have HN := Lib.hid hn
  clear hn
  go_enter Tryd.func11, Tryd.ntmps11
  go_wp2
  go_loopw [7] (fun i wr => ∃ k : Nat, k ≤ n ∧ i = .int .i64 k ∧ Va.good l k ∧ St w0 wr M L) (fun i _ => n - (intOf i).toNat)
  case atStart => exact ⟨0, by omega, rfl, Va.good_zero l, H⟩
  case round =>
    obtain ⟨k, hk, rfl, hs, H1⟩ := hrel
    clear H
    have HS := Lib.hid hs
    clear hs
    by_cases hlt : k < n
    · have hk1 : k < l.length := by have := HN.out; omega
      obtain ⟨b, o, rfl, hrg⟩ := RA.at50 (hl.now H1) k hk1
      have H2 := H1.new zeroAcc 71
      obtain ⟨w2, hst, H3⟩ := run_store_st (P := Tryd.prog) H2 (cs := ac l[k]) (by rw [ac_length]; rfl) (ac_one _)
      have r1 : (k : Int) < (n : Int) := by omega
      have hXl := ac_length l[k]
      have hX0 := ac_t l[k]
      have hgo0 : k = 0 → l[k].t ≠ 0 → Va.good l (k + 1) := fun h0 h => Va.good_succ HS.out hk1 h (fun h1 => by omega)
      have hgo1 : ∀ h0 : 0 < k, l[k].t ≠ 0 → (l[k - 1]'(by omega)).t < l[k].t → Va.good l (k + 1) := fun h0 h h2 => Va.good_succ HS.out hk1 h (fun h1 => h2)
      have hno0 : l[k].t = 0 → ¬ Va.May l := fun h h2 => Va.good.bad1 hk1 h h2.1
      have hno1 : ∀ h0 : 0 < k, ¬ (l[k - 1]'(by omega)).t < l[k].t → ¬ Va.May l := fun h0 h h2 => Va.good.bad2 hk1 h0 h h2.1
      obtain ⟨X, hX⟩ : ∃ X, X = ac l[k] := ⟨_, rfl⟩
      obtain ⟨t, htt⟩ : ∃ t, t = l[k].t := ⟨_, rfl⟩
      rw [← hX] at hrg hst H3 hXl hX0
      rw [objAcc] at hst
      simp only [← htt] at hX0 hgo0 hgo1 hno0 hno1
      have HRG := Lib.hid hrg
      have HLT := Lib.hid hlt
      have HX0 := Lib.hid hX0
      by_cases h0 : k = 0
      · subst h0
        have HGO := Lib.hid (hgo0 rfl)
        have HNO := Lib.hid hno0
        clear hX htt hrg hlt hk1 hgo0 hgo1 hno0 hno1 hX0 H2
        go_wp2_with (refine wpList_load_mid (by rfl) 71 (.tmp 10) (by rfl) b (o + 0 * 50) (by rfl) X _ HRG.out Tryd.underlying71 rfl (by rw [hXl]; exact Tryd.sizeAcc) ?_)
        clear hst H1
        have H4 := H3.drew
        refine Pt.wp_plan (fun w' => St w0 w' M (eb wr.heap.size 71 X :: L)) (Pt.prs [0] (Pt.rds [1] (Pt.prs [2, 3, 4, 5, 6, 7, 9, 10, 11, 12, 13] (Pt.rds [8, 14] (Pt.prs [15, 16, 17] .fin))))) [] Tryd.mixed (by kernel_rfl) (fun _ _ d _ _ h => by cases d <;> exact h) H4 ?_
        clear H3
        simp only [Pt.toL, Pt.rds, Pt.prs, Pt.at_, List.drop_succ_cons, List.drop_zero]
        (refine Pt.pr_run (v := ?_) (by rfl) ?_ ?_; rotate_left; (focus (intro w'; go_simp; with_reducible rfl)); simp only [Act.put, List.setIfInBounds_toArray, List.set_cons_zero, List.set_cons_succ])
        (refine Pt.rd_run (v := ?_) (by rfl) ?_ ?_; rotate_left; (focus (intro w' hS; have c := hS.cell 0 rfl 0; rw [HX0.out] at c; go_simp; with_reducible rfl)); simp only [Act.put, List.setIfInBounds_toArray, List.set_cons_zero, List.set_cons_succ])
        by_cases ht : t = 0
        · subst ht
          iterate 2 (refine Pt.pr_run (v := ?_) (by rfl) ?_ ?_; rotate_left; (focus (intro w'; go_simp; with_reducible rfl)); simp only [Act.put, List.setIfInBounds_toArray, List.set_cons_zero, List.set_cons_succ])
          iterate 9 (refine Pt.pr_skip (by rfl) ?_; simp only [Act.put, List.setIfInBounds_toArray, List.set_cons_zero, List.set_cons_succ])
          iterate 2 (refine Pt.rd_skip (by rfl) ?_; simp only [Act.put, List.setIfInBounds_toArray, List.set_cons_zero, List.set_cons_succ])
          iterate 2 (refine Pt.pr_skip (by rfl) ?_; simp only [Act.put, List.setIfInBounds_toArray, List.set_cons_zero, List.set_cons_succ])
          (refine Pt.pr_run (v := ?_) (by rfl) ?_ ?_; rotate_left; (focus (intro w'; go_simp; with_reducible rfl)); simp only [Act.put, List.setIfInBounds_toArray, List.set_cons_zero, List.set_cons_succ])
          refine Pt.run_fin ?_
          go_wp2
          go_ret
          exact ⟨.inr ⟨HNO.out (by trivial), rfl⟩, H4.d0⟩
        · have q1 : ((t : Int) == 0) = false := by simp; omega
          have HT := Lib.hid ht
          clear ht
          iterate 5 (refine Pt.pr_run (v := ?_) (by rfl) ?_ ?_; rotate_left; (focus (intro w'; go_simp; with_reducible rfl)); simp only [Act.put, List.setIfInBounds_toArray, List.set_cons_zero, List.set_cons_succ])
          iterate 6 (refine Pt.pr_skip (by rfl) ?_; simp only [Act.put, List.setIfInBounds_toArray, List.set_cons_zero, List.set_cons_succ])
          iterate 2 (refine Pt.rd_skip (by rfl) ?_; simp only [Act.put, List.setIfInBounds_toArray, List.set_cons_zero, List.set_cons_succ])
          (refine Pt.pr_skip (by rfl) ?_; simp only [Act.put, List.setIfInBounds_toArray, List.set_cons_zero, List.set_cons_succ])
          iterate 2 (refine Pt.pr_run (v := ?_) (by rfl) ?_ ?_; rotate_left; (focus (intro w'; go_simp; with_reducible rfl)); simp only [Act.put, List.setIfInBounds_toArray, List.set_cons_zero, List.set_cons_succ])
          refine Pt.run_fin ?_
          go_wp2
          exact ⟨⟨1, by have := HLT.out; omega, rfl, HGO.out HT.out, H4.d0⟩, by have := HLT.out; simp [intOf]; omega⟩
      · obtain ⟨i, hi⟩ : ∃ i, i = k - 1 := ⟨_, rfl⟩
        have hk0 : 0 < k := by omega
        have hi1 : i < l.length := by omega
        have hs2 := hl.at50 i hi1
        have e1 : (k : Int) - 1 = (i : Int) := by omega
        have e2 : (0 : Int) < (k : Int) := by omega
        have wi : IntKind.i64.wrap (i : Int) = (i : Int) := by rw [IntKind.wrap_i64]; omega
        have ilt : (i : Int) < (n : Int) := by omega
        have hgo2 : t ≠ 0 → (l[i]'hi1).t < t → Va.good l (k + 1) := fun h h2 => hgo1 hk0 h (by subst hi; exact h2)
        have hno2 : ¬ (l[i]'hi1).t < t → ¬ Va.May l := fun h => hno1 hk0 (by subst hi; exact h)
        have hz : ∀ W, St w0 W M L → W.cell? ⟨b, o + i * 50, none⟩ = some (.int .u64 ((l[i]'hi1).t : Int)) := fun W hW => hs2 W hW 0 _ (ac_t _)
        obtain ⟨z, hzz⟩ : ∃ z, z = (l[i]'hi1).t := ⟨_, rfl⟩
        simp only [← hzz] at hgo2 hno2 hz
        have HGO := Lib.hid hgo2
        have HNO := Lib.hid hno2
        have HNO0 := Lib.hid hno0
        have HZ := Lib.hid hz
        clear hX htt hrg hlt hk1 hgo0 hgo1 hno0 hno1 hX0 H2 hgo2 hno2 hz hzz hs2 hi1 hi h0
        go_wp2_with (refine wpList_load_mid (by rfl) 71 (.tmp 10) (by rfl) b (o + k * 50) (by rfl) X _ HRG.out Tryd.underlying71 rfl (by rw [hXl]; exact Tryd.sizeAcc) ?_)
        clear hst H1
        have H4 := H3.drew
        refine Pt.wp_plan (fun w' => St w0 w' M (eb wr.heap.size 71 X :: L)) (Pt.prs [0] (Pt.rds [1] (Pt.prs [2, 3, 4, 5, 6, 7, 9, 10, 11, 12, 13] (Pt.rds [8, 14] (Pt.prs [15, 16, 17] .fin))))) [] Tryd.mixed (by kernel_rfl) (fun _ _ d _ _ h => by cases d <;> exact h) H4 ?_
        clear H3
        simp only [Pt.toL, Pt.rds, Pt.prs, Pt.at_, List.drop_succ_cons, List.drop_zero]
        (refine Pt.pr_run (v := ?_) (by rfl) ?_ ?_; rotate_left; (focus (intro w'; go_simp; with_reducible rfl)); simp only [Act.put, List.setIfInBounds_toArray, List.set_cons_zero, List.set_cons_succ])
        (refine Pt.rd_run (v := ?_) (by rfl) ?_ ?_; rotate_left; (focus (intro w' hS; have c := hS.cell 0 rfl 0; rw [HX0.out] at c; go_simp; with_reducible rfl)); simp only [Act.put, List.setIfInBounds_toArray, List.set_cons_zero, List.set_cons_succ])
        by_cases ht : t = 0
        · subst ht
          iterate 2 (refine Pt.pr_run (v := ?_) (by rfl) ?_ ?_; rotate_left; (focus (intro w'; go_simp; with_reducible rfl)); simp only [Act.put, List.setIfInBounds_toArray, List.set_cons_zero, List.set_cons_succ])
          iterate 9 (refine Pt.pr_skip (by rfl) ?_; simp only [Act.put, List.setIfInBounds_toArray, List.set_cons_zero, List.set_cons_succ])
          iterate 2 (refine Pt.rd_skip (by rfl) ?_; simp only [Act.put, List.setIfInBounds_toArray, List.set_cons_zero, List.set_cons_succ])
          iterate 2 (refine Pt.pr_skip (by rfl) ?_; simp only [Act.put, List.setIfInBounds_toArray, List.set_cons_zero, List.set_cons_succ])
          (refine Pt.pr_run (v := ?_) (by rfl) ?_ ?_; rotate_left; (focus (intro w'; go_simp; with_reducible rfl)); simp only [Act.put, List.setIfInBounds_toArray, List.set_cons_zero, List.set_cons_succ])
          refine Pt.run_fin ?_
          go_wp2
          go_ret
          exact ⟨.inr ⟨HNO0.out (by trivial), rfl⟩, H4.d0⟩
        · have q1 : ((t : Int) == 0) = false := by simp; omega
          have HT := Lib.hid ht
          clear ht
          iterate 11 (refine Pt.pr_run (v := ?_) (by rfl) ?_ ?_; rotate_left; (focus (intro w'; go_simp; with_reducible rfl)); simp only [Act.put, List.setIfInBounds_toArray, List.set_cons_zero, List.set_cons_succ])
          (refine Pt.rd_run (v := ?_) (by rfl) ?_ ?_; rotate_left; (focus (intro w' hS; have c := hS.cell 0 rfl 0; rw [HX0.out] at c; go_simp; with_reducible rfl)); simp only [Act.put, List.setIfInBounds_toArray, List.set_cons_zero, List.set_cons_succ])
          (refine Pt.rd_run (v := ?_) (by rfl) ?_ ?_; rotate_left; (focus (intro w' hS; have c := HZ.out w' hS.d0; go_simp; with_reducible rfl)); simp only [Act.put, List.setIfInBounds_toArray, List.set_cons_zero, List.set_cons_succ])
          by_cases hzt : z < t
          · have q2 : ¬ (t : Int) ≤ (z : Int) := by omega
            have HZT := Lib.hid hzt
            clear hzt
            iterate 3 (refine Pt.pr_run (v := ?_) (by rfl) ?_ ?_; rotate_left; (focus (intro w'; go_simp; with_reducible rfl)); simp only [Act.put, List.setIfInBounds_toArray, List.set_cons_zero, List.set_cons_succ])
            refine Pt.run_fin ?_
            go_wp2
            exact ⟨⟨k + 1, by have := HLT.out; omega, by go_num, HGO.out HT.out HZT.out, H4.d0⟩, by have := HLT.out; simp [intOf]; omega⟩
          · have q2 : (t : Int) ≤ (z : Int) := by omega
            have HZT := Lib.hid hzt
            clear hzt
            iterate 3 (refine Pt.pr_run (v := ?_) (by rfl) ?_ ?_; rotate_left; (focus (intro w'; go_simp; with_reducible rfl)); simp only [Act.put, List.setIfInBounds_toArray, List.set_cons_zero, List.set_cons_succ])
            refine Pt.run_fin ?_
            go_wp2
            go_ret
            exact ⟨.inr ⟨HNO.out HZT.out, rfl⟩, H4.d0⟩
    · obtain rfl : k = n := by omega
      have hs := HS.out
      rw [HN.out] at hs
      by_cases h64 : 64 < k
      · have q1 : (64 : Int) < (k : Int) := by omega
        have hno : ¬ Va.May l := fun h => by have h1 := h.2; have h2 := HN.out; omega
        have HNO := Lib.hid hno
        clear hno hlt h64 hs
        go_wp2
        go_ret
        exact ⟨.inr ⟨HNO.out, rfl⟩, H1⟩
      · have q1 : ¬ (64 : Int) < (k : Int) := by omega
        have hyes : Va.May l := ⟨hs, by have h2 := HN.out; omega⟩
        have HY := Lib.hid hyes
        clear hyes hlt h64 hs
        go_wp2
        go_ret
        exact ⟨.inl ⟨HY.out, rfl⟩, H1⟩
set_option maxRecDepth 100000 in
set_option maxHeartbeats 2000000 in
theorem rmay_any (H : St w0 w M L) {A : Option Addr} {c n : Nat} {l : List Acc} (hn : n = l.length) (hn2 : n ≤ 1000000) (hl : SrA w0 M L A (acs l)) :
    Calls Tryd.prog 12 #[.slice A n c] w (RetB w0 M L (Va.May l)) := by
  have HN := Lib.hid hn
  clear hn
  go_enter Tryd.func12, Tryd.ntmps12
  go_wp2
  go_loopw [3] (fun i wr => ∃ k : Nat, k ≤ n ∧ i = .int .i64 k ∧ Va.good l k ∧ St w0 wr M L) (fun i _ => n - (intOf i).toNat)
  case atStart => exact ⟨0, by omega, rfl, Va.good_zero l, H⟩
  case round =>
    obtain ⟨k, hk, rfl, hs, H1⟩ := hrel
    clear H
    have HS := Lib.hid hs
    clear hs
    by_cases hlt : k < n
    · have hk1 : k < l.length := by have := HN.out; omega
      obtain ⟨b, o, rfl, -⟩ := RA.at50 (hl.now H1) k hk1
      have r1 : (k : Int) < (n : Int) := by omega
      have hz0 : ∀ W, St w0 W M L → W.cell? ⟨b, o + k * 50, none⟩ = some (.int .u64 (l[k].t : Int)) := fun W hW => hl.at50 k hk1 W hW 0 _ (ac_t _)
      have hgo0 : k = 0 → l[k].t ≠ 0 → Va.good l (k + 1) := fun h0 h => Va.good_succ HS.out hk1 h (fun h1 => by omega)
      have hgo1 : ∀ h0 : 0 < k, l[k].t ≠ 0 → (l[k - 1]'(by omega)).t < l[k].t → Va.good l (k + 1) := fun h0 h h2 => Va.good_succ HS.out hk1 h (fun h1 => h2)
      have hno0 : l[k].t = 0 → ¬ Va.May l := fun h h2 => Va.good.bad1 hk1 h h2.1
      have hno1 : ∀ h0 : 0 < k, ¬ (l[k - 1]'(by omega)).t < l[k].t → ¬ Va.May l := fun h0 h h2 => Va.good.bad2 hk1 h0 h h2.1
      obtain ⟨t, htt⟩ : ∃ t, t = l[k].t := ⟨_, rfl⟩
      simp only [← htt] at hz0 hgo0 hgo1 hno0 hno1
      have HZ0 := Lib.hid hz0
      have HLT := Lib.hid hlt
      by_cases h0 : k = 0
      · subst h0
        have HGO := Lib.hid (hgo0 rfl)
        have HNO := Lib.hid hno0
        clear htt hlt hk1 hgo0 hgo1 hno0 hno1 hz0
        go_upto_region 4 with fail
        have H4 := H1.drew
        refine Pt.wp_plan (fun w' => St w0 w' M L) (Pt.prs [0, 1, 2, 3] (Pt.rds [4] (Pt.prs [5, 6, 7, 8, 9, 10, 11, 12, 13, 14, 16, 17, 18, 19] (Pt.rds [15, 20] (Pt.prs [21, 22, 23] .fin))))) [] Tryd.mixed (by kernel_rfl) (fun _ _ d _ _ h => by cases d <;> exact h) H4 ?_
        clear H1
        simp only [Pt.toL, Pt.rds, Pt.prs, Pt.at_, List.drop_succ_cons, List.drop_zero]
        iterate 4 (refine Pt.pr_run (v := ?_) (by rfl) ?_ ?_; rotate_left; (focus (intro w'; go_simp; with_reducible rfl)); simp only [Act.put, List.setIfInBounds_toArray, List.set_cons_zero, List.set_cons_succ])
        (refine Pt.rd_run (v := ?_) (by rfl) ?_ ?_; rotate_left; (focus (intro w' hS; have c := HZ0.out w' hS; rw [Nat.zero_mul, Nat.add_zero] at c; go_simp; with_reducible rfl)); simp only [Act.put, List.setIfInBounds_toArray, List.set_cons_zero, List.set_cons_succ])
        by_cases ht : t = 0
        · subst ht
          iterate 2 (refine Pt.pr_run (v := ?_) (by rfl) ?_ ?_; rotate_left; (focus (intro w'; go_simp; with_reducible rfl)); simp only [Act.put, List.setIfInBounds_toArray, List.set_cons_zero, List.set_cons_succ])
          iterate 12 (refine Pt.pr_skip (by rfl) ?_; simp only [Act.put, List.setIfInBounds_toArray, List.set_cons_zero, List.set_cons_succ])
          iterate 2 (refine Pt.rd_skip (by rfl) ?_; simp only [Act.put, List.setIfInBounds_toArray, List.set_cons_zero, List.set_cons_succ])
          iterate 2 (refine Pt.pr_skip (by rfl) ?_; simp only [Act.put, List.setIfInBounds_toArray, List.set_cons_zero, List.set_cons_succ])
          (refine Pt.pr_run (v := ?_) (by rfl) ?_ ?_; rotate_left; (focus (intro w'; go_simp; with_reducible rfl)); simp only [Act.put, List.setIfInBounds_toArray, List.set_cons_zero, List.set_cons_succ])
          refine Pt.run_fin ?_
          go_wp2
          go_ret
          exact ⟨false, rfl, ⟨(fun h => by cases h), fun h => absurd h (HNO.out (by trivial))⟩, H4⟩
        · have q1 : ((t : Int) == 0) = false := by simp; omega
          have HT := Lib.hid ht
          clear ht
          iterate 5 (refine Pt.pr_run (v := ?_) (by rfl) ?_ ?_; rotate_left; (focus (intro w'; go_simp; with_reducible rfl)); simp only [Act.put, List.setIfInBounds_toArray, List.set_cons_zero, List.set_cons_succ])
          iterate 9 (refine Pt.pr_skip (by rfl) ?_; simp only [Act.put, List.setIfInBounds_toArray, List.set_cons_zero, List.set_cons_succ])
          iterate 2 (refine Pt.rd_skip (by rfl) ?_; simp only [Act.put, List.setIfInBounds_toArray, List.set_cons_zero, List.set_cons_succ])
          (refine Pt.pr_skip (by rfl) ?_; simp only [Act.put, List.setIfInBounds_toArray, List.set_cons_zero, List.set_cons_succ])
          iterate 2 (refine Pt.pr_run (v := ?_) (by rfl) ?_ ?_; rotate_left; (focus (intro w'; go_simp; with_reducible rfl)); simp only [Act.put, List.setIfInBounds_toArray, List.set_cons_zero, List.set_cons_succ])
          refine Pt.run_fin ?_
          go_wp2
          exact ⟨⟨1, by have := HLT.out; omega, rfl, HGO.out HT.out, H4⟩, by have := HLT.out; simp [intOf]; omega⟩
      · obtain ⟨i, hi⟩ : ∃ i, i = k - 1 := ⟨_, rfl⟩
        have hk0 : 0 < k := by omega
        have hi1 : i < l.length := by omega
        have hs2 := hl.at50 i hi1
        have e1 : (k : Int) - 1 = (i : Int) := by omega
        have e2 : (0 : Int) < (k : Int) := by omega
        have wi : IntKind.i64.wrap (i : Int) = (i : Int) := by rw [IntKind.wrap_i64]; omega
        have ilt : (i : Int) < (n : Int) := by omega
        have hgo2 : t ≠ 0 → (l[i]'hi1).t < t → Va.good l (k + 1) := fun h h2 => hgo1 hk0 h (by subst hi; exact h2)
        have hno2 : ¬ (l[i]'hi1).t < t → ¬ Va.May l := fun h => hno1 hk0 (by subst hi; exact h)
        have hz : ∀ W, St w0 W M L → W.cell? ⟨b, o + i * 50, none⟩ = some (.int .u64 ((l[i]'hi1).t : Int)) := fun W hW => hs2 W hW 0 _ (ac_t _)
        obtain ⟨z, hzz⟩ : ∃ z, z = (l[i]'hi1).t := ⟨_, rfl⟩
        simp only [← hzz] at hgo2 hno2 hz
        have HGO := Lib.hid hgo2
        have HNO := Lib.hid hno2
        have HNO0 := Lib.hid hno0
        have HZ := Lib.hid hz
        clear htt hlt hk1 hgo0 hgo1 hno0 hno1 hz0 hgo2 hno2 hz hzz hs2 hi1 hi h0
        go_upto_region 4 with fail
        have H4 := H1.drew
        refine Pt.wp_plan (fun w' => St w0 w' M L) (Pt.prs [0, 1, 2, 3] (Pt.rds [4] (Pt.prs [5, 6, 7, 8, 9, 10, 11, 12, 13, 14, 16, 17, 18, 19] (Pt.rds [15, 20] (Pt.prs [21, 22, 23] .fin))))) [] Tryd.mixed (by kernel_rfl) (fun _ _ d _ _ h => by cases d <;> exact h) H4 ?_
        clear H1
        simp only [Pt.toL, Pt.rds, Pt.prs, Pt.at_, List.drop_succ_cons, List.drop_zero]
        iterate 4 (refine Pt.pr_run (v := ?_) (by rfl) ?_ ?_; rotate_left; (focus (intro w'; go_simp; with_reducible rfl)); simp only [Act.put, List.setIfInBounds_toArray, List.set_cons_zero, List.set_cons_succ])
        (refine Pt.rd_run (v := ?_) (by rfl) ?_ ?_; rotate_left; (focus (intro w' hS; have c := HZ0.out w' hS; go_simp; with_reducible rfl)); simp only [Act.put, List.setIfInBounds_toArray, List.set_cons_zero, List.set_cons_succ])
        by_cases ht : t = 0
        · subst ht
          iterate 2 (refine Pt.pr_run (v := ?_) (by rfl) ?_ ?_; rotate_left; (focus (intro w'; go_simp; with_reducible rfl)); simp only [Act.put, List.setIfInBounds_toArray, List.set_cons_zero, List.set_cons_succ])
          iterate 12 (refine Pt.pr_skip (by rfl) ?_; simp only [Act.put, List.setIfInBounds_toArray, List.set_cons_zero, List.set_cons_succ])
          iterate 2 (refine Pt.rd_skip (by rfl) ?_; simp only [Act.put, List.setIfInBounds_toArray, List.set_cons_zero, List.set_cons_succ])
          iterate 2 (refine Pt.pr_skip (by rfl) ?_; simp only [Act.put, List.setIfInBounds_toArray, List.set_cons_zero, List.set_cons_succ])
          (refine Pt.pr_run (v := ?_) (by rfl) ?_ ?_; rotate_left; (focus (intro w'; go_simp; with_reducible rfl)); simp only [Act.put, List.setIfInBounds_toArray, List.set_cons_zero, List.set_cons_succ])
          refine Pt.run_fin ?_
          go_wp2
          go_ret
          exact ⟨false, rfl, ⟨(fun h => by cases h), fun h => absurd h (HNO0.out (by trivial))⟩, H4⟩
        · have q1 : ((t : Int) == 0) = false := by simp; omega
          have HT := Lib.hid ht
          clear ht
          iterate 14 (refine Pt.pr_run (v := ?_) (by rfl) ?_ ?_; rotate_left; (focus (intro w'; go_simp; with_reducible rfl)); simp only [Act.put, List.setIfInBounds_toArray, List.set_cons_zero, List.set_cons_succ])
          (refine Pt.rd_run (v := ?_) (by rfl) ?_ ?_; rotate_left; (focus (intro w' hS; have c := HZ.out w' hS; go_simp; with_reducible rfl)); simp only [Act.put, List.setIfInBounds_toArray, List.set_cons_zero, List.set_cons_succ])
          (refine Pt.rd_run (v := ?_) (by rfl) ?_ ?_; rotate_left; (focus (intro w' hS; have c := HZ0.out w' hS; go_simp; with_reducible rfl)); simp only [Act.put, List.setIfInBounds_toArray, List.set_cons_zero, List.set_cons_succ])
          by_cases hzt : z < t
          · have q2 : ¬ (t : Int) ≤ (z : Int) := by omega
            have HZT := Lib.hid hzt
            clear hzt
            iterate 3 (refine Pt.pr_run (v := ?_) (by rfl) ?_ ?_; rotate_left; (focus (intro w'; go_simp; with_reducible rfl)); simp only [Act.put, List.setIfInBounds_toArray, List.set_cons_zero, List.set_cons_succ])
            refine Pt.run_fin ?_
            go_wp2
            exact ⟨⟨k + 1, by have := HLT.out; omega, by go_num, HGO.out HT.out HZT.out, H4⟩, by have := HLT.out; simp [intOf]; omega⟩
          · have q2 : (t : Int) ≤ (z : Int) := by omega
            have HZT := Lib.hid hzt
            clear hzt
            iterate 3 (refine Pt.pr_run (v := ?_) (by rfl) ?_ ?_; rotate_left; (focus (intro w'; go_simp; with_reducible rfl)); simp only [Act.put, List.setIfInBounds_toArray, List.set_cons_zero, List.set_cons_succ])
            refine Pt.run_fin ?_
            go_wp2
            go_ret
            exact ⟨false, rfl, ⟨(fun h => by cases h), fun h => absurd h (HNO.out HZT.out)⟩, H4⟩
    · obtain rfl : k = n := by omega
      have hs := HS.out
      rw [HN.out] at hs
      by_cases h64 : 64 < k
      · have q1 : ¬ (k : Int) ≤ 64 := by omega
        have hno : ¬ Va.May l := fun h => by have h1 := h.2; have h2 := HN.out; omega
        have HNO := Lib.hid hno
        clear hno hlt h64 hs
        go_wp2
        go_ret
        exact ⟨false, rfl, ⟨(fun h => by cases h), fun h => absurd h HNO.out⟩, H1⟩
      · have q1 : (k : Int) ≤ 64 := by omega
        have hyes : Va.May l := ⟨hs, by have h2 := HN.out; omega⟩
        have HY := Lib.hid hyes
        clear hyes hlt h64 hs
        go_wp2
        go_ret
        exact ⟨true, rfl, ⟨fun _ => HY.out, fun _ => rfl⟩, H1⟩
end
end Go.Proofs.YtcdljlaoedaliaaDoor
/- slices.BinarySearchFunc at accounts, vault.find; slices.Clone at accounts. -/
set_option linter.unusedVariables false
set_option linter.unusedSimpArgs false
namespace Go.Proofs.YtcdljlaoedaliaaDoor
open Go.RowKit Wd
open Va (Acc)
/-- Where t is, or would be. -/
def RetFind (w0 : World) (M : Mem) (L : List Ent) (l : List Acc) (t : Nat) (e : Ending) (w' : World) : Prop :=
  ∃ (i : Nat) (f : Bool), e = .returned (.tuple #[.int .i64 (i : Int), .bool f]) ∧ Va.Cut t l i ∧ (f = true ↔ ∃ h : i < l.length, l[i].t = t) ∧ St w0 w' M L
theorem ncmp_lt (n m : Nat) : ncmp n m < 0 ↔ n < m := by
  rcases ncmp_cases n m with ⟨h, e⟩ | ⟨h, e⟩ | ⟨h, e⟩ <;> rw [e] <;> omega
theorem ncmp_zero (n m : Nat) : (ncmp n m == 0) = decide (n = m) := by
  rcases ncmp_cases n m with ⟨h, e⟩ | ⟨h, e⟩ | ⟨h, e⟩ <;> rw [e] <;> simp <;> omega
section
variable {w0 w : World} {M : Mem} {L : List Ent}
set_option maxRecDepth 100000 in
set_option maxHeartbeats 1000000 in
theorem bs_any (eg : ∀ args w, (callFunc 59 args).run Tryd.prog w = .ok (.enter 59 args) w) (H : St w0 w M L) {A : Option Addr} {c n : Nat} {l : List Acc} (hn : n = l.length) (hn2 : n ≤ 1000000) (hl : SrA w0 M L A (acs l)) (hs : l.Pairwise fun a b => a.t < b.t) (y : Nat) :
    Calls Tryd.prog 58 #[.slice A n c, .int .u64 (y : Int), .func (.func 59) #[] #[]] w (RetFind w0 M L l y) := by
  have HN := Lib.hid hn
  have HS := Lib.hid hs
  clear hn hs
  go_enter Tryd.func58, Tryd.ntmps58
  go_wp2
  go_loopw [9, 10] (fun i j wr => ∃ a b : Nat, a ≤ b ∧ b ≤ n ∧ i = .int .i64 a ∧ j = .int .i64 b ∧ (∀ x ∈ l.take a, x.t < y) ∧ (∀ x ∈ l.drop b, ¬ x.t < y) ∧ St w0 wr M L) (fun i j _ => (intOf j).toNat - (intOf i).toNat)
  case atStart => exact ⟨0, n, by omega, by omega, rfl, rfl, by simp, by simp [HN.out], H⟩
  case round =>
    obtain ⟨a, b, hab, hbn, rfl, rfl, ha, hb, H2⟩ := hrel
    clear H
    have HAA := Lib.hid ha
    have HBB := Lib.hid hb
    clear ha hb
    by_cases hlt : a < b
    · have r1 : (a : Int) < (b : Int) := by omega
      obtain ⟨h, hh⟩ : ∃ h, h = (a + b) / 2 := ⟨_, rfl⟩
      have wab : IntKind.i64.wrap ((a : Int) + (b : Int)) = (a : Int) + (b : Int) := by rw [IntKind.wrap_i64]; omega
      have wabu : IntKind.u64.wrap ((a : Int) + (b : Int)) = (a : Int) + (b : Int) := by rw [IntKind.wrap_u64]; omega
      have ehh : ((a : Int) + (b : Int)) / 2 = (h : Int) := by omega
      have wh : IntKind.i64.wrap (h : Int) = (h : Int) := by rw [IntKind.wrap_i64]; omega
      have HH := Lib.hid hh
      clear hh
      go_upto_region 5 with fail
      have hh1 : h < l.length := by have := HN.out; have := HH.out; omega
      obtain ⟨b0, o0, rfl, hrg⟩ := RA.at50 (hl.now H2) h hh1
      have hlow : l[h].t < y → ∀ x ∈ l.take (h + 1), x.t < y := fun hx z hz => by
        obtain ⟨j, hj, rfl⟩ := List.getElem_of_mem hz
        rw [List.length_take] at hj
        rw [List.getElem_take]
        rcases Nat.lt_or_ge j h with h3 | h3
        · exact Nat.lt_trans (List.pairwise_iff_getElem.1 HS.out j h (by omega) hh1 h3) hx
        · obtain rfl : j = h := by omega
          exact hx
      have hhigh : ¬ l[h].t < y → ∀ x ∈ l.drop h, ¬ x.t < y := fun hx z hz hzy => by
        obtain ⟨j, hj, rfl⟩ := List.getElem_of_mem hz
        rw [List.length_drop] at hj
        rw [List.getElem_drop] at hzy
        cases j with
        | zero => exact hx (by simpa using hzy)
        | succ j => exact hx (Nat.lt_trans (List.pairwise_iff_getElem.1 HS.out h (h + (j + 1)) hh1 (by omega) (by omega)) hzy)
      have hneg := ncmp_lt l[h].t y
      have hord := fun W L' (H : St w0 W M L') => find1_any H l[h] y
      obtain ⟨O, hO⟩ : ∃ O, O = ncmp l[h].t y := ⟨_, rfl⟩
      rw [← hO] at hneg hord
      have hXl := ac_length l[h]
      obtain ⟨X, hX⟩ : ∃ X, X = ac l[h] := ⟨_, rfl⟩
      rw [← hX] at hrg hord hXl
      obtain ⟨z, hz⟩ : ∃ z, z = l[h].t := ⟨_, rfl⟩
      simp only [← hz] at hlow hhigh hneg
      have HRG := Lib.hid hrg
      have HLOW := Lib.hid hlow
      have HHIGH := Lib.hid hhigh
      have HNEG := Lib.hid hneg
      have HORD := Lib.hid hord
      have HAB := Lib.hid hlt
      have r2 : (h : Int) < (n : Int) := by have := HH.out; omega
      clear hrg hlow hhigh hneg hord hO hX hz hh1 hlt
      go_wp2_with (refine wpList_load_mid (by rfl) 71 (.tmp 27) (by rfl) b0 (o0 + h * 50) (by rfl) X _ HRG.out Tryd.underlying71 rfl (by rw [hXl]; exact Tryd.sizeAcc) ?_)
      go_wp2_with fail
      refine (HORD.out _ _ H2).mono ?_
      rintro e w2 ⟨rfl, H4⟩
      clear H2
      by_cases hO : O < 0
      · have hg := HLOW.out (HNEG.out.1 hO)
        have HG := Lib.hid hg
        clear hg
        go_wp2
        exact ⟨⟨h + 1, b, by have := HH.out; have := HAB.out; omega, hbn, by go_num, rfl, HG.out, HBB.out, H4⟩, by have := HH.out; have := HAB.out; simp [intOf]; omega⟩
      · have hg := HHIGH.out fun hc => hO (HNEG.out.2 hc)
        have HG := Lib.hid hg
        clear hg
        go_wp2
        exact ⟨⟨a, h, by have := HH.out; have := HAB.out; omega, by have := HH.out; have := HAB.out; omega, rfl, rfl, HAA.out, HG.out, H4⟩, by have := HH.out; have := HAB.out; simp [intOf]; omega⟩
    · obtain rfl : a = b := by omega
      clear hlt
      have hal : a ≤ l.length := by have := HN.out; omega
      have hcut : Va.Cut y l a := ⟨hal, HAA.out, HBB.out⟩
      have HC := Lib.hid hcut
      have r0 : ¬ (a : Int) < (a : Int) := by omega
      clear hcut
      by_cases han : a < n
      · have r2 : (a : Int) < (n : Int) := by omega
        have ha1 : a < l.length := by have := HN.out; omega
        obtain ⟨b0, o0, rfl, hrg⟩ := RA.at50 (hl.now H2) a ha1
        have hord := fun W L' (H : St w0 W M L') => find1_any H l[a] y
        have hzero := ncmp_zero l[a].t y
        obtain ⟨O, hO⟩ : ∃ O, O = ncmp l[a].t y := ⟨_, rfl⟩
        rw [← hO] at hzero hord
        have hf : (O == 0) = true ↔ ∃ h : a < l.length, l[a].t = y := by
          rw [hzero, decide_eq_true_iff]
          exact ⟨fun h => ⟨ha1, h⟩, fun ⟨_, h⟩ => h⟩
        have HF := Lib.hid hf
        have hXl := ac_length l[a]
        obtain ⟨X, hX⟩ : ∃ X, X = ac l[a] := ⟨_, rfl⟩
        rw [← hX] at hrg hord hXl
        have HRG := Lib.hid hrg
        have HORD := Lib.hid hord
        clear hrg hord hO hX hzero ha1 han hf hal
        go_wp2_with (refine wpList_load_g (by rfl) 71 (.tmp 43) (by rfl) b0 (o0 + a * 50) (by rfl) X _ HRG.out Tryd.underlying71 rfl (by rw [hXl]; exact Tryd.sizeAcc) ?_)
        go_wp2_with fail
        refine (HORD.out _ _ H2).mono ?_
        rintro e w2 ⟨rfl, H4⟩
        clear H2
        go_wp2
        go_ret2
        exact ⟨a, _, rfl, HC.out, HF.out, H4⟩
      · have r2 : ¬ (a : Int) < (n : Int) := by omega
        have hf : false = true ↔ ∃ h : a < l.length, l[a].t = y := ⟨(fun h => by cases h), fun ⟨h, _⟩ => by have := HN.out; omega⟩
        have HF := Lib.hid hf
        clear han hf hal
        go_wp2
        go_ret2
        exact ⟨a, false, rfl, HC.out, HF.out, H2⟩
set_option maxRecDepth 100000 in
theorem find_any (H : St w0 w M L) {A : Option Addr} {c n : Nat} {l : List Acc} (hn : n = l.length) (hn2 : n ≤ 1000000) (hl : SrA w0 M L A (acs l)) (hs : l.Pairwise fun a b => a.t < b.t) (y : Nat) :
    Calls Tryd.prog 34 #[.slice A n c, .int .u64 (y : Int)] w (RetFind w0 M L l y) := by
  have hb := bs_any (enters_of Tryd.func59 (by kernel_rfl) rfl) (c := c) H hn hn2 hl hs y
  have HB := Lib.hid hb
  clear hb hn
  go_enter Tryd.func34, Tryd.ntmps34
  go_wp2_with fail
  refine HB.out.mono ?_
  rintro e w2 ⟨i, f, rfl, h1, h2, H2⟩
  have H1 := Lib.hid h1
  have HF := Lib.hid h2
  clear h1 h2
  go_wp2
  go_ret2
  exact ⟨i, f, rfl, H1.out, HF.out, H2⟩
set_option maxRecDepth 100000 in
theorem vclone_any (H : St w0 w M L) {A : Option Addr} {c n : Nat} {l : List Acc} (hn : n = l.length) (hn2 : n ≤ 1000000) (hA : A = none → c = 0) (hl : SrA w0 M L A (acs l)) :
    Calls Tryd.prog 36 #[.slice A n c] w fun e w' => ∃ v, e = .returned v ∧ St w0 w' M (er 71 50 v n (acs l) :: L) := by
  have hx : (acs l).length = n * 50 := by rw [acs_length, hn]
  cases A with
  | none =>
    have h0 : l = [] := by
      cases l with
      | nil => rfl
      | cons d r => have := RA.at50 (hl.now H) 0 (by simp); obtain ⟨b, o, he, _⟩ := this; cases he
    subst h0
    obtain rfl : n = 0 := hn
    have H1 := H.addNil 71 50
    have hnil := fun w => Lib.run_eql_slice_nil (P := Tryd.prog) w 22 71 none 0 c 0 0 Tryd.underlying22
    simp only [Option.isNone_none] at hnil
    clear hl hx hA
    go_enter Tryd.func36, Tryd.ntmps36
    go_wp2
    go_ret
    exact ⟨_, rfl, H1⟩
  | some ad =>
    have H1 := H.lit00 71 50
    have hr := (hl.cons (er 71 50 (.slice (some ⟨w.heap.size, 0, none⟩) 0 0) 0 [])).now H1
    have HR := Lib.hid hr
    have HX := Lib.hid hx
    have HA := Lib.hid hA
    have hone := acs_one l
    have HO := Lib.hid hone
    have hnil := fun w => Lib.run_eql_slice_nil (P := Tryd.prog) w 22 71 (some ad) n c 0 0 Tryd.underlying22
    simp only [Option.isNone_some] at hnil
    clear hr hx hA hone hn hl
    go_enter Tryd.func36, Tryd.ntmps36
    go_wp2_with (at_builtin; refine wpList_append_any_st H1 (by rfl) (.tmp 5) (.tmp 6) 22 (by rfl) Tryd.infoAcc (by rfl) (by decide) Tryd.underlying22 (by rfl) (some ad) n c (acs l) (by rfl) HX.out HA.out HR.out HO.out (by omega) (by omega) ?_)
    intro v' w' H2
    go_wp2
    go_ret
    exact ⟨_, rfl, H2⟩
end
end Go.Proofs.YtcdljlaoedaliaaDoor
