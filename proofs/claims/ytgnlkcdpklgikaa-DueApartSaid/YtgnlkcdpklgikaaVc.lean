/- Dues in memory; the contracts of due's and the reference's small functions. -/
import Derived.Test.YtgnlkcdpklgikaaVb
import Derived.Test.YtgnlkcdpklgikaaRt
import Derived.Test.YtgnlkcdpklgikaaChecked
import Derived.Test.YtgnlkcdpklgikaaPt
import Derived.Sort.Grow
set_option linter.unusedVariables false
set_option linter.unusedSimpArgs false
namespace Go.Proofs.Ytgnlkcdpklgikaa
open Go.RowKit Wd Go.Sort
open Du (Due)
def dc (p : Due) : List Value := [.int .u64 (p.t : Int), .int .u64 (p.s : Int), .int .i64 p.a]
def dv (p : Due) : Value := .agg #[.int .u64 (p.t : Int), .int .u64 (p.s : Int), .int .i64 p.a]
def dcs (l : List Due) : List Value := l.flatMap dc
theorem dcs_length (l : List Due) : (dcs l).length = l.length * 3 := by
  induction l with
  | nil => rfl
  | cons a l ih => simp [dcs, dc] at ih ⊢; omega
theorem dcs_append (l m : List Due) : dcs (l ++ m) = dcs l ++ dcs m := by simp [dcs]
theorem dcs_at (l : List Due) (j : Nat) (hj : j < l.length) : ((dcs l).drop (j * 3)).take 3 = dc l[j] := by
  induction l generalizing j with
  | nil => simp at hj
  | cons a l ih =>
    have e1 : dcs (a :: l) = dc a ++ dcs l := rfl
    cases j with
    | zero => rw [e1]; rfl
    | succ j =>
      rw [e1, show (j + 1) * 3 = (dc a).length + j * 3 from by simp [dc]; omega, List.drop_append, Nat.add_sub_cancel_left, List.drop_eq_nil_of_le (by omega), List.nil_append]
      exact ih j (by simpa using hj)
theorem dcs_one (l : List Due) : ∀ u ∈ dcs l, u.oneCell' = true := by
  intro u hu
  obtain ⟨p, -, hp⟩ := List.mem_flatMap.1 hu
  simp only [dc, List.mem_cons, List.not_mem_nil, or_false] at hp
  rcases hp with rfl | rfl | rfl <;> rfl
theorem RA.at3 {w : World} {B : Option Addr} {l : List Due} (h : RA w B (dcs l)) (j : Nat) (hj : j < l.length) : ∃ b o, B = some ⟨b, o, none⟩ ∧ w.rangeAt b (o + j * 3) (dc l[j]) := by
  obtain ⟨b, o, rfl, _, hr⟩ := h (by intro h0; have := dcs_length l; rw [h0] at this; simp at this; omega)
  refine ⟨b, o, rfl, fun k v hk => ?_⟩
  rw [← dcs_at l j hj, List.getElem?_take] at hk
  split at hk
  · rw [List.getElem?_drop] at hk
    rw [Nat.add_assoc]
    exact hr _ v hk
  · cases hk
/-- The cells at A read so wherever F and M hold. -/
def SrA (w0 : World) (M : Mem) (F : List Ent) (A : Option Addr) (cs : List Value) : Prop := ∀ w' M', M.le M' → St w0 w' M' F → RA w' A cs
section
variable {w0 w : World} {M M' : Mem} {L : List Ent}
theorem SrA.cons {A : Option Addr} {cs : List Value} (h : SrA w0 M L A cs) (e : Ent) : SrA w0 M (e :: L) A cs := fun w' M' hM H => h w' M' hM H.d0
theorem SrA.le {A : Option Addr} {cs : List Value} (h : SrA w0 M L A cs) (hm : M.le M') : SrA w0 M' L A cs := fun w' M'' hM H => h w' M'' (hm.trans hM) H
theorem SrA.now {A : Option Addr} {cs : List Value} (h : SrA w0 M L A cs) (H : St w0 w M L) : RA w A cs := h w M (Mem.le.refl M) H
theorem SrA.row {e : TypeId} {sz n c : Nat} {A : Option Addr} {cs : List Value} (i : Nat) (hi : L[i]? = some (er e sz (.slice A n c) n cs)) : SrA w0 M L A cs := fun w' M' hM H => er_RA (H.get i hi)
theorem SrA.of_in {A : Option Addr} {cs : List Value} (h : In M (RA · A cs)) : SrA w0 M L A cs := fun w' M' hM H => (h.le hM).now H
/-- One due of a list, wherever F and M hold. -/
theorem SrA.at3 {b o : Nat} {l : List Due} (h : SrA w0 M L (some ⟨b, o, none⟩) (dcs l)) (j : Nat) (hj : j < l.length) : ∀ W, St w0 W M L → W.rangeAt b (o + j * 3) (dc l[j]) := fun W hW => by
  obtain ⟨b', o', he, hc⟩ := RA.at3 (h.now hW) j hj
  injection he with he
  injection he with h1 h2
  subst h1 h2
  exact hc
theorem Wd.In.oldRA {w0 w : World} {M : Mem} {L : List Ent} (H : St w0 w M L) {A : Option Addr} {cs : List Value} (hb : RA w0 A cs) : In M fun W => RA W A cs := fun W hW hl => by
  obtain ⟨b, o, rfl, hlt, hr⟩ := hb hl
  have he : W.heap[b]? = w0.heap[b]? := by
    have h1 := H.old b hlt
    rw [Array.getElem?_eq_getElem hlt] at h1 ⊢
    exact hW b _ h1
  refine ⟨b, o, rfl, ?_, fun j v hj => (World.cell?_of_block (w := w0) he).trans (hr j v hj)⟩
  rw [Array.getElem?_eq_getElem hlt] at he
  exact (Array.getElem?_eq_some_iff.1 he).1
theorem St.grow (H : St w0 w M L) (n : Nat) (os : Array Obj) : St w0 (grow (w.drewN n) os) M L := by
  obtain ⟨l⟩ := os
  have h : ∀ (l : List Obj) (w : World), St w0 w M L → St w0 (Go.Sort.grow w l.toArray) M L := by
    intro l
    induction l with
    | nil => intro w H; rw [show (#[] : Array Obj) = #[] from rfl, grow_empty]; exact H
    | cons o l ih =>
      intro w H
      have e : Go.Sort.grow w (o :: l).toArray = Go.Sort.grow (w.alloc o) l.toArray := by
        rw [alloc_eq_grow, grow_grow]
        congr 1
        simp
      rw [e]
      exact ih _ (H.alloc o)
  exact h l _ (H.drewN n)
theorem Try.mixed : Try.prog.follows .mixedOrders = true := by kernel_rfl
theorem Try.sizeDue : (Try.prog.info? 40).map (·.size) = some 3 := by kernel_rfl
theorem Try.zeroDue : (Try.prog.info? 40).map (fun i => (i.zero, i.size)) = some (some (.agg #[.int .u64 0, .int .u64 0, .int .i64 0]), 3) := by kernel_rfl
theorem Try.infoDue : (Try.prog.info? 40).map (fun i => (i.zero, i.size, i.bytes)) = some (some (.agg #[.int .u64 0, .int .u64 0, .int .i64 0]), 3, 24) := by kernel_rfl
/-- Numbers compared. -/
def ncmp (n m : Int) : Int := if n < m then -1 else if m < n then 1 else 0
theorem ncmp_cases (n m : Int) : (n < m ∧ ncmp n m = -1) ∨ (n = m ∧ ncmp n m = 0) ∨ (m < n ∧ ncmp n m = 1) := by
  unfold ncmp
  rcases Int.lt_trichotomy n m with h | h | h
  · exact .inl ⟨h, by simp [h]⟩
  · exact .inr (.inl ⟨h, by simp [h]⟩)
  · exact .inr (.inr ⟨h, by have : ¬ n < m := by omega
                            simp [h, this]⟩)
theorem isNaN_any (n : Int) (w : World) : Calls Try.prog 41 #[.int .u64 n] w fun e w' => e = .returned (.bool false) ∧ w = w' := by
  go_enter Try.func41, Try.ntmps41
  go_wp2
  go_ret
  simp
theorem isNaNi_any (n : Int) (w : World) : Calls Try.prog 42 #[.int .i64 n] w fun e w' => e = .returned (.bool false) ∧ w = w' := by
  go_enter Try.func42, Try.ntmps42
  go_wp2
  go_ret
  simp
theorem ncmp_any (n m : Int) (w : World) : Calls Try.prog 25 #[.int .u64 n, .int .u64 m] w fun e w' => e = .returned (.int .i64 (ncmp n m)) ∧ w = w' := by
  have hc := ncmp_cases n m
  obtain ⟨R, hR⟩ : ∃ R, R = ncmp n m := ⟨_, rfl⟩
  rw [← hR] at hc ⊢
  clear hR
  go_enter Try.func25, Try.ntmps25
  go_wp2_with fail
  refine (isNaN_any n w).mono ?_
  rintro e w1 ⟨rfl, rfl⟩
  go_wp2_with fail
  refine (isNaN_any m w).mono ?_
  rintro e w1 ⟨rfl, rfl⟩
  rcases hc with ⟨h, rfl⟩ | ⟨h, rfl⟩ | ⟨h, rfl⟩
  · go_wp2
    go_ret
    exact ⟨rfl, rfl⟩
  · subst h
    go_wp2
    go_ret
    exact ⟨rfl, rfl⟩
  · have q : ¬ n < m := by omega
    go_wp2
    go_ret
    exact ⟨rfl, rfl⟩
theorem icmp_any (n m : Int) (w : World) : Calls Try.prog 26 #[.int .i64 n, .int .i64 m] w fun e w' => e = .returned (.int .i64 (ncmp n m)) ∧ w = w' := by
  have hc := ncmp_cases n m
  obtain ⟨R, hR⟩ : ∃ R, R = ncmp n m := ⟨_, rfl⟩
  rw [← hR] at hc ⊢
  clear hR
  go_enter Try.func26, Try.ntmps26
  go_wp2_with fail
  refine (isNaNi_any n w).mono ?_
  rintro e w1 ⟨rfl, rfl⟩
  go_wp2_with fail
  refine (isNaNi_any m w).mono ?_
  rintro e w1 ⟨rfl, rfl⟩
  rcases hc with ⟨h, rfl⟩ | ⟨h, rfl⟩ | ⟨h, rfl⟩
  · go_wp2
    go_ret
    exact ⟨rfl, rfl⟩
  · subst h
    go_wp2
    go_ret
    exact ⟨rfl, rfl⟩
  · have q : ¬ n < m := by omega
    go_wp2
    go_ret
    exact ⟨rfl, rfl⟩
/-- The first that is not 0. -/
def orL : List Int → Int
  | [] => 0
  | x :: r => if x ≠ 0 then x else orL r
def iv (xs : List Int) : List Value := xs.map (Value.int .i64)
theorem or_any {A : Option Addr} {c n : Nat} {xs : List Int} (hn : n = xs.length) (hn2 : n ≤ 1000) (hr : RA w A (iv xs)) :
    Calls Try.prog 24 #[.slice A n c] w fun e w' => e = .returned (.int .i64 (orL xs)) ∧ w = w' := by
  obtain ⟨R, hR⟩ : ∃ R, R = orL xs := ⟨_, rfl⟩
  rw [← hR]
  have HR := Lib.hid hR
  have HN := Lib.hid hn
  clear hR hn
  go_enter Try.func24, Try.ntmps24
  go_wp2
  go_loopw [8] (fun i wr => ∃ k : Nat, k ≤ n ∧ R = orL (xs.drop k) ∧ i = .int .i64 k ∧ wr = w) (fun i _ => n - (intOf i).toNat)
  case atStart => exact ⟨0, by omega, HR.out, rfl, rfl⟩
  case round =>
    obtain ⟨k, hk, h1, rfl, rfl⟩ := hrel
    have H1 := Lib.hid h1
    clear h1
    by_cases hlt : k < n
    · have hk1 : k < xs.length := by have := HN.out; omega
      obtain ⟨b, o, rfl, -, hc⟩ := hr (by intro h; have := congrArg List.length h; simp [iv] at this; rw [this] at hk1; simp at hk1)
      have c0 := hc k (.int .i64 xs[k]) (by simp [iv, List.getElem?_eq_getElem hk1])
      have hd : orL (xs.drop k) = if xs[k] ≠ 0 then xs[k] else orL (xs.drop (k + 1)) := by rw [List.drop_eq_getElem_cons hk1]; rfl
      obtain ⟨x, hx⟩ : ∃ x, x = xs[k] := ⟨_, rfl⟩
      rw [← hx] at c0 hd
      have HD := Lib.hid hd
      have HLT := Lib.hid hlt
      have q1 : (k : Int) < (n : Int) := by omega
      clear hd hx hk1 hc hlt hk
      by_cases h0 : x = 0
      · subst h0
        go_wp2
        exact ⟨⟨k + 1, by have := HLT.out; omega, by rw [H1.out, HD.out]; simp, by go_num, trivial⟩, by have := HLT.out; simp [intOf]; omega⟩
      · have q : (x != 0) = true := by simpa using h0
        have hR2 : R = x := by rw [H1.out, HD.out, if_pos h0]
        subst hR2
        clear h0
        go_wp2
        go_ret
        exact ⟨rfl, rfl⟩
    · obtain rfl : k = n := by omega
      have hR2 : R = 0 := by rw [H1.out, HN.out, List.drop_length]; rfl
      subst hR2
      clear hlt
      go_wp2
      go_ret
      exact ⟨rfl, rfl⟩
theorem time_cases (a : Int) : (0 ≤ a ∧ a ≤ 1099511627776 ∧ decide (Du.time a) = true) ∨ (0 ≤ a ∧ ¬ a ≤ 1099511627776 ∧ decide (Du.time a) = false) ∨ (¬ 0 ≤ a ∧ decide (Du.time a) = false) := by
  by_cases h1 : 0 ≤ a
  · by_cases h2 : a ≤ 1099511627776
    · exact .inl ⟨h1, h2, decide_eq_true ⟨h1, h2⟩⟩
    · exact .inr (.inl ⟨h1, h2, decide_eq_false fun h => h2 h.2⟩)
  · exact .inr (.inr ⟨h1, decide_eq_false fun h => h1 h.1⟩)
theorem time_any (a : Int) (w : World) : Calls Try.prog 18 #[.int .i64 a] w fun e w' => e = .returned (.bool (decide (Du.time a))) ∧ w = w' := by
  have hc := time_cases a
  rcases hc with ⟨h1, h2, h3⟩ | ⟨h1, h2, h3⟩ | ⟨h1, h3⟩
  all_goals
    rw [h3]
    clear h3
    go_enter Try.func18, Try.ntmps18
    go_wp2
    go_ret
    exact ⟨rfl, rfl⟩
theorem rtime_any (a : Int) (w : World) : Calls Try.prog 27 #[.int .i64 a] w fun e w' => e = .returned (.bool (decide (Du.time a))) ∧ w = w' := by
  have hc := time_cases a
  rcases hc with ⟨h1, h2, h3⟩ | ⟨h1, h2, h3⟩ | ⟨h1, h3⟩
  all_goals
    rw [h3]
    clear h3
    go_enter Try.func27, Try.ntmps27
    go_wp2
    go_ret
    exact ⟨rfl, rfl⟩
end
end Go.Proofs.Ytgnlkcdpklgikaa
