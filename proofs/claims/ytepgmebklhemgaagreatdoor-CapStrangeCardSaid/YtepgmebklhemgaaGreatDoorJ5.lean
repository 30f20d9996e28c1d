/- What is written, writes and items in memory; the store of partitions at its place. -/
import Derived.Test.YtepgmebklhemgaaGreatDoorJ3
import Derived.Test.YtepgmebklhemgaaGreatDoorQ1
import Derived.Test.YtepgmebklhemgaaGreatDoorS6
import Derived.LaidEqlPtr
import Derived.Lib.Builder
set_option linter.unusedVariables false
set_option linter.unusedSimpArgs false
namespace Go.Proofs.YtepgmebklhemgaaGreatDoor
open Go.RowKit Wd
section
variable {α : Type} {f : α → List Value} {k : Nat}
theorem flat_len (hf : ∀ a, (f a).length = k) (l : List α) : (l.flatMap f).length = l.length * k := by
  induction l with
  | nil => simp
  | cons a l ih => rw [List.flatMap_cons, List.length_append, ih, hf, List.length_cons, Nat.succ_mul]; omega
theorem flat_at (hf : ∀ a, (f a).length = k) (l : List α) (j : Nat) (hj : j < l.length) : ((l.flatMap f).drop (j * k)).take k = f l[j] := by
  induction l generalizing j with
  | nil => simp at hj
  | cons a l ih =>
    rw [List.flatMap_cons]
    cases j with
    | zero =>
      show List.take k (List.drop (0 * k) _) = f a
      rw [Nat.zero_mul, List.drop_zero, List.take_append_of_le_length (by rw [hf]; exact Nat.le_refl _), List.take_of_length_le (by rw [hf]; exact Nat.le_refl _)]
    | succ j =>
      rw [show (j + 1) * k = (f a).length + j * k from by rw [hf, Nat.succ_mul]; omega, List.drop_append, Nat.add_sub_cancel_left, List.drop_eq_nil_of_le (by omega), List.nil_append]
      exact ih j (by simpa using hj)
theorem RA.atK {w : World} {B : Option Addr} (hf : ∀ a, (f a).length = k) (hk : 0 < k) {l : List α} (h : RA w B (l.flatMap f)) (j : Nat) (hj : j < l.length) : ∃ b o, B = some ⟨b, o, none⟩ ∧ w.rangeAt b (o + j * k) (f l[j]) := by
  have hl := flat_len hf l
  have hp : 0 < l.length * k := Nat.mul_pos (by omega) hk
  obtain ⟨b, o, rfl, _, hr⟩ := h (by intro h0; rw [h0] at hl; simp only [List.length_nil] at hl; omega)
  refine ⟨b, o, rfl, fun q v hq => ?_⟩
  rw [← flat_at hf l j hj, List.getElem?_take] at hq
  split at hq
  · rw [List.getElem?_drop] at hq
    rw [Nat.add_assoc]
    exact hr _ v hq
  · cases hq
theorem SrA.atK {w0 : World} {M : Mem} {L : List Ent} {b o : Nat} (hf : ∀ a, (f a).length = k) (hk : 0 < k) {l : List α} (h : SrA w0 M L (some ⟨b, o, none⟩) (l.flatMap f)) (j : Nat) (hj : j < l.length) : ∀ W M', M.le M' → St w0 W M' L → W.rangeAt b (o + j * k) (f l[j]) := fun W M' hM H => by
  obtain ⟨b', o', he, hr⟩ := RA.atK hf hk (h W M' hM H) j hj
  injection he with he
  injection he with e1 e2
  subst e1 e2
  exact hr
theorem flat_one (h1 : ∀ a, ∀ u ∈ f a, u.oneCell' = true) (l : List α) : ∀ u ∈ l.flatMap f, u.oneCell' = true := fun u hu => by
  obtain ⟨a, _, h⟩ := List.mem_flatMap.1 hu
  exact h1 a u h
end
/-- A name in memory. -/
structure Nm where
  A : Option Addr
  n : Nat
  c : Nat
  l : List Tu.Part
def Nm.v (m : Nm) : Value := .slice m.A m.n m.c
def Nm.In (M : Mem) (m : Nm) : Prop := m.n = m.l.length ∧ (m.A = none → m.c = 0) ∧ m.n ≤ m.c ∧ Wd.In M (RA · m.A (Tp.pcs m.l))
theorem Nm.In.le {M M' : Mem} {m : Nm} (h : Nm.In M m) (hm : M.le M') : Nm.In M' m := ⟨h.1, h.2.1, h.2.2.1, h.2.2.2.le hm⟩
/-- What is to be written, as the law says it. -/
structure Dd where
  T : Nat
  m : Nm
  drop : Bool
  p : Pc
def dd (d : Dd) : List Value := [.int .u64 (d.T : Int), d.m.v, .bool d.drop, d.p.v]
def dds (l : List Dd) : List Value := l.flatMap dd
theorem dd_len (d : Dd) : (dd d).length = 4 := rfl
def Dd.In (M : Mem) (d : Dd) : Prop := Nm.In M d.m ∧ d.p.ok ∧ Wd.In M (RB · d.p.A d.p.l)
theorem Dd.In.le {M M' : Mem} {d : Dd} (h : Dd.In M d) (hm : M.le M') : Dd.In M' d := ⟨h.1.le hm, h.2.1, h.2.2.le hm⟩
/-- A write in memory: whose, which name, what. -/
structure Wt where
  s : Option Nat
  T : Nat
  m : Nm
  set : Bool
  p : Pc
def Wt.cap (a : Wt) : Value := .agg #[.pointer (a.s.map fun t => ⟨t, 0, none⟩), .int .u64 (a.T : Int)]
def wt (a : Wt) : List Value := [.pointer (a.s.map fun t => ⟨t, 0, none⟩), .int .u64 (a.T : Int), a.m.v, .bool a.set, a.p.v]
def wts (l : List Wt) : List Value := l.flatMap wt
theorem wt_len (a : Wt) : (wt a).length = 5 := rfl
def Wt.In (M : Mem) (d : Wt) : Prop := Nm.In M d.m ∧ d.p.ok ∧ Wd.In M (RB · d.p.A d.p.l)
theorem Wt.In.le {M M' : Mem} {d : Wt} (h : Wt.In M d) (hm : M.le M') : Wt.In M' d := ⟨h.1.le hm, h.2.1, h.2.2.le hm⟩
theorem wt_one (a : Wt) : ∀ u ∈ wt a, u.oneCell' = true := by
  intro u hu
  simp only [wt, Nm.v, Pc.v, List.mem_cons, List.not_mem_nil, or_false] at hu
  rcases hu with rfl | rfl | rfl | rfl | rfl <;> rfl
/-- An item in memory: a name, what it is set to. -/
structure It where
  m : Nm
  p : Pc
def it (a : It) : List Value := [a.m.v, a.p.v]
def its (l : List It) : List Value := l.flatMap it
theorem it_len (a : It) : (it a).length = 2 := rfl
theorem it_one (a : It) : ∀ u ∈ it a, u.oneCell' = true := by
  intro u hu
  simp only [it, Nm.v, Pc.v, List.mem_cons, List.not_mem_nil, or_false] at hu
  rcases hu with rfl | rfl <;> rfl
def It.In (M : Mem) (d : It) : Prop := Nm.In M d.m ∧ d.p.ok ∧ Wd.In M (RB · d.p.A d.p.l)
theorem It.In.le {M M' : Mem} {d : It} (h : It.In M d) (hm : M.le M') : It.In M' d := ⟨h.1.le hm, h.2.1, h.2.2.le hm⟩
/-- The store of partitions at block t: its store is at block s. -/
def CapAt (M : Mem) (t s : Nat) : Prop := Wd.In M fun W => Blk W t 109 [.pointer (some ⟨s, 0, none⟩)]
theorem CapAt.le {M M' : Mem} {t s : Nat} (h : CapAt M t s) (hm : M.le M') : CapAt M' t s := Wd.In.le h hm
theorem CapAt.c0 {w0 w : World} {M : Mem} {L : List Ent} {t s : Nat} (h : CapAt M t s) (H : St w0 w M L) : w.cell? ⟨t, 0, none⟩ = some (.pointer (some ⟨s, 0, none⟩)) := (Wd.In.now h H).cell 0
theorem _root_.Go.Proofs.YtepgmebklhemgaaGreatDoor.Wd.St.litS {w0 w : World} {M : Mem} {L : List Ent} (h : St w0 w M L) (cs : List Value) (t : TypeId) (sz n : Nat) (hn : n * sz = cs.length) (hm : n ≤ maxLen) {g : Nat} (hg : g = w.heap.size) : St w0 (w.alloc (.cells cs.toArray t)) M (er t sz (.slice (some ⟨g, 0, none⟩) n n) n cs :: L) := by
  subst hg
  have h1 := World.ownsRow_lit (base := w.heap.size) (e := t) (size := sz) w cs.toArray n (Nat.le_refl _) hm (by simpa using hn.symm)
  exact h.addRow ((Below.refl _ _).alloc (Nat.le_refl _) _) (by simpa using h1)
theorem Tryz.sizeWrite : (Tryz.prog.info? 64).map (·.size) = some 5 := by kernel_rfl
theorem Tryz.sizeCap : (Tryz.prog.info? 60).map (·.size) = some 2 := by kernel_rfl
theorem Tryz.sizeItem : (Tryz.prog.info? 113).map (·.size) = some 2 := by kernel_rfl
theorem Tryz.sizeDo : (Tryz.prog.info? 32).map (·.size) = some 4 := by kernel_rfl
theorem Tryz.infoWrite : (Tryz.prog.info? 64).map (fun i => (i.zero, i.size, i.bytes)) = some (some (.agg #[.pointer none, .int .u64 0, .slice none 0 0, .bool false, .slice none 0 0]), 5, 72) := by kernel_rfl
theorem Tryz.infoItem : (Tryz.prog.info? 113).map (fun i => (i.zero, i.size, i.bytes)) = some (some (.agg #[.slice none 0 0, .slice none 0 0]), 2, 48) := by kernel_rfl
theorem Tryz.infoPart : (Tryz.prog.info? 79).map (fun i => (i.zero, i.size, i.bytes)) = some (some (.agg #[.string ⟨#[]⟩, .int .u64 0, .bool false]), 3, 32) := by kernel_rfl
theorem Tryz.infoU64 : (Tryz.prog.info? 23).map (fun i => (i.zero, i.size, i.bytes)) = some (some (.int .u64 0), 1, 8) := by kernel_rfl
theorem Tryz.zeroWrite : (Tryz.prog.info? 64).map (fun i => (i.zero, i.size)) = some (some (.agg #[.pointer none, .int .u64 0, .slice none 0 0, .bool false, .slice none 0 0]), 5) := by kernel_rfl
end Go.Proofs.YtepgmebklhemgaaGreatDoor
/- The small functions of a store of partitions. -/
set_option linter.unusedVariables false
set_option linter.unusedSimpArgs false
namespace Go.Proofs.YtepgmebklhemgaaGreatDoor
open Go.RowKit Wd
def capV (s : Option Nat) (T : Nat) : Value := .agg #[.pointer (s.map fun t => ⟨t, 0, none⟩), .int .u64 (T : Int)]
theorem pcs_one (l : List Tu.Part) : ∀ u ∈ Tp.pcs l, u.oneCell' = true := flat_one (f := Tp.pc) (fun a u hu => by
  simp only [Tp.pc, List.mem_cons, List.not_mem_nil, or_false] at hu
  rcases hu with rfl | rfl | rfl <;> rfl) l
section
variable {w0 w : World} {M : Mem} {L : List Ent} {t s : Nat}
theorem cis_any (H : St w0 w M L) (ht : CapAt M t s) : Calls Tryz.prog 41 #[.pointer (some ⟨t, 0, none⟩)] w fun e w' => e = .returned (.bool true) ∧ w = w' := by
  have c0 := ht.c0 H
  go_enter Tryz.func41, Tryz.ntmps41
  go_wp2
  go_ret
  exact ⟨rfl, rfl⟩
theorem cis_nil (w : World) : Calls Tryz.prog 41 #[.pointer none] w fun e w' => e = .returned (.bool false) ∧ w = w' := by
  go_enter Tryz.func41, Tryz.ntmps41
  go_wp2
  go_ret
  exact ⟨rfl, rfl⟩
theorem grant_any (H : St w0 w M L) (ht : CapAt M t s) (T : Nat) : Calls Tryz.prog 24 #[.pointer (some ⟨t, 0, none⟩), .int .u64 (T : Int)] w fun e w' => e = .returned (capV (some t) T) ∧ St w0 w' M L := by
  have H1 := H.new [.pointer none, .int .u64 0] 60
  have HI := Lib.hid (cis_any H1 ht)
  go_enter Tryz.func24, Tryz.ntmps24
  go_wp2_with fail
  refine HI.out.mono ?_
  rintro e w' ⟨rfl, rfl⟩
  generalize w.heap.size = g at *
  go_wp2_with (refine wpList_store_st H1 (by rfl) 60 (.tmp 4) (.tmp 11) (by rfl) 0 [.pointer (some ⟨t, 0, none⟩), .int .u64 (T : Int)] (by rfl) (by rfl) (by simp) (by exact Tryz.sizeCap) (by simp [Value.oneCell']) ?_; intro w2 H2)
  rw [ins_all [.pointer none, .int .u64 0] [.pointer (some ⟨t, 0, none⟩), .int .u64 (T : Int)] rfl] at H2
  go_wp2
  refine ret_row H2 (s := 4) rfl rfl Tryz.underlying60 rfl Tryz.sizeCap rfl ?_
  exact ⟨rfl, H2.d0⟩
theorem grant_nil (H : St w0 w M L) (T : Nat) : Calls Tryz.prog 24 #[.pointer none, .int .u64 (T : Int)] w fun e w' => e = .returned (capV none 0) ∧ St w0 w' M L := by
  have H1 := H.new [.pointer none, .int .u64 0] 60
  have HI := Lib.hid (cis_nil (w.alloc (.cells #[.pointer none, .int .u64 0] 60)))
  go_enter Tryz.func24, Tryz.ntmps24
  go_wp2_with fail
  refine HI.out.mono ?_
  rintro e w' ⟨rfl, rfl⟩
  generalize w.heap.size = g at *
  go_wp2_with (refine wpList_store_st H1 (by rfl) 60 (.tmp 4) (.tmp 8) (by rfl) 0 [.pointer none, .int .u64 0] (by rfl) (by rfl) (by simp) (by exact Tryz.sizeCap) (by simp [Value.oneCell']) ?_; intro w2 H2)
  rw [ins_all [.pointer none, .int .u64 0] [.pointer none, .int .u64 0] rfl] at H2
  go_wp2
  refine ret_row H2 (s := 4) rfl rfl Tryz.underlying60 rfl Tryz.sizeCap rfl ?_
  exact ⟨rfl, H2.d0⟩
theorem tenant_any (H : St w0 w M L) (s : Option Nat) (T : Nat) : Calls Tryz.prog 23 #[capV s T] w fun e w' => e = .returned (.int .u64 (T : Int)) ∧ St w0 w' M L := by
  unfold capV
  go_enter Tryz.func23, Tryz.ntmps23
  go_wp2
  go_ret
  exact ⟨rfl, H.alloc _⟩
set_option maxRecDepth 100000 in
theorem full_any (H : St w0 w M L) (T : Nat) {A : Option Addr} {c n : Nat} {l : List Tu.Part} (hn : n = l.length) (hn2 : n ≤ 100000) (hA : A = none → c = 0) (hl : SrA w0 M L A (Tp.pcs l)) :
    Calls Tryz.prog 35 #[.int .u64 (T : Int), .slice A n c] w fun e w' => ∃ B d, e = .returned (.slice B (n + 1) d) ∧ St w0 w' M (er 79 3 (.slice B (n + 1) d) (n + 1) (Tp.pcs (⟨[], T, false⟩ :: l)) :: L) := by
  have H1 := H.litS (Tp.pc ⟨[], T, false⟩) 79 3 1 rfl (by decide) rfl
  have hl1 := (hl.cons (er 79 3 (.slice (some ⟨w.heap.size, 0, none⟩) 1 1) 1 (Tp.pc ⟨[], T, false⟩))).now H1
  have hlen : (Tp.pcs l).length = n * 3 := by rw [Tp.pcs_length, hn]
  have hone := pcs_one l
  have HL := Lib.hid (And.intro hl1 (And.intro hlen hone))
  clear hl1 hlen hone hn
  unfold Tp.pc at H1
  go_enter Tryz.func35, Tryz.ntmps35
  go_wp2_with (at_builtin; refine wpList_append_any_st H1 (by rfl) (.tmp 7) (.tmp 8) 24 (by rfl) Tryz.infoPart (by rfl) (by decide) Tryz.underlying24 (by rfl) A n c (Tp.pcs l) (by rfl) HL.out.2.1 hA HL.out.1 HL.out.2.2 (by omega) (by omega) ?_; intro v2 w2 H2)
  obtain ⟨B, d, rfl, -⟩ := H2.shape 0 rfl
  rw [Nat.add_comm 1 n] at H2 ⊢
  go_wp2
  go_ret
  exact ⟨B, d, rfl, H2⟩
/-- Parts cloned. -/
def RetNm (w0 : World) (M : Mem) (L : List Ent) (l : List Tu.Part) (e : Ending) (w' : World) : Prop :=
  ∃ m M', e = .returned (Nm.v m) ∧ m.l = l ∧ M.le M' ∧ Nm.In M' m ∧ St w0 w' M' L
theorem _root_.Go.Proofs.YtepgmebklhemgaaGreatDoor.Wd.St.keepNm {A : Option Addr} {c n : Nat} {l : List Tu.Part} (H : St w0 w M (er 79 3 (.slice A n c) n (Tp.pcs l) :: L)) : ∃ M', M.le M' ∧ St w0 w M' L ∧ Nm.In M' ⟨A, n, c, l⟩ := by
  obtain ⟨A', c', he, hc, hA⟩ := H.shape' 0 rfl
  injection he with e1 e2 e3
  subst e1 e3
  have ho := (H.own 0 rfl).1
  rw [Tp.pcs_length] at ho
  obtain ⟨M', h1, h2, h3, _⟩ := H.lendRowA
  exact ⟨M', h1, h2, by show n = l.length; omega, hA, hc, h3⟩
set_option maxRecDepth 100000 in
theorem cloneNm_any (H : St w0 w M L) {m : Nm} (hm : Nm.In M m) (hn : m.n ≤ 100000) :
    Calls Tryz.prog 53 #[Nm.v m] w (RetNm w0 M L m.l) := by
  obtain ⟨A, n, c, l⟩ := m
  obtain ⟨h1, h2, h3, h4⟩ := hm
  unfold Nm.v
  dsimp only at h1 h2 h3 h4 hn ⊢
  have hq := fun (a : Option Addr) (n c : Nat) (w : World) => run_eql_slice_nil (P := Tryz.prog) w 24 79 a n c Tryz.underlying24
  cases A with
  | none =>
    obtain rfl := h2 rfl
    obtain rfl : n = 0 := by omega
    obtain rfl : l = [] := List.length_eq_zero_iff.1 h1.symm
    clear h1 h2 h3 h4 hn
    go_enter Tryz.func53, Tryz.ntmps53
    go_wp2
    go_ret
    exact ⟨⟨none, 0, 0, []⟩, M, rfl, rfl, Mem.le.refl _, ⟨rfl, fun _ => rfl, Nat.le_refl _, fun W _ h => absurd rfl h⟩, H⟩
  | some ad =>
    have H1 := H.lit00 79 3
    have hlen : (Tp.pcs l).length = n * 3 := by rw [Tp.pcs_length, h1]
    have HL := Lib.hid (And.intro (h4.now H1) (And.intro hlen (pcs_one l)))
    clear hlen h1 h4
    go_enter Tryz.func53, Tryz.ntmps53
    go_wp2_with (at_builtin; refine wpList_append_any_st H1 (by rfl) (.tmp 5) (.tmp 6) 24 (by rfl) Tryz.infoPart (by rfl) (by decide) Tryz.underlying24 (by rfl) (some ad) n c (Tp.pcs l) (by rfl) HL.out.2.1 h2 HL.out.1 HL.out.2.2 (by omega) (by omega) ?_; intro v2 w2 H2)
    rw [Nat.zero_add, List.nil_append] at H2
    obtain ⟨B, d, rfl, -⟩ := H2.shape 0 rfl
    obtain ⟨M', h5, h6, h7⟩ := H2.keepNm
    go_wp2
    go_ret
    exact ⟨_, M', rfl, rfl, h5, h7, h6⟩
end
/-- A name's key. -/
def Cp.full (T : Nat) (l : List Tu.Part) : List Tu.Part := ⟨[], T, false⟩ :: l
def Cp.kerr (T : Nat) (l : List Tu.Part) : Nat := if l.length < 1 ∨ 4 < l.length then 1 else Tu.check (Cp.full T l)
def Cp.key (T : Nat) (l : List Tu.Part) : List UInt8 := if l.length < 1 ∨ 4 < l.length then [] else Tp.encS (Cp.full T l)
/-- Parts of no great length. -/
def Mild (T : Nat) (l : List Tu.Part) : Prop := T < 18446744073709551616 ∧ l.length ≤ 1000 ∧ ∀ p ∈ l, p.text.length ≤ 100000 ∧ p.num < 18446744073709551616
theorem Mild.tame {T : Nat} {l : List Tu.Part} (h : Mild T l) : Tp.Tame (Cp.full T l) := ⟨by unfold Cp.full; simp; have := h.2.1; omega, fun p hp => by
  rcases List.mem_cons.1 hp with rfl | hp
  · exact ⟨by simp, h.1⟩
  · exact h.2.2 p hp⟩
section
variable {w0 w : World} {M : Mem} {L : List Ent} {t s : Nat}
set_option maxRecDepth 100000 in
theorem key_any (H : St w0 w M L) (hx : In M Tp.MaxI) (s : Option Nat) (T : Nat) {m : Nm} (hm : Nm.In M m) (ht : Mild T m.l) :
    Calls Tryz.prog 44 #[capV s T, Nm.v m] w fun e w' => e = .returned (.tuple #[.string (str (Cp.key T m.l)), .int .i64 (Cp.kerr T m.l : Int)]) ∧ St w0 w' M L := by
  have hm0 := hm
  obtain ⟨A, n, c, l⟩ := m
  obtain ⟨h1, h2, h3, h4⟩ := hm
  unfold capV
  simp only [Nm.v] at h1 h2 h3 h4 ht ⊢
  have h0 := ht.2.1
  by_cases hno : l.length < 1 ∨ 4 < l.length
  · have e1 : Cp.key T l = [] := if_pos hno
    have e2 : Cp.kerr T l = 1 := if_pos hno
    rw [e1, e2]
    have hno' : (n : Int) < 1 ∨ (¬ (n : Int) < 1 ∧ (4 : Int) < (n : Int)) := by omega
    clear e1 e2 hno ht hm0 h4 h1
    go_enter Tryz.func44, Tryz.ntmps44
    rcases hno' with q1 | ⟨q1, q2⟩
    all_goals
      go_wp2
      go_ret2
      exact ⟨rfl, H.alloc _⟩
  · have e1 : Cp.key T l = Tp.encS (Cp.full T l) := if_neg hno
    have e2 : Cp.kerr T l = Tu.check (Cp.full T l) := if_neg hno
    rw [e1, e2]
    obtain ⟨S, hS⟩ : ∃ S, S = Tp.encS (Cp.full T l) := ⟨_, rfl⟩
    obtain ⟨C, hC⟩ : ∃ C, C = Tu.check (Cp.full T l) := ⟨_, rfl⟩
    rw [← hS, ← hC]
    have q1 : ¬ (n : Int) < 1 := by omega
    have q2 : ¬ (4 : Int) < (n : Int) := by omega
    have H0 := H.alloc (.cells #[.pointer (s.map fun t => ⟨t, 0, none⟩), .int .u64 (T : Int)] 60)
    have HN := Lib.hid (Tp.num_any H0 T)
    have hlen : (Tp.pcs l).length = n * 3 := by rw [Tp.pcs_length, h1]
    have HL := Lib.hid (And.intro h4 (And.intro hlen (And.intro (pcs_one l) (And.intro ht.tame (And.intro h1 (And.intro hS hC))))))
    clear hno e1 e2 ht hm0 h4 hlen h1 h0 hS hC
    go_enter Tryz.func44, Tryz.ntmps44
    go_wp2_with fail
    refine HN.out.mono ?_
    rintro e w1 ⟨rfl, H1⟩
    have H2 := H1.litS (Tp.pc ⟨[], T, false⟩) 79 3 1 rfl (by decide) rfl
    unfold Tp.pv
    unfold Tp.pc at H2
    clear HN H0
    go_wp2_with (at_builtin; refine wpList_append_any_st H2 (by rfl) (.tmp 17) (.tmp 18) 24 (by rfl) Tryz.infoPart (by rfl) (by decide) Tryz.underlying24 (by rfl) A n c (Tp.pcs l) (by rfl) HL.out.2.1 h2 (HL.out.1.now H2) HL.out.2.2.1 (by omega) (by omega) ?_; intro v2 w2 H3)
    obtain ⟨B, d, rfl, -⟩ := H3.shape 0 rfl
    have hen := Tp.encode_any (c := d) (A := B) (n := 1 + n) (l := Cp.full T l) H3 hx (by have := HL.out.2.2.2.2.1; unfold Cp.full; simp; omega) (SrA.row 0 rfl) HL.out.2.2.2.1
    rw [← HL.out.2.2.2.2.2.1, ← HL.out.2.2.2.2.2.2] at hen
    have HE := Lib.hid hen
    clear hen H2
    go_wp2_with fail
    refine HE.out.mono ?_
    rintro e w3 ⟨rfl, H4⟩
    go_wp2
    go_ret2
    exact ⟨rfl, H4.d0⟩
/-- A write given. -/
def RetWt (w0 : World) (M : Mem) (L : List Ent) (s : Option Nat) (T : Nat) (l : List Tu.Part) (b : Bool) (d : List UInt8) (e : Ending) (w' : World) : Prop :=
  ∃ (a : Wt) (M' : Mem), e = .returned (.agg (wt a).toArray) ∧ a.s = s ∧ a.T = T ∧ a.m.l = l ∧ a.set = b ∧ a.p.l = d ∧ M.le M' ∧ Wt.In M' a ∧ St w0 w' M' L
def zw : List Value := [.pointer none, .int .u64 0, .slice none 0 0, .bool false, .slice none 0 0]
set_option maxRecDepth 100000 in
theorem drop_any (H : St w0 w M L) (s : Option Nat) (T : Nat) {m : Nm} (hm : Nm.In M m) (hn : m.n ≤ 100000) :
    Calls Tryz.prog 21 #[capV s T, Nm.v m] w (RetWt w0 M L s T m.l false []) := by
  obtain ⟨V, hV⟩ : ∃ V, V = Nm.v m := ⟨_, rfl⟩
  have H1 := (H.new [.pointer (s.map fun t => ⟨t, 0, none⟩), .int .u64 (T : Int)] 60).newg zw 64 (g := w.heap.size + 1) (by simp)
  have hcl := fun w L (H : St w0 w M L) => cloneNm_any H hm hn
  rw [← hV] at hcl ⊢
  have HC := Lib.hid hcl
  obtain ⟨P, hP⟩ : ∃ P : Value, P = .pointer (s.map fun t => ⟨t, 0, none⟩) := ⟨_, rfl⟩
  unfold capV
  rw [← hP] at H1 ⊢
  have HP := Lib.hid (And.intro hP hV)
  unfold zw at H1
  clear hcl hm hn hP hV
  go_enter Tryz.func21, Tryz.ntmps21
  go_wp2_with fail
  generalize World.alloc (World.alloc _ _) _ = w1 at *
  generalize w.heap.size = g at *
  refine Pt.wp_plan (fun w' => Blk w' g 60 [P, .int .u64 (T : Int)]) (Pt.prs [1] (Pt.rds [0] (.go 2 (Pt.prs [3] (.go 4 .fin))))) [] Tryz.mixed (by kernel_rfl) (fun _ _ d _ _ h => by cases d <;> exact h) (H1.drew.blk 1 rfl) ?_
  have H2 := H1.drew
  clear H1
  simp only [Pt.toL, Pt.rds, Pt.prs, Pt.at_, List.drop_succ_cons, List.drop_zero]
  (refine Pt.pr_run (v := ?_) (by rfl) ?_ ?_; rotate_left; (focus (intro w'; go_simp; with_reducible rfl)); simp only [Act.put, List.setIfInBounds_toArray, List.set_cons_zero, List.set_cons_succ])
  refine Pt.rd_load (by rfl) 60 (.tmp 2) (by rfl) g 0 (by rfl) [P, .int .u64 (T : Int)] _ (fun w' h => h.range 0 2 _ rfl) Tryz.underlying60 rfl (by exact Tryz.sizeCap) ?_
  simp only [Act.put, List.setIfInBounds_toArray, List.set_cons_zero, List.set_cons_succ]
  refine Pt.run_go ?_
  go_wp2_with fail
  refine (HC.out _ _ H2).mono ?_
  rintro e w3 ⟨⟨A1, n1, c1, l1⟩, M', rfl, rfl, hM, hin, H5⟩
  unfold Nm.v
  clear H2 HC
  go_wp2_with fail
  refine Pt.same (H5.blk 1 rfl) ?_
  (refine Pt.pr_run (v := ?_) (by rfl) ?_ ?_; rotate_left; (focus (intro w'; go_simp; with_reducible rfl)); simp only [Act.put, List.setIfInBounds_toArray, List.set_cons_zero, List.set_cons_succ])
  refine Pt.run_go ?_
  refine wpList_store_st H5 (by rfl) 64 (.tmp 4) (.tmp 8) (by rfl) 0 [P, .int .u64 (T : Int), .slice A1 n1 c1, .bool false, .slice none 0 0] (by rfl) (by rfl) (by simp) (by exact Tryz.sizeWrite) (by simp [Value.oneCell']; rw [HP.out.1]) ?_
  intro w4 H6
  rw [ins_all [.pointer none, .int .u64 0, .slice none 0 0, .bool false, .slice none 0 0] [P, .int .u64 (T : Int), .slice A1 n1 c1, .bool false, .slice none 0 0] rfl] at H6
  refine wpList_nil ?_
  refine Pt.same (H6.blk 1 rfl) ?_
  simp only [Act.put, List.setIfInBounds_toArray, List.set_cons_zero, List.set_cons_succ]
  refine Pt.run_fin ?_
  go_wp2
  refine ret_row H6 (s := 4) rfl rfl Tryz.underlying64 rfl Tryz.sizeWrite rfl ?_
  exact ⟨⟨s, T, ⟨A1, n1, c1, _⟩, false, ⟨none, 0, 0, []⟩⟩, M', by rw [HP.out.1]; rfl, rfl, rfl, rfl, rfl, rfl, hM, ⟨hin, ⟨rfl, fun _ => rfl, Nat.le_refl _⟩, fun W _ h => absurd rfl h⟩, H6.d0.d0⟩
set_option maxRecDepth 100000 in
theorem set_any (H : St w0 w M L) (s : Option Nat) (T : Nat) {m : Nm} (hm : Nm.In M m) (hn : m.n ≤ 100000) {p : Pc} (hp : p.ok) (hi : In M (RB · p.A p.l)) (hn2 : p.n ≤ 100000000) :
    Calls Tryz.prog 46 #[capV s T, Nm.v m, Pc.v p] w (RetWt w0 M L s T m.l true p.l) := by
  obtain ⟨V, hV⟩ : ∃ V, V = Nm.v m := ⟨_, rfl⟩
  have H1 := (H.new [.pointer (s.map fun t => ⟨t, 0, none⟩), .int .u64 (T : Int)] 60).newg zw 64 (g := w.heap.size + 1) (by simp)
  have hcl := fun w L (H : St w0 w M L) => cloneNm_any H hm hn
  rw [← hV] at hcl ⊢
  have HC := Lib.hid hcl
  obtain ⟨P, hP⟩ : ∃ P : Value, P = .pointer (s.map fun t => ⟨t, 0, none⟩) := ⟨_, rfl⟩
  unfold capV
  rw [← hP] at H1 ⊢
  have HP := Lib.hid (And.intro hP hV)
  unfold zw at H1
  obtain ⟨PA, pn, pc, pl⟩ := p
  obtain ⟨hp1, hp2, hp3⟩ := hp
  unfold Pc.v
  dsimp only at hp1 hp2 hp3 hi hn2 ⊢
  have hcd := fun w M' L (hM : M.le M') (H : St w0 w M' L) => clone_any (A := PA) (c := pc) H hp2 (by omega) (Sr.of_in (hi.le hM)) (by omega)
  rw [← hp1] at hcd
  have HD := Lib.hid hcd
  have HQ := Lib.hid hp1
  clear hcl hm hn hP hV hcd hp2 hp3 hi hn2 hp1
  go_enter Tryz.func46, Tryz.ntmps46
  go_wp2_with fail
  generalize World.alloc (World.alloc _ _) _ = w1 at *
  generalize w.heap.size = g at *
  refine Pt.wp_plan (fun w' => Blk w' g 60 [P, .int .u64 (T : Int)]) (Pt.prs [1, 3] (Pt.rds [0] (.go 2 (.go 4 (Pt.prs [5] (.go 6 .fin)))))) [] Tryz.mixed (by kernel_rfl) (fun _ _ d _ _ h => by cases d <;> exact h) (H1.drew.blk 1 rfl) ?_
  have H2 := H1.drew
  clear H1
  simp only [Pt.toL, Pt.rds, Pt.prs, Pt.at_, List.drop_succ_cons, List.drop_zero]
  iterate 2 (refine Pt.pr_run (v := ?_) (by rfl) ?_ ?_; rotate_left; (focus (intro w'; go_simp; with_reducible rfl)); simp only [Act.put, List.setIfInBounds_toArray, List.set_cons_zero, List.set_cons_succ])
  refine Pt.rd_load (by rfl) 60 (.tmp 3) (by rfl) g 0 (by rfl) [P, .int .u64 (T : Int)] _ (fun w' h => h.range 0 2 _ rfl) Tryz.underlying60 rfl (by exact Tryz.sizeCap) ?_
  simp only [Act.put, List.setIfInBounds_toArray, List.set_cons_zero, List.set_cons_succ]
  refine Pt.run_go ?_
  go_wp2_with fail
  refine (HC.out _ _ H2).mono ?_
  rintro e w3 ⟨⟨A1, n1, c1, l1⟩, M', rfl, rfl, hM, hin, H5⟩
  unfold Nm.v
  clear H2 HC
  go_wp2_with fail
  refine Pt.same (H5.blk 1 rfl) ?_
  refine Pt.run_go ?_
  go_wp2_with fail
  refine (HD.out _ _ _ hM H5).mono ?_
  rintro e w4 ⟨v4, rfl, H6⟩
  obtain ⟨A2, c2, rfl, hc2, hA2⟩ := H6.shape' 0 rfl
  obtain ⟨M2, hM2, H7, hin2⟩ := H6.keepRow
  clear H6 H5 HD
  go_wp2_with fail
  refine Pt.same (H7.blk 1 rfl) ?_
  (refine Pt.pr_run (v := ?_) (by rfl) ?_ ?_; rotate_left; (focus (intro w'; go_simp; with_reducible rfl)); simp only [Act.put, List.setIfInBounds_toArray, List.set_cons_zero, List.set_cons_succ])
  refine Pt.run_go ?_
  refine wpList_store_st H7 (by rfl) 64 (.tmp 6) (.tmp 12) (by rfl) 0 [P, .int .u64 (T : Int), .slice A1 n1 c1, .bool true, .slice A2 pn c2] (by rfl) (by rfl) (by simp) (by exact Tryz.sizeWrite) (by simp [Value.oneCell']; rw [HP.out.1]) ?_
  intro w5 H8
  rw [ins_all [.pointer none, .int .u64 0, .slice none 0 0, .bool false, .slice none 0 0] [P, .int .u64 (T : Int), .slice A1 n1 c1, .bool true, .slice A2 pn c2] rfl] at H8
  refine wpList_nil ?_
  refine Pt.same (H8.blk 1 rfl) ?_
  simp only [Act.put, List.setIfInBounds_toArray, List.set_cons_zero, List.set_cons_succ]
  refine Pt.run_fin ?_
  go_wp2
  refine ret_row H8 (s := 6) rfl rfl Tryz.underlying64 rfl Tryz.sizeWrite rfl ?_
  exact ⟨⟨s, T, ⟨A1, n1, c1, _⟩, true, ⟨A2, pn, c2, pl⟩⟩, M2, by rw [HP.out.1]; rfl, rfl, rfl, rfl, rfl, rfl, hM.trans hM2, ⟨hin.le hM2, ⟨HQ.out, hA2, hc2⟩, hin2⟩, H8.d0.d0⟩
end
end Go.Proofs.YtepgmebklhemgaaGreatDoor
/- What is written, as writes. -/
set_option linter.unusedVariables false
set_option linter.unusedSimpArgs false
namespace Go.Proofs.YtepgmebklhemgaaGreatDoor
open Go.RowKit Wd
def Dd.wr (t : Nat) (d : Dd) : Option Nat × Nat × List Tu.Part × Bool × List UInt8 := (some t, d.T, d.m.l, !d.drop, if d.drop then [] else d.p.l)
def Wt.ab (a : Wt) : Option Nat × Nat × List Tu.Part × Bool × List UInt8 := (a.s, a.T, a.m.l, a.set, a.p.l)
def RetWts (w0 : World) (M : Mem) (L : List Ent) (t : Nat) (n : Nat) (l : List Dd) (e : Ending) (w' : World) : Prop :=
  ∃ B d ws M', e = .returned (.slice B n d) ∧ ws.map Wt.ab = l.map (Dd.wr t) ∧ M.le M' ∧ (∀ a ∈ ws, Wt.In M' a) ∧ St w0 w' M' (er 64 5 (.slice B n d) n (wts ws) :: L)
theorem wts_append (l m : List Wt) : wts (l ++ m) = wts l ++ wts m := by simp [wts]
theorem dd_cells {w0 : World} {M : Mem} {A : Option Addr} {l : List Dd} (h : In M (RA · A (dds l))) {w : World} {M1 : Mem} {L : List Ent} (hM : M.le M1) (H : St w0 w M1 L) (k : Nat) (hk : k < l.length) :
    ∃ b o, A = some ⟨b, o, none⟩ ∧ ∀ W M2 L2, M.le M2 → St w0 W M2 L2 → W.cell? ⟨b, o + k * 4, none⟩ = some (.int .u64 (l[k].T : Int)) ∧ W.cell? ⟨b, o + k * 4 + 1, none⟩ = some l[k].m.v ∧ W.cell? ⟨b, o + k * 4 + 2, none⟩ = some (.bool l[k].drop) ∧ W.cell? ⟨b, o + k * 4 + 3, none⟩ = some l[k].p.v := by
  obtain ⟨b, o, rfl, hr⟩ := RA.atK dd_len (by decide) (Wd.In.now (Wd.In.le h hM) H) k hk
  refine ⟨b, o, rfl, fun W M2 L2 hM2 H2 => ?_⟩
  obtain ⟨b2, o2, he, hr2⟩ := RA.atK dd_len (by decide) (Wd.In.now (Wd.In.le h hM2) H2) k hk
  injection he with he
  injection he with e1 e2
  subst e1 e2
  exact ⟨hr2 0 _ rfl, hr2 1 _ rfl, hr2 2 _ rfl, hr2 3 _ rfl⟩
section
variable {w0 w : World} {M : Mem} {L : List Ent} {t s : Nat}
set_option maxRecDepth 100000 in
set_option maxHeartbeats 4000000 in
theorem writes_any (H : St w0 w M L) (ht : CapAt M t s) {A : Option Addr} {c n : Nat} {l : List Dd} (hn : n = l.length) (hA : In M (RA · A (dds l))) (hl : ∀ d ∈ l, Dd.In M d ∧ d.m.n ≤ 100000 ∧ d.p.n ≤ 100000000) (hn2 : n ≤ 100000) :
    Calls Tryz.prog 14 #[.pointer (some ⟨t, 0, none⟩), .slice A n c] w (RetWts w0 M L t n l) := by
  have H0 := H.lit00 64 5
  have HH := Lib.hid (And.intro hn (And.intro hA (And.intro hl ht)))
  clear hn hA hl ht
  go_enter Tryz.func14, Tryz.ntmps14
  go_wp2_with fail
  go_loopw [5, 6] (fun v i wr => ∃ (k d : Nat) (B : Option Addr) (ws : List Wt) (M' : Mem), k ≤ n ∧ i = .int .i64 k ∧ v = .slice B k d ∧ M.le M' ∧ ws.map Wt.ab = (l.take k).map (Dd.wr t) ∧ (∀ a ∈ ws, Wt.In M' a) ∧ St w0 wr M' (er 64 5 (.slice B k d) k (wts ws) :: L)) (fun v i _ => n - (intOf i).toNat)
  case atStart => exact ⟨0, 0, _, [], M, by omega, rfl, rfl, Mem.le.refl _, rfl, (fun a ha => by cases ha), H0⟩
  case round =>
    clear H H0
    obtain ⟨k, d, B, ws, M', hk, rfl, rfl, hM, hab, hin, H1⟩ := hrel
    by_cases hlt : k < n
    · have hk1 : k < l.length := by have := HH.out.1; omega
      obtain ⟨b, o, rfl, hc⟩ := dd_cells HH.out.2.1 hM H1 k hk1
      have hdd := HH.out.2.2.1 _ (List.getElem_mem hk1)
      have hta : l.take (k + 1) = l.take k ++ [l[k]] := List.take_succ_eq_append_getElem hk1
      obtain ⟨q, hq⟩ : ∃ q, q = l[k] := ⟨_, rfl⟩
      simp only [← hq] at hc hdd hta
      obtain ⟨T, m, dr, p⟩ := q
      dsimp only at hc hdd
      obtain ⟨⟨hm, hp, hpi⟩, hmn, hpn⟩ := hdd
      dsimp only at hm hp hpi hmn hpn
      have HD := Lib.hid (And.intro hm (And.intro hp (And.intro hpi (And.intro hmn hpn))))
      have HK := Lib.hid (And.intro hlt (And.intro hM (And.intro hab (And.intro hin hta))))
      have q1 : (k : Int) < (n : Int) := by omega
      obtain ⟨x0, x1, x2, x3⟩ := hc _ M' _ hM H1
      obtain ⟨V, hV⟩ : ∃ V, V = Nm.v m := ⟨_, rfl⟩
      obtain ⟨PV, hPV⟩ : ∃ PV, PV = Pc.v p := ⟨_, rfl⟩
      have hg := grant_any H1 (CapAt.le HH.out.2.2.2 hM) T
      have HG := Lib.hid hg
      have HV := Lib.hid (And.intro hV hPV)
      rw [← hV] at x1
      rw [← hPV] at x3
      simp only [← hV, ← hPV] at hc
      have HC := Lib.hid hc
      clear hm hp hpi hmn hpn hlt hM hab hin hta hc hk1 hq hV hPV hg hk
      go_wp2_with fail
      refine HG.out.mono ?_
      rintro e w2 ⟨rfl, H2⟩
      unfold capV
      simp only [Option.map_some]
      have H3 := H2.new [.pointer (some ⟨t, 0, none⟩), .int .u64 (T : Int)] 60
      obtain ⟨y0, y1, y2, y3⟩ := HC.out _ M' _ HK.out.2.1 H3
      clear HG H2 H1 x0 x1 x2 x3
      go_upto_if 26 with fail
      cases dr with
      | true =>
        go_wp2_with fail
        refine Pt.wp_plan (fun w' => Blk w' w2.heap.size 60 [.pointer (some ⟨t, 0, none⟩), .int .u64 (T : Int)] ∧ w'.cell? ⟨b, o + k * 4 + 1, none⟩ = some V ∧ w'.cell? ⟨b, o + k * 4 + 3, none⟩ = some PV) (Pt.prs [0, 2, 3, 4, 5] (Pt.rds [1, 6] (.go 7 (.go 8 (.go 9 (Pt.prs [10] .fin)))))) [] Tryz.mixed (by kernel_rfl) (fun _ _ d _ _ h => by cases d <;> exact h) ⟨H3.drew.blk 0 rfl, (HC.out _ M' _ HK.out.2.1 H3.drew).2.1, (HC.out _ M' _ HK.out.2.1 H3.drew).2.2.2⟩ ?_
        have H4 := H3.drew
        clear H3 y0 y1 y2 y3
        generalize w2.heap.size = g7 at *
        simp only [Pt.toL, Pt.rds, Pt.prs, Pt.at_, List.drop_succ_cons, List.drop_zero]
        iterate 5 (refine Pt.pr_run (v := ?_) (by rfl) ?_ ?_; rotate_left; (focus (intro w'; go_simp; with_reducible rfl)); simp only [Act.put, List.setIfInBounds_toArray, List.set_cons_zero, List.set_cons_succ])
        refine Pt.rd_load (by rfl) 60 (.tmp 7) (by rfl) g7 0 (by rfl) [.pointer (some ⟨t, 0, none⟩), .int .u64 (T : Int)] _ (fun w' h => h.1.range 0 2 _ rfl) Tryz.underlying60 rfl (by exact Tryz.sizeCap) ?_
        simp only [Act.put, List.setIfInBounds_toArray, List.set_cons_zero, List.set_cons_succ]
        (refine Pt.rd_run (v := ?_) (by rfl) ?_ ?_; rotate_left; (focus (intro w' hS; obtain ⟨-, s1, -⟩ := hS; go_simp; with_reducible rfl)); simp only [Act.put, List.setIfInBounds_toArray, List.set_cons_zero, List.set_cons_succ])
        refine Pt.run_go ?_
        have hcl := drop_any H4 (some t) T (HD.out.1.le HK.out.2.1) HD.out.2.2.2.1
        unfold capV at hcl
        simp only [Option.map_some] at hcl
        rw [← HV.out.1] at hcl
        have HCL := Lib.hid hcl
        clear hcl
        go_wp2_with fail
        refine HCL.out.mono ?_
        rintro e w5 ⟨a, M5, rfl, ha1, ha2, ha3, ha4, ha5, hM5, hin5, H5⟩
        have HA := Lib.hid (And.intro hM5 (And.intro hin5 (show Wt.ab a = Dd.wr t ⟨T, m, true, p⟩ from by unfold Wt.ab Dd.wr; rw [ha1, ha2, ha3, ha4, ha5]; rfl)))
        have hM5' := HK.out.2.1.trans hM5
        clear ha1 ha2 ha3 ha4 ha5 hM5 hin5 H4 HCL
        go_wp2_with fail
        refine Pt.same ⟨H5.blk 0 rfl, (HC.out _ M5 _ hM5' H5).2.1, (HC.out _ M5 _ hM5' H5).2.2.2⟩ ?_
        have hbs := run_buildSlice_one (P := Tryz.prog) (n := 5) Tryz.underlying49 Tryz.zeroWrite rfl (by decide) (by decide) (.agg (wt a).toArray) rfl w5
        have H6 := (H5.f1).alloc (.cells (wt a).toArray 64)
        have hra : RA (w5.alloc (.cells (wt a).toArray 64)) (some ⟨w5.heap.size, 0, none⟩) (wt a) := fun _ => ⟨_, 0, rfl, (Blk.new w5 64 (wt a)).lt, (Blk.new w5 64 (wt a)).range 0 5 _ rfl⟩
        refine Pt.run_go ?_
        refine wpList_bs1 (by rfl) 49 (.tmp 34) (by rfl) (by rfl) hbs ?_
        refine wpList_nil ?_
        refine Pt.same ⟨H6.blk 1 rfl, (HC.out _ M5 _ hM5' H6).2.1, (HC.out _ M5 _ hM5' H6).2.2.2⟩ ?_
        simp only [Act.put, List.setIfInBounds_toArray, List.set_cons_zero, List.set_cons_succ]
        refine Pt.run_go ?_
        refine wpList_append_any_st H6 (by rfl) (.tmp 27) (.tmp 35) 49 (by rfl) Tryz.infoWrite (by rfl) (by decide) Tryz.underlying49 (by rfl) (some ⟨w5.heap.size, 0, none⟩) 1 1 (wt a) (by rfl) rfl (by rintro ⟨⟩) hra (wt_one _) (by omega) (by omega) ?_
        intro v7 w7 H7
        clear hbs hra H6 H5
        obtain ⟨A9, c9, rfl, -⟩ := H7.shape 0 rfl
        refine wpList_nil ?_
        refine Pt.same ⟨H7.blk 1 rfl, (HC.out _ M5 _ hM5' H7).2.1, (HC.out _ M5 _ hM5' H7).2.2.2⟩ ?_
        simp only [Act.put, List.setIfInBounds_toArray, List.set_cons_zero, List.set_cons_succ]
        (refine Pt.pr_run (v := ?_) (by rfl) ?_ ?_; rotate_left; (focus (intro w'; go_simp; with_reducible rfl)); simp only [Act.put, List.setIfInBounds_toArray, List.set_cons_zero, List.set_cons_succ])
        refine Pt.run_fin ?_
        have he : wts ws ++ wt a = wts (ws ++ [a]) := by rw [wts_append]; simp [wts]
        rw [he] at H7
        go_wp2
        exact ⟨⟨k + 1, c9, A9, ws ++ [a], M5, by have := HK.out.1; omega, by go_num, rfl, hM5', by rw [HK.out.2.2.2.2, List.map_append, List.map_append, HK.out.2.2.1]; simp [HA.out.2.2], (fun x hx => by
          rcases List.mem_append.1 hx with hx | hx
          · exact (HK.out.2.2.2.1 x hx).le HA.out.1
          · rw [List.mem_singleton.1 hx]; exact HA.out.2.1), H7.f1.d0⟩, by have := HK.out.1; simp [intOf]; omega⟩
      | false =>
        go_wp2_with fail
        refine Pt.wp_plan (fun w' => Blk w' w2.heap.size 60 [.pointer (some ⟨t, 0, none⟩), .int .u64 (T : Int)] ∧ w'.cell? ⟨b, o + k * 4 + 1, none⟩ = some V ∧ w'.cell? ⟨b, o + k * 4 + 3, none⟩ = some PV) (Pt.prs [0, 2, 3, 4, 5, 7, 8, 9, 10] (Pt.rds [1, 6, 11] (.go 12 (.go 13 (.go 14 (Pt.prs [15] .fin)))))) [] Tryz.mixed (by kernel_rfl) (fun _ _ d _ _ h => by cases d <;> exact h) ⟨H3.drew.blk 0 rfl, (HC.out _ M' _ HK.out.2.1 H3.drew).2.1, (HC.out _ M' _ HK.out.2.1 H3.drew).2.2.2⟩ ?_
        have H4 := H3.drew
        clear H3 y0 y1 y2 y3
        generalize w2.heap.size = g7 at *
        simp only [Pt.toL, Pt.rds, Pt.prs, Pt.at_, List.drop_succ_cons, List.drop_zero]
        iterate 9 (refine Pt.pr_run (v := ?_) (by rfl) ?_ ?_; rotate_left; (focus (intro w'; go_simp; with_reducible rfl)); simp only [Act.put, List.setIfInBounds_toArray, List.set_cons_zero, List.set_cons_succ])
        refine Pt.rd_load (by rfl) 60 (.tmp 7) (by rfl) g7 0 (by rfl) [.pointer (some ⟨t, 0, none⟩), .int .u64 (T : Int)] _ (fun w' h => h.1.range 0 2 _ rfl) Tryz.underlying60 rfl (by exact Tryz.sizeCap) ?_
        simp only [Act.put, List.setIfInBounds_toArray, List.set_cons_zero, List.set_cons_succ]
        (refine Pt.rd_run (v := ?_) (by rfl) ?_ ?_; rotate_left; (focus (intro w' hS; obtain ⟨-, s1, -⟩ := hS; go_simp; with_reducible rfl)); simp only [Act.put, List.setIfInBounds_toArray, List.set_cons_zero, List.set_cons_succ])
        (refine Pt.rd_run (v := ?_) (by rfl) ?_ ?_; rotate_left; (focus (intro w' hS; obtain ⟨-, -, s1⟩ := hS; go_simp; with_reducible rfl)); simp only [Act.put, List.setIfInBounds_toArray, List.set_cons_zero, List.set_cons_succ])
        refine Pt.run_go ?_
        have hcl := set_any H4 (some t) T (HD.out.1.le HK.out.2.1) HD.out.2.2.2.1 HD.out.2.1 (HD.out.2.2.1.le HK.out.2.1) HD.out.2.2.2.2
        unfold capV at hcl
        simp only [Option.map_some] at hcl
        rw [← HV.out.1, ← HV.out.2] at hcl
        have HCL := Lib.hid hcl
        clear hcl
        go_wp2_with fail
        refine HCL.out.mono ?_
        rintro e w5 ⟨a, M5, rfl, ha1, ha2, ha3, ha4, ha5, hM5, hin5, H5⟩
        have HA := Lib.hid (And.intro hM5 (And.intro hin5 (show Wt.ab a = Dd.wr t ⟨T, m, false, p⟩ from by unfold Wt.ab Dd.wr; rw [ha1, ha2, ha3, ha4, ha5]; rfl)))
        have hM5' := HK.out.2.1.trans hM5
        clear ha1 ha2 ha3 ha4 ha5 hM5 hin5 H4 HCL
        go_wp2_with fail
        refine Pt.same ⟨H5.blk 0 rfl, (HC.out _ M5 _ hM5' H5).2.1, (HC.out _ M5 _ hM5' H5).2.2.2⟩ ?_
        have hbs := run_buildSlice_one (P := Tryz.prog) (n := 5) Tryz.underlying49 Tryz.zeroWrite rfl (by decide) (by decide) (.agg (wt a).toArray) rfl w5
        have H6 := (H5.f1).alloc (.cells (wt a).toArray 64)
        have hra : RA (w5.alloc (.cells (wt a).toArray 64)) (some ⟨w5.heap.size, 0, none⟩) (wt a) := fun _ => ⟨_, 0, rfl, (Blk.new w5 64 (wt a)).lt, (Blk.new w5 64 (wt a)).range 0 5 _ rfl⟩
        refine Pt.run_go ?_
        refine wpList_bs1 (by rfl) 49 (.tmp 49) (by rfl) (by rfl) hbs ?_
        refine wpList_nil ?_
        refine Pt.same ⟨H6.blk 1 rfl, (HC.out _ M5 _ hM5' H6).2.1, (HC.out _ M5 _ hM5' H6).2.2.2⟩ ?_
        simp only [Act.put, List.setIfInBounds_toArray, List.set_cons_zero, List.set_cons_succ]
        refine Pt.run_go ?_
        refine wpList_append_any_st H6 (by rfl) (.tmp 37) (.tmp 50) 49 (by rfl) Tryz.infoWrite (by rfl) (by decide) Tryz.underlying49 (by rfl) (some ⟨w5.heap.size, 0, none⟩) 1 1 (wt a) (by rfl) rfl (by rintro ⟨⟩) hra (wt_one _) (by omega) (by omega) ?_
        intro v7 w7 H7
        clear hbs hra H6 H5
        obtain ⟨A9, c9, rfl, -⟩ := H7.shape 0 rfl
        refine wpList_nil ?_
        refine Pt.same ⟨H7.blk 1 rfl, (HC.out _ M5 _ hM5' H7).2.1, (HC.out _ M5 _ hM5' H7).2.2.2⟩ ?_
        simp only [Act.put, List.setIfInBounds_toArray, List.set_cons_zero, List.set_cons_succ]
        (refine Pt.pr_run (v := ?_) (by rfl) ?_ ?_; rotate_left; (focus (intro w'; go_simp; with_reducible rfl)); simp only [Act.put, List.setIfInBounds_toArray, List.set_cons_zero, List.set_cons_succ])
        refine Pt.run_fin ?_
        have he : wts ws ++ wt a = wts (ws ++ [a]) := by rw [wts_append]; simp [wts]
        rw [he] at H7
        go_wp2
        exact ⟨⟨k + 1, c9, A9, ws ++ [a], M5, by have := HK.out.1; omega, by go_num, rfl, hM5', by rw [HK.out.2.2.2.2, List.map_append, List.map_append, HK.out.2.2.1]; simp [HA.out.2.2], (fun x hx => by
          rcases List.mem_append.1 hx with hx | hx
          · exact (HK.out.2.2.2.1 x hx).le HA.out.1
          · rw [List.mem_singleton.1 hx]; exact HA.out.2.1), H7.f1.d0⟩, by have := HK.out.1; simp [intOf]; omega⟩
    · obtain rfl : k = n := by omega
      have h3 : ws.map Wt.ab = l.map (Dd.wr t) := by rw [hab, HH.out.1, List.take_length]
      have H3 := Lib.hid h3
      clear h3 hlt hab
      go_wp2
      go_ret
      exact ⟨B, d, ws, M', rfl, H3.out, hM, hin, H1⟩
end
end Go.Proofs.YtepgmebklhemgaaGreatDoor
/- Which writes may not be: the closure of Apply, slices.ContainsFunc at writes. -/
set_option linter.unusedVariables false
set_option linter.unusedSimpArgs false
namespace Go.Proofs.YtepgmebklhemgaaGreatDoor
open Go.RowKit Wd
theorem run_neq_ptr_other {P : Program} {w : World} {tp te : TypeId} {j : TypeInfo} {a b : Addr} {ca cb : Array Value} {ta tb : TypeId} (hp : P.underlying tp = some (.pointer te)) (hte : P.info? te = some j) (hsz : j.size ≠ 0)
    (hne : a ≠ b) (ha : w.heap[a.block]? = some (.cells ca ta (0, 0))) (hb : w.heap[b.block]? = some (.cells cb tb (0, 0))) :
    (binOp .neq tp (.pointer (some a)) (.pointer (some b))).run P w = .ok (.bool true) w := by
  have h : ∀ d : Nat, (Op.equalIn (d + 1) tp (.pointer (some a)) (.pointer (some b))).run P w = .ok false w := fun d => by
    simp [Op.equalIn, run_underlying hp, sizeOf, typeInfo, hte, hsz, run_sameAddr_other w hne ha hb]
  simp only [binOp]
  simp [Op.equal, Op.maxDepth, h 9999]
theorem run_neq_ptr_none {P : Program} {w : World} {tp te : TypeId} {a : Addr} (hp : P.underlying tp = some (.pointer te)) :
    (binOp .neq tp (.pointer none) (.pointer (some a))).run P w = .ok (.bool true) w := by
  have h : ∀ d : Nat, (Op.equalIn (d + 1) tp (.pointer none) (.pointer (some a))).run P w = .ok false w := fun d => by
    simp [Op.equalIn, run_underlying hp]
  simp only [binOp]
  simp [Op.equal, Op.maxDepth, h 9999]
theorem Tryz.sizeStoreC : (Tryz.prog.info? 109).map (·.size) = some 1 := by kernel_rfl
/-- A write that a store refuses. -/
def Wt.bad (t : Nat) (a : Wt) : Bool := Cp.kerr a.T a.m.l == 1 || a.s != some t
/-- Whose a write may be. -/
def Wt.Of (M : Mem) (t : Nat) (a : Wt) : Prop := a.s = none ∨ a.s = some t ∨ ∃ t' s', a.s = some t' ∧ t' ≠ t ∧ CapAt M t' s'
theorem Wt.Of.le {M M' : Mem} {t : Nat} {a : Wt} (h : Wt.Of M t a) (hm : M.le M') : Wt.Of M' t a := h.imp id (·.imp id fun ⟨t', s', h1, h2, h3⟩ => ⟨t', s', h1, h2, h3.le hm⟩)
def Wt.may (M : Mem) (t : Nat) (a : Wt) : Prop := Wt.In M a ∧ Mild a.T a.m.l ∧ Wt.Of M t a
theorem Wt.may.le {M M' : Mem} {t : Nat} {a : Wt} (h : Wt.may M t a) (hm : M.le M') : Wt.may M' t a := ⟨h.1.le hm, h.2.1, h.2.2.le hm⟩
section
variable {w0 w : World} {M : Mem} {L : List Ent} {t s : Nat}
set_option maxRecDepth 100000 in
theorem bad_any (H : St w0 w M L) (hx : In M Tp.MaxI) (ht : CapAt M t s) {c : Nat} (hi : Wd.In M fun W => Blk W c 26 [.pointer (some ⟨t, 0, none⟩)]) {a : Wt} (ha : Wt.may M t a) :
    Calls Tryz.prog 43 #[.agg (wt a).toArray, .pointer (some ⟨c, 0, none⟩)] w fun e w' => e = .returned (.bool (Wt.bad t a)) ∧ St w0 w' M L := by
  obtain ⟨⟨hm, -, -⟩, hmi, hof⟩ := ha
  obtain ⟨S, T, m, b, p⟩ := a
  dsimp only at hm hmi hof
  obtain ⟨V, hV⟩ : ∃ V, V = Nm.v m := ⟨_, rfl⟩
  obtain ⟨PV, hPV⟩ : ∃ PV, PV = Pc.v p := ⟨_, rfl⟩
  obtain ⟨R, hR⟩ : ∃ R, R = Wt.bad t ⟨S, T, m, b, p⟩ := ⟨_, rfl⟩
  obtain ⟨Q, hQ⟩ : ∃ Q : Value, Q = .pointer (S.map fun t => ⟨t, 0, none⟩) := ⟨_, rfl⟩
  have hk := fun w L (H : St w0 w M L) => key_any H hx S T hm hmi
  unfold capV at hk
  unfold wt
  dsimp only
  show Calls _ _ #[.agg #[.pointer (S.map fun t => ⟨t, 0, none⟩), .int .u64 (T : Int), m.v, .bool b, p.v], _] _ _
  rw [← hR]
  unfold Wt.bad at hR
  dsimp only at hR
  rw [← hV, ← hPV, ← hQ]
  rw [← hQ, ← hV] at hk
  have H1 := H.new [Q, .int .u64 (T : Int), V, .bool b, PV] 64
  obtain ⟨C, hC⟩ : ∃ C, C = Cp.kerr T m.l := ⟨_, rfl⟩
  rw [← hC] at hk hR
  have HK := Lib.hid hk
  have HH := Lib.hid (And.intro hR (And.intro hQ (And.intro hof (And.intro ht hi))))
  have rg := Lib.hid ((H1.blk 0 rfl).range 0 2 [Q, .int .u64 (T : Int)] rfl)
  have c2 := (H1.blk 0 rfl).cell 2
  have c0 := (H1.blk 0 rfl).cell 0
  clear hk hm hmi hof hV hPV hR hQ hC ht hi
  go_enter Tryz.func43, Tryz.ntmps43
  go_wp2_with first
    | (refine wpList_load_mid (by rfl) 60 (.tmp 7) (by rfl) w.heap.size 0 (by rfl) [Q, .int .u64 (T : Int)] _ rg.out Tryz.underlying60 rfl (by exact Tryz.sizeCap) ?_)
  go_wp2_with fail
  refine (HK.out _ _ H1).mono ?_
  rintro e w1 ⟨rfl, H2⟩
  have d0 := (H2.blk 0 rfl).cell 0
  have dc := (Wd.In.now HH.out.2.2.2.2 H2).cell 0
  simp only [List.getElem?_cons_zero] at d0 dc
  have dm := Lib.hid H2.d0
  obtain ⟨hR, hQ, hof, ht, hi⟩ := HH.out
  generalize w.heap.size = g at *
  clear HH HK rg c2 c0 H1 hi
  by_cases hC : C = 1
  · subst hC
    obtain rfl : R = true := by rw [hR]; rfl
    clear H2 hR hQ hof ht d0 dc H
    go_wp2
    go_ret
    exact ⟨rfl, dm.out⟩
  · have q1 : ¬ (C : Int) = 1 := by omega
    have qb : ((C : Int) == 1) = false := beq_eq_false_iff_ne.2 q1
    have hR' : R = (S != some t) := by rw [hR, beq_eq_false_iff_ne.2 hC, Bool.false_or]
    rcases hof with rfl | rfl | ⟨t', s', rfl, hne, ht'⟩
    · obtain rfl : R = true := by rw [hR']; rfl
      subst hQ
      simp only [Option.map_none] at d0
      have hq : ∀ W, (binOp .neq 26 (.pointer none) (.pointer (some ⟨t, 0, none⟩))).run Tryz.prog W = .ok (.bool true) W := fun W => run_neq_ptr_none (P := Tryz.prog) (w := W) Tryz.underlying26
      clear H2 hR hR' ht H
      go_wp2
      go_ret
      exact ⟨rfl, dm.out⟩
    · obtain rfl : R = false := by rw [hR']; simp
      subst hQ
      simp only [Option.map_some] at d0
      obtain ⟨j, hj, hjs⟩ := Option.map_eq_some_iff.1 Tryz.sizeStoreC
      have hq : ∀ W, (binOp .neq 26 (.pointer (some ⟨t, 0, none⟩)) (.pointer (some ⟨t, 0, none⟩))).run Tryz.prog W = .ok (.bool false) W := fun W => Lib.run_neq_ptr_same (P := Tryz.prog) (w := W) _ Tryz.underlying26 hj
      clear H2 hR hR' ht H hj hjs
      go_wp2
      go_ret
      exact ⟨rfl, dm.out⟩
    · obtain rfl : R = true := by rw [hR']; simp [hne]
      subst hQ
      simp only [Option.map_some] at d0
      obtain ⟨j, hj, hjs⟩ := Option.map_eq_some_iff.1 Tryz.sizeStoreC
      have hq : (binOp .neq 26 (.pointer (some ⟨t', 0, none⟩)) (.pointer (some ⟨t, 0, none⟩))).run Tryz.prog w1 = .ok (.bool true) w1 := run_neq_ptr_other (P := Tryz.prog) Tryz.underlying26 hj (by rw [hjs]; decide) (fun h => hne (by injection h)) (Wd.In.now ht' H2) (Wd.In.now ht H2)
      clear H2 hR hR' ht H hj hjs ht'
      go_wp2
      go_ret
      exact ⟨rfl, dm.out⟩
set_option maxRecDepth 100000 in
theorem idxW_any (g : Nat) (cb : Array Value) (eg : ∀ args w, (callFunc g args).run Tryz.prog w = .ok (.enter g args) w) (P : Wt → Bool) (H : St w0 w M L) {A : Option Addr} {c n : Nat} {l : List Wt} (hn : n = l.length) (hl : SrA w0 M L A (wts l)) (hn2 : n ≤ 1000000)
    (hg : ∀ p ∈ l, ∀ w, St w0 w M L → Calls Tryz.prog g (#[.agg (wt p).toArray] ++ cb) w fun e w' => e = .returned (.bool (P p)) ∧ St w0 w' M L) :
    Calls Tryz.prog 64 #[.slice A n c, .func (.func g) #[] cb] w (Tp.RetIdx w0 M L (l.any P)) := by
  obtain ⟨R, hR⟩ : ∃ R, R = l.any P := ⟨_, rfl⟩
  rw [← hR]
  have HR := Lib.hid hR
  have HN := Lib.hid hn
  have HG := Lib.hid hg
  clear hR hn hg
  go_enter Tryz.func64, Tryz.ntmps64
  go_wp2
  go_loopw [8] (fun i wr => ∃ k : Nat, k ≤ n ∧ i = .int .i64 k ∧ (l.take k).any P = false ∧ St w0 wr M L) (fun i _ => n - (intOf i).toNat)
  case atStart => exact ⟨0, by omega, rfl, rfl, H⟩
  case round =>
    obtain ⟨k, hk, rfl, hsofar, H1⟩ := hrel
    have HS := Lib.hid hsofar
    clear H hsofar
    by_cases hlt : k < n
    · have hk1 : k < l.length := by have := HN.out; omega
      obtain ⟨b, o, rfl, hrg⟩ := RA.atK wt_len (by decide) (hl.now H1) k hk1
      have hta : l.take (k + 1) = l.take k ++ [l[k]] := List.take_succ_eq_append_getElem hk1
      have hra : P l[k] = true → l.any P = true := fun h => List.any_eq_true.2 ⟨_, List.getElem_mem hk1, h⟩
      have hgc := HG.out _ (List.getElem_mem hk1) _ H1
      obtain ⟨p, hp⟩ : ∃ p, p = l[k] := ⟨_, rfl⟩
      rw [← hp] at hrg hta hra hgc
      obtain ⟨m, hm⟩ : ∃ m, m = P p := ⟨_, rfl⟩
      rw [← hm] at hgc hra
      have HGC := Lib.hid hgc
      have HTA := Lib.hid hta
      have HRA := Lib.hid hra
      have HM := Lib.hid hm
      have HRG := Lib.hid hrg
      have HLT := Lib.hid hlt
      have q1 : (k : Int) < (n : Int) := by omega
      have q1n : k < n := hlt
      clear hgc hta hra hm hrg hp hk1 hlt
      go_wp2_with (refine wpList_load_mid (by rfl) 64 (.tmp 14) (by rfl) b (o + k * 5) (by rfl) (wt p) _ HRG.out Tryz.underlying64 rfl (by exact Tryz.sizeWrite) ?_)
      go_wp2_with fail
      refine HGC.out.mono ?_
      rintro e w1 ⟨rfl, H2⟩
      cases m with
      | false =>
        have h3 : (l.take (k + 1)).any P = false := by rw [HTA.out, List.any_append, HS.out]; simp [← HM.out]
        have H3 := Lib.hid h3
        clear h3
        go_wp2
        exact ⟨⟨k + 1, by have := HLT.out; omega, by go_num, H3.out, H2⟩, by have := HLT.out; simp [intOf]; omega⟩
      | true =>
        have h3 : R = true := by rw [HR.out]; exact HRA.out rfl
        have H3 := Lib.hid h3
        clear h3
        go_wp2
        go_ret
        exact ⟨k, rfl, .inl ⟨H3.out, by omega, by omega⟩, H2⟩
    · obtain rfl : k = n := by omega
      have h3 : R = false := by
        rw [HR.out]
        have := HS.out
        rw [HN.out, List.take_length] at this
        exact this
      have H3 := Lib.hid h3
      clear h3 hlt
      go_wp2
      go_ret
      exact ⟨-1, rfl, .inr ⟨H3.out, rfl⟩, H1⟩
set_option maxRecDepth 100000 in
theorem containsW_any (g : Nat) (cb : Array Value) (eg : ∀ args w, (callFunc g args).run Tryz.prog w = .ok (.enter g args) w) (P : Wt → Bool) (H : St w0 w M L) {A : Option Addr} {c n : Nat} {l : List Wt} (hn : n = l.length) (hl : SrA w0 M L A (wts l)) (hn2 : n ≤ 1000000)
    (hg : ∀ p ∈ l, ∀ w, St w0 w M L → Calls Tryz.prog g (#[.agg (wt p).toArray] ++ cb) w fun e w' => e = .returned (.bool (P p)) ∧ St w0 w' M L) :
    Calls Tryz.prog 42 #[.slice A n c, .func (.func g) #[] cb] w fun e w' => e = .returned (.bool (l.any P)) ∧ St w0 w' M L := by
  have hi := idxW_any g cb eg P (c := c) H hn hl hn2 hg
  obtain ⟨R, hR⟩ : ∃ R, R = l.any P := ⟨_, rfl⟩
  rw [← hR] at hi ⊢
  have HI := Lib.hid hi
  clear hi hn hR hg
  go_enter Tryz.func42, Tryz.ntmps42
  go_wp2_with fail
  refine HI.out.mono ?_
  rintro e w1 ⟨r, rfl, (⟨rfl, h1, h2⟩ | ⟨rfl, rfl⟩), H1⟩
  · go_wp2
    go_ret
    exact ⟨rfl, H1⟩
  · go_wp2
    go_ret
    exact ⟨rfl, H1⟩
end
end Go.Proofs.YtepgmebklhemgaaGreatDoor
