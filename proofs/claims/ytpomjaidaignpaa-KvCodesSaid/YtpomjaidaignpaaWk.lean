/- Memory as one fact, more: fewer things are said to be never written; bytes appended to a slice that is full: a new row. No program is in sight. -/
import Derived.Test.YtpomjaidaignpaaSl
import Derived.ArgAppend
import Derived.Deep.MidRow
import Derived.Deep.Upon
set_option linter.unusedVariables false
set_option linter.unusedSimpArgs false
namespace Go.Proofs.Ytpomjaidaignpaa
open Go.RowKit Wd
theorem Wd.St.weak {w0 w w1 : World} {M M' : Mem} {L L1 : List Ent} (h : St w0 w M' L) (h0 : St w0 w1 M L1) (hm : M.le M') : St w0 w M L :=
  ⟨h.below, h0.old, h.agr.le hm, fun e he => Ent.holds_mem (h.holds e he) (fun g hf => by
    have h1 := (Ent.holds_lt (h.holds e he) hf).1
    cases h2 : M g with
    | none => rfl
    | some o => rw [hm g o h2] at h1; exact absurd h1 (by simp)), h.apart⟩
section
variable {P : Program} {ops : Array Oper} {rest : List Oper} {op : Oper} {a : Act} {w0 w : World} {M : Mem} {Q : Exit → Act → World → Prop} {F : List Ent}
/-- Bytes appended to bytes where there is no room. -/
theorem wpList_append_full_st {e : TypeId} (H : St w0 w M F) (hgd : op.guard = none) (s x : Operand) (t : TypeId) (ho : op.op = .call { callee := .builtin .append, args := #[s, x], argTypes := #[t, t] })
    (i5 : (P.info? e).map (fun i => (i.zero, i.size, i.bytes)) = some (some (.int .u8 0), 1, 1)) (ht : P.underlying t = some (.slice e)) (A : Option Addr) (n cap : Nat) (k : List UInt8) (hs : a.eval s = .slice A n cap) (hk : n = k.length) (hA : A = none → cap = 0) (hrk : RB w A k)
    (B : Addr) (m c : Nat) (l : List UInt8) (hx : a.eval x = .slice (some B) m c) (hm : m = l.length) (hr : RB w (some B) l) (hfull : cap < n + m) (hnc : n ≤ cap)
    (hb : n + m ≤ 140737488355328) (h : ∀ v' w', St w0 w' M (er e 1 v' (n + m) (bv (k ++ l)) :: F) → wpList P ops Q rest (a.put op.dst v') w') : wpList P ops Q (op :: rest) a w := by
  obtain ⟨i0, hi, hz0, hz1, hz2⟩ := info_parts i5
  refine wpList_append_grows w hgd s x t ho e i0 (.int .u8 0) 1 1 ht hi hz0 hz1 hz2 rfl (by decide) A n cap (bv k) hs (fun h0 => by have := hA h0; omega) (by rw [bv_length, hk, Nat.mul_one]) ?_ B m c (bv l) hx (by rw [bv_length, hm, Nat.mul_one]) ?_ (bv_one l) hfull (by unfold maxLen; omega) (by omega) ?_
  · intro b hb2 j u hj
    obtain ⟨b', o', he, _, hrg⟩ := hrk (by rintro rfl; simp [bv] at hj)
    rw [hb2] at he
    injection he with he
    subst he
    rw [Addr.add_mid]
    exact hrg j u hj
  · intro j u hj
    obtain ⟨b', o', he, _, hrg⟩ := hr (by rintro rfl; simp [bv] at hj)
    injection he with he
    subst he
    rw [Addr.add_mid]
    exact hrg j u hj
  · intro v' w' ho' hg'
    refine h v' w' ?_
    rw [bv_append]
    exact H.addRow ⟨hg'.os, hg'.tape, hg'.output, hg'.size, fun i hi => hg'.block i hi (by simp)⟩ ho'
/-- Nothing appended where there is a row: the slice itself. -/
theorem wpList_append_zero {e : TypeId} {z : Value} {sz by_ : Nat} (hgd : op.guard = none) (s x : Operand) (t : TypeId) (ho : op.op = .call { callee := .builtin .append, args := #[s, x], argTypes := #[t, t] })
    (hinfo : (P.info? e).map (fun i => (i.zero, i.size, i.bytes)) = some (some z, sz, by_)) (ht : P.underlying t = some (.slice e)) (base : Option Addr) (n cap : Nat) (hs : a.eval s = .slice base n cap) (hle : n ≤ cap) (A : Option Addr) (c : Nat) (hx : a.eval x = .slice A 0 c)
    (h : wpList P ops Q rest (a.put op.dst (.slice base n cap)) w) : wpList P ops Q (op :: rest) a w := by
  obtain ⟨i0, hi, _, _, _⟩ := info_parts hinfo
  refine wpList_plain hgd fun K hK => ?_
  have hS : Src P i0.size t (.slice A 0 c) 0 [] w := by
    cases A with
    | none => exact Src.ofNil w ht c
    | some ad => exact Src.ofSlice w ht ad 0 c [] (by simp) (fun j u hj => by simp at hj) (fun _ h => by cases h)
  have hr := run_append_nothing (P := P) w t t op.type e i0 ht hi base n cap hle (.slice A 0 c) hS
  unfold Oper.wp execOp
  simp only [ho, resolve, invoke, builtin, Sem.run_bind, Sem.run_pure, Result.andThen_ok, List.map_toArray, List.map_cons, List.map_nil, hs, hx, hr]
  exact hK _ _ h
/-- A load of a whole array or struct under a guard that holds. -/
theorem wpList_load_g (hw : Region.wanted op (yielded ops a.tmps) = true) (ty : TypeId) (x : Operand) (ho : op.op = .load ty x)
    (b o : Nat) (hx : a.eval x = .pointer (some ⟨b, o, none⟩)) (cs : List Value) (d : TypeDesc) (hc : w.rangeAt b o cs)
    (hu : P.underlying ty = some d) (hd : d.isRow = true) (hi : (P.info? ty).map (·.size) = some cs.length)
    (h : wpList P ops Q rest (a.put op.dst (.agg cs.toArray)) w) : wpList P ops Q (op :: rest) a w := by
  unfold wpList
  rw [if_pos hw]
  exact .inl (wp_load_mid ty x ho b o hx cs d hc hu hd hi h)
end
/-- A row of its own is never written again. -/
theorem Wd.St.keepRow {w0 w : World} {M : Mem} {L : List Ent} {e : TypeId} {n : Nat} {A : Option Addr} {c : Nat} {l : List UInt8} (h : St w0 w M (er e 1 (.slice A n c) n (bv l) :: L)) : ∃ M', M.le M' ∧ St w0 w M' L ∧ In M' fun W => RB W A l := by
  obtain ⟨M', h1, h2, h3, _⟩ := h.lendRow
  exact ⟨M', h1, h2, h3⟩
theorem Wd.St.keepBlk {w0 w : World} {M : Mem} {L : List Ent} {g : Nat} {t : TypeId} {cs : List Value} (h : St w0 w M (eb g t cs :: L)) : ∃ M', M.le M' ∧ St w0 w M' L ∧ In M' fun W => Blk W g t cs := by
  obtain ⟨M', h1, h2, h3, _⟩ := h.lendBlk
  exact ⟨M', h1, h2, h3⟩
/-- The call gives bytes that are never written again. -/
def RetBytes (w0 : World) (M : Mem) (L : List Ent) (l : List UInt8) (mk : Value → Ending) (e : Ending) (w' : World) : Prop :=
  ∃ A c M', e = mk (.slice A l.length c) ∧ l.length ≤ c ∧ (A = none → c = 0) ∧ M.le M' ∧ In M' (RB · A l) ∧ St w0 w' M' L
end Go.Proofs.Ytpomjaidaignpaa
