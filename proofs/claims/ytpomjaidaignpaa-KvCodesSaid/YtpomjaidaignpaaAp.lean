/- Words: bytes appended, whatever slice they come from, onto a row of the call's own. No program is in sight. -/
import Derived.Test.YtpomjaidaignpaaWd
import Derived.Test.YtpomjaidaignpaaSt
import Derived.Maps.AppendAt
import Derived.Laws.OwnMore
set_option linter.unusedVariables false
set_option linter.unusedSimpArgs false
namespace Go.Proofs.Ytpomjaidaignpaa
open Go.RowKit Wd
section
variable {P : Program} {ops : Array Oper} {rest : List Oper} {o : Oper} {a : Act} {w : World} {Q : Exit → Act → World → Prop}
theorem wpList_append_rb (hgd : o.guard = none) (s x : Operand) (t e : TypeId) (ho : o.op = .call { callee := .builtin .append, args := #[s, x], argTypes := #[t, t] }) (i5 : (P.info? e).map (fun i => (i.zero, i.size, i.bytes)) = some (some (.int .u8 0), 1, 1)) (ht : P.underlying t = some (.slice e))
    (base : Nat) (v : Value) (n : Nat) (xs : List Value) (hs : a.eval s = v) (hown : w.ownsRow base e 1 v n xs) (A : Option Addr) (m c : Nat) (l : List UInt8) (hx : a.eval x = .slice A m c) (hm : m = l.length) (hA : A = none → c = 0) (hr : RB w A l)
    (hb : n + m ≤ 140737488355328) (hbase : base ≤ w.heap.size)
    (h : ∀ v' w', w'.ownsRow base e 1 v' (n + m) (xs ++ bv l) → w.grownBy w' v.ownBlock → (v'.ownBlock = v.ownBlock ∨ v'.ownBlock = some w.heap.size) → wpList P ops Q rest (a.put o.dst v') w') : wpList P ops Q (o :: rest) a w := by
  obtain ⟨i0, hi, hz0, hz1, hz2⟩ := info_parts i5
  have hmax : n + m ≤ maxLen := by unfold maxLen; omega
  have some_ : ∀ ad : Addr, A = some ad → (∀ j u, (bv l)[j]? = some u → w.cell? (ad.add j) = some u) → wpList P ops Q (o :: rest) a w := fun ad hA2 hc => by
    subst hA2
    exact wpList_append_own_at (w := w) (hgd := hgd) (s := s) (x := x) (t := t) (ho := ho) base e i0 (.int .u8 0) 1 1 ht hi hz0 hz1 hz2 rfl (by decide) v n xs hs hown ad m c (bv l) hx (by rw [bv_length, hm, Nat.mul_one]) hc (bv_one l) hmax (by omega) hbase
      fun v' w' h1 h2 _ h4 => h v' w' h1 h2 h4
  by_cases hl : l = []
  · subst hl
    cases A with
    | some ad => exact some_ ad rfl fun j u hu => by simp [bv] at hu
    | none =>
      obtain rfl := hA rfl
      have hm0 : m = 0 := hm
      subst hm0
      refine wpList_plain hgd fun K hK => ?_
      have hr := run_append_owned_none (P := P) (w := w) base t o.type e i0 1 ht hi v n xs hown
      unfold Oper.wp execOp
      simp only [ho, resolve, invoke, builtin, Sem.run_bind, Sem.run_pure, Result.andThen_ok, List.map_toArray, List.map_cons, List.map_nil, hs, hx, hr]
      refine hK _ _ (h v w ?_ (World.grownBy.refl _ _) (.inl rfl))
      simpa [bv] using hown
  · obtain ⟨b, off, rfl, _, hrg⟩ := hr hl
    exact some_ _ rfl (fun j u hu => by rw [Addr.add_mid]; exact hrg j u hu)
end
theorem own_rangeA {w : World} {base n c : Nat} {e : TypeId} {size : Nat} {A : Option Addr} {xs : List Value} (h : w.ownsRow base e size (.slice A n c) n xs) (hn : 0 < n) : ∃ g, A = some ⟨g, 0, none⟩ ∧ w.rangeAt g 0 xs := by
  obtain ⟨g, cap, hv, _, _⟩ := h.form hn
  injection hv with hv _ _
  subst hv
  exact ⟨g, rfl, fun j v hj => by have := own_holds h _ rfl j v hj; rwa [Addr.add_mid] at this⟩
theorem range_partA {w : World} {b : Nat} {xs : List Value} (h : w.rangeAt b 0 xs) (o n : Nat) (m : List Value) (hm : (xs.drop o).take n = m) : w.rangeAt b o m := by
  intro j v hj
  subst hm
  rw [List.getElem?_take] at hj
  split at hj
  · rw [List.getElem?_drop] at hj
    have := h _ v hj
    rwa [Nat.zero_add] at this
  · cases hj
end Go.Proofs.Ytpomjaidaignpaa
