/- A region that draws its order, walked by a plan: the operations that only read come first, in an order of ours, in whatever world that meets S; behind them the others, whose order is forced. No program is in sight. -/
import Derived.OrdersHeld
import Derived.Tactics
import Derived.Tactics2
import Derived.KernelRfl
import Derived.Deep.MidRow
set_option linter.unusedVariables false
set_option linter.unusedSimpArgs false
namespace Go.Proofs.YtepgmebklhemgaaGreatDoor.Pl
section
variable {P : Program} {ops : Array Oper} {Q : Exit → Act → World → Prop} {md : Region.Mode} {S : World → Prop} {E : Nat → Bool}

/-- Whatever order is picked from here on, and S holds behind every operation of E. -/
def AnyG (P : Program) (md : Region.Mode) (ops : Array Oper) (Q : Exit → Act → World → Prop) (S : World → Prop) (E : Nat → Bool) : Nat → Array Bool → Act → World → Prop
  | 0, listed, a, w => Region.ready md ops listed = [] ∧ Q .normal a w
  | f + 1, listed, a, w =>
    (Region.ready md ops listed = [] → Q .normal a w) ∧
    ∀ i ∈ Region.ready md ops listed, wpOp P ops Q i (fun a' w' => (E i = true → S w') ∧ AnyG P md ops Q S E f (listed.setIfInBounds i true) a' w') a w
theorem any_of_g : ∀ (f : Nat) (listed : Array Bool) (a : Act) (w : World), AnyG P md ops Q S E f listed a w → wpAny P md ops Q f listed a w
  | 0, _, _, _, h => h
  | f + 1, _, _, _, h => ⟨h.1, fun i hi => wpOp_mono (fun a' w' h' => any_of_g f _ a' w' h'.2) (h.2 i hi)⟩

/-- j waits for i. -/
def waits (md : Region.Mode) (ops : Array Oper) (j i : Nat) : Bool := match ops[j]? with | some oj => oj.after.any fun e => Region.binds md e && e.on == i | none => true
/-- Who is not of E waits for i. -/
def lateB (md : Region.Mode) (ops : Array Oper) (E : Nat → Bool) (i : Nat) : Bool := (List.range ops.size).all fun j => E j || waits md ops j i

theorem ready_waits {listed : Array Bool} {i j : Nat} (hj : j ∈ Region.ready md ops listed) (hi : listed.getD i true = false) (hw : waits md ops j i = true) : False := by
  obtain ⟨_, oj, hoj, hall⟩ := mem_ready.1 hj
  simp only [waits, hoj] at hw
  obtain ⟨e, he, hb⟩ := Array.any_eq_true'.1 hw
  simp only [Bool.and_eq_true, beq_iff_eq] at hb
  have h1 := hall e he hb.1
  rw [hb.2] at h1
  rcases Nat.lt_or_ge i listed.size with h' | h'
  · simp only [Array.getD_eq_getD_getElem?, Array.getElem?_eq_getElem h', Option.getD_some] at hi h1
    rw [hi] at h1
    cases h1
  · simp only [Array.getD_eq_getD_getElem?, Array.getElem?_eq_none h', Option.getD_none] at h1
    cases h1

/-- An operation of E that may come up, and that yields one value in every world that meets S, may be taken first. -/
theorem g_take {i : Nat} {oi : Oper} {v : Value} (hi : ops[i]? = some oi) (hs : Region.noSelect ops = true) (hQ : ∀ c a w, Q (.panic c) (a.put oi.dst v) w → Q (.panic c) a w) (hE : E i = true) (hlate : lateB md ops E i = true) :
    ∀ (f : Nat) (listed : Array Bool) (a : Act) (w : World), Region.free md ops listed i = true → i ∈ Region.ready md ops listed → YieldsIf P ops S oi v a → S w →
      AnyG P md ops Q S E f (listed.setIfInBounds i true) (a.put oi.dst v) w → AnyG P md ops Q S E (f + 1) listed a w := by
  have hsel := Region.noSelect_spec hs
  intro f
  induction f with
  | zero =>
    intro listed a w hf hr hy hS H
    refine ⟨fun h0 => (by rw [h0] at hr; cases hr), fun j hj => ?_⟩
    by_cases hji : j = i
    · subst hji
      exact hy.wpOp hi hS ⟨fun _ => hS, H⟩
    · have hjr := ready_mono hj hji
      rw [H.1] at hjr
      cases hjr
  | succ f ih =>
    intro listed a w hf hr hy hS H
    refine ⟨fun h0 => (by rw [h0] at hr; cases hr), fun j hj => ?_⟩
    by_cases hji : j = i
    · subst hji
      exact hy.wpOp hi hS ⟨fun _ => hS, H⟩
    · have h1 := H.2 j (ready_mono hj hji)
      have hiu := (mem_ready.1 hr).1
      obtain ⟨hju, oj, hoj, _⟩ := mem_ready.1 hj
      have hnw : waits md ops j i = true → False := ready_waits hj hiu
      have hEj : E j = true := by
        have hl := List.all_eq_true.1 hlate j (List.mem_range.2 (Array.getElem?_eq_some_iff.1 hoj).1)
        rw [Bool.or_eq_true] at hl
        exact hl.resolve_right hnw
      have hap : oi.apart ops oj = true := by
        refine Region.free_spec hi hf j oj hoj hji hju fun e he hb heq => hnw ?_
        simp only [waits, hoj]
        exact Array.any_eq_true'.2 ⟨e, he, by simp [hb, heq]⟩
      have h2 := wpOp_putIf hoj hap (fun cs b => hsel i oi cs b hi) (fun cs b => hsel j oj cs b hoj) hQ hy h1
      refine wpOp_mono (fun a' w' h3 => ⟨h3.2.1, ih _ a' w' ?_ (ready_mono hr (Ne.symm hji)) h3.1 (h3.2.1 hEj) ?_⟩) h2
      · simp only [Region.free, hi, List.all_eq_true, List.mem_range] at hf ⊢
        intro k hk
        have hk1 := hf k hk
        by_cases hjk : j = k
        · subst hjk
          have : (listed.setIfInBounds j true).getD j true = true := by
            simp only [Array.getD_eq_getD_getElem?, Array.getElem?_setIfInBounds_self]
            split <;> rfl
          simp [this]
        · rw [getD_set_ne true hjk]
          exact hk1
      · rw [Array.setIfInBounds_comm _ _ hji]
        exact h3.2.2

/-- The head: each in its turn yields a value in every world that meets S. -/
def Head (P : Program) (ops : Array Oper) (S : World → Prop) (K : Act → Prop) : List Nat → Act → Prop
  | [], a => K a
  | i :: r, a => ∃ o v, ops[i]? = some o ∧ YieldsIf P ops S o v a ∧ Head P ops S K r (a.put o.dst v)
/-- The tail: one behind the other; S behind those of E. -/
def Tail (P : Program) (ops : Array Oper) (Q : Exit → Act → World → Prop) (S : World → Prop) (E : Nat → Bool) : List Nat → Act → World → Prop
  | [], a, w => Q .normal a w
  | i :: r, a, w => wpOp P ops Q i (fun a' w' => (E i = true → S w') ∧ Tail P ops Q S E r a' w') a w

def listing (listed : Array Bool) (l : List Nat) : Array Bool := l.foldl (fun x i => x.setIfInBounds i true) listed
def headB (md : Region.Mode) (ops : Array Oper) (E : Nat → Bool) : List Nat → Array Bool → Bool
  | [], _ => true
  | i :: r, listed => Region.free md ops listed i && (Region.ready md ops listed).contains i && E i && lateB md ops E i && headB md ops E r (listed.setIfInBounds i true)
def tailB (md : Region.Mode) (ops : Array Oper) : List Nat → Array Bool → Bool
  | [], listed => (Region.ready md ops listed).isEmpty
  | i :: r, listed => Region.ready md ops listed == [i] && tailB md ops r (listed.setIfInBounds i true)
/-- The plan fits: all checked at once, of a region that is written out. -/
def planB (ops : Array Oper) (E : Nat → Bool) (H T : List Nat) : Bool :=
  Region.noSelect ops && headB .any ops E H (Array.replicate ops.size false) && tailB .any ops T (listing (Array.replicate ops.size false) H) && decide (H.length + T.length = ops.size)

theorem tail_g : ∀ (T : List Nat) (listed : Array Bool) (a : Act) (w : World), tailB md ops T listed = true → Tail P ops Q S E T a w → AnyG P md ops Q S E T.length listed a w
  | [], listed, a, w, hb, h => ⟨by simpa [tailB] using hb, h⟩
  | i :: r, listed, a, w, hb, h => by
    simp only [tailB, Bool.and_eq_true, beq_iff_eq] at hb
    refine ⟨fun h0 => (by rw [hb.1] at h0; cases h0), fun j hj => ?_⟩
    rw [hb.1, List.mem_singleton] at hj
    subst hj
    exact wpOp_mono (fun a' w' h' => ⟨h'.1, tail_g r _ a' w' hb.2 h'.2⟩) h
theorem head_g (hs : Region.noSelect ops = true) (hQ : ∀ c (a : Act) d v w, Q (.panic c) (a.put d v) w → Q (.panic c) a w) (n : Nat) {w : World} (hS : S w) : ∀ (H : List Nat) (listed : Array Bool) (a : Act), headB md ops E H listed = true →
    Head P ops S (fun a' => AnyG P md ops Q S E n (listing listed H) a' w) H a → AnyG P md ops Q S E (n + H.length) listed a w
  | [], _, _, _, h => h
  | i :: r, listed, a, hb, ⟨o, v, hi, hy, h⟩ => by
    simp only [headB, Bool.and_eq_true] at hb
    obtain ⟨⟨⟨⟨hf, hr⟩, hE⟩, hl⟩, hrest⟩ := hb
    exact g_take hi hs (fun c a w h => hQ c a _ _ w h) hE hl (n + r.length) listed a w hf (by simpa using hr) hy hS (head_g hs hQ n hS r _ _ hrest h)

theorem head_mono {K K' : Act → Prop} (hk : ∀ a, K a → K' a) : ∀ (H : List Nat) (a : Act), Head P ops S K H a → Head P ops S K' H a
  | [], a, h => hk a h
  | _ :: r, _, ⟨o, v, hi, hy, h⟩ => ⟨o, v, hi, hy, head_mono hk r _ h⟩

/-! ### The plan over the operations themselves -/
/-- The operations of these numbers. -/
def pick (l : List Oper) : List Nat → List Oper
  | [] => []
  | i :: r => match l.drop i with
    | o :: _ => o :: pick l r
    | [] => pick l r
/-- The head, over the operations. -/
def HeadL (P : Program) (ops : Array Oper) (S : World → Prop) (K : Act → Prop) : List Oper → Act → Prop
  | [], a => K a
  | o :: r, a => ∃ v, YieldsIf P ops S o v a ∧ HeadL P ops S K r (a.put o.dst v)
/-- What follows one operation, in a post's place. -/
def Then (Q : Exit → Act → World → Prop) (K : Act → World → Prop) : Exit → Act → World → Prop
  | .normal, a, w => K a w
  | e, a, w => Q e a w
/-- Those of the tail behind which S must be shown. -/
def Mid (P : Program) (ops : Array Oper) (Q : Exit → Act → World → Prop) (S : World → Prop) (K : Act → World → Prop) : List Oper → Act → World → Prop
  | [], a, w => K a w
  | o :: r, a, w => wpList P ops (Then Q fun a' w' => S w' ∧ Mid P ops Q S K r a' w') [o] a w

theorem pick_cons {l : List Oper} {i : Nat} {r : List Nat} (h : i < l.length) : ∃ o, l.toArray[i]? = some o ∧ pick l (i :: r) = o :: pick l r := by
  refine ⟨l[i], by simp [h], ?_⟩
  rw [pick, List.drop_eq_getElem_cons h]
theorem headB_lt {listed : Array Bool} {i : Nat} {r : List Nat} (h : headB md ops E (i :: r) listed = true) : i < ops.size := by
  simp only [headB, Bool.and_eq_true] at h
  have h1 := h.1.1.1.1
  unfold Region.free at h1
  split at h1
  · cases h1
  · rename_i oi hoi
    exact (Array.getElem?_eq_some_iff.1 hoi).1
theorem tailB_lt {listed : Array Bool} {i : Nat} {r : List Nat} (h : tailB md ops (i :: r) listed = true) : i < ops.size := by
  simp only [tailB, Bool.and_eq_true, beq_iff_eq] at h
  have h1 : i ∈ Region.ready md ops listed := by rw [h.1]; simp
  obtain ⟨_, oi, hoi, _⟩ := mem_ready.1 h1
  exact (Array.getElem?_eq_some_iff.1 hoi).1
theorem head_of_l {l : List Oper} {K : Act → Prop} : ∀ (H : List Nat) (listed : Array Bool) (a : Act), headB md l.toArray E H listed = true → HeadL P l.toArray S K (pick l H) a → Head P l.toArray S K H a
  | [], _, _, _, h => h
  | i :: r, listed, a, hb, h => by
    obtain ⟨o, ho, hp⟩ := pick_cons (l := l) (i := i) (r := r) (by simpa using headB_lt hb)
    rw [hp] at h
    obtain ⟨v, hy, h⟩ := h
    simp only [headB, Bool.and_eq_true] at hb
    exact ⟨o, v, ho, hy, head_of_l r _ _ hb.2 h⟩
theorem op_mono_Q {Q' : Exit → Act → World → Prop} {K : Act → World → Prop} {o : Oper} {a : Act} {w : World} (hp : ∀ c a w, Q (.panic c) a w → Q' (.panic c) a w) (hl : LetsOut Q → LetsOut Q') (h : o.wp P a w K Q) : o.wp P a w K Q' := by
  unfold Oper.wp at *
  generalize (execOp a.eval o).run P w = r at *
  cases r with
  | ok n w' =>
    cases n <;> simp only [Oper.upon] at h ⊢ <;>
      first
        | exact h
        | exact Calls.mono h (fun e w'' he => by cases e <;> first | exact he | exact hp _ _ _ he | exact hl he)
  | halt x w' => cases x <;> simp only [Oper.upon] at h ⊢ <;> first | exact h | exact hp _ _ _ h
theorem letsOut_then {K : Act → World → Prop} (h : LetsOut (Then Q K)) : LetsOut Q := by
  obtain ⟨a, w, h⟩ := h
  exact ⟨a, w, h⟩
theorem wpOp_of_list {i : Nat} {o : Oper} {a : Act} {w : World} {K : Act → World → Prop} (hi : ops[i]? = some o) (h : wpList P ops (Then Q K) [o] a w) : wpOp P ops Q i K a w := by
  unfold wpOp
  simp only [hi]
  unfold wpList at h
  split
  · rename_i hw
    rw [if_pos hw] at h
    exact h.imp (fun h => op_mono_Q (Q := Then Q K) (fun _ _ _ h => h) letsOut_then h) (fun h => ⟨h.1, letsOut_then (K := K) h.2⟩)
  · rename_i hw
    rw [if_neg hw] at h
    exact h
theorem tail_late {l : List Oper} : ∀ (T : List Nat) (listed : Array Bool) (a : Act) (w : World), tailB md l.toArray T listed = true → (∀ i ∈ T, E i = false) → wpList P l.toArray Q (pick l T) a w → Tail P l.toArray Q S E T a w
  | [], _, _, _, _, _, h => h
  | i :: r, listed, a, w, hb, he, h => by
    obtain ⟨o, ho, hp⟩ := pick_cons (l := l) (i := i) (r := r) (by simpa using tailB_lt hb)
    rw [hp] at h
    simp only [tailB, Bool.and_eq_true] at hb
    show wpOp P l.toArray Q i _ a w
    unfold wpOp
    simp only [ho]
    unfold wpList at h
    have hi := he i List.mem_cons_self
    have go : ∀ a' w', wpList P l.toArray Q (pick l r) a' w' → ((E i = true → S w') ∧ Tail P l.toArray Q S E r a' w') := fun a' w' h' =>
      ⟨fun h1 => (by rw [hi] at h1; cases h1), tail_late r _ a' w' hb.2 (fun k hk => he k (List.mem_cons_of_mem _ hk)) h'⟩
    split
    · rename_i hw
      rw [if_pos hw] at h
      exact h.imp (Oper.wp_mono go) id
    · rename_i hw
      rw [if_neg hw] at h
      exact go _ _ h
theorem then_mono {K K' : Act → World → Prop} (h : ∀ a w, K a w → K' a w) {l : List Oper} {a : Act} {w : World} : wpList P ops (Then Q K) l a w → wpList P ops (Then Q K') l a w := by
  induction l generalizing a w with
  | nil => exact fun hh => h a w hh
  | cons o r ih =>
    intro hh
    unfold wpList at hh ⊢
    split
    · rename_i hw
      rw [if_pos hw] at hh
      refine hh.imp (fun h1 => ?_) (fun h1 => ⟨h1.1, ?_⟩)
      · refine op_mono_Q (Q := Then Q K) (fun _ _ _ h => h) (fun ⟨a, w, h⟩ => ⟨a, w, h⟩) (Oper.wp_mono (fun a w => ih) h1)
      · obtain ⟨a, w, h2⟩ := h1.2
        exact ⟨a, w, h2⟩
    · rename_i hw
      rw [if_neg hw] at hh
      exact ih hh
theorem tail_mid {l : List Oper} {T2 : List Nat} : ∀ (T1 : List Nat) (listed : Array Bool) (a : Act) (w : World), tailB md l.toArray (T1 ++ T2) listed = true → (∀ i ∈ T2, E i = false) →
    Mid P l.toArray Q S (fun a' w' => wpList P l.toArray Q (pick l T2) a' w') (pick l T1) a w → Tail P l.toArray Q S E (T1 ++ T2) a w
  | [], listed, a, w, hb, he, h => tail_late T2 listed a w hb he h
  | i :: r, listed, a, w, hb, he, h => by
    obtain ⟨o, ho, hp⟩ := pick_cons (l := l) (i := i) (r := r) (by simpa using tailB_lt hb)
    rw [hp] at h
    simp only [List.cons_append, tailB, Bool.and_eq_true] at hb
    refine wpOp_of_list ho (then_mono (fun a' w' h' => ?_) h)
    exact ⟨fun _ => h'.1, tail_mid r _ a' w' hb.2 he h'.2⟩

/-- THE PLAN: a region that draws its order: its head H in every world that meets S; then T1, S behind each; then T2, as it stands. -/
theorem wp_plan {id : Nat} {l : List Oper} {a : Act} {w : World} (S : World → Prop) (H T1 T2 : List Nat) (hm : P.follows .mixedOrders = true) (hB : planB l.toArray (fun j => !T2.contains j) H (T1 ++ T2) = true)
    (hQ : ∀ c (a : Act) d v w, Q (.panic c) (a.put d v) w → Q (.panic c) a w) (hS : S w.drew)
    (h : HeadL P l.toArray S (fun a' => Mid P l.toArray Q S (fun a'' w'' => wpList P l.toArray Q (pick l T2) a'' w'') (pick l T1) a' w.drew) (pick l H) a) : (Code.region id l.toArray true).wp P Q a w := by
  simp only [planB, Bool.and_eq_true, decide_eq_true_eq] at hB
  obtain ⟨⟨⟨hs, hh⟩, ht⟩, hn⟩ := hB
  refine wp_region_any hm (any_of_g (S := S) (E := fun j => !T2.contains j) _ _ _ _ ?_)
  have h1 := head_g (w := w.drew) (Q := Q) hs hQ (T1 ++ T2).length hS H _ a hh (head_mono (fun a' h' => tail_g (T1 ++ T2) _ a' _ ht (tail_mid T1 _ a' _ ht (fun i hi => by simp [hi]) h')) H a (head_of_l H _ a hh h))
  rw [show (T1 ++ T2).length + H.length = l.toArray.size from by omega] at h1
  exact h1

/-! ### The head's steps -/
theorem head_nil {K : Act → Prop} {a : Act} (h : K a) : HeadL P ops S K [] a := h
theorem head_run {K : Act → Prop} {r : List Oper} {a : Act} {o : Oper} {v : Value} (hw : Region.wanted o (yielded ops a.tmps) = true)
    (hv : ∀ w, S w → (execOp a.eval o).run P w = .ok (.value v) w) (h : HeadL P ops S K r (a.put o.dst v)) : HeadL P ops S K (o :: r) a := ⟨v, .inl ⟨hw, hv⟩, h⟩
theorem head_skip {K : Act → Prop} {r : List Oper} {a : Act} {o : Oper} (hw : Region.wanted o (yielded ops a.tmps) = false)
    (h : HeadL P ops S K r (a.put o.dst undef)) : HeadL P ops S K (o :: r) a := ⟨undef, .inr ⟨hw, rfl⟩, h⟩
/-- A load of a whole array or struct. -/
theorem head_load_mid {K : Act → Prop} {r : List Oper} {a : Act} {o : Oper} (hw : Region.wanted o (yielded ops a.tmps) = true) (ty : TypeId) (x : Operand) (ho : o.op = .load ty x)
    (b off : Nat) (hx : a.eval x = .pointer (some ⟨b, off, none⟩)) (cs : List Value) (d : TypeDesc) (hS : ∀ w, S w → w.rangeAt b off cs)
    (hu : P.underlying ty = some d) (hd : d.isRow = true) (hsz : (P.info? ty).map (·.size) = some cs.length) (h : HeadL P ops S K r (a.put o.dst (.agg cs.toArray))) : HeadL P ops S K (o :: r) a :=
  ⟨_, yieldsIf_load_mid hw ty x ho b off hx cs d hS hu hd hsz, h⟩
/-- A struct or array built of parts. -/
theorem head_build {K : Act → Prop} {r : List Oper} {a : Act} {o : Oper} (hw : Region.wanted o (yielded ops a.tmps) = true) (t : TypeId) (parts : Array (Nat × Operand)) (ho : o.op = .build t parts) (cs : Array Value)
    (hr : ∀ w, (Instr.build t (parts.map fun (i, x) => (i, a.eval x))).run P w = .ok (.agg cs) w) (h : HeadL P ops S K r (a.put o.dst (.agg cs))) : HeadL P ops S K (o :: r) a :=
  head_run hw (fun w _ => by simp only [execOp, ho, Sem.run_bind, hr, Result.andThen_ok]; rfl) h
end
end Go.Proofs.YtepgmebklhemgaaGreatDoor.Pl
/- A region that draws its order, walked by a plan that may branch: reads are taken as soon as they may come up, in whatever world meets S; of what turns the world each order that is left open is walked; S may grow stronger behind each, till an operation comes that may end it. No program is in sight. -/
set_option linter.unusedVariables false
set_option linter.unusedSimpArgs false
namespace Go.Proofs.YtepgmebklhemgaaGreatDoor.Pt
open Pl
/-- pr: looks at no memory · rd: reads, S holds · go: turns the world, S holds behind it · go2: two of that kind, in either order · st: turns the world, S is forgotten. -/
inductive Plan where
  | fin
  | pr (i : Nat) (p : Plan)
  | rd (i : Nat) (p : Plan)
  | go (i : Nat) (p : Plan)
  | go2 (i : Nat) (p : Plan) (j : Nat) (q : Plan)
  | st (i : Nat) (p : Plan)
inductive PlanL where
  | fin
  | pr (o : Oper) (p : PlanL)
  | rd (o : Oper) (p : PlanL)
  | go (o : Oper) (p : PlanL)
  | go2 (o : Oper) (p : PlanL) (o' : Oper) (q : PlanL)
  | st (o : Oper) (p : PlanL)
def Plan.size : Plan → Nat
  | .fin => 0
  | .pr _ p => p.size + 1
  | .rd _ p => p.size + 1
  | .go _ p => p.size + 1
  | .go2 _ p _ _ => p.size + 1
  | .st _ p => p.size + 1
def rds : List Nat → Plan → Plan
  | [], p => p
  | i :: r, p => .rd i (rds r p)
def prs : List Nat → Plan → Plan
  | [], p => p
  | i :: r, p => .pr i (prs r p)
def at_ (l : List Oper) (i : Nat) : Oper := match l.drop i with
  | o :: _ => o
  | [] => { dst := none, op := .assign (.tmp 0), type := 0, pos := "", after := #[], guard := none }
def toL (l : List Oper) : Plan → PlanL
  | .fin => .fin
  | .pr i p => .pr (at_ l i) (toL l p)
  | .rd i p => .rd (at_ l i) (toL l p)
  | .go i p => .go (at_ l i) (toL l p)
  | .go2 i p j q => .go2 (at_ l i) (toL l p) (at_ l j) (toL l q)
  | .st i p => .st (at_ l i) (toL l p)
def planB (md : Region.Mode) (ops : Array Oper) (D : Nat → Bool) : Bool → Plan → Array Bool → Bool
  | _, .fin, listed => (Region.ready md ops listed).isEmpty
  | al, .pr i p, listed => Region.free md ops listed i && (Region.ready md ops listed).contains i && !D i && planB md ops D al p (listed.setIfInBounds i true)
  | al, .rd i p, listed => al && Region.free md ops listed i && (Region.ready md ops listed).contains i && !D i && lateB md ops (fun j => !D j) i && planB md ops D al p (listed.setIfInBounds i true)
  | al, .go i p, listed => al && Region.ready md ops listed == [i] && !D i && planB md ops D al p (listed.setIfInBounds i true)
  | al, .go2 i p j q, listed => al && Region.ready md ops listed == [i, j] && !D i && !D j && p.size == q.size && planB md ops D al p (listed.setIfInBounds i true) && planB md ops D al q (listed.setIfInBounds j true)
  | _, .st i p, listed => Region.ready md ops listed == [i] && D i && planB md ops D false p (listed.setIfInBounds i true)
def allB (ops : Array Oper) (D : Nat → Bool) (p : Plan) : Bool := Region.noSelect ops && planB .any ops D true p (Array.replicate ops.size false) && decide (p.size = ops.size)
section
variable {P : Program} {ops : Array Oper} {Q : Exit → Act → World → Prop} {md : Region.Mode} {D : Nat → Bool}
def AnyA (P : Program) (md : Region.Mode) (ops : Array Oper) (Q : Exit → Act → World → Prop) (S : World → Prop) (D : Nat → Bool) : Bool → Nat → Array Bool → Act → World → Prop
  | _, 0, listed, a, w => Region.ready md ops listed = [] ∧ Q .normal a w
  | al, f + 1, listed, a, w =>
    (Region.ready md ops listed = [] → Q .normal a w) ∧
    ∀ i ∈ Region.ready md ops listed, wpOp P ops Q i (fun a' w' => ((al && !D i) = true → S w') ∧ AnyA P md ops Q S D (al && !D i) f (listed.setIfInBounds i true) a' w') a w
theorem any_of_a {S : World → Prop} : ∀ (al : Bool) (f : Nat) (listed : Array Bool) (a : Act) (w : World), AnyA P md ops Q S D al f listed a w → wpAny P md ops Q f listed a w
  | _, 0, _, _, _, h => h
  | al, f + 1, _, _, _, h => ⟨h.1, fun i hi => wpOp_mono (fun a' w' h' => any_of_a _ f _ a' w' h'.2) (h.2 i hi)⟩
theorem anyA_mono {S S' : World → Prop} (hS : ∀ x, S' x → S x) : ∀ (al : Bool) (f : Nat) (listed : Array Bool) (a : Act) (w : World), AnyA P md ops Q S' D al f listed a w → AnyA P md ops Q S D al f listed a w
  | _, 0, _, _, _, h => h
  | al, f + 1, _, _, _, h => ⟨h.1, fun i hi => wpOp_mono (fun a' w' h' => ⟨fun he => hS _ (h'.1 he), anyA_mono hS _ f _ a' w' h'.2⟩) (h.2 i hi)⟩
theorem free_step {listed : Array Bool} {i j : Nat} {oi : Oper} (hi : ops[i]? = some oi) (hf : Region.free md ops listed i = true) : Region.free md ops (listed.setIfInBounds j true) i = true := by
  simp only [Region.free, hi, List.all_eq_true, List.mem_range] at hf ⊢
  intro k hk
  have hk1 := hf k hk
  by_cases hjk : j = k
  · subst hjk
    have : (listed.setIfInBounds j true).getD j true = true := by
      simp only [Array.getD_eq_getD_getElem?, Array.getElem?_setIfInBounds_self]
      split <;> rfl
    simp [this]
  · rw [getD_set_ne true hjk]
    exact hk1
theorem apart_of {listed : Array Bool} {i j : Nat} {oi : Oper} (hi : ops[i]? = some oi) (hf : Region.free md ops listed i = true) (hiu : listed.getD i true = false) (hj : j ∈ Region.ready md ops listed) (hji : j ≠ i) : ∃ oj, ops[j]? = some oj ∧ oi.apart ops oj = true := by
  obtain ⟨hju, oj, hoj, _⟩ := mem_ready.1 hj
  refine ⟨oj, hoj, Region.free_spec hi hf j oj hoj hji hju fun e he hb heq => ready_waits hj hiu ?_⟩
  simp only [waits, hoj]
  exact Array.any_eq_true'.2 ⟨e, he, by simp [hb, heq]⟩
/-- An operation that looks at no memory may be taken first. -/
theorem take_pr {S : World → Prop} {i : Nat} {oi : Oper} {v : Value} (hi : ops[i]? = some oi) (hs : Region.noSelect ops = true) (hQ : ∀ c a w, Q (.panic c) (a.put oi.dst v) w → Q (.panic c) a w) (hD : D i = false) :
    ∀ (al : Bool) (f : Nat) (listed : Array Bool) (a : Act) (w : World), Region.free md ops listed i = true → i ∈ Region.ready md ops listed → YieldsIf P ops (fun _ => True) oi v a → (al = true → S w) →
      AnyA P md ops Q S D al f (listed.setIfInBounds i true) (a.put oi.dst v) w → AnyA P md ops Q S D al (f + 1) listed a w := by
  have hsel := Region.noSelect_spec hs
  have hal : ∀ al : Bool, (al && !D i) = al := fun al => by simp [hD]
  intro al f
  induction f generalizing al with
  | zero =>
    intro listed a w hf hr hy hS H
    refine ⟨fun h0 => (by rw [h0] at hr; cases hr), fun j hj => ?_⟩
    by_cases hji : j = i
    · subst hji
      exact hy.wpOp hi trivial ⟨fun h => hS (by rw [hal] at h; exact h), H⟩
    · have hjr := ready_mono hj hji
      rw [H.1] at hjr
      cases hjr
  | succ f ih =>
    intro listed a w hf hr hy hS H
    refine ⟨fun h0 => (by rw [h0] at hr; cases hr), fun j hj => ?_⟩
    by_cases hji : j = i
    · subst hji
      exact hy.wpOp hi trivial ⟨fun h => hS (by rw [hal] at h; exact h), by rw [hal]; exact H⟩
    · have h1 := H.2 j (ready_mono hj hji)
      obtain ⟨oj, hoj, hap⟩ := apart_of hi hf (mem_ready.1 hr).1 hj hji
      have h2 := wpOp_putIf hoj hap (fun cs b => hsel i oi cs b hi) (fun cs b => hsel j oj cs b hoj) hQ hy h1
      refine wpOp_mono (fun a' w' h3 => ⟨h3.2.1, ih _ _ a' w' (free_step hi hf) (ready_mono hr (Ne.symm hji)) h3.1 h3.2.1 ?_⟩) h2
      rw [Array.setIfInBounds_comm _ _ hji]
      exact h3.2.2
/-- A read may be taken first where S holds, if whatever ends S waits for it. -/
theorem take_rd {S : World → Prop} {i : Nat} {oi : Oper} {v : Value} (hi : ops[i]? = some oi) (hs : Region.noSelect ops = true) (hQ : ∀ c a w, Q (.panic c) (a.put oi.dst v) w → Q (.panic c) a w) (hD : D i = false) (hlate : lateB md ops (fun j => !D j) i = true) :
    ∀ (f : Nat) (listed : Array Bool) (a : Act) (w : World), Region.free md ops listed i = true → i ∈ Region.ready md ops listed → YieldsIf P ops S oi v a → S w →
      AnyA P md ops Q S D true f (listed.setIfInBounds i true) (a.put oi.dst v) w → AnyA P md ops Q S D true (f + 1) listed a w := by
  have hsel := Region.noSelect_spec hs
  have hal : (true && !D i) = true := by simp [hD]
  intro f
  induction f with
  | zero =>
    intro listed a w hf hr hy hS H
    refine ⟨fun h0 => (by rw [h0] at hr; cases hr), fun j hj => ?_⟩
    by_cases hji : j = i
    · subst hji
      exact hy.wpOp hi hS ⟨fun _ => hS, H⟩
    · have hjr := ready_mono hj hji
      rw [H.1] at hjr
      cases hjr
  | succ f ih =>
    intro listed a w hf hr hy hS H
    refine ⟨fun h0 => (by rw [h0] at hr; cases hr), fun j hj => ?_⟩
    by_cases hji : j = i
    · subst hji
      exact hy.wpOp hi hS ⟨fun _ => hS, by rw [hal]; exact H⟩
    · have h1 := H.2 j (ready_mono hj hji)
      have hiu := (mem_ready.1 hr).1
      obtain ⟨oj, hoj, hap⟩ := apart_of hi hf hiu hj hji
      have hDj : (true && !D j) = true := by
        have hl := List.all_eq_true.1 hlate j (List.mem_range.2 (Array.getElem?_eq_some_iff.1 hoj).1)
        rw [Bool.or_eq_true] at hl
        have h5 := hl.resolve_right fun hw => ready_waits hj hiu hw
        simpa using h5
      rw [hDj] at h1
      have h2 := wpOp_putIf hoj hap (fun cs b => hsel i oi cs b hi) (fun cs b => hsel j oj cs b hoj) hQ hy h1
      rw [hDj]
      refine wpOp_mono (fun a' w' h3 => ⟨h3.2.1, ih _ a' w' (free_step hi hf) (ready_mono hr (Ne.symm hji)) h3.1 (h3.2.1 rfl) ?_⟩) h2
      rw [Array.setIfInBounds_comm _ _ hji]
      exact h3.2.2
def RunL (P : Program) (ops : Array Oper) (Q : Exit → Act → World → Prop) : PlanL → (World → Prop) → Act → World → Prop
  | .fin, _, a, w => Q .normal a w
  | .pr o p, S, a, w => ∃ v, YieldsIf P ops (fun _ => True) o v a ∧ RunL P ops Q p S (a.put o.dst v) w
  | .rd o p, S, a, w => ∃ v, YieldsIf P ops S o v a ∧ RunL P ops Q p S (a.put o.dst v) w
  | .go o p, S, a, w => wpList P ops (Then Q fun a' w' => ∃ S' : World → Prop, (∀ x, S' x → S x) ∧ S' w' ∧ RunL P ops Q p S' a' w') [o] a w
  | .go2 o p o' q, S, a, w => wpList P ops (Then Q fun a' w' => ∃ S' : World → Prop, (∀ x, S' x → S x) ∧ S' w' ∧ RunL P ops Q p S' a' w') [o] a w ∧
      wpList P ops (Then Q fun a' w' => ∃ S' : World → Prop, (∀ x, S' x → S x) ∧ S' w' ∧ RunL P ops Q q S' a' w') [o'] a w
  | .st o p, S, a, w => wpList P ops (Then Q fun a' w' => RunL P ops Q p S a' w') [o] a w
theorem at_eq {l : List Oper} {i : Nat} (h : i < l.length) : l.toArray[i]? = some (at_ l i) := by
  unfold at_
  rw [List.drop_eq_getElem_cons h]
  simp [h]
theorem ready_lt {listed : Array Bool} {i : Nat} (h : i ∈ Region.ready md ops listed) : i < ops.size := by
  obtain ⟨_, oi, hoi, _⟩ := mem_ready.1 h
  exact (Array.getElem?_eq_some_iff.1 hoi).1
theorem run_a {l : List Oper} (hs : Region.noSelect l.toArray = true) (hQ : ∀ c (a : Act) d v w, Q (.panic c) (a.put d v) w → Q (.panic c) a w) :
    ∀ (al : Bool) (p : Plan) (S : World → Prop) (listed : Array Bool) (a : Act) (w : World), planB md l.toArray D al p listed = true → (al = true → S w) → RunL P l.toArray Q (toL l p) S a w → AnyA P md l.toArray Q S D al p.size listed a w
  | _, .fin, S, listed, a, w, hb, hS, h => ⟨by simpa [planB] using hb, h⟩
  | al, .pr i p, S, listed, a, w, hb, hS, h => by
    simp only [planB, Bool.and_eq_true, Bool.not_eq_true'] at hb
    obtain ⟨⟨⟨hf, hr⟩, hD⟩, hrest⟩ := hb
    have hr' : i ∈ Region.ready md l.toArray listed := by simpa using hr
    obtain ⟨v, hy, h⟩ := h
    exact take_pr (at_eq (by simpa using ready_lt hr')) hs (fun c a w h => hQ c a _ _ w h) hD al p.size listed a w hf hr' hy hS (run_a hs hQ al p S _ _ _ hrest hS h)
  | al, .rd i p, S, listed, a, w, hb, hS, h => by
    simp only [planB, Bool.and_eq_true, Bool.not_eq_true'] at hb
    obtain ⟨⟨⟨⟨⟨hal, hf⟩, hr⟩, hD⟩, hl⟩, hrest⟩ := hb
    subst hal
    have hr' : i ∈ Region.ready md l.toArray listed := by simpa using hr
    obtain ⟨v, hy, h⟩ := h
    exact take_rd (at_eq (by simpa using ready_lt hr')) hs (fun c a w h => hQ c a _ _ w h) hD hl p.size listed a w hf hr' hy (hS rfl) (run_a hs hQ true p S _ _ _ hrest hS h)
  | al, .go i p, S, listed, a, w, hb, hS, h => by
    simp only [planB, Bool.and_eq_true, beq_iff_eq, Bool.not_eq_true'] at hb
    obtain ⟨⟨⟨hal, hr⟩, hD⟩, hrest⟩ := hb
    subst hal
    refine ⟨fun h0 => (by rw [hr] at h0; cases h0), fun j hj => ?_⟩
    have hlt : i < l.length := by simpa using ready_lt (by rw [hr]; simp : i ∈ Region.ready md l.toArray listed)
    rw [hr, List.mem_singleton] at hj
    subst hj
    refine wpOp_of_list (at_eq hlt) (then_mono (fun a' w' h' => ?_) h)
    obtain ⟨S', h1, h2, h3⟩ := h'
    have e : (true && !D j) = true := by simp [hD]
    rw [e]
    exact ⟨fun _ => h1 _ h2, anyA_mono h1 _ _ _ _ _ (run_a hs hQ true p S' _ _ _ hrest (fun _ => h2) h3)⟩
  | al, .go2 i p k q, S, listed, a, w, hb, hS, h => by
    simp only [planB, Bool.and_eq_true, beq_iff_eq, Bool.not_eq_true'] at hb
    obtain ⟨⟨⟨⟨⟨⟨hal, hr⟩, hDi⟩, hDk⟩, hsz⟩, hp⟩, hq⟩ := hb
    subst hal
    refine ⟨fun h0 => (by rw [hr] at h0; cases h0), fun j hj => ?_⟩
    have hi : i < l.length := by simpa using ready_lt (by rw [hr]; simp : i ∈ Region.ready md l.toArray listed)
    have hk : k < l.length := by simpa using ready_lt (by rw [hr]; simp : k ∈ Region.ready md l.toArray listed)
    rw [hr] at hj
    simp only [List.mem_cons, List.not_mem_nil, or_false] at hj
    rcases hj with rfl | rfl
    · refine wpOp_of_list (at_eq hi) (then_mono (fun a' w' h' => ?_) h.1)
      obtain ⟨S', h1, h2, h3⟩ := h'
      have e : (true && !D j) = true := by simp [hDi]
      rw [e]
      exact ⟨fun _ => h1 _ h2, anyA_mono h1 _ _ _ _ _ (run_a hs hQ true p S' _ _ _ hp (fun _ => h2) h3)⟩
    · refine wpOp_of_list (at_eq hk) (then_mono (fun a' w' h' => ?_) h.2)
      obtain ⟨S', h1, h2, h3⟩ := h'
      have e : (true && !D j) = true := by simp [hDk]
      have h4 := anyA_mono h1 _ _ _ _ _ (run_a hs hQ true q S' _ _ _ hq (fun _ => h2) h3)
      rw [← hsz] at h4
      rw [e]
      exact ⟨fun _ => h1 _ h2, h4⟩
  | al, .st i p, S, listed, a, w, hb, hS, h => by
    simp only [planB, Bool.and_eq_true, beq_iff_eq] at hb
    obtain ⟨⟨hr, hD⟩, hrest⟩ := hb
    refine ⟨fun h0 => (by rw [hr] at h0; cases h0), fun j hj => ?_⟩
    have hlt : i < l.length := by simpa using ready_lt (by rw [hr]; simp : i ∈ Region.ready md l.toArray listed)
    rw [hr, List.mem_singleton] at hj
    subst hj
    refine wpOp_of_list (at_eq hlt) (then_mono (fun a' w' h' => ?_) h)
    have e : (al && !D j) = false := by simp [hD]
    rw [e]
    exact ⟨fun h0 => (by cases h0), run_a hs hQ false p S _ _ _ hrest (fun h0 => by cases h0) h'⟩
/-- THE PLAN. T: what may end S. -/
theorem wp_plan {id : Nat} {l : List Oper} {a : Act} {w : World} (S : World → Prop) (p : Plan) (T : List Nat) (hm : P.follows .mixedOrders = true) (hB : allB l.toArray (fun j => T.contains j) p = true)
    (hQ : ∀ c (a : Act) d v w, Q (.panic c) (a.put d v) w → Q (.panic c) a w) (hS : S w.drew) (h : RunL P l.toArray Q (toL l p) S a w.drew) : (Code.region id l.toArray true).wp P Q a w := by
  simp only [allB, Bool.and_eq_true, decide_eq_true_eq] at hB
  obtain ⟨⟨hs, hp⟩, hn⟩ := hB
  refine wp_region_any hm (any_of_a (S := S) (D := fun j => T.contains j) true _ _ _ _ ?_)
  have h1 := run_a hs hQ true p S _ a _ hp (fun _ => hS) h
  rw [hn] at h1
  exact h1
/-! ### Steps -/
variable {S : World → Prop} {p q : PlanL} {o o' : Oper} {a : Act} {w : World}
theorem run_fin (h : Q .normal a w) : RunL P ops Q .fin S a w := h
theorem pr_run {v : Value} (hw : Region.wanted o (yielded ops a.tmps) = true) (hv : ∀ w, (execOp a.eval o).run P w = .ok (.value v) w) (h : RunL P ops Q p S (a.put o.dst v) w) : RunL P ops Q (.pr o p) S a w := ⟨v, .inl ⟨hw, fun w _ => hv w⟩, h⟩
theorem pr_skip (hw : Region.wanted o (yielded ops a.tmps) = false) (h : RunL P ops Q p S (a.put o.dst undef) w) : RunL P ops Q (.pr o p) S a w := ⟨undef, .inr ⟨hw, rfl⟩, h⟩
theorem rd_run {v : Value} (hw : Region.wanted o (yielded ops a.tmps) = true) (hv : ∀ w, S w → (execOp a.eval o).run P w = .ok (.value v) w) (h : RunL P ops Q p S (a.put o.dst v) w) : RunL P ops Q (.rd o p) S a w := ⟨v, .inl ⟨hw, hv⟩, h⟩
theorem rd_skip (hw : Region.wanted o (yielded ops a.tmps) = false) (h : RunL P ops Q p S (a.put o.dst undef) w) : RunL P ops Q (.rd o p) S a w := ⟨undef, .inr ⟨hw, rfl⟩, h⟩
theorem rd_load (hw : Region.wanted o (yielded ops a.tmps) = true) (ty : TypeId) (x : Operand) (ho : o.op = .load ty x) (b off : Nat) (hx : a.eval x = .pointer (some ⟨b, off, none⟩)) (cs : List Value) (d : TypeDesc) (hS : ∀ w, S w → w.rangeAt b off cs)
    (hu : P.underlying ty = some d) (hd : d.isRow = true) (hsz : (P.info? ty).map (·.size) = some cs.length) (h : RunL P ops Q p S (a.put o.dst (.agg cs.toArray)) w) : RunL P ops Q (.rd o p) S a w :=
  ⟨_, yieldsIf_load_mid hw ty x ho b off hx cs d hS hu hd hsz, h⟩
theorem run_go (h : wpList P ops (Then Q fun a' w' => ∃ S' : World → Prop, (∀ x, S' x → S x) ∧ S' w' ∧ RunL P ops Q p S' a' w') [o] a w) : RunL P ops Q (.go o p) S a w := h
theorem run_go2 (h : wpList P ops (Then Q fun a' w' => ∃ S' : World → Prop, (∀ x, S' x → S x) ∧ S' w' ∧ RunL P ops Q p S' a' w') [o] a w)
    (h' : wpList P ops (Then Q fun a' w' => ∃ S' : World → Prop, (∀ x, S' x → S x) ∧ S' w' ∧ RunL P ops Q q S' a' w') [o'] a w) : RunL P ops Q (.go2 o p o' q) S a w := ⟨h, h'⟩
theorem run_st (h : wpList P ops (Then Q fun a' w' => RunL P ops Q p S a' w') [o] a w) : RunL P ops Q (.st o p) S a w := h
/-- S stays. -/
theorem same (hS : S w) (h : RunL P ops Q p S a w) : ∃ S' : World → Prop, (∀ x, S' x → S x) ∧ S' w ∧ RunL P ops Q p S' a w := ⟨S, fun _ h => h, hS, h⟩
/-- S and S2 from here on. -/
theorem more (S2 : World → Prop) (hS : S w) (h2 : S2 w) (h : RunL P ops Q p (fun x => S x ∧ S2 x) a w) : ∃ S' : World → Prop, (∀ x, S' x → S x) ∧ S' w ∧ RunL P ops Q p S' a w := ⟨_, fun _ h => h.1, ⟨hS, h2⟩, h⟩
end
end Go.Proofs.YtepgmebklhemgaaGreatDoor.Pt
