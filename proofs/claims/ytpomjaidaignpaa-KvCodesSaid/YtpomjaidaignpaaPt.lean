/- A region that draws its order, walked by a plan that may branch: reads are taken as soon as they may come up, in whatever world meets S; of what turns the world each order that is left open is walked; S may grow stronger behind each, till an operation comes that may end it. No program is in sight. -/
import Derived.Test.YtpomjaidaignpaaPl
set_option linter.unusedVariables false
set_option linter.unusedSimpArgs false
namespace Go.Proofs.Ytpomjaidaignpaa.Pt
open Pl
/-- pr: looks at no memory · rd: reads, S holds · go: turns the world, S holds behind it · go2: two of that kind, in either order · st: turns the world, S is forgotten. -/
inductive Plan where
  | fin
  | pr (i : Nat) (p : Plan)
  | rd (i : Nat) (p : Plan)
  | go (i : Nat) (p : Plan)
  | go2 (i : Nat) (p : Plan) (j : Nat) (q : Plan)
  | st (i : Nat) (p : Plan)
inductive PlanL where
  | fin
  | pr (o : Oper) (p : PlanL)
  | rd (o : Oper) (p : PlanL)
  | go (o : Oper) (p : PlanL)
  | go2 (o : Oper) (p : PlanL) (o' : Oper) (q : PlanL)
  | st (o : Oper) (p : PlanL)
def Plan.size : Plan → Nat
  | .fin => 0
  | .pr _ p => p.size + 1
  | .rd _ p => p.size + 1
  | .go _ p => p.size + 1
  | .go2 _ p _ _ => p.size + 1
  | .st _ p => p.size + 1
def rds : List Nat → Plan → Plan
  | [], p => p
  | i :: r, p => .rd i (rds r p)
def prs : List Nat → Plan → Plan
  | [], p => p
  | i :: r, p => .pr i (prs r p)
def at_ (l : List Oper) (i : Nat) : Oper := match l.drop i with
  | o :: _ => o
  | [] => { dst := none, op := .assign (.tmp 0), type := 0, pos := "", after := #[], guard := none }
def toL (l : List Oper) : Plan → PlanL
  | .fin => .fin
  | .pr i p => .pr (at_ l i) (toL l p)
  | .rd i p => .rd (at_ l i) (toL l p)
  | .go i p => .go (at_ l i) (toL l p)
  | .go2 i p j q => .go2 (at_ l i) (toL l p) (at_ l j) (toL l q)
  | .st i p => .st (at_ l i) (toL l p)
def planB (md : Region.Mode) (ops : Array Oper) (D : Nat → Bool) : Bool → Plan → Array Bool → Bool
  | _, .fin, listed => (Region.ready md ops listed).isEmpty
  | al, .pr i p, listed => Region.free md ops listed i && (Region.ready md ops listed).contains i && !D i && planB md ops D al p (listed.setIfInBounds i true)
  | al, .rd i p, listed => al && Region.free md ops listed i && (Region.ready md ops listed).contains i && !D i && lateB md ops (fun j => !D j) i && planB md ops D al p (listed.setIfInBounds i true)
  | al, .go i p, listed => al && Region.ready md ops listed == [i] && !D i && planB md ops D al p (listed.setIfInBounds i true)
  | al, .go2 i p j q, listed => al && Region.ready md ops listed == [i, j] && !D i && !D j && p.size == q.size && planB md ops D al p (listed.setIfInBounds i true) && planB md ops D al q (listed.setIfInBounds j true)
  | _, .st i p, listed => Region.ready md ops listed == [i] && D i && planB md ops D false p (listed.setIfInBounds i true)
def allB (ops : Array Oper) (D : Nat → Bool) (p : Plan) : Bool := Region.noSelect ops && planB .any ops D true p (Array.replicate ops.size false) && decide (p.size = ops.size)
section
variable {P : Program} {ops : Array Oper} {Q : Exit → Act → World → Prop} {md : Region.Mode} {D : Nat → Bool}
def AnyA (P : Program) (md : Region.Mode) (ops : Array Oper) (Q : Exit → Act → World → Prop) (S : World → Prop) (D : Nat → Bool) : Bool → Nat → Array Bool → Act → World → Prop
  | _, 0, listed, a, w => Region.ready md ops listed = [] ∧ Q .normal a w
  | al, f + 1, listed, a, w =>
    (Region.ready md ops listed = [] → Q .normal a w) ∧
    ∀ i ∈ Region.ready md ops listed, wpOp P ops Q i (fun a' w' => ((al && !D i) = true → S w') ∧ AnyA P md ops Q S D (al && !D i) f (listed.setIfInBounds i true) a' w') a w
theorem any_of_a {S : World → Prop} : ∀ (al : Bool) (f : Nat) (listed : Array Bool) (a : Act) (w : World), AnyA P md ops Q S D al f listed a w → wpAny P md ops Q f listed a w
  | _, 0, _, _, _, h => h
  | al, f + 1, _, _, _, h => ⟨h.1, fun i hi => wpOp_mono (fun a' w' h' => any_of_a _ f _ a' w' h'.2) (h.2 i hi)⟩
theorem anyA_mono {S S' : World → Prop} (hS : ∀ x, S' x → S x) : ∀ (al : Bool) (f : Nat) (listed : Array Bool) (a : Act) (w : World), AnyA P md ops Q S' D al f listed a w → AnyA P md ops Q S D al f listed a w
  | _, 0, _, _, _, h => h
  | al, f + 1, _, _, _, h => ⟨h.1, fun i hi => wpOp_mono (fun a' w' h' => ⟨fun he => hS _ (h'.1 he), anyA_mono hS _ f _ a' w' h'.2⟩) (h.2 i hi)⟩
theorem free_step {listed : Array Bool} {i j : Nat} {oi : Oper} (hi : ops[i]? = some oi) (hf : Region.free md ops listed i = true) : Region.free md ops (listed.setIfInBounds j true) i = true := by
  simp only [Region.free, hi, List.all_eq_true, List.mem_range] at hf ⊢
  intro k hk
  have hk1 := hf k hk
  by_cases hjk : j = k
  · subst hjk
    have : (listed.setIfInBounds j true).getD j true = true := by
      simp only [Array.getD_eq_getD_getElem?, Array.getElem?_setIfInBounds_self]
      split <;> rfl
    simp [this]
  · rw [getD_set_ne true hjk]
    exact hk1
theorem apart_of {listed : Array Bool} {i j : Nat} {oi : Oper} (hi : ops[i]? = some oi) (hf : Region.free md ops listed i = true) (hiu : listed.getD i true = false) (hj : j ∈ Region.ready md ops listed) (hji : j ≠ i) : ∃ oj, ops[j]? = some oj ∧ oi.apart ops oj = true := by
  obtain ⟨hju, oj, hoj, _⟩ := mem_ready.1 hj
  refine ⟨oj, hoj, Region.free_spec hi hf j oj hoj hji hju fun e he hb heq => ready_waits hj hiu ?_⟩
  simp only [waits, hoj]
  exact Array.any_eq_true'.2 ⟨e, he, by simp [hb, heq]⟩
/-- An operation that looks at no memory may be taken first. -/
theorem take_pr {S : World → Prop} {i : Nat} {oi : Oper} {v : Value} (hi : ops[i]? = some oi) (hs : Region.noSelect ops = true) (hQ : ∀ c a w, Q (.panic c) (a.put oi.dst v) w → Q (.panic c) a w) (hD : D i = false) :
    ∀ (al : Bool) (f : Nat) (listed : Array Bool) (a : Act) (w : World), Region.free md ops listed i = true → i ∈ Region.ready md ops listed → YieldsIf P ops (fun _ => True) oi v a → (al = true → S w) →
      AnyA P md ops Q S D al f (listed.setIfInBounds i true) (a.put oi.dst v) w → AnyA P md ops Q S D al (f + 1) listed a w := by
  have hsel := Region.noSelect_spec hs
  have hal : ∀ al : Bool, (al && !D i) = al := fun al => by simp [hD]
  intro al f
  induction f generalizing al with
  | zero =>
    intro listed a w hf hr hy hS H
    refine ⟨fun h0 => (by rw [h0] at hr; cases hr), fun j hj => ?_⟩
    by_cases hji : j = i
    · subst hji
      exact hy.wpOp hi trivial ⟨fun h => hS (by rw [hal] at h; exact h), H⟩
    · have hjr := ready_mono hj hji
      rw [H.1] at hjr
      cases hjr
  | succ f ih =>
    intro listed a w hf hr hy hS H
    refine ⟨fun h0 => (by rw [h0] at hr; cases hr), fun j hj => ?_⟩
    by_cases hji : j = i
    · subst hji
      exact hy.wpOp hi trivial ⟨fun h => hS (by rw [hal] at h; exact h), by rw [hal]; exact H⟩
    · have h1 := H.2 j (ready_mono hj hji)
      obtain ⟨oj, hoj, hap⟩ := apart_of hi hf (mem_ready.1 hr).1 hj hji
      have h2 := wpOp_putIf hoj hap (fun cs b => hsel i oi cs b hi) (fun cs b => hsel j oj cs b hoj) hQ hy h1
      refine wpOp_mono (fun a' w' h3 => ⟨h3.2.1, ih _ _ a' w' (free_step hi hf) (ready_mono hr (Ne.symm hji)) h3.1 h3.2.1 ?_⟩) h2
      rw [Array.setIfInBounds_comm _ _ hji]
      exact h3.2.2
/-- A read may be taken first where S holds, if whatever ends S waits for it. -/
theorem take_rd {S : World → Prop} {i : Nat} {oi : Oper} {v : Value} (hi : ops[i]? = some oi) (hs : Region.noSelect ops = true) (hQ : ∀ c a w, Q (.panic c) (a.put oi.dst v) w → Q (.panic c) a w) (hD : D i = false) (hlate : lateB md ops (fun j => !D j) i = true) :
    ∀ (f : Nat) (listed : Array Bool) (a : Act) (w : World), Region.free md ops listed i = true → i ∈ Region.ready md ops listed → YieldsIf P ops S oi v a → S w →
      AnyA P md ops Q S D true f (listed.setIfInBounds i true) (a.put oi.dst v) w → AnyA P md ops Q S D true (f + 1) listed a w := by
  have hsel := Region.noSelect_spec hs
  have hal : (true && !D i) = true := by simp [hD]
  intro f
  induction f with
  | zero =>
    intro listed a w hf hr hy hS H
    refine ⟨fun h0 => (by rw [h0] at hr; cases hr), fun j hj => ?_⟩
    by_cases hji : j = i
    · subst hji
      exact hy.wpOp hi hS ⟨fun _ => hS, H⟩
    · have hjr := ready_mono hj hji
      rw [H.1] at hjr
      cases hjr
  | succ f ih =>
    intro listed a w hf hr hy hS H
    refine ⟨fun h0 => (by rw [h0] at hr; cases hr), fun j hj => ?_⟩
    by_cases hji : j = i
    · subst hji
      exact hy.wpOp hi hS ⟨fun _ => hS, by rw [hal]; exact H⟩
    · have h1 := H.2 j (ready_mono hj hji)
      have hiu := (mem_ready.1 hr).1
      obtain ⟨oj, hoj, hap⟩ := apart_of hi hf hiu hj hji
      have hDj : (true && !D j) = true := by
        have hl := List.all_eq_true.1 hlate j (List.mem_range.2 (Array.getElem?_eq_some_iff.1 hoj).1)
        rw [Bool.or_eq_true] at hl
        have h5 := hl.resolve_right fun hw => ready_waits hj hiu hw
        simpa using h5
      rw [hDj] at h1
      have h2 := wpOp_putIf hoj hap (fun cs b => hsel i oi cs b hi) (fun cs b => hsel j oj cs b hoj) hQ hy h1
      rw [hDj]
      refine wpOp_mono (fun a' w' h3 => ⟨h3.2.1, ih _ a' w' (free_step hi hf) (ready_mono hr (Ne.symm hji)) h3.1 (h3.2.1 rfl) ?_⟩) h2
      rw [Array.setIfInBounds_comm _ _ hji]
      exact h3.2.2
def RunL (P : Program) (ops : Array Oper) (Q : Exit → Act → World → Prop) : PlanL → (World → Prop) → Act → World → Prop
  | .fin, _, a, w => Q .normal a w
  | .pr o p, S, a, w => ∃ v, YieldsIf P ops (fun _ => True) o v a ∧ RunL P ops Q p S (a.put o.dst v) w
  | .rd o p, S, a, w => ∃ v, YieldsIf P ops S o v a ∧ RunL P ops Q p S (a.put o.dst v) w
  | .go o p, S, a, w => wpList P ops (Then Q fun a' w' => ∃ S' : World → Prop, (∀ x, S' x → S x) ∧ S' w' ∧ RunL P ops Q p S' a' w') [o] a w
  | .go2 o p o' q, S, a, w => wpList P ops (Then Q fun a' w' => ∃ S' : World → Prop, (∀ x, S' x → S x) ∧ S' w' ∧ RunL P ops Q p S' a' w') [o] a w ∧
      wpList P ops (Then Q fun a' w' => ∃ S' : World → Prop, (∀ x, S' x → S x) ∧ S' w' ∧ RunL P ops Q q S' a' w') [o'] a w
  | .st o p, S, a, w => wpList P ops (Then Q fun a' w' => RunL P ops Q p S a' w') [o] a w
theorem at_eq {l : List Oper} {i : Nat} (h : i < l.length) : l.toArray[i]? = some (at_ l i) := by
  unfold at_
  rw [List.drop_eq_getElem_cons h]
  simp [h]
theorem ready_lt {listed : Array Bool} {i : Nat} (h : i ∈ Region.ready md ops listed) : i < ops.size := by
  obtain ⟨_, oi, hoi, _⟩ := mem_ready.1 h
  exact (Array.getElem?_eq_some_iff.1 hoi).1
theorem run_a {l : List Oper} (hs : Region.noSelect l.toArray = true) (hQ : ∀ c (a : Act) d v w, Q (.panic c) (a.put d v) w → Q (.panic c) a w) :
    ∀ (al : Bool) (p : Plan) (S : World → Prop) (listed : Array Bool) (a : Act) (w : World), planB md l.toArray D al p listed = true → (al = true → S w) → RunL P l.toArray Q (toL l p) S a w → AnyA P md l.toArray Q S D al p.size listed a w
  | _, .fin, S, listed, a, w, hb, hS, h => ⟨by simpa [planB] using hb, h⟩
  | al, .pr i p, S, listed, a, w, hb, hS, h => by
    simp only [planB, Bool.and_eq_true, Bool.not_eq_true'] at hb
    obtain ⟨⟨⟨hf, hr⟩, hD⟩, hrest⟩ := hb
    have hr' : i ∈ Region.ready md l.toArray listed := by simpa using hr
    obtain ⟨v, hy, h⟩ := h
    exact take_pr (at_eq (by simpa using ready_lt hr')) hs (fun c a w h => hQ c a _ _ w h) hD al p.size listed a w hf hr' hy hS (run_a hs hQ al p S _ _ _ hrest hS h)
  | al, .rd i p, S, listed, a, w, hb, hS, h => by
    simp only [planB, Bool.and_eq_true, Bool.not_eq_true'] at hb
    obtain ⟨⟨⟨⟨⟨hal, hf⟩, hr⟩, hD⟩, hl⟩, hrest⟩ := hb
    subst hal
    have hr' : i ∈ Region.ready md l.toArray listed := by simpa using hr
    obtain ⟨v, hy, h⟩ := h
    exact take_rd (at_eq (by simpa using ready_lt hr')) hs (fun c a w h => hQ c a _ _ w h) hD hl p.size listed a w hf hr' hy (hS rfl) (run_a hs hQ true p S _ _ _ hrest hS h)
  | al, .go i p, S, listed, a, w, hb, hS, h => by
    simp only [planB, Bool.and_eq_true, beq_iff_eq, Bool.not_eq_true'] at hb
    obtain ⟨⟨⟨hal, hr⟩, hD⟩, hrest⟩ := hb
    subst hal
    refine ⟨fun h0 => (by rw [hr] at h0; cases h0), fun j hj => ?_⟩
    have hlt : i < l.length := by simpa using ready_lt (by rw [hr]; simp : i ∈ Region.ready md l.toArray listed)
    rw [hr, List.mem_singleton] at hj
    subst hj
    refine wpOp_of_list (at_eq hlt) (then_mono (fun a' w' h' => ?_) h)
    obtain ⟨S', h1, h2, h3⟩ := h'
    have e : (true && !D j) = true := by simp [hD]
    rw [e]
    exact ⟨fun _ => h1 _ h2, anyA_mono h1 _ _ _ _ _ (run_a hs hQ true p S' _ _ _ hrest (fun _ => h2) h3)⟩
  | al, .go2 i p k q, S, listed, a, w, hb, hS, h => by
    simp only [planB, Bool.and_eq_true, beq_iff_eq, Bool.not_eq_true'] at hb
    obtain ⟨⟨⟨⟨⟨⟨hal, hr⟩, hDi⟩, hDk⟩, hsz⟩, hp⟩, hq⟩ := hb
    subst hal
    refine ⟨fun h0 => (by rw [hr] at h0; cases h0), fun j hj => ?_⟩
    have hi : i < l.length := by simpa using ready_lt (by rw [hr]; simp : i ∈ Region.ready md l.toArray listed)
    have hk : k < l.length := by simpa using ready_lt (by rw [hr]; simp : k ∈ Region.ready md l.toArray listed)
    rw [hr] at hj
    simp only [List.mem_cons, List.not_mem_nil, or_false] at hj
    rcases hj with rfl | rfl
    · refine wpOp_of_list (at_eq hi) (then_mono (fun a' w' h' => ?_) h.1)
      obtain ⟨S', h1, h2, h3⟩ := h'
      have e : (true && !D j) = true := by simp [hDi]
      rw [e]
      exact ⟨fun _ => h1 _ h2, anyA_mono h1 _ _ _ _ _ (run_a hs hQ true p S' _ _ _ hp (fun _ => h2) h3)⟩
    · refine wpOp_of_list (at_eq hk) (then_mono (fun a' w' h' => ?_) h.2)
      obtain ⟨S', h1, h2, h3⟩ := h'
      have e : (true && !D j) = true := by simp [hDk]
      have h4 := anyA_mono h1 _ _ _ _ _ (run_a hs hQ true q S' _ _ _ hq (fun _ => h2) h3)
      rw [← hsz] at h4
      rw [e]
      exact ⟨fun _ => h1 _ h2, h4⟩
  | al, .st i p, S, listed, a, w, hb, hS, h => by
    simp only [planB, Bool.and_eq_true, beq_iff_eq] at hb
    obtain ⟨⟨hr, hD⟩, hrest⟩ := hb
    refine ⟨fun h0 => (by rw [hr] at h0; cases h0), fun j hj => ?_⟩
    have hlt : i < l.length := by simpa using ready_lt (by rw [hr]; simp : i ∈ Region.ready md l.toArray listed)
    rw [hr, List.mem_singleton] at hj
    subst hj
    refine wpOp_of_list (at_eq hlt) (then_mono (fun a' w' h' => ?_) h)
    have e : (al && !D j) = false := by simp [hD]
    rw [e]
    exact ⟨fun h0 => (by cases h0), run_a hs hQ false p S _ _ _ hrest (fun h0 => by cases h0) h'⟩
/-- THE PLAN. T: what may end S. -/
theorem wp_plan {id : Nat} {l : List Oper} {a : Act} {w : World} (S : World → Prop) (p : Plan) (T : List Nat) (hm : P.follows .mixedOrders = true) (hB : allB l.toArray (fun j => T.contains j) p = true)
    (hQ : ∀ c (a : Act) d v w, Q (.panic c) (a.put d v) w → Q (.panic c) a w) (hS : S w.drew) (h : RunL P l.toArray Q (toL l p) S a w.drew) : (Code.region id l.toArray true).wp P Q a w := by
  simp only [allB, Bool.and_eq_true, decide_eq_true_eq] at hB
  obtain ⟨⟨hs, hp⟩, hn⟩ := hB
  refine wp_region_any hm (any_of_a (S := S) (D := fun j => T.contains j) true _ _ _ _ ?_)
  have h1 := run_a hs hQ true p S _ a _ hp (fun _ => hS) h
  rw [hn] at h1
  exact h1
/-! ### Steps -/
variable {S : World → Prop} {p q : PlanL} {o o' : Oper} {a : Act} {w : World}
theorem run_fin (h : Q .normal a w) : RunL P ops Q .fin S a w := h
theorem pr_run {v : Value} (hw : Region.wanted o (yielded ops a.tmps) = true) (hv : ∀ w, (execOp a.eval o).run P w = .ok (.value v) w) (h : RunL P ops Q p S (a.put o.dst v) w) : RunL P ops Q (.pr o p) S a w := ⟨v, .inl ⟨hw, fun w _ => hv w⟩, h⟩
theorem pr_skip (hw : Region.wanted o (yielded ops a.tmps) = false) (h : RunL P ops Q p S (a.put o.dst undef) w) : RunL P ops Q (.pr o p) S a w := ⟨undef, .inr ⟨hw, rfl⟩, h⟩
theorem rd_run {v : Value} (hw : Region.wanted o (yielded ops a.tmps) = true) (hv : ∀ w, S w → (execOp a.eval o).run P w = .ok (.value v) w) (h : RunL P ops Q p S (a.put o.dst v) w) : RunL P ops Q (.rd o p) S a w := ⟨v, .inl ⟨hw, hv⟩, h⟩
theorem rd_skip (hw : Region.wanted o (yielded ops a.tmps) = false) (h : RunL P ops Q p S (a.put o.dst undef) w) : RunL P ops Q (.rd o p) S a w := ⟨undef, .inr ⟨hw, rfl⟩, h⟩
theorem rd_load (hw : Region.wanted o (yielded ops a.tmps) = true) (ty : TypeId) (x : Operand) (ho : o.op = .load ty x) (b off : Nat) (hx : a.eval x = .pointer (some ⟨b, off, none⟩)) (cs : List Value) (d : TypeDesc) (hS : ∀ w, S w → w.rangeAt b off cs)
    (hu : P.underlying ty = some d) (hd : d.isRow = true) (hsz : (P.info? ty).map (·.size) = some cs.length) (h : RunL P ops Q p S (a.put o.dst (.agg cs.toArray)) w) : RunL P ops Q (.rd o p) S a w :=
  ⟨_, yieldsIf_load_mid hw ty x ho b off hx cs d hS hu hd hsz, h⟩
theorem run_go (h : wpList P ops (Then Q fun a' w' => ∃ S' : World → Prop, (∀ x, S' x → S x) ∧ S' w' ∧ RunL P ops Q p S' a' w') [o] a w) : RunL P ops Q (.go o p) S a w := h
theorem run_go2 (h : wpList P ops (Then Q fun a' w' => ∃ S' : World → Prop, (∀ x, S' x → S x) ∧ S' w' ∧ RunL P ops Q p S' a' w') [o] a w)
    (h' : wpList P ops (Then Q fun a' w' => ∃ S' : World → Prop, (∀ x, S' x → S x) ∧ S' w' ∧ RunL P ops Q q S' a' w') [o'] a w) : RunL P ops Q (.go2 o p o' q) S a w := ⟨h, h'⟩
theorem run_st (h : wpList P ops (Then Q fun a' w' => RunL P ops Q p S a' w') [o] a w) : RunL P ops Q (.st o p) S a w := h
/-- S stays. -/
theorem same (hS : S w) (h : RunL P ops Q p S a w) : ∃ S' : World → Prop, (∀ x, S' x → S x) ∧ S' w ∧ RunL P ops Q p S' a w := ⟨S, fun _ h => h, hS, h⟩
/-- S and S2 from here on. -/
theorem more (S2 : World → Prop) (hS : S w) (h2 : S2 w) (h : RunL P ops Q p (fun x => S x ∧ S2 x) a w) : ∃ S' : World → Prop, (∀ x, S' x → S x) ∧ S' w ∧ RunL P ops Q p S' a w := ⟨_, fun _ h => h.1, ⟨hS, h2⟩, h⟩
end
end Go.Proofs.Ytpomjaidaignpaa.Pt
