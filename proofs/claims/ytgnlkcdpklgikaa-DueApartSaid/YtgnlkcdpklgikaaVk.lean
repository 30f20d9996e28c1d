/- slices.SortFunc at dues, by the shelf's contract. -/
import Derived.Test.YtgnlkcdpklgikaaVj
import Derived.Test.YtgnlkcdpklgikaaLa1
import Derived.Sort.OwnSorted
set_option linter.unusedVariables false
set_option linter.unusedSimpArgs false
namespace Go.Proofs.Ytgnlkcdpklgikaa
open Go.RowKit Wd Go.Sort
open Du (Due)
theorem dcs_get (l : List Due) (t : Nat) (h : t < l.length * 3) : (dcs l)[t]? = (dc (l[t / 3]'(by omega)))[t % 3]? := by
  have h1 : t / 3 < l.length := by omega
  rw [← dcs_at l (t / 3) h1, List.getElem?_take, if_pos (Nat.mod_lt _ (by decide)), List.getElem?_drop, show t / 3 * 3 + t % 3 = t from by omega]
theorem flat_dcs (l : List Due) : flatK dc 3 l.toArray = (dcs l).toArray := by
  refine ext_get! (by simp [dcs_length]) fun t ht => ?_
  have ht2 : t < l.length * 3 := by simpa using ht
  rw [get_flatK _ _ _ _ (by simpa using ht2)]
  have h1 : t / 3 < l.length := by omega
  have h2 := dcs_get l t ht2
  rw [getElem!_pos l.toArray (t / 3) (by simpa using h1)]
  have h3 : t < (dcs l).length := by rw [dcs_length]; exact ht2
  rw [getElem!_pos (dcs l).toArray t (by simpa using h3)]
  simp only [List.getElem_toArray]
  rw [List.getElem?_eq_getElem h3] at h2
  have h4 : t % 3 < (dc l[t / 3]).length := by simp [dc]; omega
  rw [List.getElem?_eq_getElem h4] at h2
  injection h2 with h2
  rw [h2]
  exact getElem!_pos (dc l[t / 3]) (t % 3) h4
theorem holds_blk {w : World} {g : Nat} {cur : Array Value} {e : TypeId} {xs : List Value} (hb : w.heap[g]? = some (.cells cur e (0, 0))) (ht : cur.toList.take xs.length = xs) : Holds id w g 0 xs.toArray := by
  intro j hj
  have hj' : j < xs.length := by simpa using hj
  refine ⟨?_, by simp [World.frozen?, hb]⟩
  have h1 : (cur.toList.take xs.length)[j]? = xs[j]? := by rw [ht]
  rw [List.getElem?_take_of_lt hj'] at h1
  simp only [World.cell?, hb, Nat.zero_add]
  simp only [Option.isSome_none, Bool.false_eq_true, if_false]
  rw [← Array.getElem?_toList, h1]
  simp [hj']
theorem heap_sorted' {w : World} {g n : Nat} {os : Array Obj} {cur : Array Value} {e : TypeId} {fr : Nat × Nat} (d : Array Value) (hb : w.heap[g]? = some (.cells cur e fr)) :
    (grow (putRow id (Sort.ahead w n) g 0 d) os).heap[g]? = some (.cells (putCells id 0 d cur) e fr) := by
  have hg : g < w.heap.size := (Array.getElem?_eq_some_iff.1 hb).1
  rw [heap_grow_old _ _ (by simpa using hg)]
  simp [putRow, mapBlock, Sort.ahead, Array.getElem?_modify, hb, onCells]
theorem grownBy_sorted' {w : World} {g n : Nat} {os : Array Obj} (d : Array Value) : w.grownBy (grow (putRow id (Sort.ahead w n) g 0 d) os) (some g) := by
  refine ⟨rfl, rfl, rfl, by simp, fun k hk hne => ?_⟩
  rw [heap_grow_old _ _ (by simpa using hk)]
  have : g ≠ k := fun e => hne (by rw [e])
  simp [putRow, mapBlock, Sort.ahead, Array.getElem?_modify, this]
theorem take_putCells' (cur : Array Value) (ts : List Value) (h : ts.length ≤ cur.size) : (putCells id 0 ts.toArray cur).toList.take ts.length = ts := by
  apply List.ext_getElem?
  intro j
  by_cases hj : j < ts.length
  · rw [List.getElem?_take_of_lt hj, Array.getElem?_toList]
    simp [putCells, hj, show j < cur.size by omega]
  · rw [List.getElem?_take_eq_none (by omega), List.getElem?_eq_none (by omega)]
theorem ltOf_ord3 (x y : Due) : ltOf ord3 x y = decide (Du.lt x y) := by
  unfold ltOf
  rw [decide_eq_decide]
  exact ord3_neg x y
theorem swo_due : SWO (ltOf ord3) where
  irrefl x := by rw [ltOf_ord3, decide_eq_false_iff_not]; exact Du.lt_irrefl x
  trans x y z h1 h2 := by rw [ltOf_ord3, decide_eq_true_eq] at *; exact Du.lt_trans h1 h2
  ntrans x y z h1 h2 := by rw [ltOf_ord3, decide_eq_false_iff_not] at *; unfold Du.lt at *; omega
section
variable {w0 w : World} {M : Mem} {L : List Ent}
def RetSort (w0 : World) (M : Mem) (L : List Ent) (v : Value) (n : Nat) (l : List Due) (e : Ending) (w' : World) : Prop :=
  e = .returned (.tuple #[]) ∧ ∃ l', l'.Perm l ∧ l'.Pairwise (fun p q => ¬ Du.lt q p) ∧ St w0 w' M (er 40 3 v n (dcs l') :: L)
theorem sort_any {g c n : Nat} {l : List Due} (H : St w0 w M (er 40 3 (.slice (some ⟨g, 0, none⟩) n c) n (dcs l) :: L)) (hn : n = l.length) (hn2 : n ≤ 1000000) :
    Calls Try.prog 22 #[.slice (some ⟨g, 0, none⟩) n c, .func (.func 23) #[] #[]] w (RetSort w0 M L (.slice (some ⟨g, 0, none⟩) n c) n l) := by
  have hr := er_bind (H.get 0 rfl)
  have hown := H.own 0 rfl
  obtain ⟨_, h2⟩ := hr
  rcases h2 with ⟨h2, _⟩ | ⟨g', cap', cur, he, ho, hnc, hm, hs, ht⟩
  · cases h2
  · injection he with he _ hc
    injection he with he
    injection he with he
    subst he hc
    have hb : w.heap[g]? = some (.cells cur 40 (0, 0)) := ho
    have hlt : g < w.heap.size := (Array.getElem?_eq_some_iff.1 hb).1
    have hxl : (dcs l).length = n * 3 := by rw [dcs_length, hn]
    have hH : HoldsK dc 3 w g 0 l.toArray := by
      unfold HoldsK
      rw [flat_dcs]
      exact holds_blk hb (by rw [hxl]; exact ht)
    have hk := AnyQ.slices_SortFunc Try.sortDue 3 Try.isAgg40 Try.sizeOf40 dc (fun _ => rfl) (fun x v hv => by simp [dc] at hv; rcases hv with rfl | rfl | rfl <;> rfl) ord3 swo_due 23 #[] g 0 c l.toArray w
      (enters_of Try.func23 (by kernel_rfl) rfl) (fun _ _ _ _ x y => pick2_any x y _) hH hlt (by simp; omega)
    rw [show l.toArray.size = n from by simp [hn]] at hk
    refine hk.mono ?_
    rintro e w' ⟨rfl, d', q, os, hp, hsrt, rfl⟩
    obtain ⟨p1, p2, p3⟩ := hp
    have hdl : d'.toList.length = n := by simp [p1, hn]
    have hperm : d'.toList.Perm l := by
      rw [show d'.extract 0 n = d' from by rw [show n = d'.size from by rw [← hdl]; simp]; simp, show l.toArray.extract 0 n = l.toArray from by rw [hn]; simp] at p3
      simpa using p3
    have hpw : d'.toList.Pairwise fun p q => ¬ Du.lt q p := by
      rw [List.pairwise_iff_getElem]
      intro i j hi hj hij
      have h := hsrt i j (Nat.zero_le _) hij (by omega)
      rw [ltOf_ord3, decide_eq_false_iff_not, getElem!_pos d' i (by simpa using hi), getElem!_pos d' j (by simpa using hj)] at h
      simpa using h
    refine ⟨rfl, d'.toList, hperm, hpw, ?_⟩
    have hw : sortWorldK dc 3 w g 0 q d' os = grow (putRow id (Sort.ahead w q) g 0 (dcs d'.toList).toArray) os := by
      unfold sortWorldK putRowK
      rw [show flatK dc 3 d' = (dcs d'.toList).toArray from by rw [← flat_dcs]]
    rw [hw]
    have hdc : (dcs d'.toList).length = n * 3 := by rw [dcs_length, hdl]
    refine H.turnRow (grownBy_sorted' _) (.inl rfl) ⟨hdc, .inr ⟨g, c, _, rfl, ?_, heap_sorted' _ hb, hnc, hm, by simp [putCells, hs], ?_⟩⟩
    · rcases hown.2 with ⟨h3, _⟩ | ⟨g', cap', cur', he, hle, _⟩
      · cases h3
      · injection he with he
        injection he with he
        injection he with he
        omega
    · rw [← hdc]
      exact take_putCells' cur _ (by rw [hdc, hs]; exact Nat.mul_le_mul_right _ hnc)
end
end Go.Proofs.Ytgnlkcdpklgikaa
