/- Maps from strings to bytes in memory: made, written, read, copied, ranged over. No program is in sight. -/
import Derived.Test.YtpomjaidaignpaaC3
import Derived.Test.YtpomjaidaignpaaRg
import Derived.Maps.RangeRun
import Derived.Carry
set_option linter.unusedVariables false
set_option linter.unusedSimpArgs false
namespace Go.Proofs.Ytpomjaidaignpaa
open Go.RowKit Wd Go.MapKept Go.ChangeMaps
/-- Block g is a map: just these entries. -/
def mr (g : Nat) (es : Array MapEntry) (clock : Nat) : Ent := ⟨some g, fun o => o = some (.map es clock)⟩
def MIs (es : Array MapEntry) (clock : Nat) (D : List Pa) : Prop := Stamped es clock ∧ es.toList.map (fun e => (e.key, e.val)) = D.map fun a => (Value.string (str a.key), a.p.v)
/-- Block g is a map that holds the pairs D. -/
def mp (g : Nat) (D : List Pa) : Ent := ⟨some g, fun o => ∃ es clock, o = some (.map es clock) ∧ MIs es clock D⟩
def putD (D : List Pa) (a : Pa) : List Pa := if D.any (fun x => x.key == a.key) then D.map (fun x => if x.key == a.key then a else x) else D ++ [a]
def delD (D : List Pa) (k : List UInt8) : List Pa := D.filter fun x => !(x.key == k)
def getD_ (D : List Pa) (k : List UInt8) : Option Pa := D.find? fun x => x.key == k
theorem putD_pr (D : List Pa) (a : Pa) : (putD D a).map Pa.pr = Kv.mput (D.map Pa.pr) a.key a.p.l := by
  unfold putD Kv.mput
  rw [List.any_map]
  have e : ((fun p : Kv.Pr => p.1 == a.key) ∘ Pa.pr) = fun x : Pa => x.key == a.key := rfl
  rw [e]
  split
  · rw [List.map_map, List.map_map]
    refine List.map_congr_left fun x _ => ?_
    simp only [Function.comp_apply]
    have e2 : (Pa.pr x).1 = x.key := rfl
    rw [e2]
    split <;> rfl
  · rw [List.map_append]
    rfl
theorem delD_pr (D : List Pa) (k : List UInt8) : (delD D k).map Pa.pr = Kv.mdel (D.map Pa.pr) k := by
  unfold delD Kv.mdel
  rw [List.filter_map]
  rfl
theorem getD_pr (D : List Pa) (k : List UInt8) : (getD_ D k).map (fun a => a.p.l) = Kv.mget (D.map Pa.pr) k := by
  unfold getD_ Kv.mget
  rw [List.find?_map]
  cases h : List.find? (fun x : Pa => x.key == k) D with
  | none =>
    have : List.find? ((fun p : Kv.Pr => p.1 == k) ∘ Pa.pr) D = none := h
    rw [this]
    rfl
  | some x =>
    have : List.find? ((fun p : Kv.Pr => p.1 == k) ∘ Pa.pr) D = some x := h
    rw [this]
    rfl
theorem getD_mem {D : List Pa} {k : List UInt8} {a : Pa} (h : getD_ D k = some a) : a ∈ D ∧ a.key = k := ⟨List.mem_of_find?_eq_some h, by simpa using List.find?_some h⟩
theorem PaIn.put {M : Mem} {D : List Pa} (h : PaIn M D) {a : Pa} (hp : a.p.ok) (hi : In M (RB · a.p.A a.p.l)) : PaIn M (putD D a) := by
  unfold putD
  split
  · intro x hx
    obtain ⟨y, hy, rfl⟩ := List.mem_map.1 hx
    split
    · exact ⟨hp, hi⟩
    · exact h y hy
  · exact h.snoc hp hi
theorem PaIn.del {M : Mem} {D : List Pa} (h : PaIn M D) (k : List UInt8) : PaIn M (delD D k) := fun x hx => h x (List.mem_filter.1 hx).1
section
variable {es : Array MapEntry} {clock : Nat} {D : List Pa}
theorem MIs.at_ (h : MIs es clock D) (j : Nat) : (∀ e, es.toList[j]? = some e → ∃ a, D[j]? = some a ∧ e.key = .string (str a.key) ∧ e.val = a.p.v) ∧ (∀ a, D[j]? = some a → ∃ e, es.toList[j]? = some e ∧ e.key = .string (str a.key) ∧ e.val = a.p.v) := by
  have h1 : (es.toList.map (fun e => (e.key, e.val)))[j]? = (D.map fun a => (Value.string (str a.key), a.p.v))[j]? := by rw [h.2]
  rw [List.getElem?_map, List.getElem?_map] at h1
  constructor
  · intro e he
    rw [he] at h1
    cases hd : D[j]? with
    | none => rw [hd] at h1; cases h1
    | some a =>
      rw [hd] at h1
      simp only [Option.map_some, Option.some.injEq, Prod.mk.injEq] at h1
      exact ⟨a, rfl, h1.1, h1.2⟩
  · intro a ha
    rw [ha] at h1
    cases hd : es.toList[j]? with
    | none => rw [hd] at h1; cases h1
    | some e =>
      rw [hd] at h1
      simp only [Option.map_some, Option.some.injEq, Prod.mk.injEq] at h1
      exact ⟨e, rfl, h1.1, h1.2⟩
theorem MIs.mem (h : MIs es clock D) {e : MapEntry} (he : e ∈ es.toList) : ∃ a ∈ D, e.key = .string (str a.key) ∧ e.val = a.p.v := by
  obtain ⟨j, hj, rfl⟩ := List.mem_iff_getElem.1 he
  obtain ⟨a, h1, h2, h3⟩ := (h.at_ j).1 _ (List.getElem?_eq_getElem hj)
  exact ⟨a, List.mem_of_getElem? h1, h2, h3⟩
theorem MIs.mem' (h : MIs es clock D) {a : Pa} (ha : a ∈ D) : ∃ e ∈ es.toList, e.key = .string (str a.key) ∧ e.val = a.p.v := by
  obtain ⟨j, hj, rfl⟩ := List.mem_iff_getElem.1 ha
  obtain ⟨e, h1, h2, h3⟩ := (h.at_ j).2 _ (List.getElem?_eq_getElem hj)
  exact ⟨e, List.mem_of_getElem? h1, h2, h3⟩
theorem MIs.keys (h : MIs es clock D) : ∀ x ∈ es.toList, IsKey .string x.key := fun x hx => by
  obtain ⟨a, _, h1, _⟩ := h.mem hx
  rw [h1]
  exact trivial
theorem MIs.len (h : MIs es clock D) : es.size = D.length := by
  have := congrArg List.length h.2
  simpa using this
theorem skey_inj {a b : List UInt8} (h : Value.string (str a) = .string (str b)) : a = b := by
  injection h with h
  exact str_inj h
theorem MIs.apart (h : MIs es clock D) : D.Pairwise fun x y => x.key ≠ y.key := by
  have h1 : (es.toList.map (·.key)) = D.map fun a => Value.string (str a.key) := by
    have := congrArg (List.map Prod.fst) h.2
    simpa [List.map_map, Function.comp_def] using this
  have h2 := h.1.2.2
  rw [h1] at h2
  exact (List.pairwise_map.1 h2).imp fun hn he => hn (by rw [he])
theorem MIs.uniq (h : MIs es clock D) {i j : Nat} {a b : Pa} (hi : D[i]? = some a) (hj : D[j]? = some b) (hk : a.key = b.key) : i = j := by
  obtain ⟨hi1, hi2⟩ := List.getElem?_eq_some_iff.1 hi
  obtain ⟨hj1, hj2⟩ := List.getElem?_eq_some_iff.1 hj
  have hp := List.pairwise_iff_getElem.1 h.apart
  rcases Nat.lt_trichotomy i j with hlt | he | hlt
  · exact absurd (by rw [hi2, hj2]; exact hk) (hp i j hi1 hj1 hlt)
  · exact he
  · exact absurd (by rw [hi2, hj2]; exact hk.symm) (hp j i hj1 hi1 hlt)
theorem any_key {k : List UInt8} : D.any (fun x => x.key == k) = true ↔ ∃ a ∈ D, a.key = k := by
  rw [List.any_eq_true]
  constructor
  · rintro ⟨a, ha, he⟩
    exact ⟨a, ha, by simpa using he⟩
  · rintro ⟨a, ha, he⟩
    exact ⟨a, ha, by simpa using he⟩
/-- What looking for a key finds. -/
theorem MIs.look (h : MIs es clock D) (k : List UInt8) : (Instr.findNow .string (.string (str k)) es.toList 0 = some none ∧ (∀ x ∈ es.toList, x.key ≠ .string (str k)) ∧ getD_ D k = none) ∨
    ∃ j e a, Instr.findNow .string (.string (str k)) es.toList 0 = some (some (j, a.p.v)) ∧ es.toList[j]? = some e ∧ e.key = .string (str k) ∧ D[j]? = some a ∧ a.key = k ∧ getD_ D k = some a := by
  rcases findNow_spec (d := .string) (k := .string (str k)) trivial es.toList 0 h.keys with ⟨h1, h2⟩ | ⟨j, e, h1, h2, h3⟩
  · refine .inl ⟨h1, h2, ?_⟩
    unfold getD_
    rw [List.find?_eq_none]
    intro a ha he
    obtain ⟨e, he1, he2, _⟩ := h.mem' ha
    refine h2 e he1 ?_
    rw [he2, show a.key = k from by simpa using he]
  · obtain ⟨a, ha, hk, hv⟩ := (h.at_ j).1 e h2
    have hak : a.key = k := skey_inj (hk.symm.trans h3)
    refine .inr ⟨j, e, a, by rw [h1, Nat.zero_add, hv], h2, h3, ha, hak, ?_⟩
    unfold getD_
    cases hf : D.find? fun x => x.key == k with
    | none =>
      have := List.find?_eq_none.1 hf a (List.mem_of_getElem? ha)
      simp [hak] at this
    | some b =>
      obtain ⟨hb, hbk⟩ := getD_mem hf
      obtain ⟨i, hi, hie⟩ := List.mem_iff_getElem.1 hb
      have hi2 : D[i]? = some b := by rw [List.getElem?_eq_getElem hi, hie]
      have := h.uniq hi2 ha (hbk.trans hak.symm)
      subst this
      rw [ha] at hi2
      exact hi2.symm
theorem MIs.empty : MIs #[] 0 [] := ⟨stamped_empty 0, rfl⟩
theorem MIs.putNew (h : MIs es clock D) {a : Pa} (hk : ∀ x ∈ es.toList, x.key ≠ .string (str a.key)) : MIs (es.push ⟨.string (str a.key), a.p.v, clock⟩) (clock + 1) (putD D a) := by
  refine ⟨stamped_push h.1 hk, ?_⟩
  have hn : ¬ D.any (fun x => x.key == a.key) = true := fun hy => by
    obtain ⟨b, hb, hbk⟩ := any_key.1 hy
    obtain ⟨e, he1, he2, _⟩ := h.mem' hb
    exact hk e he1 (by rw [he2, hbk])
  unfold putD
  rw [if_neg hn, Array.toList_push, List.map_append, h.2, List.map_append]
  rfl
theorem MIs.putOld (h : MIs es clock D) {a : Pa} {j : Nat} {e : MapEntry} (he : es.toList[j]? = some e) (hk : e.key = .string (str a.key)) :
    MIs (es.modify j fun e => { e with key := .string (str a.key), val := a.p.v }) clock (putD D a) := by
  obtain ⟨b, hb, hbk, hbv⟩ := (h.at_ j).1 e he
  have hbk2 : b.key = a.key := skey_inj (hbk.symm.trans hk)
  refine ⟨stamped_modify h.1 _ _ (fun _ _ => rfl) (fun e' _ he' => ?_), ?_⟩
  · rw [show es[j]? = some e from by simpa using he] at he'
    injection he' with he'
    subst he'
    exact hk.symm
  · have hy : D.any (fun x => x.key == a.key) = true := any_key.2 ⟨b, List.mem_of_getElem? hb, hbk2⟩
    unfold putD
    rw [if_pos hy, Array.toList_modify, modify_eq_set _ _ _ _ he, List.map_set, h.2]
    apply List.ext_getElem?
    intro i
    rw [List.getElem?_set, List.getElem?_map, List.getElem?_map, List.getElem?_map]
    by_cases hij : j = i
    · subst hij
      have hl : j < D.length := (List.getElem?_eq_some_iff.1 hb).1
      rw [if_pos rfl, hb]
      simp [hl, hbk2]
    · rw [if_neg hij]
      cases hd : D[i]? with
      | none => rfl
      | some c =>
        have hne : ¬ c.key = a.key := fun hc => hij (h.uniq hb hd (hbk2.trans hc.symm))
        simp [hne]
theorem MIs.delOld (h : MIs es clock D) {k : List UInt8} {j : Nat} {a : Pa} (ha : D[j]? = some a) (hk : a.key = k) : MIs (es.eraseIdxIfInBounds j) clock (delD D k) := by
  have hjl : j < es.size := by rw [h.len]; exact (List.getElem?_eq_some_iff.1 ha).1
  have hsub : (es.eraseIdxIfInBounds j).toList = es.toList.eraseIdx j := by
    unfold Array.eraseIdxIfInBounds
    rw [dif_pos hjl]
    simp
  refine ⟨stamped_erase h.1 j, ?_⟩
  have hf : delD D k = D.eraseIdx j := by
    unfold delD
    refine filter_eq_eraseIdx (fun x : Pa => x.key == k) D j a ha (by simp [hk]) (h.apart.imp fun hn hh => ?_)
    simp only [beq_iff_eq] at hh
    exact hn (hh.1.trans hh.2.symm)
  rw [hsub, hf, Go.ChangeMaps.map_eraseIdx, Go.ChangeMaps.map_eraseIdx, h.2]
theorem MIs.delNone (h : MIs es clock D) {k : List UInt8} (hg : getD_ D k = none) : delD D k = D := by
  unfold delD
  refine List.filter_eq_self.2 fun x hx => ?_
  have := List.find?_eq_none.1 hg x hx
  simpa using this
end
section
variable {P : Program} {w0 w : World} {M : Mem} {L : List Ent} {g : Nat} {es : Array MapEntry} {clock : Nat} {D : List Pa} {t k e : TypeId}
theorem mr_heap (h : (mr g es clock).holds M w) : w.heap[g]? = some (.map es clock) := h.2.2
theorem Wd.St.openMap (h : St w0 w M (mp g D :: L)) : ∃ es clock, MIs es clock D ∧ St w0 w M (mr g es clock :: L) := by
  obtain ⟨h1, h2, es, clock, h3, h4⟩ := h.get 0 rfl
  exact ⟨es, clock, h4, h.turn (Keeps.refl w _) ⟨h1, h2, h3⟩ (fun g' h => .inl h)⟩
theorem Wd.St.shutMap (h : St w0 w M (mr g es clock :: L)) (hi : MIs es clock D) : St w0 w M (mp g D :: L) := by
  obtain ⟨h1, h2, h3⟩ := h.get 0 rfl
  exact h.turn (Keeps.refl w _) ⟨h1, h2, es, clock, h3, hi⟩ (fun g' h => .inl h)
theorem Wd.St.newMap (h : St w0 w M L) (hi : MIs es clock D) : St w0 (w.alloc (.map es clock)) M (mp w.heap.size D :: L) :=
  h.add (a := mp w.heap.size D) ((Below.refl _ _).alloc (Nat.le_refl _) _) ⟨h.fresh (Nat.le_refl _), by show _ < (w.heap.push _).size; simp, es, clock, Go.heap_alloc_new w _, hi⟩ fun g' hg' => by have : some w.heap.size = some g' := hg'; injection this with this; omega
theorem keeps_setBlock {o o' : Obj} (hb : w.heap[g]? = some o) : Keeps w (setBlock w g o') (· = g) := by
  refine ⟨rfl, rfl, rfl, by simp [setBlock], fun k hk hn => ?_⟩
  show (w.heap.setIfInBounds g o')[k]? = _
  rw [Array.getElem?_setIfInBounds_ne (Ne.symm hn)]
theorem Wd.St.setMap {es' : Array MapEntry} {clock' : Nat} (h : St w0 w M (mr g es clock :: L)) : St w0 (setBlock w g (.map es' clock')) M (mr g es' clock' :: L) := by
  obtain ⟨h1, h2, h3⟩ := h.get 0 rfl
  refine h.turn ((keeps_setBlock h3).imp fun k _ hk => by subst hk; rfl) ⟨h1, ?_, (heap_set h3).1⟩ (fun _ h => .inl h)
  show g < (w.heap.setIfInBounds g _).size
  simpa using h2
theorem map_update (h : St w0 w M (mp g D :: L)) (ht : P.underlying t = some (.map k e)) (hk : P.underlying k = some .string) (a : Pa) :
    ∃ w', (Instr.mapUpdate t (.map (some g)) (.string (str a.key)) a.p.v).run P w = .ok () w' ∧ St w0 w' M (mp g (putD D a) :: L) := by
  obtain ⟨es, clock, hi, H⟩ := h.openMap
  have hb := mr_heap (H.get 0 rfl)
  have hkey : IsKey .string (.string (str a.key)) := trivial
  rcases hi.look a.key with ⟨h1, h2, _⟩ | ⟨j, e0, b, h1, h2, h3, _⟩
  · refine ⟨setBlock w g (.map (es.push ⟨.string (str a.key), a.p.v, clock⟩) (clock + 1)), ?_, H.setMap.shutMap (hi.putNew h2)⟩
    simp [Instr.mapUpdate, run_underlying ht, MapKept.run_getObj_map hb, run_checkKey hk hkey, run_findKey hk h1, MapKept.run_setObj_map _ hb, Result.andThen, setBlock]
  · have hj : es[j]? = some e0 := by simpa using h2
    refine ⟨setBlock w g (.map (es.modify j fun e => { e with key := .string (str a.key), val := a.p.v }) clock), ?_, H.setMap.shutMap (hi.putOld h2 h3)⟩
    simp [Instr.mapUpdate, run_underlying ht, MapKept.run_getObj_map hb, run_checkKey hk hkey, run_findKey hk h1, hj, h3, run_keyThatStays hkey, MapKept.run_setObj_map _ hb, Result.andThen, setBlock]
theorem map_delete (h : St w0 w M (mp g D :: L)) (ht : P.underlying t = some (.map k e)) (hk : P.underlying k = some .string) (ty : TypeId) (key : List UInt8) :
    ∃ w', (Builtin.delete_ #[t, k] ty #[.map (some g), .string (str key)]).run P w = .ok (.tuple #[]) w' ∧ St w0 w' M (mp g (delD D key) :: L) := by
  obtain ⟨es, clock, hi, H⟩ := h.openMap
  have hb := mr_heap (H.get 0 rfl)
  have hkey : IsKey .string (.string (str key)) := trivial
  rcases hi.look key with ⟨h1, h2, h3⟩ | ⟨j, e0, b, h1, h2, h3, h4, h5, _⟩
  · refine ⟨setBlock w g (.map es clock), ?_, H.setMap.shutMap (by rw [hi.delNone h3]; exact hi)⟩
    simp [Builtin.delete_, run_underlying ht, MapKept.run_getObj_map hb, run_checkKey hk hkey, run_findKey hk h1, MapKept.run_setObj_map _ hb, Result.andThen, setBlock]
  · refine ⟨setBlock w g (.map (es.eraseIdxIfInBounds j) clock), ?_, H.setMap.shutMap (hi.delOld h4 h5)⟩
    simp [Builtin.delete_, run_underlying ht, MapKept.run_getObj_map hb, run_checkKey hk hkey, run_findKey hk h1, MapKept.run_setObj_map _ hb, Result.andThen, setBlock]
def lookV (D : List Pa) (key : List UInt8) : Value := match getD_ D key with | some a => a.p.v | none => .slice none 0 0
theorem map_lookup (h : (mp g D).holds M w) (ht : P.underlying t = some (.map k e)) (hk : P.underlying k = some .string) (hz : ∀ w, (zeroValue e).run P w = .ok (.slice none 0 0) w) (key : List UInt8) :
    (Instr.lookup t (.map (some g)) (.string (str key)) true).run P w = .ok (.tuple #[lookV D key, .bool (getD_ D key).isSome]) w ∧ (Instr.lookup t (.map (some g)) (.string (str key)) false).run P w = .ok (lookV D key) w := by
  obtain ⟨h1, h2, es, clock, hb, hi⟩ := h
  have hkey : IsKey .string (.string (str key)) := trivial
  unfold lookV
  rcases hi.look key with ⟨h1, h2, h3⟩ | ⟨j, e0, b, h1, h2, h3, h4, h5, h6⟩
  · rw [h3]
    constructor <;> simp [Instr.lookup, run_underlying ht, MapKept.run_getObj_map hb, run_checkKey hk hkey, run_findKey hk h1, hz, Result.andThen]
  · rw [h6]
    constructor <;> simp [Instr.lookup, run_underlying ht, MapKept.run_getObj_map hb, run_checkKey hk hkey, run_findKey hk h1, Result.andThen]
end
end Go.Proofs.Ytpomjaidaignpaa
