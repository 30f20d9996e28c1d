/- Maps from strings to bytes in memory: made, written, read, copied, ranged over. No program is in sight. -/
import Derived.Test.YtepgmebklhemgaaGreatDoorA8
import Derived.Maps.RangeRun
import Derived.Carry
import Derived.Test.YtepgmebklhemgaaGreatDoorA1
import Derived.Deep.DeepCutAuto
import Derived.Test.YtepgmebklhemgaaGreatDoorA5
set_option linter.unusedVariables false
set_option linter.unusedSimpArgs false
namespace Go.Proofs.YtepgmebklhemgaaGreatDoor
open Go.RowKit Wd Go.MapKept Go.ChangeMaps
/-- Block g is a map: just these entries. -/
def mr (g : Nat) (es : Array MapEntry) (clock : Nat) : Ent := ⟨some g, fun o => o = some (.map es clock)⟩
def MIs (es : Array MapEntry) (clock : Nat) (D : List Pa) : Prop := Stamped es clock ∧ es.toList.map (fun e => (e.key, e.val)) = D.map fun a => (Value.string (str a.key), a.p.v)
/-- Block g is a map that holds the pairs D. -/
def mp (g : Nat) (D : List Pa) : Ent := ⟨some g, fun o => ∃ es clock, o = some (.map es clock) ∧ MIs es clock D⟩
def putD (D : List Pa) (a : Pa) : List Pa := if D.any (fun x => x.key == a.key) then D.map (fun x => if x.key == a.key then a else x) else D ++ [a]
def delD (D : List Pa) (k : List UInt8) : List Pa := D.filter fun x => !(x.key == k)
def getD_ (D : List Pa) (k : List UInt8) : Option Pa := D.find? fun x => x.key == k
theorem putD_pr (D : List Pa) (a : Pa) : (putD D a).map Pa.pr = Kv.mput (D.map Pa.pr) a.key a.p.l := by
  unfold putD Kv.mput
  rw [List.any_map]
  have e : ((fun p : Kv.Pr => p.1 == a.key) ∘ Pa.pr) = fun x : Pa => x.key == a.key := rfl
  rw [e]
  split
  · rw [List.map_map, List.map_map]
    refine List.map_congr_left fun x _ => ?_
    simp only [Function.comp_apply]
    have e2 : (Pa.pr x).1 = x.key := rfl
    rw [e2]
    split <;> rfl
  · rw [List.map_append]
    rfl
theorem delD_pr (D : List Pa) (k : List UInt8) : (delD D k).map Pa.pr = Kv.mdel (D.map Pa.pr) k := by
  unfold delD Kv.mdel
  rw [List.filter_map]
  rfl
theorem getD_pr (D : List Pa) (k : List UInt8) : (getD_ D k).map (fun a => a.p.l) = Kv.mget (D.map Pa.pr) k := by
  unfold getD_ Kv.mget
  rw [List.find?_map]
  cases h : List.find? (fun x : Pa => x.key == k) D with
  | none =>
    have : List.find? ((fun p : Kv.Pr => p.1 == k) ∘ Pa.pr) D = none := h
    rw [this]
    rfl
  | some x =>
    have : List.find? ((fun p : Kv.Pr => p.1 == k) ∘ Pa.pr) D = some x := h
    rw [this]
    rfl
theorem getD_mem {D : List Pa} {k : List UInt8} {a : Pa} (h : getD_ D k = some a) : a ∈ D ∧ a.key = k := ⟨List.mem_of_find?_eq_some h, by simpa using List.find?_some h⟩
theorem PaIn.put {M : Mem} {D : List Pa} (h : PaIn M D) {a : Pa} (hp : a.p.ok) (hi : In M (RB · a.p.A a.p.l)) : PaIn M (putD D a) := by
  unfold putD
  split
  · intro x hx
    obtain ⟨y, hy, rfl⟩ := List.mem_map.1 hx
    split
    · exact ⟨hp, hi⟩
    · exact h y hy
  · exact h.snoc hp hi
theorem PaIn.del {M : Mem} {D : List Pa} (h : PaIn M D) (k : List UInt8) : PaIn M (delD D k) := fun x hx => h x (List.mem_filter.1 hx).1
section
variable {es : Array MapEntry} {clock : Nat} {D : List Pa}
theorem MIs.at_ (h : MIs es clock D) (j : Nat) : (∀ e, es.toList[j]? = some e → ∃ a, D[j]? = some a ∧ e.key = .string (str a.key) ∧ e.val = a.p.v) ∧ (∀ a, D[j]? = some a → ∃ e, es.toList[j]? = some e ∧ e.key = .string (str a.key) ∧ e.val = a.p.v) := by
  have h1 : (es.toList.map (fun e => (e.key, e.val)))[j]? = (D.map fun a => (Value.string (str a.key), a.p.v))[j]? := by rw [h.2]
  rw [List.getElem?_map, List.getElem?_map] at h1
  constructor
  · intro e he
    rw [he] at h1
    cases hd : D[j]? with
    | none => rw [hd] at h1; cases h1
    | some a =>
      rw [hd] at h1
      simp only [Option.map_some, Option.some.injEq, Prod.mk.injEq] at h1
      exact ⟨a, rfl, h1.1, h1.2⟩
  · intro a ha
    rw [ha] at h1
    cases hd : es.toList[j]? with
    | none => rw [hd] at h1; cases h1
    | some e =>
      rw [hd] at h1
      simp only [Option.map_some, Option.some.injEq, Prod.mk.injEq] at h1
      exact ⟨e, rfl, h1.1, h1.2⟩
theorem MIs.mem (h : MIs es clock D) {e : MapEntry} (he : e ∈ es.toList) : ∃ a ∈ D, e.key = .string (str a.key) ∧ e.val = a.p.v := by
  obtain ⟨j, hj, rfl⟩ := List.mem_iff_getElem.1 he
  obtain ⟨a, h1, h2, h3⟩ := (h.at_ j).1 _ (List.getElem?_eq_getElem hj)
  exact ⟨a, List.mem_of_getElem? h1, h2, h3⟩
theorem MIs.mem' (h : MIs es clock D) {a : Pa} (ha : a ∈ D) : ∃ e ∈ es.toList, e.key = .string (str a.key) ∧ e.val = a.p.v := by
  obtain ⟨j, hj, rfl⟩ := List.mem_iff_getElem.1 ha
  obtain ⟨e, h1, h2, h3⟩ := (h.at_ j).2 _ (List.getElem?_eq_getElem hj)
  exact ⟨e, List.mem_of_getElem? h1, h2, h3⟩
theorem MIs.keys (h : MIs es clock D) : ∀ x ∈ es.toList, IsKey .string x.key := fun x hx => by
  obtain ⟨a, _, h1, _⟩ := h.mem hx
  rw [h1]
  exact trivial
theorem MIs.len (h : MIs es clock D) : es.size = D.length := by
  have := congrArg List.length h.2
  simpa using this
theorem skey_inj {a b : List UInt8} (h : Value.string (str a) = .string (str b)) : a = b := by
  injection h with h
  exact str_inj h
theorem MIs.apart (h : MIs es clock D) : D.Pairwise fun x y => x.key ≠ y.key := by
  have h1 : (es.toList.map (·.key)) = D.map fun a => Value.string (str a.key) := by
    have := congrArg (List.map Prod.fst) h.2
    simpa [List.map_map, Function.comp_def] using this
  have h2 := h.1.2.2
  rw [h1] at h2
  exact (List.pairwise_map.1 h2).imp fun hn he => hn (by rw [he])
theorem MIs.uniq (h : MIs es clock D) {i j : Nat} {a b : Pa} (hi : D[i]? = some a) (hj : D[j]? = some b) (hk : a.key = b.key) : i = j := by
  obtain ⟨hi1, hi2⟩ := List.getElem?_eq_some_iff.1 hi
  obtain ⟨hj1, hj2⟩ := List.getElem?_eq_some_iff.1 hj
  have hp := List.pairwise_iff_getElem.1 h.apart
  rcases Nat.lt_trichotomy i j with hlt | he | hlt
  · exact absurd (by rw [hi2, hj2]; exact hk) (hp i j hi1 hj1 hlt)
  · exact he
  · exact absurd (by rw [hi2, hj2]; exact hk.symm) (hp j i hj1 hi1 hlt)
theorem any_key {k : List UInt8} : D.any (fun x => x.key == k) = true ↔ ∃ a ∈ D, a.key = k := by
  rw [List.any_eq_true]
  constructor
  · rintro ⟨a, ha, he⟩
    exact ⟨a, ha, by simpa using he⟩
  · rintro ⟨a, ha, he⟩
    exact ⟨a, ha, by simpa using he⟩
/-- What looking for a key finds. -/
theorem MIs.look (h : MIs es clock D) (k : List UInt8) : (Instr.findNow .string (.string (str k)) es.toList 0 = some none ∧ (∀ x ∈ es.toList, x.key ≠ .string (str k)) ∧ getD_ D k = none) ∨
    ∃ j e a, Instr.findNow .string (.string (str k)) es.toList 0 = some (some (j, a.p.v)) ∧ es.toList[j]? = some e ∧ e.key = .string (str k) ∧ D[j]? = some a ∧ a.key = k ∧ getD_ D k = some a := by
  rcases findNow_spec (d := .string) (k := .string (str k)) trivial es.toList 0 h.keys with ⟨h1, h2⟩ | ⟨j, e, h1, h2, h3⟩
  · refine .inl ⟨h1, h2, ?_⟩
    unfold getD_
    rw [List.find?_eq_none]
    intro a ha he
    obtain ⟨e, he1, he2, _⟩ := h.mem' ha
    refine h2 e he1 ?_
    rw [he2, show a.key = k from by simpa using he]
  · obtain ⟨a, ha, hk, hv⟩ := (h.at_ j).1 e h2
    have hak : a.key = k := skey_inj (hk.symm.trans h3)
    refine .inr ⟨j, e, a, by rw [h1, Nat.zero_add, hv], h2, h3, ha, hak, ?_⟩
    unfold getD_
    cases hf : D.find? fun x => x.key == k with
    | none =>
      have := List.find?_eq_none.1 hf a (List.mem_of_getElem? ha)
      simp [hak] at this
    | some b =>
      obtain ⟨hb, hbk⟩ := getD_mem hf
      obtain ⟨i, hi, hie⟩ := List.mem_iff_getElem.1 hb
      have hi2 : D[i]? = some b := by rw [List.getElem?_eq_getElem hi, hie]
      have := h.uniq hi2 ha (hbk.trans hak.symm)
      subst this
      rw [ha] at hi2
      exact hi2.symm
theorem MIs.empty : MIs #[] 0 [] := ⟨stamped_empty 0, rfl⟩
theorem MIs.putNew (h : MIs es clock D) {a : Pa} (hk : ∀ x ∈ es.toList, x.key ≠ .string (str a.key)) : MIs (es.push ⟨.string (str a.key), a.p.v, clock⟩) (clock + 1) (putD D a) := by
  refine ⟨stamped_push h.1 hk, ?_⟩
  have hn : ¬ D.any (fun x => x.key == a.key) = true := fun hy => by
    obtain ⟨b, hb, hbk⟩ := any_key.1 hy
    obtain ⟨e, he1, he2, _⟩ := h.mem' hb
    exact hk e he1 (by rw [he2, hbk])
  unfold putD
  rw [if_neg hn, Array.toList_push, List.map_append, h.2, List.map_append]
  rfl
theorem MIs.putOld (h : MIs es clock D) {a : Pa} {j : Nat} {e : MapEntry} (he : es.toList[j]? = some e) (hk : e.key = .string (str a.key)) :
    MIs (es.modify j fun e => { e with key := .string (str a.key), val := a.p.v }) clock (putD D a) := by
  obtain ⟨b, hb, hbk, hbv⟩ := (h.at_ j).1 e he
  have hbk2 : b.key = a.key := skey_inj (hbk.symm.trans hk)
  refine ⟨stamped_modify h.1 _ _ (fun _ _ => rfl) (fun e' _ he' => ?_), ?_⟩
  · rw [show es[j]? = some e from by simpa using he] at he'
    injection he' with he'
    subst he'
    exact hk.symm
  · have hy : D.any (fun x => x.key == a.key) = true := any_key.2 ⟨b, List.mem_of_getElem? hb, hbk2⟩
    unfold putD
    rw [if_pos hy, Array.toList_modify, modify_eq_set _ _ _ _ he, List.map_set, h.2]
    apply List.ext_getElem?
    intro i
    rw [List.getElem?_set, List.getElem?_map, List.getElem?_map, List.getElem?_map]
    by_cases hij : j = i
    · subst hij
      have hl : j < D.length := (List.getElem?_eq_some_iff.1 hb).1
      rw [if_pos rfl, hb]
      simp [hl, hbk2]
    · rw [if_neg hij]
      cases hd : D[i]? with
      | none => rfl
      | some c =>
        have hne : ¬ c.key = a.key := fun hc => hij (h.uniq hb hd (hbk2.trans hc.symm))
        simp [hne]
theorem MIs.delOld (h : MIs es clock D) {k : List UInt8} {j : Nat} {a : Pa} (ha : D[j]? = some a) (hk : a.key = k) : MIs (es.eraseIdxIfInBounds j) clock (delD D k) := by
  have hjl : j < es.size := by rw [h.len]; exact (List.getElem?_eq_some_iff.1 ha).1
  have hsub : (es.eraseIdxIfInBounds j).toList = es.toList.eraseIdx j := by
    unfold Array.eraseIdxIfInBounds
    rw [dif_pos hjl]
    simp
  refine ⟨stamped_erase h.1 j, ?_⟩
  have hf : delD D k = D.eraseIdx j := by
    unfold delD
    refine filter_eq_eraseIdx (fun x : Pa => x.key == k) D j a ha (by simp [hk]) (h.apart.imp fun hn hh => ?_)
    simp only [beq_iff_eq] at hh
    exact hn (hh.1.trans hh.2.symm)
  rw [hsub, hf, Go.ChangeMaps.map_eraseIdx, Go.ChangeMaps.map_eraseIdx, h.2]
theorem MIs.delNone (h : MIs es clock D) {k : List UInt8} (hg : getD_ D k = none) : delD D k = D := by
  unfold delD
  refine List.filter_eq_self.2 fun x hx => ?_
  have := List.find?_eq_none.1 hg x hx
  simpa using this
end
section
variable {P : Program} {w0 w : World} {M : Mem} {L : List Ent} {g : Nat} {es : Array MapEntry} {clock : Nat} {D : List Pa} {t k e : TypeId}
theorem mr_heap (h : (mr g es clock).holds M w) : w.heap[g]? = some (.map es clock) := h.2.2
theorem Wd.St.openMap (h : St w0 w M (mp g D :: L)) : ∃ es clock, MIs es clock D ∧ St w0 w M (mr g es clock :: L) := by
  obtain ⟨h1, h2, es, clock, h3, h4⟩ := h.get 0 rfl
  exact ⟨es, clock, h4, h.turn (Keeps.refl w _) ⟨h1, h2, h3⟩ (fun g' h => .inl h)⟩
theorem Wd.St.shutMap (h : St w0 w M (mr g es clock :: L)) (hi : MIs es clock D) : St w0 w M (mp g D :: L) := by
  obtain ⟨h1, h2, h3⟩ := h.get 0 rfl
  exact h.turn (Keeps.refl w _) ⟨h1, h2, es, clock, h3, hi⟩ (fun g' h => .inl h)
theorem Wd.St.newMap (h : St w0 w M L) (hi : MIs es clock D) : St w0 (w.alloc (.map es clock)) M (mp w.heap.size D :: L) :=
  h.add (a := mp w.heap.size D) ((Below.refl _ _).alloc (Nat.le_refl _) _) ⟨h.fresh (Nat.le_refl _), by show _ < (w.heap.push _).size; simp, es, clock, Go.heap_alloc_new w _, hi⟩ fun g' hg' => by have : some w.heap.size = some g' := hg'; injection this with this; omega
theorem keeps_setBlock {o o' : Obj} (hb : w.heap[g]? = some o) : Keeps w (setBlock w g o') (· = g) := by
  refine ⟨rfl, rfl, rfl, by simp [setBlock], fun k hk hn => ?_⟩
  show (w.heap.setIfInBounds g o')[k]? = _
  rw [Array.getElem?_setIfInBounds_ne (Ne.symm hn)]
theorem Wd.St.setMap {es' : Array MapEntry} {clock' : Nat} (h : St w0 w M (mr g es clock :: L)) : St w0 (setBlock w g (.map es' clock')) M (mr g es' clock' :: L) := by
  obtain ⟨h1, h2, h3⟩ := h.get 0 rfl
  refine h.turn ((keeps_setBlock h3).imp fun k _ hk => by subst hk; rfl) ⟨h1, ?_, (heap_set h3).1⟩ (fun _ h => .inl h)
  show g < (w.heap.setIfInBounds g _).size
  simpa using h2
theorem map_update (h : St w0 w M (mp g D :: L)) (ht : P.underlying t = some (.map k e)) (hk : P.underlying k = some .string) (a : Pa) :
    ∃ w', (Instr.mapUpdate t (.map (some g)) (.string (str a.key)) a.p.v).run P w = .ok () w' ∧ St w0 w' M (mp g (putD D a) :: L) := by
  obtain ⟨es, clock, hi, H⟩ := h.openMap
  have hb := mr_heap (H.get 0 rfl)
  have hkey : IsKey .string (.string (str a.key)) := trivial
  rcases hi.look a.key with ⟨h1, h2, _⟩ | ⟨j, e0, b, h1, h2, h3, _⟩
  · refine ⟨setBlock w g (.map (es.push ⟨.string (str a.key), a.p.v, clock⟩) (clock + 1)), ?_, H.setMap.shutMap (hi.putNew h2)⟩
    simp [Instr.mapUpdate, run_underlying ht, MapKept.run_getObj_map hb, run_checkKey hk hkey, run_findKey hk h1, MapKept.run_setObj_map _ hb, Result.andThen, setBlock]
  · have hj : es[j]? = some e0 := by simpa using h2
    refine ⟨setBlock w g (.map (es.modify j fun e => { e with key := .string (str a.key), val := a.p.v }) clock), ?_, H.setMap.shutMap (hi.putOld h2 h3)⟩
    simp [Instr.mapUpdate, run_underlying ht, MapKept.run_getObj_map hb, run_checkKey hk hkey, run_findKey hk h1, hj, h3, run_keyThatStays hkey, MapKept.run_setObj_map _ hb, Result.andThen, setBlock]
theorem map_delete (h : St w0 w M (mp g D :: L)) (ht : P.underlying t = some (.map k e)) (hk : P.underlying k = some .string) (ty : TypeId) (key : List UInt8) :
    ∃ w', (Builtin.delete_ #[t, k] ty #[.map (some g), .string (str key)]).run P w = .ok (.tuple #[]) w' ∧ St w0 w' M (mp g (delD D key) :: L) := by
  obtain ⟨es, clock, hi, H⟩ := h.openMap
  have hb := mr_heap (H.get 0 rfl)
  have hkey : IsKey .string (.string (str key)) := trivial
  rcases hi.look key with ⟨h1, h2, h3⟩ | ⟨j, e0, b, h1, h2, h3, h4, h5, _⟩
  · refine ⟨setBlock w g (.map es clock), ?_, H.setMap.shutMap (by rw [hi.delNone h3]; exact hi)⟩
    simp [Builtin.delete_, run_underlying ht, MapKept.run_getObj_map hb, run_checkKey hk hkey, run_findKey hk h1, MapKept.run_setObj_map _ hb, Result.andThen, setBlock]
  · refine ⟨setBlock w g (.map (es.eraseIdxIfInBounds j) clock), ?_, H.setMap.shutMap (hi.delOld h4 h5)⟩
    simp [Builtin.delete_, run_underlying ht, MapKept.run_getObj_map hb, run_checkKey hk hkey, run_findKey hk h1, MapKept.run_setObj_map _ hb, Result.andThen, setBlock]
def lookV (D : List Pa) (key : List UInt8) : Value := match getD_ D key with | some a => a.p.v | none => .slice none 0 0
theorem map_lookup (h : (mp g D).holds M w) (ht : P.underlying t = some (.map k e)) (hk : P.underlying k = some .string) (hz : ∀ w, (zeroValue e).run P w = .ok (.slice none 0 0) w) (key : List UInt8) :
    (Instr.lookup t (.map (some g)) (.string (str key)) true).run P w = .ok (.tuple #[lookV D key, .bool (getD_ D key).isSome]) w ∧ (Instr.lookup t (.map (some g)) (.string (str key)) false).run P w = .ok (lookV D key) w := by
  obtain ⟨h1, h2, es, clock, hb, hi⟩ := h
  have hkey : IsKey .string (.string (str key)) := trivial
  unfold lookV
  rcases hi.look key with ⟨h1, h2, h3⟩ | ⟨j, e0, b, h1, h2, h3, h4, h5, h6⟩
  · rw [h3]
    constructor <;> simp [Instr.lookup, run_underlying ht, MapKept.run_getObj_map hb, run_checkKey hk hkey, run_findKey hk h1, hz, Result.andThen]
  · rw [h6]
    constructor <;> simp [Instr.lookup, run_underlying ht, MapKept.run_getObj_map hb, run_checkKey hk hkey, run_findKey hk h1, Result.andThen]
end
end Go.Proofs.YtepgmebklhemgaaGreatDoor
/- Bytes with how many there are, written: kv's put and the reference's. -/
set_option linter.unusedVariables false
set_option linter.unusedSimpArgs false
namespace Go.Proofs.YtepgmebklhemgaaGreatDoor
open Go.RowKit Wd
section
variable {w0 w : World} {M : Mem} {L : List Ent}
theorem be2_bv (n q r : Nat) (h : n < 65536) (hq : q = n / 256) (hr : r = n % 256) : bv (Kv.be2 n) = [.int .u8 (q : Int), .int .u8 (r : Int)] := by
  unfold Kv.be2 bv
  simp only [List.map_cons, List.map_nil, UInt8.toNat_ofNat']
  rw [show n / 256 % 2 ^ 8 = q from by omega, show n % 2 ^ 8 = r from by omega]
set_option maxRecDepth 100000 in
theorem put20_any {v : Value} {n : Nat} {X : List UInt8} (H : St w0 w M (er 5 1 v n (bv X) :: L)) (s : List UInt8) (hs : s.length < 65536) (hn : n ≤ 1000000000) :
    Calls Tryz.prog 94 #[v, .string (str s)] w fun e w' => ∃ v', e = .returned v' ∧ St w0 w' M (er 5 1 v' (n + (2 + s.length)) (bv (X ++ (Kv.be2 s.length ++ s))) :: L) := by
  obtain ⟨A, c, rfl, hc⟩ := H.shape 0 rfl
  obtain ⟨m, hm⟩ : ∃ m, m = s.length := ⟨_, rfl⟩
  obtain ⟨q, hq⟩ : ∃ q, q = m / 256 := ⟨_, rfl⟩
  obtain ⟨r, hr⟩ : ∃ r, r = m % 256 := ⟨_, rfl⟩
  have hb2 := be2_bv m q r (by omega) hq hr
  obtain ⟨b2, hb2e⟩ : ∃ b2, b2 = Kv.be2 m := ⟨_, rfl⟩
  have hb2l : b2.length = 2 := by rw [hb2e]; rfl
  rw [← hb2e] at hb2
  have hS : (str s).size = m := by rw [str_size, hm]
  have f1 : (m : Int) / 256 = (q : Int) := by omega
  have f2 : IntKind.u8.wrap (q : Int) = (q : Int) := by rw [IntKind.wrap_u8]; omega
  have f3 : IntKind.u8.wrap (m : Int) = (r : Int) := by rw [IntKind.wrap_u8]; omega
  have hbs : ∀ W : World, (Instr.buildSlice 30 2 #[(0, .int .u8 (q : Int)), (1, .int .u8 (r : Int))]).run Tryz.prog W = .ok (.slice (some ⟨W.heap.size, 0, none⟩) 2 2) (W.alloc (.cells #[.int .u8 (q : Int), .int .u8 (r : Int)] 5)) := fun W => by go_simp
  obtain ⟨S, hSe⟩ : ∃ S, S = str s := ⟨_, rfl⟩
  rw [← hSe] at hS ⊢
  rw [← hm, ← hb2e]
  have HM := Lib.hid hm
  have HB2 := Lib.hid (And.intro hb2 hb2l)
  have HBS := Lib.hid hbs
  have HSE := Lib.hid hSe
  have hmb : m < 65536 := by omega
  clear hm hq hr hb2 hb2l hb2e hbs hSe hs
  go_enter Tryz.func94, Tryz.ntmps94
  go_upto_region 1 with fail
  refine wp_region_lit ?_
  iterate 8 (refine wpList_ex (v := ?_) (by rfl) ?_ ?_; rotate_left; (focus (go_simp; with_reducible rfl)); simp only [Act.put, List.setIfInBounds_toArray, List.set_cons_zero, List.set_cons_succ])
  have H1 := H.alloc (.cells #[.int .u8 (q : Int), .int .u8 (r : Int)] 5)
  have hnew : RB (w.alloc (.cells #[.int .u8 (q : Int), .int .u8 (r : Int)] 5)) (some ⟨w.heap.size, 0, none⟩) b2 := (Blk.new w 5 [.int .u8 (q : Int), .int .u8 (r : Int)]).RB (by rw [HB2.out.1, HB2.out.2]; rfl)
  refine wpList_bs2 (by rfl) 30 (.tmp 9) (.tmp 12) (by rfl) (by rfl) (by rfl) (HBS.out _) ?_
  simp only [Act.put, List.setIfInBounds_toArray, List.set_cons_zero, List.set_cons_succ]
  refine wpList_append_st H1 (by rfl) (.tmp 5) (.tmp 13) 30 (by rfl) Tryz.info5 Tryz.underlying30 (by rfl) (some ⟨w.heap.size, 0, none⟩) 2 2 b2 (by rfl) HB2.out.2.symm (by rintro ⟨⟩) hnew (by omega) ?_
  intro v5 w5 H2
  rw [← bv_append] at H2
  clear hnew H1
  simp only [Act.put, List.setIfInBounds_toArray, List.set_cons_zero, List.set_cons_succ]
  (refine wpList_ex (v := ?_) (by rfl) ?_ ?_; rotate_left; (focus (go_simp; with_reducible rfl)); simp only [Act.put, List.setIfInBounds_toArray, List.set_cons_zero, List.set_cons_succ])
  rw [HSE.out]
  refine wpList_append_str_st H2 (by rfl) (.tmp 14) (.tmp 15) 30 9 (by rfl) Tryz.info5 Tryz.underlying30 Tryz.underlying9 (by rfl) s (by rfl) (by rw [← HM.out]; omega) ?_
  intro v6 w6 H3
  rw [← bv_append] at H3
  simp only [Act.put, List.setIfInBounds_toArray, List.set_cons_zero, List.set_cons_succ]
  (refine wpList_ex (v := ?_) (by rfl) ?_ ?_; rotate_left; (focus (go_simp; with_reducible rfl)); simp only [Act.put, List.setIfInBounds_toArray, List.set_cons_zero, List.set_cons_succ])
  refine wpList_nil ?_
  go_wp2
  go_ret
  refine ⟨_, rfl, ?_⟩
  rw [← HM.out, Nat.add_assoc, List.append_assoc] at H3
  exact H3
set_option maxRecDepth 100000 in
theorem rput20_any {v : Value} {n : Nat} {X : List UInt8} (H : St w0 w M (er 5 1 v n (bv X) :: L)) (s : List UInt8) (hs : s.length < 65536) (hn : n ≤ 1000000000) :
    Calls Tryz.prog 63 #[v, .string (str s)] w fun e w' => ∃ v', e = .returned v' ∧ St w0 w' M (er 5 1 v' (n + (2 + s.length)) (bv (X ++ (Kv.be2 s.length ++ s))) :: L) := by
  obtain ⟨A, c, rfl, hc⟩ := H.shape 0 rfl
  obtain ⟨m, hm⟩ : ∃ m, m = s.length := ⟨_, rfl⟩
  obtain ⟨q, hq⟩ : ∃ q, q = m / 256 := ⟨_, rfl⟩
  obtain ⟨r, hr⟩ : ∃ r, r = m % 256 := ⟨_, rfl⟩
  have hb2 := be2_bv m q r (by omega) hq hr
  obtain ⟨b2, hb2e⟩ : ∃ b2, b2 = Kv.be2 m := ⟨_, rfl⟩
  have hb2l : b2.length = 2 := by rw [hb2e]; rfl
  rw [← hb2e] at hb2
  have hS : (str s).size = m := by rw [str_size, hm]
  have f1 : (m : Int) / 256 = (q : Int) := by omega
  have f2 : IntKind.u8.wrap (q : Int) = (q : Int) := by rw [IntKind.wrap_u8]; omega
  have f4 : (m : Int).tdiv 256 = (q : Int) := by rw [Int.tdiv_eq_ediv_of_nonneg (by omega)]; exact f1
  have f5 : (m : Int) % 256 = (r : Int) := by omega
  have f6 : (m : Int).tmod 256 = (r : Int) := by rw [Int.tmod_eq_emod_of_nonneg (by omega)]; exact f5
  have f8 : IntKind.i64.wrap (q : Int) = (q : Int) := by rw [IntKind.wrap_i64]; omega
  have f7 : IntKind.u8.wrap (r : Int) = (r : Int) := by rw [IntKind.wrap_u8]; omega
  have f3 : IntKind.u8.wrap (m : Int) = (r : Int) := by rw [IntKind.wrap_u8]; omega
  have hbs : ∀ W : World, (Instr.buildSlice 30 2 #[(0, .int .u8 (q : Int)), (1, .int .u8 (r : Int))]).run Tryz.prog W = .ok (.slice (some ⟨W.heap.size, 0, none⟩) 2 2) (W.alloc (.cells #[.int .u8 (q : Int), .int .u8 (r : Int)] 5)) := fun W => by go_simp
  obtain ⟨S, hSe⟩ : ∃ S, S = str s := ⟨_, rfl⟩
  rw [← hSe] at hS ⊢
  rw [← hm, ← hb2e]
  have HM := Lib.hid hm
  have HB2 := Lib.hid (And.intro hb2 hb2l)
  have HBS := Lib.hid hbs
  have HSE := Lib.hid hSe
  have hmb : m < 65536 := by omega
  clear hm hq hr hb2 hb2l hb2e hbs hSe hs
  go_enter Tryz.func63, Tryz.ntmps63
  go_upto_region 1 with fail
  refine wp_region_lit ?_
  iterate 9 (refine wpList_ex (v := ?_) (by rfl) ?_ ?_; rotate_left; (focus (go_simp; with_reducible rfl)); simp only [Act.put, List.setIfInBounds_toArray, List.set_cons_zero, List.set_cons_succ])
  have H1 := H.alloc (.cells #[.int .u8 (q : Int), .int .u8 (r : Int)] 5)
  have hnew : RB (w.alloc (.cells #[.int .u8 (q : Int), .int .u8 (r : Int)] 5)) (some ⟨w.heap.size, 0, none⟩) b2 := (Blk.new w 5 [.int .u8 (q : Int), .int .u8 (r : Int)]).RB (by rw [HB2.out.1, HB2.out.2]; rfl)
  refine wpList_bs2 (by rfl) 30 (.tmp 9) (.tmp 13) (by rfl) (by rfl) (by rfl) (HBS.out _) ?_
  simp only [Act.put, List.setIfInBounds_toArray, List.set_cons_zero, List.set_cons_succ]
  refine wpList_append_st H1 (by rfl) (.tmp 5) (.tmp 14) 30 (by rfl) Tryz.info5 Tryz.underlying30 (by rfl) (some ⟨w.heap.size, 0, none⟩) 2 2 b2 (by rfl) HB2.out.2.symm (by rintro ⟨⟩) hnew (by omega) ?_
  intro v5 w5 H2
  rw [← bv_append] at H2
  clear hnew H1
  simp only [Act.put, List.setIfInBounds_toArray, List.set_cons_zero, List.set_cons_succ]
  (refine wpList_ex (v := ?_) (by rfl) ?_ ?_; rotate_left; (focus (go_simp; with_reducible rfl)); simp only [Act.put, List.setIfInBounds_toArray, List.set_cons_zero, List.set_cons_succ])
  rw [HSE.out]
  refine wpList_append_str_st H2 (by rfl) (.tmp 15) (.tmp 16) 30 9 (by rfl) Tryz.info5 Tryz.underlying30 Tryz.underlying9 (by rfl) s (by rfl) (by rw [← HM.out]; omega) ?_
  intro v6 w6 H3
  rw [← bv_append] at H3
  simp only [Act.put, List.setIfInBounds_toArray, List.set_cons_zero, List.set_cons_succ]
  (refine wpList_ex (v := ?_) (by rfl) ?_ ?_; rotate_left; (focus (go_simp; with_reducible rfl)); simp only [Act.put, List.setIfInBounds_toArray, List.set_cons_zero, List.set_cons_succ])
  refine wpList_nil ?_
  go_wp2
  go_ret
  refine ⟨_, rfl, ?_⟩
  rw [← HM.out, Nat.add_assoc, List.append_assoc] at H3
  exact H3
end
end Go.Proofs.YtepgmebklhemgaaGreatDoor
/- Lists of acts bit by bit: what a round adds. No program is in sight. -/
set_option linter.unusedVariables false
set_option linter.unusedSimpArgs false
namespace Go.Proofs.YtepgmebklhemgaaGreatDoor
open Go.RowKit Wd
def Kv.enc (l : List Kv.Act) : List UInt8 × Int := if Kv.check l = 0 then (Kv.bytes l, 0) else ([], Kv.check l)
theorem Kv.enc_bad {l : List Kv.Act} (h : l.any Kv.bad = true) : Kv.enc l = ([], 1) := by
  have : Kv.check l = 1 := by unfold Kv.check; rw [if_pos h]
  unfold Kv.enc
  rw [this]
  rfl
theorem Kv.enc_long {l : List Kv.Act} (h : l.any Kv.bad = false) (h2 : 255 < l.length ∨ l.any Kv.long = true ∨ 65535 < (Kv.bytes l).length) : Kv.enc l = ([], 3) := by
  have : Kv.check l = 3 := by
    unfold Kv.check
    rw [if_neg (by simp [h]), if_pos]
    simp only [Bool.or_eq_true, decide_eq_true_eq]
    rcases h2 with h | h | h
    · exact .inl (.inl h)
    · exact .inl (.inr h)
    · exact .inr h
  unfold Kv.enc
  rw [this]
  rfl
theorem Kv.enc_ok {l : List Kv.Act} (h : l.any Kv.bad = false) (h2 : ¬ 255 < l.length) (h3 : l.any Kv.long = false) (h4 : ¬ 65535 < (Kv.bytes l).length) : Kv.enc l = (Kv.bytes l, 0) := by
  have : Kv.check l = 0 := by
    unfold Kv.check
    rw [if_neg (by simp [h]), if_neg]
    simp [h3]
    omega
  unfold Kv.enc
  rw [this]
  rfl
theorem Kv.any_snoc {l : List Ac} {f : Kv.Act → Bool} {k : Nat} (hk : k < l.length) (h : ((l.take k).map Ac.act).any f = false) (h2 : f l[k].act = false) : ((l.take (k + 1)).map Ac.act).any f = false := by
  rw [List.take_succ_eq_append_getElem hk, List.map_append, List.any_append, h]
  simp [h2]
theorem Kv.any_here {l : List Ac} {f : Kv.Act → Bool} {k : Nat} (hk : k < l.length) (h2 : f l[k].act = true) : (l.map Ac.act).any f = true :=
  List.any_eq_true.2 ⟨_, List.mem_map.2 ⟨_, List.getElem_mem hk, rfl⟩, h2⟩
theorem Kv.all_snoc {l : List Ac} {k : Nat} (hk : k < l.length) : Kv.all ((l.take (k + 1)).map Ac.act) = Kv.all ((l.take k).map Ac.act) ++ Kv.one l[k].act := by
  rw [List.take_succ_eq_append_getElem hk, List.map_append]
  simp [Kv.all]
theorem str_toList (k : List UInt8) : (str k).toList = k := by simp
theorem Kv.bad_cases (k : List UInt8) (b : Bool) (p : Pc) (n : Nat) (hn : n = p.l.length) : (Kv.bad (Ac.act ⟨k, b, p⟩) = true ∧ ((str k).toList = [] ∨ ((∃ x r, (str k).toList = x :: r) ∧ b = false ∧ 0 < n))) ∨ (Kv.bad (Ac.act ⟨k, b, p⟩) = false ∧ (∃ x r, (str k).toList = x :: r) ∧ (b = true ∨ (b = false ∧ ¬ 0 < n))) := by
  rw [str_toList]
  unfold Kv.bad Ac.act
  cases k with
  | nil => exact .inl ⟨by simp, .inl rfl⟩
  | cons x r =>
    cases b with
    | true => exact .inr ⟨by simp, ⟨x, r, rfl⟩, .inl rfl⟩
    | false =>
      by_cases h0 : 0 < n
      · refine .inl ⟨?_, .inr ⟨⟨x, r, rfl⟩, rfl, h0⟩⟩
        have : p.l ≠ [] := fun h => by rw [h] at hn; simp at hn; omega
        simp [this]
      · refine .inr ⟨?_, ⟨x, r, rfl⟩, .inr ⟨rfl, h0⟩⟩
        have : p.l = [] := List.eq_nil_of_length_eq_zero (by omega)
        simp [this]
end Go.Proofs.YtepgmebklhemgaaGreatDoor
/- Are batches alike, is one not too great: the reference's SameActs, the law's small. -/
set_option linter.unusedVariables false
set_option linter.unusedSimpArgs false
namespace Go.Proofs.YtepgmebklhemgaaGreatDoor
open Go.RowKit Wd
theorem cells_ac {w0 W : World} {M M' : Mem} {F : List Ent} {b o k : Nat} {l : List Ac} (hl : SrA w0 M F (some ⟨b, o, none⟩) (acs l)) (hk : k < l.length) (hM : M.le M') (H : St w0 W M' F) {S : ByteArray} {B : Bool} {V : Value} (h1 : str l[k].key = S) (h2 : l[k].set = B) (h3 : l[k].p.v = V) :
    W.cell? ⟨b, o + k * 3, none⟩ = some (.string S) ∧ W.cell? ⟨b, o + k * 3 + 1, none⟩ = some (.bool B) ∧ W.cell? ⟨b, o + k * 3 + 2, none⟩ = some V := by
  have h := SrA.ac3 hl k hk W M' hM H
  subst h1 h2 h3
  exact ⟨h 0 _ rfl, h 1 _ rfl, h 2 _ rfl⟩
section
variable {w0 w : World} {M : Mem} {L : List Ent}
end
end Go.Proofs.YtepgmebklhemgaaGreatDoor
/- Keys of a map turned: kv's turn; a map copied. -/
set_option linter.unusedVariables false
set_option linter.unusedSimpArgs false
namespace Go.Proofs.YtepgmebklhemgaaGreatDoor
open Go.RowKit Wd
theorem Kv.mturn_snoc {D : List Kv.Pr} {l : List Ac} {k : Nat} (hk : k < l.length) : Kv.mturn D ((l.take (k + 1)).map Ac.act) = Kv.mturn1 (Kv.mturn D ((l.take k).map Ac.act)) l[k].act := by
  rw [List.take_succ_eq_append_getElem hk, List.map_append]
  unfold Kv.mturn
  rw [List.foldl_append]
  rfl
section
variable {P : Program} {ops : Array Oper} {rest : List Oper} {op : Oper} {a : Act} {w0 w : World} {M : Mem} {Q : Exit → Act → World → Prop} {F : List Ent}
theorem wpList_mapset_st {g : Nat} {D : List Pa} {t k e : TypeId} (H : St w0 w M (mp g D :: F)) (hgd : op.guard = none) (m x v : Operand) (ho : op.op = .mapUpdate t m x v) (ht : P.underlying t = some (.map k e)) (hk : P.underlying k = some .string) (p : Pa)
    (hm : a.eval m = .map (some g)) (hx : a.eval x = .string (str p.key)) (hv : a.eval v = p.p.v) (h : ∀ w', St w0 w' M (mp g (putD D p) :: F) → wpList P ops Q rest (a.put op.dst undef) w') : wpList P ops Q (op :: rest) a w := by
  obtain ⟨w', hr, H'⟩ := map_update (P := P) (t := t) (k := k) (e := e) H ht hk p
  refine wpList_plain hgd fun K hK => ?_
  unfold Oper.wp execOp
  simp only [ho, hm, hx, hv, Sem.run_bind, hr, Result.andThen_ok, Sem.run_pure]
  exact hK _ _ (h w' H')
theorem wpList_mapdel_st {g : Nat} {D : List Pa} {t k e : TypeId} (H : St w0 w M (mp g D :: F)) (hgd : op.guard = none) (m x : Operand) (ho : op.op = .call { callee := .builtin .delete, args := #[m, x], argTypes := #[t, k] }) (ht : P.underlying t = some (.map k e)) (hk : P.underlying k = some .string) (key : List UInt8)
    (hm : a.eval m = .map (some g)) (hx : a.eval x = .string (str key)) (h : ∀ w', St w0 w' M (mp g (delD D key) :: F) → wpList P ops Q rest (a.put op.dst (.tuple #[])) w') : wpList P ops Q (op :: rest) a w := by
  obtain ⟨w', hr, H'⟩ := map_delete (P := P) (t := t) (k := k) (e := e) H ht hk op.type key
  refine wpList_go hgd (v := .tuple #[]) (w' := w') ?_ (h w' H')
  unfold execOp
  simp only [ho, resolve, invoke, builtin, Sem.run_bind, Sem.run_pure, Result.andThen_ok, List.map_toArray, List.map_cons, List.map_nil, hm, hx, hr]
end
/-- What turning a map leaves. -/
def RetTurn (w0 : World) (M : Mem) (L : List Ent) (g : Nat) (D : List Pa) (l : List Kv.Act) (e : Ending) (w' : World) : Prop :=
  ∃ D' M', e = .returned (.tuple #[]) ∧ M.le M' ∧ PaIn M' D' ∧ D'.map Pa.pr = Kv.mturn (D.map Pa.pr) l ∧ St w0 w' M' (mp g D' :: L)
section
variable {w0 w : World} {M : Mem} {L : List Ent}
set_option maxRecDepth 100000 in
set_option maxHeartbeats 4000000 in
theorem turn_any {g : Nat} {D : List Pa} (H : St w0 w M (mp g D :: L)) (hD : PaIn M D) {A : Option Addr} {c n : Nat} {l : List Ac} (hn : n = l.length) (hl : SrA w0 M L A (acs l)) (il : AcIn M l) (hn2 : n ≤ 1000000) (hsz : ∀ a ∈ l, a.p.l.length ≤ 1000000) :
    Calls Tryz.prog 68 #[.map (some g), .slice A n c] w (RetTurn w0 M L g D (l.map Ac.act)) := by
  have HN := Lib.hid hn
  have HI := Lib.hid (And.intro il hsz)
  clear hn il hsz
  go_enter Tryz.func68, Tryz.ntmps68
  go_wp2
  go_loopw [8] (fun i wr => ∃ (k : Nat) (D' : List Pa) (M' : Mem), k ≤ n ∧ i = .int .i64 k ∧ M.le M' ∧ PaIn M' D' ∧ D'.map Pa.pr = Kv.mturn (D.map Pa.pr) ((l.take k).map Ac.act) ∧ St w0 wr M' (mp g D' :: L)) (fun i _ => n - (intOf i).toNat)
  case atStart => exact ⟨0, D, M, by omega, rfl, Mem.le.refl _, hD, by simp [Kv.mturn], H⟩
  case round =>
    obtain ⟨k, D', M', hk, rfl, hM, hD', hDe, H1⟩ := hrel
    clear H
    have HM := Lib.hid (And.intro hM (And.intro hD' hDe))
    clear hM hD' hDe
    by_cases hlt : k < n
    · have hk1 : k < l.length := by have := HN.out; omega
      obtain ⟨b, o, rfl, hrg⟩ := RA.ac3 ((hl.le HM.out.1).now H1.d0) k hk1
      have hms := Kv.mturn_snoc (D := D.map Pa.pr) hk1
      rw [← HM.out.2.2] at hms
      have hp := (HI.out.1.le HM.out.1) _ (List.getElem_mem hk1)
      have hz := HI.out.2 _ (List.getElem_mem hk1)
      obtain ⟨p, hpe⟩ : ∃ p, p = l[k] := ⟨_, rfl⟩
      rw [← hpe] at hrg hms hp hz
      obtain ⟨key, set, ⟨PA, PN, PC, PL⟩⟩ := p
      unfold ac Pc.v at hrg
      simp only at hrg hp hz
      obtain ⟨⟨hPN, hPA, hPC⟩, hpr⟩ := hp
      simp only at hPN hPA hPC hpr
      have H5 := (H1.new [.string (str key), .bool set, .slice PA PN PC] 75).f1
      have HRG := Lib.hid hrg
      have HMS := Lib.hid hms
      have HP := Lib.hid (And.intro hPN (And.intro hPA (And.intro hPC (And.intro hpr hz))))
      have HLT := Lib.hid hlt
      have q1 : (k : Int) < (n : Int) := by omega
      have q1n : k < n := hlt
      obtain ⟨S, hSe⟩ : ∃ S, S = str key := ⟨_, rfl⟩
      rw [← hSe] at H5 HRG
      have HSE := Lib.hid hSe
      have r0 := H5.cell 1 rfl 0
      have r1 := H5.cell 1 rfl 1
      have r2 := H5.cell 1 rfl 2
      simp only [List.getElem?_cons_succ, List.getElem?_cons_zero] at r0 r1 r2
      clear hrg hms hPN hPA hPC hpr hpe hk1 hlt hSe hz H1
      cases set with
      | true =>
        go_wp2_with (refine wpList_load_mid (by rfl) 75 (.tmp 10) (by rfl) b (o + k * 3) (by rfl) [.string S, .bool _, .slice PA PN PC] _ HRG.out Tryz.underlying75 rfl (by exact Tryz.sizeAct) ?_)
        refine Pt.wp_plan (fun w' => w'.cell? ⟨wr.heap.size, 0, none⟩ = some (.string S) ∧ w'.cell? ⟨wr.heap.size, 2, none⟩ = some (.slice PA PN PC)) (Pt.prs [0, 1, 3] (Pt.rds [2, 4] (.go 5 (.go 6 .fin)))) [] Tryz.mixed (by kernel_rfl) (fun _ _ d _ _ h => by cases d <;> exact h) ⟨r0, r2⟩ ?_
        have H6 := H5.drew
        clear r0 r1 r2 H5
        simp only [Pt.toL, Pt.rds, Pt.prs, Pt.at_, List.drop_succ_cons, List.drop_zero]
        iterate 3 (refine Pt.pr_run (v := ?_) (by rfl) ?_ ?_; rotate_left; (focus (intro w'; go_simp; with_reducible rfl)); simp only [Act.put, List.setIfInBounds_toArray, List.set_cons_zero, List.set_cons_succ])
        iterate 2 (refine Pt.rd_run (v := ?_) (by rfl) ?_ ?_; rotate_left; (focus (intro w' hS; obtain ⟨s0, s1⟩ := hS; go_simp; with_reducible rfl)); simp only [Act.put, List.setIfInBounds_toArray, List.set_cons_zero, List.set_cons_succ])
        generalize hwx : (wr.alloc (.cells #[.string S, .bool true, .slice PA PN PC] 75)).drew = wx at *
        generalize hgx : wr.heap.size = gx at *
        clear hwx hgx
        have hcl := clone_any (c := PC) H6 (A := PA) (l := PL) HP.out.2.1 (by rw [← HP.out.1]; exact HP.out.2.2.1) (Sr.of_in HP.out.2.2.2.1) (by have := HP.out.2.2.2.2; omega)
        rw [← HP.out.1] at hcl
        have HCL := Lib.hid hcl
        clear hcl
        refine Pt.run_go ?_
        go_wp2_with fail
        refine HCL.out.mono ?_
        rintro e w1 ⟨v1, rfl, H7⟩
        obtain ⟨A7, c7, rfl, hc7, hA7⟩ := H7.shape' 0 rfl
        obtain ⟨M2, hM2, H8, hin2⟩ := H7.keepRow
        have HK := Lib.hid (And.intro hM2 (And.intro hin2 (And.intro hc7 hA7)))
        clear hM2 hin2 hc7 hA7 H7 H6 HCL
        go_wp2_with fail
        refine Pt.same ⟨H8.cell 1 rfl 0, H8.cell 1 rfl 2⟩ ?_
        refine Pt.run_go ?_
        rw [HSE.out] at H8 ⊢
        refine wpList_mapset_st H8 (by rfl) (.tmp 14) (.tmp 16) (.tmp 19) (by rfl) Tryz.underlying134 Tryz.underlying9 ⟨key, ⟨A7, PN, c7, PL⟩⟩ (by rfl) (by rfl) (by rfl) ?_
        intro w2 H9
        refine wpList_nil ?_
        simp only [Pl.Then, Act.put, List.setIfInBounds_toArray, List.set_cons_zero, List.set_cons_succ]
        refine Pt.same ⟨H9.cell 1 rfl 0, H9.cell 1 rfl 2⟩ ?_
        refine Pt.run_fin ?_
        clear H8
        go_wp2
        exact ⟨⟨k + 1, putD D' ⟨key, ⟨A7, PN, c7, PL⟩⟩, M2, by have := HLT.out; omega, by go_num, HM.out.1.trans HK.out.1, (HM.out.2.1.le HK.out.1).put ⟨HP.out.1, HK.out.2.2.2, HK.out.2.2.1⟩ HK.out.2.1, by rw [HMS.out, putD_pr]; rfl, H9.d1⟩, by have := HLT.out; simp [intOf]; omega⟩
      | false =>
        go_upto_region 5 with (refine wpList_load_mid (by rfl) 75 (.tmp 10) (by rfl) b (o + k * 3) (by rfl) [.string S, .bool _, .slice PA PN PC] _ HRG.out Tryz.underlying75 rfl (by exact Tryz.sizeAct) ?_)
        refine wp_region_lit ?_
        iterate 3 (refine wpList_ex (v := ?_) (by rfl) ?_ ?_; rotate_left; (focus (go_simp; with_reducible rfl)); simp only [Act.put, List.setIfInBounds_toArray, List.set_cons_zero, List.set_cons_succ])
        rw [HSE.out] at H5 ⊢
        refine wpList_mapdel_st H5 (by rfl) (.tmp 20) (.tmp 22) (by rfl) Tryz.underlying134 Tryz.underlying9 key (by rfl) (by rfl) ?_
        intro w2 H9
        simp only [Act.put, List.setIfInBounds_toArray, List.set_cons_zero, List.set_cons_succ]
        refine wpList_nil ?_
        clear r0 r1 r2 H5
        go_wp2
        exact ⟨⟨k + 1, delD D' key, M', by have := HLT.out; omega, by go_num, HM.out.1, HM.out.2.1.del key, by rw [HMS.out, delD_pr]; rfl, H9.d1⟩, by have := HLT.out; simp [intOf]; omega⟩
    · obtain rfl : k = n := by omega
      have htk : l.take k = l := by rw [HN.out, List.take_length]
      have hde := HM.out.2.2
      rw [htk] at hde
      have HDE := Lib.hid hde
      clear hde htk hlt
      go_wp2
      go_end0
      exact ⟨D', M', rfl, HM.out.1, HM.out.2.1, HDE.out, H1⟩
end
end Go.Proofs.YtepgmebklhemgaaGreatDoor
/- The law's small. -/
set_option linter.unusedVariables false
set_option linter.unusedSimpArgs false
namespace Go.Proofs.YtepgmebklhemgaaGreatDoor
open Go.RowKit Wd
def Kv.slim (l : List Ac) : Prop := ∀ a ∈ l, a.key.length ≤ 5000 ∧ a.p.l.length ≤ 70000
theorem Kv.slim_snoc {l : List Ac} {k : Nat} (hk : k < l.length) (h : Kv.slim (l.take k)) (h1 : l[k].key.length ≤ 5000) (h2 : l[k].p.l.length ≤ 70000) : Kv.slim (l.take (k + 1)) := by
  rw [List.take_succ_eq_append_getElem hk]
  intro a ha
  rcases List.mem_append.1 ha with ha | ha
  · exact h a ha
  · simp only [List.mem_singleton] at ha
    subst ha
    exact ⟨h1, h2⟩
def RetSmall (w0 : World) (M : Mem) (L : List Ent) (n : Nat) (l : List Ac) (e : Ending) (w' : World) : Prop :=
  ∃ b, e = .returned (.bool b) ∧ (b = true → n ≤ 300 ∧ Kv.slim l) ∧ St w0 w' M L
section
variable {w0 w : World} {M : Mem} {L : List Ent}
end
end Go.Proofs.YtepgmebklhemgaaGreatDoor
