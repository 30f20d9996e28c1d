/- A map ranged over; texts that begin so, texts compared. -/
import Derived.Test.YtepgmebklhemgaaGreatDoorA9
import Derived.Lib.Bytealg
import Derived.Laws.Externs
import Derived.Test.YtepgmebklhemgaaGreatDoorLa2
import Derived.Sort.OwnSorted
import Derived.Test.YtepgmebklhemgaaGreatDoorQ1
import Derived.Test.YtepgmebklhemgaaGreatDoorA8
import Derived.Deep.DeepCutAuto
set_option linter.unusedVariables false
set_option linter.unusedSimpArgs false
namespace Go.Proofs.YtepgmebklhemgaaGreatDoor
open Go.RowKit Wd Go.MapKept Go.ChangeMaps
/-- Block g is just this. -/
def ob (g : Nat) (o : Obj) : Ent := ⟨some g, fun x => x = some o⟩
/-- Entries that came out, each with its pair. -/
def Ys (es : Array MapEntry) (D : List Pa) (zs : List (MapEntry × Pa)) : Prop := (∀ z ∈ zs, z.1 ∈ es.toList ∧ z.2 ∈ D ∧ z.1.key = .string (str z.2.key) ∧ z.1.val = z.2.p.v) ∧ (zs.map fun z => z.1.born).Nodup
def borns (zs : List (MapEntry × Pa)) : Array Nat := (zs.map fun z => z.1.born).toArray
theorem same_born {l : List MapEntry} (h : (l.map (·.born)).Nodup) {x y : MapEntry} (hx : x ∈ l) (hy : y ∈ l) (he : x.born = y.born) : x = y := by
  induction l with
  | nil => cases hx
  | cons a l ih =>
    obtain ⟨h1, h2⟩ := List.nodup_cons.1 h
    rcases List.mem_cons.1 hx with hx1 | hx1 <;> rcases List.mem_cons.1 hy with hy1 | hy1
    · rw [hx1, hy1]
    · exact absurd (List.mem_map.2 ⟨y, hy1, by rw [← he, hx1]⟩) h1
    · exact absurd (List.mem_map.2 ⟨x, hx1, by rw [he, hy1]⟩) h1
    · exact ih h2 hx1 hy1
theorem same_key {l : List MapEntry} (h : (l.map (·.key)).Nodup) {x y : MapEntry} (hx : x ∈ l) (hy : y ∈ l) (he : x.key = y.key) : x = y := by
  induction l with
  | nil => cases hx
  | cons a l ih =>
    obtain ⟨h1, h2⟩ := List.nodup_cons.1 h
    rcases List.mem_cons.1 hx with hx1 | hx1 <;> rcases List.mem_cons.1 hy with hy1 | hy1
    · rw [hx1, hy1]
    · exact absurd (List.mem_map.2 ⟨y, hy1, by rw [← he, hx1]⟩) h1
    · exact absurd (List.mem_map.2 ⟨x, hx1, by rw [he, hy1]⟩) h1
    · exact ih h2 hx1 hy1
theorem same_pa {D : List Pa} (h : D.Pairwise fun x y => x.key ≠ y.key) {x y : Pa} (hx : x ∈ D) (hy : y ∈ D) (he : x.key = y.key) : x = y := by
  induction D with
  | nil => cases hx
  | cons a l ih =>
    obtain ⟨h1, h2⟩ := List.pairwise_cons.1 h
    rcases List.mem_cons.1 hx with hx1 | hx1 <;> rcases List.mem_cons.1 hy with hy1 | hy1
    · rw [hx1, hy1]
    · exact absurd (by rw [← hx1]; exact he) (h1 y hy1)
    · exact absurd (by rw [← hy1]; exact he.symm) (h1 x hx1)
    · exact ih h2 hx1 hy1
section
variable {es : Array MapEntry} {clock : Nat} {D : List Pa} {zs : List (MapEntry × Pa)}
theorem Ys.nil : Ys es D [] := ⟨fun z hz => (by cases hz), List.nodup_nil⟩
theorem left_mem {seen : Array Nat} {e : MapEntry} : e ∈ (leftOf es seen).toList ↔ e ∈ es.toList ∧ e.born ∉ seen.toList := by
  unfold leftOf
  simp
theorem Ys.more (h : Ys es D zs) (hi : MIs es clock D) {e : MapEntry} (he : e ∈ (leftOf es (borns zs)).toList) : ∃ a ∈ D, e.key = .string (str a.key) ∧ e.val = a.p.v ∧ Ys es D (zs ++ [(e, a)]) := by
  obtain ⟨h1, h2⟩ := left_mem.1 he
  obtain ⟨a, ha, hk, hv⟩ := hi.mem h1
  refine ⟨a, ha, hk, hv, fun z hz => ?_, ?_⟩
  · rcases List.mem_append.1 hz with hz | hz
    · exact h.1 z hz
    · simp only [List.mem_singleton] at hz
      subst hz
      exact ⟨h1, ha, hk, hv⟩
  · rw [List.map_append]
    refine List.nodup_append.2 ⟨h.2, by simp, ?_⟩
    intro x hx y hy
    simp only [List.map_cons, List.map_nil, List.mem_singleton] at hy
    subst hy
    intro he2
    exact h2 (by unfold borns; rw [← he2]; exact hx)
theorem borns_snoc (zs : List (MapEntry × Pa)) (z : MapEntry × Pa) : borns (zs ++ [z]) = (borns zs).push z.1.born := by
  unfold borns
  rw [List.map_append]
  simp
theorem Ys.size (h : Ys es D zs) (hi : MIs es clock D) : (borns zs).size ≤ es.size := by
  have h1 : (zs.map fun z => z.1.born) ⊆ es.toList.map (·.born) := fun x hx => by
    obtain ⟨z, hz, rfl⟩ := List.mem_map.1 hx
    exact List.mem_map.2 ⟨z.1, (h.1 z hz).1, rfl⟩
  have h2 := List.Nodup.length_le_of_subset h.2 h1
  unfold borns
  simpa using h2
theorem Ys.all (h : Ys es D zs) (hi : MIs es clock D) (hl : (leftOf es (borns zs)).size = 0) : (zs.map (·.2)).Perm D := by
  have hn : (zs.map (·.2)).Nodup := by
    have := h.2
    unfold List.Nodup at this ⊢
    rw [List.pairwise_map] at this ⊢
    refine List.Pairwise.imp_of_mem ?_ this
    intro x y hx hy hne he
    have h1 := h.1 x hx
    have h2 := h.1 y hy
    have hk : x.1.key = y.1.key := by rw [h1.2.2.1, h2.2.2.1, he]
    exact hne (congrArg MapEntry.born (same_key hi.1.2.2 h1.1 h2.1 hk))
  have hd : D.Nodup := hi.apart.imp fun hne he => hne (by rw [he])
  refine (List.perm_ext_iff_of_nodup hn hd).2 fun a => ⟨fun ha => ?_, fun ha => ?_⟩
  · obtain ⟨z, hz, rfl⟩ := List.mem_map.1 ha
    exact (h.1 z hz).2.1
  · obtain ⟨e, he, hk, _⟩ := hi.mem' ha
    have hb : e.born ∈ (borns zs).toList := by
      rcases Classical.em (e.born ∈ (borns zs).toList) with hb | hb
      · exact hb
      · have := left_mem.2 ⟨he, hb⟩
        have h0 : (leftOf es (borns zs)).toList = [] := List.eq_nil_of_length_eq_zero (by simpa using hl)
        rw [h0] at this
        cases this
    unfold borns at hb
    obtain ⟨z, hz, hzb⟩ := List.mem_map.1 hb
    have h1 := h.1 z hz
    have := same_born hi.1.2.1 h1.1 he hzb
    have hk2 : z.2.key = a.key := skey_inj (by rw [← h1.2.2.1, ← hk, this])
    exact List.mem_map.2 ⟨z, hz, same_pa hi.apart h1.2.1 ha hk2⟩
end
section
variable {P : Program} {ops : Array Oper} {rest : List Oper} {op : Oper} {a : Act} {w0 w : World} {M : Mem} {Q : Exit → Act → World → Prop} {F : List Ent} {mb r since clock c : Nat} {es : Array MapEntry} {seen : Array Nat}
theorem ob_heap {g : Nat} {o : Obj} (h : (ob g o).holds M w) : w.heap[g]? = some o := h.2.2
theorem Wd.St.setOb {g : Nat} {o o' : Obj} (h : St w0 w M (ob g o :: F)) : St w0 (setBlock w g o') M (ob g o' :: F) := by
  obtain ⟨h1, h2, h3⟩ := h.get 0 rfl
  refine h.turn ((keeps_setBlock h3).imp fun k _ hk => by subst hk; rfl) ⟨h1, ?_, (heap_set h3).1⟩ (fun _ h => .inl h)
  show g < (w.heap.setIfInBounds g _).size
  simpa using h2
theorem Wd.St.newOb (h : St w0 w M F) (o : Obj) : St w0 (w.alloc o) M (ob w.heap.size o :: F) :=
  h.add (a := ob w.heap.size o) ((Below.refl _ _).alloc (Nat.le_refl _) _) ⟨h.fresh (Nat.le_refl _), by show _ < (w.heap.push _).size; simp, Go.heap_alloc_new w _⟩ fun g' hg' => by have : some w.heap.size = some g' := hg'; injection this with this; omega
theorem seen_of (h : (ob r (.mapIter (some mb) since seen c)).holds M w) : w.iterSeen r = seen := by
  unfold World.iterSeen
  rw [ob_heap h]
theorem wpList_next_st (H : St w0 w M (ob r (.mapIter (some mb) clock seen c) :: mr mb es clock :: F)) (hs : Stamped es clock) (hc : clock ≤ c) (hgd : op.guard = none) (it : Operand) (ho : op.op = .next it false) (hit : a.eval it = .pointer (some ⟨r, 0, none⟩))
    (hDone : (leftOf es seen).size = 0 → wpList P ops Q rest (a.put op.dst (.tuple #[.bool false])) w)
    (hMore : ∀ e w', e ∈ (leftOf es seen).toList → St w0 w' M (ob r (.mapIter (some mb) clock (seen.push e.born) clock) :: mr mb es clock :: F) → (Instr.entry (.pointer (some ⟨r, 0, none⟩))).run P w' = .ok (.tuple #[e.key, e.val]) w' → wpList P ops Q rest (a.put op.dst (.tuple #[.bool true, e.key, e.val])) w') : wpList P ops Q (op :: rest) a w := by
  have hr := ob_heap (H.get 0 rfl)
  have hb := mr_heap (H.get 1 rfl)
  rcases run_next_at (P := P) w op.type r mb clock c seen es clock hr hb hs.1 hc with ⟨h0, hrun⟩ | ⟨e, he, w1, hw1, hrun⟩
  · refine wpList_go hgd (v := .tuple #[.bool false]) (w' := w) ?_ (hDone h0)
    unfold execOp
    simp only [ho, hit, Sem.run_bind, hrun, Result.andThen_ok, Sem.run_pure]
  · have H1 : St w0 w1 M (ob r (.mapIter (some mb) clock seen c) :: mr mb es clock :: F) := by
      rcases hw1 with rfl | rfl
      · exact H
      · exact H.drew
    have H2 := H1.setOb (o' := .mapIter (some mb) clock (seen.push e.born) clock)
    have hen := run_entry_at (P := P) _ r mb clock seen es clock e (ob_heap (H2.get 0 rfl)) (mr_heap (H2.get 1 rfl)) (left_mem.1 he).1 hs.2.1
    refine wpList_go hgd (v := .tuple #[.bool true, e.key, e.val]) ?_ (hMore e _ he H2 hen)
    unfold execOp
    simp only [ho, hit, Sem.run_bind, hrun, Result.andThen_ok, Sem.run_pure]
theorem range_st {t k e : TypeId} (H : St w0 w M (mr mb es clock :: F)) (ht : P.underlying t = some (.map k e)) :
    (Instr.range t (.map (some mb))).run P w = .ok (.pointer (some ⟨w.heap.size, 0, none⟩)) (w.alloc (.mapIter (some mb) clock #[] clock)) := run_range_map w t k e mb es clock ht (mr_heap (H.get 0 rfl))
end
/-! ### Texts -/
def Kv.begins (s p : List UInt8) : Bool := s.take p.length == p
theorem str_to {P : Program} {t : TypeId} {k : IntKind} (h : P.underlying t = some .string) (l : List UInt8) (b : Nat) (hb : b ≤ l.length) {i : Int} (hi : i = (b : Int)) (w : World) : (Instr.slice t (.string (str l)) none (some (.int k i)) none).run P w = .ok (.string (str (l.take b))) w := by
  subst hi
  rw [run_slice_string_h (ht := h) (h0 := by omega) (h2 := by rw [str_size]; omega)]
  congr 2
  apply ByteArray.ext
  rw [ByteArray.data_extract]
  simp
set_option maxRecDepth 100000 in
theorem hasPrefix_any (s p : List UInt8) (w : World) : Calls Tryz.prog 75 #[.string (str s), .string (str p)] w fun e w' => e = .returned (.bool (Kv.begins s p)) ∧ w = w' := by
  have hm : Calls Tryz.prog 104 #[.string (str s), .string (str p)] w fun e w' => e = .returned (.bool (Kv.begins s p)) ∧ w = w' := by
    obtain ⟨n, hn⟩ : ∃ n, n = p.length := ⟨_, rfl⟩
    obtain ⟨m, hm⟩ : ∃ m, m = s.length := ⟨_, rfl⟩
    have hp : (str p).size = n := by rw [str_size, hn]
    have hs : (str s).size = m := by rw [str_size, hm]
    obtain ⟨B, hB⟩ : ∃ B, B = Kv.begins s p := ⟨_, rfl⟩
    rw [← hB]
    unfold Kv.begins at hB
    by_cases hle : n ≤ m
    · have q1 : (n : Int) ≤ (m : Int) := by omega
      have hsl := fun w => str_to (P := Tryz.prog) (t := 9) (k := .i64) Tryz.underlying9 s n (by omega) (i := (n : Int)) rfl w
      obtain ⟨Y, hY⟩ : ∃ Y, Y = s.take n := ⟨_, rfl⟩
      rw [← hn, ← hY] at hB
      simp only [← hY] at hsl
      have hB2 := hB.symm
      clear hB hY hn hm
      go_enter Tryz.func104, Tryz.ntmps104
      go_wp2
      go_ret
      exact ⟨rfl, rfl⟩
    · have q1 : ¬ (n : Int) ≤ (m : Int) := by omega
      have hf : B = false := by
        rw [hB, beq_eq_false_iff_ne]
        intro h
        have := congrArg List.length h
        rw [List.length_take] at this
        omega
      subst hf
      clear hB hn hm
      go_enter Tryz.func104, Tryz.ntmps104
      go_wp2
      go_ret
      exact ⟨rfl, rfl⟩
  have HM := Lib.hid hm
  obtain ⟨B, hB⟩ : ∃ B, B = Kv.begins s p := ⟨_, rfl⟩
  rw [← hB] at HM ⊢
  clear hm hB
  go_enter Tryz.func75, Tryz.ntmps75
  go_wp2_with fail
  refine HM.out.mono ?_
  rintro e w1 ⟨rfl, rfl⟩
  go_wp2
  go_ret
  exact ⟨rfl, rfl⟩
set_option maxRecDepth 100000 in
theorem bscmp20_any (s t : ByteArray) (w : World) : Calls Tryz.prog 107 #[.string s, .string t] w fun e w' => e = .returned (.int .i64 (Lib.compareBytes s.data.toList t.data.toList)) ∧ w = w' := by
  go_enter Tryz.func107, Tryz.ntmps107
  go_wp2
  rw [run_callFunc_extern Tryz.func135 (by kernel_rfl) (by kernel_rfl) (by kernel_rfl) (e := Extern.BytealgCompare.compare) (by kernel_rfl), Lib.run_compareString]
  simp only [Result.andThen]
  rw [Oper.upon_value]
  go_wp2
  go_ret
  exact ⟨rfl, rfl⟩
set_option maxRecDepth 100000 in
theorem scmp20_any (x y : List UInt8) (w : World) : Calls Tryz.prog 78 #[.string (str x), .string (str y)] w fun e w' => e = .returned (.int .i64 (Lib.compareBytes x y)) ∧ w = w' := by
  have hb := fun w => bscmp20_any (str x) (str y) w
  rw [show (str x).data.toList = x from rfl, show (str y).data.toList = y from rfl] at hb
  have HB := Lib.hid hb
  clear hb
  go_enter Tryz.func78, Tryz.ntmps78
  go_wp2_with fail
  refine (HB.out w).mono ?_
  rintro e w1 ⟨rfl, rfl⟩
  go_wp2
  go_ret
  exact ⟨rfl, rfl⟩
theorem Kv.scmp (x y : List UInt8) : Lib.compareBytes x y = if Kv.tlt x y then -1 else if Kv.tlt y x then 1 else 0 := by
  induction x generalizing y with
  | nil => cases y <;> rfl
  | cons a x ih =>
    cases y with
    | nil => rfl
    | cons b y =>
      simp only [Lib.compareBytes, Kv.tlt, ih]
      rcases Nat.lt_trichotomy a.toNat b.toNat with h | h | h
      · have h1 : a < b := UInt8.lt_iff_toNat_lt.2 h
        simp [h1, h]
      · have hab : a = b := UInt8.toNat_inj.1 h
        subst hab
        have h1 : ¬ a < a := fun h2 => by have := UInt8.lt_iff_toNat_lt.1 h2; omega
        simp [h1]
      · have h1 : ¬ a < b := fun h2 => by have := UInt8.lt_iff_toNat_lt.1 h2; omega
        have h2 : b < a := UInt8.lt_iff_toNat_lt.2 h
        have h3 : ¬ a.toNat < b.toNat := by omega
        simp [h1, h2, h, h3]
end Go.Proofs.YtepgmebklhemgaaGreatDoor
/- slices.SortFunc at pairs, by the shelf's contract. -/
set_option linter.unusedVariables false
set_option linter.unusedSimpArgs false
namespace Go.Proofs.YtepgmebklhemgaaGreatDoor
open Go.RowKit Wd Go.Sort
instance : Inhabited Pa := ⟨⟨[], ⟨none, 0, 0, []⟩⟩⟩
theorem pas_get (l : List Pa) (t : Nat) (h : t < l.length * 2) : (pas l)[t]? = (pa (l[t / 2]'(by omega)))[t % 2]? := by
  have h1 : t / 2 < l.length := by omega
  rw [← pas_at l (t / 2) h1, List.getElem?_take, if_pos (Nat.mod_lt _ (by decide)), List.getElem?_drop, show t / 2 * 2 + t % 2 = t from by omega]
theorem flat_pas (l : List Pa) : flatK pa 2 l.toArray = (pas l).toArray := by
  refine ext_get! (by simp [pas_length]) fun t ht => ?_
  have ht2 : t < l.length * 2 := by simpa using ht
  rw [get_flatK _ _ _ _ (by simpa using ht2)]
  have h1 : t / 2 < l.length := by omega
  have h2 := pas_get l t ht2
  rw [getElem!_pos l.toArray (t / 2) (by simpa using h1)]
  have h3 : t < (pas l).length := by rw [pas_length]; exact ht2
  rw [getElem!_pos (pas l).toArray t (by simpa using h3)]
  simp only [List.getElem_toArray]
  rw [List.getElem?_eq_getElem h3] at h2
  have h4 : t % 2 < (pa l[t / 2]).length := by simp [pa]; omega
  rw [List.getElem?_eq_getElem h4] at h2
  injection h2 with h2
  rw [h2]
  exact getElem!_pos (pa l[t / 2]) (t % 2) h4
theorem holds_blk {w : World} {g : Nat} {cur : Array Value} {e : TypeId} {xs : List Value} (hb : w.heap[g]? = some (.cells cur e (0, 0))) (ht : cur.toList.take xs.length = xs) : Holds id w g 0 xs.toArray := by
  intro j hj
  have hj' : j < xs.length := by simpa using hj
  refine ⟨?_, by simp [World.frozen?, hb]⟩
  have h1 : (cur.toList.take xs.length)[j]? = xs[j]? := by rw [ht]
  rw [List.getElem?_take_of_lt hj'] at h1
  simp only [World.cell?, hb, Nat.zero_add]
  simp only [Option.isSome_none, Bool.false_eq_true, if_false]
  rw [← Array.getElem?_toList, h1]
  simp [hj']
theorem heap_sorted' {w : World} {g n : Nat} {os : Array Obj} {cur : Array Value} {e : TypeId} {fr : Nat × Nat} (d : Array Value) (hb : w.heap[g]? = some (.cells cur e fr)) :
    (grow (putRow id (Sort.ahead w n) g 0 d) os).heap[g]? = some (.cells (putCells id 0 d cur) e fr) := by
  have hg : g < w.heap.size := (Array.getElem?_eq_some_iff.1 hb).1
  rw [heap_grow_old _ _ (by simpa using hg)]
  simp [putRow, mapBlock, Sort.ahead, Array.getElem?_modify, hb, onCells]
theorem grownBy_sorted' {w : World} {g n : Nat} {os : Array Obj} (d : Array Value) : w.grownBy (grow (putRow id (Sort.ahead w n) g 0 d) os) (some g) := by
  refine ⟨rfl, rfl, rfl, by simp, fun k hk hne => ?_⟩
  rw [heap_grow_old _ _ (by simpa using hk)]
  have : g ≠ k := fun e => hne (by rw [e])
  simp [putRow, mapBlock, Sort.ahead, Array.getElem?_modify, this]
theorem take_putCells' (cur : Array Value) (ts : List Value) (h : ts.length ≤ cur.size) : (putCells id 0 ts.toArray cur).toList.take ts.length = ts := by
  apply List.ext_getElem?
  intro j
  by_cases hj : j < ts.length
  · rw [List.getElem?_take_of_lt hj, Array.getElem?_toList]
    simp [putCells, hj, show j < cur.size by omega]
  · rw [List.getElem?_take_eq_none (by omega), List.getElem?_eq_none (by omega)]
def pv_ (a : Pa) : Value := .agg #[.string (str a.key), .slice a.p.A a.p.n a.p.c]
def cmpP (x y : Pa) : Int := Lib.compareBytes x.key y.key
def Kv.plt (x y : Pa) : Prop := Kv.tlt x.key y.key = true
theorem cmpP_neg (x y : Pa) : cmpP x y < 0 ↔ Kv.plt x y := by
  unfold cmpP Kv.plt
  rw [Kv.scmp]
  cases h : Kv.tlt x.key y.key with
  | true => simp
  | false =>
    cases h2 : Kv.tlt y.key x.key with
    | true => simp
    | false => simp
instance (x y : Pa) : Decidable (Kv.plt x y) := by unfold Kv.plt; infer_instance
theorem ltOf_cmpP (x y : Pa) : ltOf cmpP x y = decide (Kv.plt x y) := by
  unfold ltOf
  rw [decide_eq_decide]
  exact cmpP_neg x y
theorem swo_pa : SWO (ltOf cmpP) where
  irrefl x := by rw [ltOf_cmpP, decide_eq_false_iff_not]; unfold Kv.plt; rw [Kv.tlt_irrefl]; simp
  trans x y z h1 h2 := by rw [ltOf_cmpP, decide_eq_true_eq] at *; exact Kv.tlt_trans h1 h2
  ntrans x y z h1 h2 := by
    rw [ltOf_cmpP, decide_eq_false_iff_not] at *
    unfold Kv.plt at *
    intro h3
    rcases Kv.tlt_tri x.key y.key with h | h | h
    · exact h1 h
    · rw [h] at h3; exact h2 h3
    · rcases Kv.tlt_tri y.key z.key with h4 | h4 | h4
      · exact h2 h4
      · rw [← h4, Kv.tlt_asymm h] at h3; cases h3
      · have := Kv.tlt_trans h4 h; rw [Kv.tlt_asymm this] at h3; cases h3
set_option maxRecDepth 100000 in
theorem scan1_any (p q : Pa) (w : World) :
    Calls Tryz.prog 77 #[pv_ p, pv_ q] w fun e w' => e = .returned (.int .i64 (cmpP p q)) ∧ ∃ n os, w' = grow (w.drewN n) os := by
  obtain ⟨k, ⟨A, n, c, l⟩⟩ := p
  obtain ⟨k2, ⟨A2, n2, c2, l2⟩⟩ := q
  have hc := fun w => scmp20_any k k2 w
  have H1 := (St.start w).new [.string (str k), .slice A n c] 115
  have H2 := H1.newg [.string (str k2), .slice A2 n2 c2] 115 (g := w.heap.size + 1) (by simp)
  have r0 := H2.cell 1 rfl 0
  have r1 := H2.cell 0 rfl 0
  obtain ⟨R, hR⟩ : ∃ R, R = cmpP ⟨k, ⟨A, n, c, l⟩⟩ ⟨k2, ⟨A2, n2, c2, l2⟩⟩ := ⟨_, rfl⟩
  rw [← hR]
  have hR2 : R = Lib.compareBytes k k2 := hR
  simp only [← hR2] at hc
  have HC := Lib.hid hc
  clear hc hR hR2 H1 H2
  unfold pv_
  simp only
  simp only [List.getElem?_cons_zero] at r0 r1
  go_enter Tryz.func77, Tryz.ntmps77
  go_wp2_with fail
  refine (HC.out _).mono ?_
  rintro e w1 ⟨rfl, rfl⟩
  go_wp2
  go_ret
  refine ⟨rfl, 0, #[.cells #[.string (str k), .slice A n c] 115, .cells #[.string (str k2), .slice A2 n2 c2] 115], ?_⟩
  simp only [alloc_eq_grow, grow_grow]
  rfl
section
variable {w0 w : World} {M : Mem} {L : List Ent}
def RetSort (w0 : World) (M : Mem) (L : List Ent) (v : Value) (n : Nat) (l : List Pa) (e : Ending) (w' : World) : Prop :=
  e = .returned (.tuple #[]) ∧ ∃ l', l'.Perm l ∧ l'.Pairwise (fun p q => ¬ Kv.plt q p) ∧ St w0 w' M (er 115 2 v n (pas l') :: L)
theorem sort_any {g c n : Nat} {l : List Pa} (H : St w0 w M (er 115 2 (.slice (some ⟨g, 0, none⟩) n c) n (pas l) :: L)) (hn : n = l.length) (hn2 : n ≤ 1000000) :
    Calls Tryz.prog 76 #[.slice (some ⟨g, 0, none⟩) n c, .func (.func 77) #[] #[]] w (RetSort w0 M L (.slice (some ⟨g, 0, none⟩) n c) n l) := by
  have hr := er_bind (H.get 0 rfl)
  have hown := H.own 0 rfl
  obtain ⟨_, h2⟩ := hr
  rcases h2 with ⟨h2, _⟩ | ⟨g', cap', cur, he, ho, hnc, hm, hs, ht⟩
  · cases h2
  · injection he with he _ hc
    injection he with he
    injection he with he
    subst he hc
    have hb : w.heap[g]? = some (.cells cur 115 (0, 0)) := ho
    have hlt : g < w.heap.size := (Array.getElem?_eq_some_iff.1 hb).1
    have hxl : (pas l).length = n * 2 := by rw [pas_length, hn]
    have hH : HoldsK pa 2 w g 0 l.toArray := by
      unfold HoldsK
      rw [flat_pas]
      exact holds_blk hb (by rw [hxl]; exact ht)
    have hk := AnyQ.slices_SortFunc Tryz.sortPair 2 Tryz.isAgg115 Tryz.sizeOf115 pa (fun _ => rfl) (fun x v hv => by simp [pa] at hv; rcases hv with rfl | rfl | rfl <;> rfl) cmpP swo_pa 77 #[] g 0 c l.toArray w
      (enters_of Tryz.func77 (by kernel_rfl) rfl) (fun _ _ _ _ x y => scan1_any x y _) hH hlt (by simp; omega)
    rw [show l.toArray.size = n from by simp [hn]] at hk
    refine hk.mono ?_
    rintro e w' ⟨rfl, d', q, os, hp, hsrt, rfl⟩
    obtain ⟨p1, p2, p3⟩ := hp
    have hdl : d'.toList.length = n := by simp [p1, hn]
    have hperm : d'.toList.Perm l := by
      rw [show d'.extract 0 n = d' from by rw [show n = d'.size from by rw [← hdl]; simp]; simp, show l.toArray.extract 0 n = l.toArray from by rw [hn]; simp] at p3
      simpa using p3
    have hpw : d'.toList.Pairwise fun p q => ¬ Kv.plt q p := by
      rw [List.pairwise_iff_getElem]
      intro i j hi hj hij
      have h := hsrt i j (Nat.zero_le _) hij (by omega)
      rw [ltOf_cmpP, decide_eq_false_iff_not, getElem!_pos d' i (by simpa using hi), getElem!_pos d' j (by simpa using hj)] at h
      simpa using h
    refine ⟨rfl, d'.toList, hperm, hpw, ?_⟩
    have hw : sortWorldK pa 2 w g 0 q d' os = grow (putRow id (Sort.ahead w q) g 0 (pas d'.toList).toArray) os := by
      unfold sortWorldK putRowK
      rw [show flatK pa 2 d' = (pas d'.toList).toArray from by rw [← flat_pas]]
    rw [hw]
    have hdc : (pas d'.toList).length = n * 2 := by rw [pas_length, hdl]
    refine H.turnRow (grownBy_sorted' _) (.inl rfl) ⟨hdc, .inr ⟨g, c, _, rfl, ?_, heap_sorted' _ hb, hnc, hm, by simp [putCells, hs], ?_⟩⟩
    · rcases hown.2 with ⟨h3, _⟩ | ⟨g', cap', cur', he, hle, _⟩
      · cases h3
      · injection he with he
        injection he with he
        injection he with he
        omega
    · rw [← hdc]
      exact take_putCells' cur _ (by rw [hdc, hs]; exact Nat.mul_le_mul_right _ hnc)
theorem bitsLen_any (n : Nat) (h : n ≤ 1000000) (w : World) : Calls Tryz.prog 106 #[.int .u64 (n : Int)] w fun e w' => (∃ l : Int, e = .returned (.int .i64 l)) ∧ w = w' :=
  (Any.bits_Len Tryz.bitsLen n w (by omega) (by omega)).mono fun _ _ ⟨he, hw⟩ => ⟨⟨_, he⟩, hw.symm⟩
theorem ins_nil (v : Value) (w : World) : Calls Tryz.prog 126 #[.slice none 0 0, .int .i64 0, .int .i64 0, v] w fun e w' => e = .returned (.tuple #[]) ∧ w = w' := by
  go_enter Tryz.func126, Tryz.ntmps126
  go_wp2
  go_loopw [8] (fun i wr => i = .int .i64 1 ∧ wr = w) (fun _ _ => 0)
  case atStart => exact ⟨rfl, rfl⟩
  case round =>
    obtain ⟨rfl, rfl⟩ := hrel
    go_wp2
    go_end0
    exact ⟨rfl, rfl⟩
theorem pdq_nil (v : Value) (k : Int) (w : World) : Calls Tryz.prog 105 #[.slice none 0 0, .int .i64 0, .int .i64 0, .int .i64 k, v] w fun e w' => e = .returned (.tuple #[]) ∧ w = w' := by
  go_enter Tryz.func105, Tryz.ntmps105
  go_wp2
  go_loopw [1, 2] (fun i j wr => i = .int .i64 0 ∧ j = .int .i64 0 ∧ wr = w) (fun _ _ _ => 0)
  case atStart => exact ⟨rfl, rfl, rfl⟩
  case round =>
    obtain ⟨rfl, rfl, rfl⟩ := hrel
    go_wp2_with fail
    refine (ins_nil v _).mono ?_
    rintro e w1 ⟨rfl, rfl⟩
    go_wp2
    refine bodyPost_ret (results_none rfl _ _ _) rfl ?_
    exact ⟨rfl, rfl⟩
theorem sort_nil (v : Value) (w : World) : Calls Tryz.prog 76 #[.slice none 0 0, v] w fun e w' => e = .returned (.tuple #[]) ∧ w = w' := by
  go_enter Tryz.func76, Tryz.ntmps76
  go_wp2_with fail
  refine (bitsLen_any 0 (by omega) w).mono ?_
  rintro e w1 ⟨⟨l, rfl⟩, rfl⟩
  go_wp2_with fail
  refine (pdq_nil v l w).mono ?_
  rintro e w1 ⟨rfl, rfl⟩
  go_wp2
  go_end0
  exact ⟨rfl, rfl⟩
/-- Whatever owned slice of dues. -/
theorem sort_row {v : Value} {n : Nat} {l : List Pa} (H : St w0 w M (er 115 2 v n (pas l) :: L)) (hn : n = l.length) (hn2 : n ≤ 1000000) :
    Calls Tryz.prog 76 #[v, .func (.func 77) #[] #[]] w (RetSort w0 M L v n l) := by
  obtain ⟨_, h2⟩ := er_bind (H.get 0 rfl)
  rcases h2 with ⟨rfl, rfl⟩ | ⟨g', cap', cur, rfl, _⟩
  · obtain rfl : l = [] := List.eq_nil_of_length_eq_zero hn.symm
    refine (sort_nil _ w).mono ?_
    rintro e w1 ⟨rfl, rfl⟩
    exact ⟨rfl, [], List.Perm.refl _, List.Pairwise.nil, H⟩
  · exact sort_any H hn hn2
end
end Go.Proofs.YtepgmebklhemgaaGreatDoor
/- kv.Store.Scan. -/
set_option linter.unusedVariables false
set_option linter.unusedSimpArgs false
namespace Go.Proofs.YtepgmebklhemgaaGreatDoor
open Go.RowKit Wd Go.MapKept Go.ChangeMaps
def Kv.scan (D : List Kv.Pr) (p : List UInt8) : List Kv.Pr := D.filter fun a => Kv.begins a.1 p
/-- What Scan gives: copies of its own, by their keys. -/
def RetSScan (w0 : World) (M : Mem) (s g f mb : Nat) (F : FM) (gen : Nat) (ls : List (List UInt8)) (en : Nat) (D : List Pa) (L : List Ent) (p : List UInt8) (e : Ending) (w' : World) : Prop :=
  ∃ v ps M', e = .returned v ∧ M.le M' ∧ PaIn M' ps ∧ (ps.map Pa.pr).Perm (Kv.scan (D.map Pa.pr) p) ∧ ps.Pairwise (fun p q => ¬ Kv.plt q p) ∧ KS w0 w' M' s g f mb F gen ls en D (er 115 2 v ps.length (pas ps) :: L)
theorem Kv.scan_snoc {l : List Kv.Pr} {a : Kv.Pr} {p : List UInt8} : Kv.scan (l ++ [a]) p = if Kv.begins a.1 p then Kv.scan l p ++ [a] else Kv.scan l p := by
  unfold Kv.scan
  rw [List.filter_append]
  cases h : Kv.begins a.1 p <;> simp [h]
section
variable {w0 w : World} {M : Mem} {L : List Ent} {s g f mb gen en : Nat} {F : FM} {ls : List (List UInt8)} {D : List Pa}
set_option maxRecDepth 100000 in
set_option maxHeartbeats 4000000 in
theorem sscan_any (H : KS w0 w M s g f mb F gen ls en D L) (p : List UInt8) (hsz : ∀ a ∈ D, a.p.l.length ≤ 1000000) (hDl : D.length ≤ 1000000) :
    Calls Tryz.prog 49 #[.pointer (some ⟨s, 0, none⟩), .string (str p)] w (RetSScan w0 M s g f mb F gen ls en D L p) := by
  have c1 := H.c1
  have HI := Lib.hid (sis_any H)
  have HD := Lib.hid H.1
  obtain ⟨Hd, h, hb⟩ := H.open_
  obtain ⟨es, clock, hi, H1⟩ := h.openMap
  have hrg := range_st (P := Tryz.prog) (t := 134) H1 Tryz.underlying134
  have H2 := (H1.newOb (.mapIter (some mb) clock #[] clock)).addNil 115 2
  have hesl := hi.len
  have HB := Lib.hid hb
  have HMI := Lib.hid hi
  have HS := Lib.hid (And.intro hsz (And.intro hDl hesl))
  clear hb hi hsz hDl H h H1 hesl
  go_enter Tryz.func49, Tryz.ntmps49
  go_wp2_with fail
  refine HI.out.mono ?_
  rintro e w' ⟨rfl, rfl⟩
  clear HI
  go_wp2_with fail
  clear c1 hrg
  generalize hr : w.heap.size = r at *
  go_loopw [5] (fun i wr => ∃ (zs : List (MapEntry × Pa)) (ps : List Pa) (M' : Mem) (c : Nat), M.le M' ∧ Ys es D zs ∧ PaIn M' ps ∧ ps.map Pa.pr = Kv.scan ((zs.map (·.2)).map Pa.pr) p ∧ clock ≤ c ∧ ps.length ≤ zs.length ∧ St w0 wr M' (er 115 2 i ps.length (pas ps) :: ob r (.mapIter (some mb) clock (borns zs) c) :: mr mb es clock :: eb s 138 (scells g mb) :: (Hd ++ L))) (fun _ wr => es.size - (wr.iterSeen r).size)
  case atStart => exact ⟨[], [], M, clock, Mem.le.refl _, Ys.nil, PaIn.nil _, rfl, Nat.le_refl _, Nat.le_refl _, H2⟩
  case round =>
    obtain ⟨zs, ps, M', c, hM, hys, hps, hpe, hc, hpz, H3⟩ := hrel
    clear H2
    have hsn := seen_of (H3.get 1 rfl)
    obtain ⟨Ap, cp, rfl, hcp, hAp⟩ := H3.shape' 0 rfl
    have H4 := H3.f2.f2
    have HM := Lib.hid (And.intro hM (And.intro hys (And.intro hps (And.intro hpe (And.intro hc hpz)))))
    clear hM hys hps hpe hc hpz hcp hAp
    go_upto_region 5 with fail
    refine wp_region_lit ?_
    refine wpList_next_st H4 HMI.out.1 HM.out.2.2.2.2.1 (by rfl) (.tmp 15) (by rfl) (by rfl) ?_ ?_
    · intro h0
      simp only [Act.put, List.setIfInBounds_toArray, List.set_cons_zero, List.set_cons_succ]
      (refine wpList_ex (v := ?_) (by rfl) ?_ ?_; rotate_left; (focus (go_simp; with_reducible rfl)); simp only [Act.put, List.setIfInBounds_toArray, List.set_cons_zero, List.set_cons_succ])
      refine wpList_nil ?_
      have hall := HM.out.2.1.all HMI.out h0
      have HALL := Lib.hid hall
      have hle : ps.length ≤ 1000000 := by
        have h1 := hall.length_eq
        rw [List.length_map] at h1
        have := HM.out.2.2.2.2.2
        have := HS.out.2.1
        omega
      have hst := sort_row H4.f2 rfl hle
      have HST := Lib.hid hst
      clear hst hall hle
      go_wp2_with fail
      refine HST.out.mono ?_
      rintro e w1 ⟨rfl, l', hl1, hl2, H5⟩
      have hlen := hl1.length_eq
      have H6 := (H5.f1.d0.f1.shutMap HMI.out).f1
      have HH := Lib.hid (And.intro hl1 (And.intro hl2 hlen))
      clear hl1 hl2 hlen H5
      go_wp2
      go_ret
      refine ⟨_, l', M', rfl, HM.out.1, fun a ha => HM.out.2.2.1 a (HH.out.1.mem_iff.1 ha), (HH.out.1.map _).trans ?_, HH.out.2.1, ?_⟩
      · rw [HM.out.2.2.2.1]
        exact (HALL.out.map _).filter _
      · rw [HH.out.2.2]
        exact KS.top HB.out HM.out.1 (HD.out.le HM.out.1) H6
    · intro e w1 he H5 hen
      have hsz5 := (HM.out.2.1.more HMI.out he)
      obtain ⟨a, ha, hk, hv, hys⟩ := hsz5
      rw [hk, hv] at hen ⊢
      have hb2 := borns_snoc zs (e, a)
      simp only at hb2
      have hb3 : (borns (zs ++ [(e, a)])).size = (borns zs).size + 1 := by rw [hb2, Array.size_push]
      rw [← hb2] at H5
      have hszB := hys.size HMI.out
      have hsn2 := seen_of (H5.get 0 rfl)
      have hpp := HD.out a ha
      have hpl := HS.out.1 a ha
      have hss := Kv.scan_snoc (l := (zs.map (·.2)).map Pa.pr) (a := a.pr) (p := p)
      rw [← HM.out.2.2.2.1] at hss
      have hzz : ((zs ++ [(e, a)]).map (·.2)).map Pa.pr = (zs.map (·.2)).map Pa.pr ++ [a.pr] := by simp
      rw [← hzz] at hss
      clear hzz hb2 hk hv he
      have HYS := Lib.hid (And.intro hys (And.intro hszB (And.intro hsn2 hb3)))
      clear hys hszB hsn2 hb3
      obtain ⟨key, ⟨PA, PN, PC, PL⟩⟩ := a
      rw [show (Pa.pr ⟨key, ⟨PA, PN, PC, PL⟩⟩) = (key, PL) from rfl] at hss
      unfold Pc.v at hen ⊢
      simp only at hss hpp hpl hen ha ⊢
      have hp := hasPrefix_any key p
      obtain ⟨B, hB⟩ : ∃ B, B = Kv.begins key p := ⟨_, rfl⟩
      rw [← hB] at hp hss
      have HP := Lib.hid hp
      have HSS := Lib.hid hss
      clear hB hp hss
      simp only [Act.put, List.setIfInBounds_toArray, List.set_cons_zero, List.set_cons_succ]
      (refine wpList_ex (v := ?_) (by rfl) ?_ ?_; rotate_left; (focus (go_simp; with_reducible rfl)); simp only [Act.put, List.setIfInBounds_toArray, List.set_cons_zero, List.set_cons_succ])
      refine wpList_nil ?_
      go_wp2_with fail
      refine (HP.out _).mono ?_
      rintro e2 w' ⟨rfl, rfl⟩
      cases B with
      | false =>
        go_wp2
        refine ⟨⟨_, ps, M', clock, HM.out.1, HYS.out.1, HM.out.2.2.1, ?_, Nat.le_refl _, ?_, H5.f2⟩, ?_⟩
        · rw [HSS.out, if_neg (by simp)]
        · have := HM.out.2.2.2.2.2
          rw [List.length_append]
          omega
        · rw [hsn, HYS.out.2.2.1]
          have := HYS.out.2.1
          have := HYS.out.2.2.2
          omega
      | true =>
        obtain ⟨⟨hPN, hPA, hPC⟩, hpr⟩ := hpp
        simp only at hPN hPA hPC hpr
        have hcl := clone_any (c := PC) H5 (A := PA) (l := PL) hPA (by rw [← hPN]; exact hPC) (Sr.of_in (hpr.le HM.out.1)) (by omega)
        rw [← hPN] at hcl
        have HCL := Lib.hid hcl
        have hpsl : ps.length ≤ 1000000 := by
          have h1 := HYS.out.2.1
          have h2 : (borns zs).size = zs.length := by unfold borns; simp
          have := HYS.out.2.2.2
          have := HM.out.2.2.2.2.2
          have := HS.out.2.1
          have := HS.out.2.2
          omega
        have HPN := Lib.hid hPN
        clear hcl hPN hPA hPC hpr hpl H5 H4 H3 HP
        go_wp2_with fail
        refine HCL.out.mono ?_
        rintro e3 w2 ⟨v2, rfl, H6⟩
        obtain ⟨A7, c7, rfl, hc7, hA7⟩ := H6.shape' 0 rfl
        obtain ⟨M2, hM2, H7, hin2⟩ := H6.keepRow
        have H8 := (H7.alloc (.cells #[.string (str key), .slice A7 PN c7] 115)).f2
        have hra : RA (w2.alloc (.cells #[.string (str key), .slice A7 PN c7] 115)) (some ⟨w2.heap.size, 0, none⟩) (pa ⟨key, ⟨A7, PN, c7, PL⟩⟩) := fun _ => ⟨_, 0, rfl, (Blk.new w2 115 [.string (str key), .slice A7 PN c7]).lt, (Blk.new w2 115 [.string (str key), .slice A7 PN c7]).range 0 2 _ rfl⟩
        have HRA := Lib.hid hra
        have HIN := Lib.hid (And.intro hM2 (And.intro hin2 (And.intro hc7 hA7)))
        clear hra hM2 hin2 hc7 hA7 H6 H7 HCL
        go_wp2_with (at_builtin; refine wpList_append_any_st H8 (by rfl) (.tmp 24) (.tmp 29) 35 (by rfl) Tryz.infoPair (by rfl) (by decide) Tryz.underlying35 (by rfl) (some ⟨w2.heap.size, 0, none⟩) 1 1 (pa ⟨key, ⟨A7, PN, c7, PL⟩⟩) (by rfl) rfl (by rintro ⟨⟩) HRA.out (pa_one _) (by omega) (by omega) ?_)
        intro v9 w9 H9
        have he : pas ps ++ pa ⟨key, ⟨A7, PN, c7, PL⟩⟩ = pas (ps ++ [⟨key, ⟨A7, PN, c7, PL⟩⟩]) := by simp [pas]
        have hl9 : ps.length + 1 = (ps ++ [(⟨key, ⟨A7, PN, c7, PL⟩⟩ : Pa)]).length := by simp
        rw [he, hl9] at H9
        have hsn9 := seen_of (H9.get 1 rfl)
        go_wp2
        refine ⟨⟨_, ps ++ [⟨key, ⟨A7, PN, c7, PL⟩⟩], M2, clock, HM.out.1.trans HIN.out.1, HYS.out.1, (HM.out.2.2.1.le HIN.out.1).snoc ⟨HPN.out, HIN.out.2.2.2, HIN.out.2.2.1⟩ HIN.out.2.1, ?_, Nat.le_refl _, ?_, H9⟩, ?_⟩
        · rw [HSS.out, if_pos trivial, List.map_append]
          rfl
        · have := HM.out.2.2.2.2.2
          rw [List.length_append, List.length_append]
          simp
          omega
        · rw [hsn, hsn9]
          have := HYS.out.2.1
          have := HYS.out.2.2.2
          omega
end
end Go.Proofs.YtepgmebklhemgaaGreatDoor
