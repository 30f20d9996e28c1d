/- Arguments: names, what is written, and slices of these. -/
import Derived.Test.YtepgmebklhemgaaGreatDoorJ5
import Derived.Test.YtepgmebklhemgaaGreatDoorJ2
import Derived.Test.YtepgmebklhemgaaGreatDoorAr
import Derived.Test.YtepgmebklhemgaaGreatDoorLw
import Derived.Test.YtepgmebklhemgaaGreatDoorRows
import Derived.Deep.DeepHandedRow
import Derived.Shelf.Vars
import Derived.OpenShut
import Derived.Lay
set_option linter.unusedVariables false
set_option linter.unusedSimpArgs false
set_option maxRecDepth 100000
namespace Go.Proofs.YtepgmebklhemgaaGreatDoor
open Go.ChangeShapes Go.WideShapes Go.ChangeAt Go.RowKit Wd
theorem Tryz.own : ownKnob Tryz.prog.godebug = none := by kernel_rfl
theorem Tryz.laidOut : laidOutB Tryz.prog = true := by kernel_rfl
theorem maxI_of {W : World} (h : W.ShapedOpen Tryz.prog) : Tp.MaxI W :=
  cell_of_shapedOpen_int (zero := #[.int .i64 0]) (t := 3) h (of_decide_eq_true (by kernel_rfl)) (by kernel_rfl) rfl (by kernel_rfl) (by kernel_rfl) Tryz.underlying3
theorem Tryz.cells_part : Tryz.prog.cellsOf 79 = 3 := by kernel_rfl
theorem Tryz.cells_str : Tryz.prog.cellsOf 9 = 1 := by kernel_rfl
theorem Tryz.cells_u64 : Tryz.prog.cellsOf 23 = 1 := by kernel_rfl
theorem Tryz.cells_bool : Tryz.prog.cellsOf 4 = 1 := by kernel_rfl
theorem Tryz.cells_bs : Tryz.prog.cellsOf 30 = 1 := by kernel_rfl
theorem Tryz.cells_u8 : Tryz.prog.cellsOf 5 = 1 := by kernel_rfl
theorem Tryz.cells_parts : Tryz.prog.cellsOf 24 = 1 := by kernel_rfl
theorem Tryz.cells_do : Tryz.prog.cellsOf 32 = 4 := by kernel_rfl
theorem Tryz.cells_dos : Tryz.prog.cellsOf 33 = 1 := by kernel_rfl
theorem choose_list {α : Type} {p : Nat → α → Prop} : ∀ n : Nat, (∀ i, i < n → ∃ a, p i a) → ∃ l : List α, l.length = n ∧ ∀ i (h : i < l.length), p i l[i]
  | 0, _ => ⟨[], rfl, fun i h => absurd h (Nat.not_lt_zero i)⟩
  | n + 1, h => by
    obtain ⟨l, hl, hp⟩ := choose_list n fun i hi => h i (by omega)
    obtain ⟨a, ha⟩ := h n (by omega)
    refine ⟨l ++ [a], by simp [hl], fun i hi => ?_⟩
    rw [List.length_append, List.length_singleton] at hi
    rcases Nat.lt_or_ge i l.length with h1 | h1
    · rw [List.getElem_append_left h1]; exact hp i h1
    · obtain rfl : i = l.length := by omega
      rw [List.getElem_append_right (Nat.le_refl _)]
      simp only [Nat.sub_self, List.getElem_cons_zero]
      rw [hl]
      exact ha
theorem field_bytes {P : Program} {H : Type} {enc : TypeId × Value → H} {W : World} {t e : TypeId} {fuel : Nat} {cs : List Value} {x : DataW H × List MemPlace} (ht : P.underlying t = some (.slice e)) (he : P.underlying e = some (.int .u8)) (hc : P.cellsOf e = 1)
    (hf : DataW.trod enc P W 0 (fun _ => true) true fuel t cs = some x) :
    ∃ (A : Option Addr) (c : Nat) (l : List UInt8), cs = [.slice A l.length c] ∧ (A = none → c = 0) ∧ l.length ≤ c ∧ RB W A l := by
  rcases open_ints ht he hc hf with ⟨hcs, hx⟩ | ⟨a, len, cap, zs, hcs, _, hl, hm, hz, hx, hcell, hwz⟩
  · exact ⟨none, 0, [], hcs, fun _ => rfl, Nat.le_refl _, fun h => absurd rfl h⟩
  · simp only [if_true] at hz
    have hlen : ((zs.take len).map by8).length = len := by rw [List.length_map, List.length_take]; omega
    refine ⟨some a, cap, (zs.take len).map by8, by rw [hlen]; exact hcs, fun h => (by cases h), by rw [hlen]; exact hl, fun hne => ?_⟩
    have hp : 0 < len := by
      rcases Nat.eq_zero_or_pos len with h0 | h0
      · rw [h0] at hne; simp at hne
      · exact h0
    have h0 := hcell 0 (by omega)
    have ha0 : a.add 0 = a := by simp [Addr.add]
    rw [ha0] at h0
    obtain ⟨b, o, rfl, hlt⟩ := addr_of h0
    refine ⟨b, o, rfl, hlt, fun j u hj => ?_⟩
    rw [bv_get, List.getElem?_map] at hj
    have hjl : j < len := by
      rcases Nat.lt_or_ge j len with h | h
      · exact h
      · rw [List.getElem?_eq_none (by rw [List.length_take]; omega)] at hj; cases hj
    have h1 := hcell j (by omega)
    rw [Addr.add_mid] at h1
    rw [h1]
    rw [List.getElem?_take, if_pos hjl, List.getElem?_eq_getElem (by omega)] at hj
    simp only [Option.map_some, Option.some.injEq] at hj
    rw [← hj, by8_nat (byte_wf (hwz _ (List.getElem_mem _))), List.getD_eq_getElem?_getD, List.getElem?_eq_getElem (by omega)]
    rfl
theorem rows_ofA {P : Program} {H : Type} {enc : TypeId × Value → H} {W : World} {t e : TypeId} {fuel : Nat} {cs : List Value} {x : DataW H × List MemPlace} (ht : P.underlying t = some (.slice e)) (n : Nat) (hn : P.cellsOf e = n) (hn0 : 0 < n)
    (hf : DataW.trod enc P W 0 (fun _ => true) true fuel t cs = some x) :
    ∃ (A : Option Addr) (len c : Nat) (X : Nat → List Value), cs = [.slice A len c] ∧ (A = none → c = 0) ∧ len ≤ c ∧
      (∀ i, i < len → (X i).length = n ∧ (∃ b o, A = some ⟨b, o, none⟩ ∧ b < W.heap.size ∧ W.rangeAt b (o + i * n) (X i)) ∧ ∃ fuel x, DataW.trod enc P W 0 (fun _ => true) true fuel e (X i) = some x) := by
  rcases Deep.open_slice ht hf with ⟨hcs, hx⟩ | ⟨a, len, cap, m, fu, D, Pl, hcs, _, hl, hm, hmm, hx, hel⟩
  · exact ⟨none, 0, 0, fun _ => [], hcs, fun _ => rfl, Nat.le_refl _, fun i hi => absurd hi (Nat.not_lt_zero i)⟩
  · simp only [if_true] at hmm
    subst hmm
    refine ⟨some a, len, m, fun i => ((W.cells? 0 (a.add (i * n)) n).getD []), hcs, fun h => (by cases h), hl, fun i hi => ?_⟩
    obtain ⟨cs', hc', htr⟩ := hel i (by omega)
    rw [hn] at hc'
    obtain ⟨cs0, hc0, _⟩ := hel 0 (by omega)
    rw [hn] at hc0
    obtain ⟨h1, h2, h3⟩ := World.cells?_some hc'
    obtain ⟨g1, g2, g3⟩ := World.cells?_some hc0
    simp only [hc', Option.getD_some]
    have z0 := g3 0 (by omega)
    have ha0 : (a.add (0 * n)).add 0 = a := by simp [Addr.add]
    rw [ha0, List.getElem?_eq_getElem (by omega)] at z0
    obtain ⟨b, o, rfl, hlt⟩ := addr_of z0
    refine ⟨h2, ⟨b, o, rfl, hlt, fun j u hj => ?_⟩, _, _, htr⟩
    have hjl : j < n := by
      have hj' : cs'[j]? = some u := hj
      have := (List.getElem?_eq_some_iff.1 hj').1
      omega
    have h4 := h3 j hjl
    rw [Addr.add_mid, Addr.add_mid] at h4
    rw [h4]
    exact hj
/-- Rows found one by one, as one row. -/
theorem ra_of {α : Type} {f : α → List Value} {k : Nat} (hf : ∀ a, (f a).length = k) (hk : 0 < k) {W : World} {A : Option Addr} {ax : List α} {X : Nat → List Value}
    (hX : ∀ i, i < ax.length → ∃ b o, A = some ⟨b, o, none⟩ ∧ b < W.heap.size ∧ W.rangeAt b (o + i * k) (X i)) (hp : ∀ i (h : i < ax.length), X i = f ax[i]) : RA W A (ax.flatMap f) := fun hne => by
  have h0 : 0 < ax.length := by cases ax with | nil => exact absurd rfl hne | cons _ _ => simp
  obtain ⟨b, o, rfl, hlt, _⟩ := hX 0 h0
  refine ⟨b, o, rfl, hlt, fun j u hj => ?_⟩
  have hjl := (List.getElem?_eq_some_iff.1 hj).1
  rw [flat_len hf] at hjl
  have h1 : j / k < ax.length := Nat.div_lt_of_lt_mul (by rw [Nat.mul_comm]; exact hjl)
  have hmod := Nat.div_add_mod j k
  rw [Nat.mul_comm] at hmod
  have hj2 : (f ax[j / k])[j % k]? = some u := by
    rw [← flat_at hf ax (j / k) h1, List.getElem?_take, if_pos (Nat.mod_lt _ hk), List.getElem?_drop, hmod]
    exact hj
  obtain ⟨b', o', he, _, hr⟩ := hX (j / k) h1
  injection he with he
  injection he with e1 e2
  subst e1 e2
  rw [hp (j / k) h1] at hr
  have h3 := hr (j % k) u hj2
  rw [Nat.add_assoc, hmod] at h3
  exact h3
theorem part_cells {H : Type} {enc : TypeId × Value → H} {w : World} {base : Nat} {spare : Nat → Bool} {held : Bool} {fuel : Nat} {cs : List Value} {x : DataW H × List MemPlace} (h : DataW.trod enc Tryz.prog w base spare held fuel 79 cs = some x) :
    ∃ p : Tu.Part, cs = Tp.pc p ∧ p.num < 18446744073709551616 := by
  obtain ⟨xs, n, _, _, hl, hlen, hf⟩ := DataW.trod_struct Tryz.underlying79 h
  rw [Tryz.cells_part] at hl
  match cs, hl with
  | [c0, c1, c2], _ =>
    match xs, hlen with
    | [y0, y1, y2], _ =>
      have h0 := hf 0 _ rfl
      have h1 := hf 1 _ rfl
      have h2 := hf 2 _ rfl
      simp only [Tryz.cells_str, Tryz.cells_u64, Tryz.cells_bool, List.drop_zero, List.drop_succ_cons, List.take_succ_cons, List.take_zero, List.getElem?_cons_zero, List.getElem?_cons_succ] at h0 h1 h2
      obtain ⟨s, e0, -, w0⟩ := DataW.trod_string Tryz.underlying9 h0
      obtain ⟨n1, e1, -, w1⟩ := DataW.trod_int Tryz.underlying23 h1
      obtain ⟨b, e2, -⟩ := DataW.trod_bool Tryz.underlying4 h2
      injection e0 with e0 _
      injection e1 with e1 _
      injection e2 with e2 _
      subst e0 e1 e2
      obtain ⟨⟨s⟩⟩ := s
      have hw : 0 ≤ n1 ∧ n1 < 18446744073709551616 := by
        have g1 : IntKind.u64.min = 0 := rfl
        have g2 : IntKind.u64.max = 18446744073709551615 := rfl
        simp only [Lit.wf, Bool.and_eq_true, decide_eq_true_eq] at w1
        omega
      obtain ⟨m, rfl⟩ := Int.eq_ofNat_of_zero_le hw.1
      exact ⟨⟨s, m, b⟩, rfl, by show m < _; omega⟩
/-- A name among an argument's cells: what it holds at W. -/
def NmAt (W : World) (m : Nm) : Prop := m.n = m.l.length ∧ (m.A = none → m.c = 0) ∧ m.n ≤ m.c ∧ RA W m.A (Tp.pcs m.l) ∧ ∀ p ∈ m.l, p.num < 18446744073709551616
theorem parts_of {H : Type} {enc : TypeId × Value → H} {W : World} {fuel : Nat} {cs : List Value} {x : DataW H × List MemPlace} (hf : DataW.trod enc Tryz.prog W 0 (fun _ => true) true fuel 24 cs = some x) :
    ∃ m : Nm, cs = [m.v] ∧ NmAt W m := by
  obtain ⟨A, len, c, X, rfl, hA, hc, hX⟩ := rows_ofA Tryz.underlying24 3 Tryz.cells_part (by decide) hf
  obtain ⟨ax, hl, hp⟩ := choose_list (p := fun i (a : Tu.Part) => X i = Tp.pc a ∧ a.num < 18446744073709551616) len fun i hi => by
    obtain ⟨_, _, fuel, x, ht⟩ := hX i hi
    exact part_cells ht
  subst hl
  refine ⟨⟨A, ax.length, c, ax⟩, rfl, rfl, hA, hc, ra_of (f := Tp.pc) (fun _ => rfl) (by decide) (fun i hi => (hX i hi).2.1) (fun i hi => (hp i hi).1), fun p hq => ?_⟩
  obtain ⟨i, hi, rfl⟩ := List.getElem_of_mem hq
  exact (hp i hi).2
/-- What is written, among an argument's cells. -/
def DdAt (W : World) (d : Dd) : Prop := NmAt W d.m ∧ d.p.ok ∧ RB W d.p.A d.p.l ∧ d.T < 18446744073709551616
theorem do_cells {H : Type} {enc : TypeId × Value → H} {w : World} {fuel : Nat} {cs : List Value} {x : DataW H × List MemPlace} (h : DataW.trod enc Tryz.prog w 0 (fun _ => true) true fuel 32 cs = some x) :
    ∃ d : Dd, cs = dd d ∧ DdAt w d := by
  obtain ⟨xs, n, _, _, hl, hlen, hf⟩ := DataW.trod_struct Tryz.underlying32 h
  rw [Tryz.cells_do] at hl
  match cs, hl with
  | [c0, c1, c2, c3], _ =>
    match xs, hlen with
    | [y0, y1, y2, y3], _ =>
      have h0 := hf 0 _ rfl
      have h1 := hf 1 _ rfl
      have h2 := hf 2 _ rfl
      have h3 := hf 3 _ rfl
      simp only [Tryz.cells_parts, Tryz.cells_bs, Tryz.cells_u64, Tryz.cells_bool, List.drop_zero, List.drop_succ_cons, List.take_succ_cons, List.take_zero, List.getElem?_cons_zero, List.getElem?_cons_succ] at h0 h1 h2 h3
      obtain ⟨n0, e0, -, w0⟩ := DataW.trod_int Tryz.underlying23 h0
      obtain ⟨m, e1, hm⟩ := parts_of h1
      obtain ⟨b, e2, -⟩ := DataW.trod_bool Tryz.underlying4 h2
      obtain ⟨A, c, l, e3, hA, hle, hrb⟩ := field_bytes Tryz.underlying30 Tryz.underlying5 Tryz.cells_u8 h3
      injection e0 with e0 _
      injection e1 with e1 _
      injection e2 with e2 _
      injection e3 with e3 _
      subst e0 e1 e2 e3
      have hw : 0 ≤ n0 ∧ n0 < 18446744073709551616 := by
        have g1 : IntKind.u64.min = 0 := rfl
        have g2 : IntKind.u64.max = 18446744073709551615 := rfl
        simp only [Lit.wf, Bool.and_eq_true, decide_eq_true_eq] at w0
        omega
      obtain ⟨T, rfl⟩ := Int.eq_ofNat_of_zero_le hw.1
      exact ⟨⟨T, m, b, ⟨A, l.length, c, l⟩⟩, rfl, hm, ⟨rfl, hA, hle⟩, hrb, by show T < _; omega⟩
section
variable {H : Type} {enc : TypeId × Value → H} {W : World} {v : Value} {d : DataW H} {ps : List MemPlace} {r : Reach} {b0 : Nat}
theorem arg_do (hw : Value.okWide Tryz.prog W r b0 32 v) (h : DataW.Trod enc Tryz.prog W 0 (fun _ => true) true 32 v d ps) : ∃ d : Dd, v = .agg (dd d).toArray ∧ DdAt W d := by
  obtain ⟨cs, rfl, hsz⟩ := okWide_struct Tryz.underlying32 hw
  obtain ⟨fuel, hf⟩ := h
  obtain ⟨d, hd, h2⟩ := do_cells hf
  refine ⟨d, ?_, h2⟩
  congr 1
  rw [← hd]
  simp [Value.cells]
theorem arg_name (hw : Value.okWide Tryz.prog W r b0 24 v) (h : DataW.Trod enc Tryz.prog W 0 (fun _ => true) true 24 v d ps) : ∃ m : Nm, v = m.v ∧ NmAt W m := by
  obtain ⟨A, len, c, rfl⟩ := okWide_slice Tryz.underlying24 hw
  obtain ⟨fuel, hf⟩ := h
  obtain ⟨m, hm, h2⟩ := parts_of hf
  refine ⟨m, ?_, h2⟩
  simpa [Value.cells] using hm
end
end Go.Proofs.YtepgmebklhemgaaGreatDoor
