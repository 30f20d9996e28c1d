/- copy of elements of any size into a block that is known whole; zeros appended to a row that has no room. No program is in sight. -/
import Derived.Test.YtcdljlaoedaliaaDoorSl
import Derived.Lib.AppendZerosOnto
import Derived.Laws.IdiomCopy
import Derived.Test.YtcdljlaoedaliaaDoorT1
import Derived.Lib.Overlaps
import Derived.Deep.DeepCutAuto
import Derived.Laws.Externs
set_option linter.unusedVariables false
set_option linter.unusedSimpArgs false
namespace Go.Proofs.YtcdljlaoedaliaaDoor
open Go.RowKit Wd
section
variable {P : Program} {ops : Array Oper} {rest : List Oper} {op : Oper} {a : Act} {w0 w : World} {M : Mem} {Q : Exit → Act → World → Prop} {F : List Ent}
theorem run_copy_any {dT sT ty elem t : TypeId} {k g off dLen dCap : Nat} {cur cs : List Value} (hu : P.underlying dT = some (.slice elem)) (hs : (P.info? elem).map (·.size) = some k) (hb : Blk w g t cur) (ad : Addr) (sLen sCap : Nat)
    (hn : cs.length = Nat.min sLen dLen * k) (hsrc : ∀ j v, cs[j]? = some v → w.cell? (ad.add j) = some v) (hfit : off + cs.length ≤ cur.length) (h1 : ∀ v ∈ cs, v.oneCell' = true) :
    (Builtin.copy_ #[dT, sT] ty #[.slice (some ⟨g, off, none⟩) dLen dCap, .slice (some ad) sLen sCap]).run P w = .ok (goInt (Nat.min sLen dLen)) (w.setCells g off cs) := by
  have hl := run_loadCells_list (P := P) w ad cs hsrc
  have hst := run_storeCells_cells (P := P) g off cs 0 w (by
    intro j hj
    rw [Nat.add_zero, hb.cell, List.getElem?_eq_getElem (by omega)]
    rfl) (by intro j hj; exact hb.frozen _) h1
  cases hq : P.info? elem with
  | none => simp [hq] at hs
  | some i =>
    have hi : i.size = k := by simpa [hq] using hs
    rw [hn] at hl
    have e : ∀ n : Nat, n = Nat.min sLen dLen → (Builtin.firstCells k n (.slice (some ad) sLen sCap)).run P w = .ok cs.toArray w := fun n hn => by subst hn; exact hl
    simp [Builtin.copy_, run_underlying hu, Builtin.lenOf, sizeOf, typeInfo, hq, hi, e _ rfl, hst]
/-- copy into the first entry's block, elements of k cells. -/
theorem wpList_copy_any_st {k g : Nat} {t : TypeId} {cur cs : List Value} (H : St w0 w M (eb g t cur :: F)) (hgd : op.guard = none) (d s : Operand) (dT sT : TypeId) (ho : op.op = .call { callee := .builtin .copy, args := #[d, s], argTypes := #[dT, sT] }) (elem : TypeId) (hu : P.underlying dT = some (.slice elem)) (hsz : (P.info? elem).map (·.size) = some k)
    (off dLen dCap b o sLen sCap : Nat) (hd : a.eval d = .slice (some ⟨g, off, none⟩) dLen dCap) (hs : a.eval s = .slice (some ⟨b, o, none⟩) sLen sCap) (hn : cs.length = Nat.min sLen dLen * k) (hr : w.rangeAt b o cs) (hfit : off + cs.length ≤ cur.length) (h1 : ∀ v ∈ cs, v.oneCell' = true)
    (h : ∀ w', St w0 w' M (eb g t (ins cur off cs) :: F) → wpList P ops Q rest (a.put op.dst (goInt (Nat.min sLen dLen))) w') : wpList P ops Q (op :: rest) a w := by
  refine wpList_plain hgd fun K hK => ?_
  have hr := run_copy_any (P := P) (sT := sT) (ty := op.type) (dCap := dCap) hu hsz (H.blk 0 rfl) ⟨b, o, none⟩ sLen sCap hn (fun j v hj => by rw [Addr.add_mid]; exact hr j v hj) hfit h1
  unfold Oper.wp execOp
  simp only [ho, resolve, invoke, builtin, Sem.run_bind, Sem.run_pure, Result.andThen_ok, List.map_toArray, List.map_cons, List.map_nil, hd, hs, hr]
  exact hK _ _ (h _ (H.turnBlk ((Keeps.refl w (· = g)).setCells (.inl rfl) off cs) ((H.blk 0 rfl).setCells off cs hfit)))
/-- Zeros appended where there is no room: a new block. -/
theorem wpList_append_zeros_grow_st {e : TypeId} {z : Value} {sz by_ : Nat} (H : St w0 w M F) (hgd : op.guard = none) (s x : Operand) (t tn : TypeId) (kq kn : IntKind) (ho : op.op = .call { callee := .builtin .append, args := #[s, x], argTypes := #[t, tn] })
    (hinfo : (P.info? e).map (fun i => (i.zero, i.size, i.bytes)) = some (some z, sz, by_)) (hz : z.cells.size = sz) (hsz : 0 < sz) (ht : P.underlying t = some (.slice e)) (htn : P.underlying tn = some (.int kn))
    (b o n cap : Nat) (xs : List Value) (hs : a.eval s = .slice (some ⟨b, o, none⟩) n cap) (hxs : xs.length = n * sz) (hr : w.rangeAt b o xs) (k : Nat) (hx : a.eval x = .int kq (k : Int)) (h0 : 0 < k) (hfull : cap < n + k)
    (hb : (n + k) * by_ ≤ 140737488355328) (hb2 : n + k ≤ 140737488355328) (h : ∀ g c sp w', n + k ≤ c → c ≤ maxLen → sp.length = (c - n) * sz → St w0 w' M (eb g e (xs ++ sp) :: F) → wpList P ops Q rest (a.put op.dst (.slice (some ⟨g, 0, none⟩) (n + k) c)) w') : wpList P ops Q (op :: rest) a w := by
  obtain ⟨i0, hi, hz0, hz1, hz2⟩ := info_parts hinfo
  refine wpList_plain hgd fun K hK => ?_
  have hold : (Builtin.firstCells i0.size n (.slice (some ⟨b, o, none⟩) n cap)).run P w.drew = .ok xs.toArray w.drew := by
    have hl := run_loadCells_list (P := P) w.drew ⟨b, o, none⟩ xs (fun j v hj => by rw [Addr.add_mid]; exact hr j v hj)
    rw [hxs] at hl
    rw [hz1]
    exact hl
  have h48 : k * by_ ≤ (n + k) * by_ := Nat.mul_le_mul_right _ (by omega)
  have hrun := Lib.run_append_grow_zeros (P := P) w t tn op.type e i0 z kq kn ht htn hi hz0 (some ⟨b, o, none⟩) n cap xs hold k h0 (by omega) hfull (by omega) (by rw [hz2]; omega) (by
    rw [hz2]
    exact growslice_fits hfull hb)
  unfold Oper.wp execOp
  simp only [ho, resolve, invoke, builtin, Sem.run_bind, Sem.run_pure, Result.andThen_ok, List.map_toArray, List.map_cons, List.map_nil, hs, hx, hrun]
  have hge := grownCap_ge w (n + k) cap e
  refine hK _ _ (h w.heap.size _ ((Builtin.zeroCells z.cells k).toList ++ (Builtin.zeroCells z.cells (grownCap w (n + k) cap e - (n + k))).toList) _ hge (grownCap_le_maxLen w _ _ e (by unfold maxLen; omega)) ?_ ?_)
  · rw [List.length_append, Array.length_toList, Array.length_toList, size_zeroCells, size_zeroCells, hz, ← Nat.add_mul]
    congr 1
    omega
  · have h1 := H.drew.new (xs ++ ((Builtin.zeroCells z.cells k).toList ++ (Builtin.zeroCells z.cells (grownCap w (n + k) cap e - (n + k))).toList)) e
    refine cast ?_ h1
    congr 3
    apply Array.ext'
    simp [List.append_assoc]
end
/-- A list behind the two stores of 'Insert'. -/
theorem Wd.ins_two {k i n : Nat} {cs xs ys : List Value} (hi : i ≤ n) (hy : ys.length = k) (hx : cs.take (n * k) = xs) (hl : (n + 1) * k ≤ cs.length) :
    (ins (ins cs ((i + 1) * k) (xs.drop (i * k))) (i * k) ys).take ((n + 1) * k) = xs.take (i * k) ++ ys ++ xs.drop (i * k) := by
  have e1 : (i + 1) * k = i * k + k := by rw [Nat.add_mul, Nat.one_mul]
  have e2 : (n + 1) * k = n * k + k := by rw [Nat.add_mul, Nat.one_mul]
  have e3 : i * k ≤ n * k := Nat.mul_le_mul_right _ hi
  have hxl : xs.length = n * k := by rw [← hx, List.length_take]; omega
  have hxg : ∀ j, xs[j]? = if j < n * k then cs[j]? else none := fun j => by rw [← hx, List.getElem?_take]
  rw [e2] at hl
  rw [e1, e2]
  generalize i * k = I at *
  generalize n * k = N at *
  subst hy
  apply List.ext_getElem?
  intro j
  unfold ins
  simp only [List.getElem?_append, List.getElem?_take, List.getElem?_drop, List.length_append, List.length_take, List.length_drop, hxl, hxg]
  rcases Nat.lt_or_ge j I with h1 | h1
  · grind
  · rcases Nat.lt_or_ge j (I + ys.length) with h2 | h2
    · grind
    · rcases Nat.lt_or_ge j (N + ys.length) with h3 | h3
      · grind
      · grind
theorem Wd.ins_grow {k i n : Nat} {cs xs ys sp : List Value} (hi : i ≤ n) (hy : ys.length = k) (hx : xs.length = n * k) (hl : (n + 1 - i) * k ≤ sp.length) :
    (ins (ins (xs.take (i * k) ++ sp) (i * k) ys) ((i + 1) * k) (xs.drop (i * k))).take ((n + 1) * k) = xs.take (i * k) ++ ys ++ xs.drop (i * k) := by
  have e1 : (i + 1) * k = i * k + k := by rw [Nat.add_mul, Nat.one_mul]
  have e2 : (n + 1) * k = n * k + k := by rw [Nat.add_mul, Nat.one_mul]
  have e3 : i * k ≤ n * k := Nat.mul_le_mul_right _ hi
  have e4 : (n + 1 - i) * k = n * k + k - i * k := by rw [Nat.sub_mul, Nat.add_mul, Nat.one_mul]
  rw [e4] at hl
  rw [e1, e2]
  generalize i * k = I at *
  generalize n * k = N at *
  subst hy
  apply List.ext_getElem?
  intro j
  unfold ins
  simp only [List.getElem?_append, List.getElem?_take, List.getElem?_drop, List.length_append, List.length_take, List.length_drop, hx]
  rcases Nat.lt_or_ge j I with h1 | h1
  · grind
  · rcases Nat.lt_or_ge j (I + ys.length) with h2 | h2
    · grind
    · rcases Nat.lt_or_ge j (N + ys.length) with h3 | h3
      · grind
      · grind
end Go.Proofs.YtcdljlaoedaliaaDoor
/- An owned row opened as a block and shut again. No program is in sight. -/
set_option linter.unusedVariables false
set_option linter.unusedSimpArgs false
namespace Go.Proofs.YtcdljlaoedaliaaDoor
open Go.RowKit Wd
section
variable {w0 w : World} {M : Mem} {L : List Ent}
theorem Wd.St.openRow {e : TypeId} {sz n cap g : Nat} {xs : List Value} (h : St w0 w M (er e sz (.slice (some ⟨g, 0, none⟩) n cap) n xs :: L)) :
    ∃ cs, St w0 w M (eb g e cs :: L) ∧ cs.length = cap * sz ∧ cs.take (n * sz) = xs ∧ n ≤ cap ∧ cap ≤ maxLen := by
  have h0 := h.get 0 rfl
  have hr := er_bind h0
  obtain ⟨h1, h2⟩ := hr
  rcases h2 with ⟨h2, _⟩ | ⟨g', cap', cur, he, ho, hn, hm, hs, ht⟩
  · cases h2
  · injection he with he _ hc
    injection he with he
    injection he with he
    subst he hc
    refine ⟨cur.toList, ?_, by simpa using hs, ht, hn, hm⟩
    have hb : Blk w g e cur.toList := by
      have h3 : w.heap[g]? = some (.cells cur e (0, 0)) := ho
      simpa [Blk] using h3
    exact h.turn (Keeps.refl w _) (eb_holds.2 ⟨(Ent.holds_lt h0 rfl).1, hb⟩) (fun g' h => .inl (by simpa [eb, er, Value.ownBlock] using h))
theorem Wd.St.shutRow {e : TypeId} {sz n cap g : Nat} {cs : List Value} (h : St w0 w M (eb g e cs :: L)) (hc : cs.length = cap * sz) (hn : n ≤ cap) (hm : cap ≤ maxLen) :
    St w0 w M (er e sz (.slice (some ⟨g, 0, none⟩) n cap) n (cs.take (n * sz)) :: L) := by
  have hb := (eb_holds.1 (h.get 0 rfl))
  have hlen : (cs.take (n * sz)).length = n * sz := by
    rw [List.length_take, hc]
    exact Nat.min_eq_left (Nat.mul_le_mul_right _ hn)
  refine h.turn (Keeps.refl w _) ?_ (fun g' h => .inl (by simpa [eb, er, Value.ownBlock] using h))
  refine er_mk (B := g) ⟨hlen, .inr ⟨g, cap, cs.toArray, rfl, Nat.le_refl _, hb.2, hn, hm, by simpa using hc, by simp⟩⟩ (fun g' hg' => ?_)
  simp only [Value.ownBlock, Option.some.injEq] at hg'
  subst hg'
  exact hb.1
end
end Go.Proofs.YtcdljlaoedaliaaDoor
/- slices.Insert of one element at accounts. -/
set_option linter.unusedVariables false
set_option linter.unusedSimpArgs false
namespace Go.Proofs.YtcdljlaoedaliaaDoor
open Go.RowKit Wd
section
variable {w0 w : World} {M : Mem} {L : List Ent}
theorem over_any (vb b off la ca lb cb : Nat) {tA tB : TypeId} {csA csB : List Value} (ha : Blk w vb tA csA) (hb : Blk w b tB csB) (hne : vb ≠ b) (h0 : csB.length ≠ 0) :
    (callFunc 61 #[.slice (some ⟨vb, 0, none⟩) la ca, .slice (some ⟨b, off, none⟩) lb cb]).run Tryd.prog w = .ok (.value (.bool false)) w := by
  rw [run_callFunc_extern Tryd.func61 (by kernel_rfl) (by kernel_rfl) (by kernel_rfl) (e := Extern.SlicesOverlaps.overlaps #[22, 22] #[4]) (by kernel_rfl),
    Lib.run_overlaps_apart w 22 4 71 Tryd.underlying22 50 (fun w => by
      have h := Tryd.infoAcc
      obtain ⟨i, hi, _, h1, _⟩ := info_parts h
      simp [sizeOf, typeInfo, hi, h1]) ⟨vb, 0, none⟩ ⟨b, off, none⟩ la ca lb cb hne tA tB csA.length csB.length (by unfold Blk at ha; simp [World.shape?, ha]) (by unfold Blk at hb; simp [World.shape?, hb]) h0 (ha.frozen 0) (ha.frozen _)]
  rfl
set_option maxRecDepth 100000 in
set_option maxHeartbeats 1000000 in
/-- slices.Insert of one: the element lies in a block of its own. -/
theorem insert_any {v : Value} {n i gv : Nat} {xs ys : List Value} (H : St w0 w M (er 71 50 v n xs :: eb gv 71 ys :: L)) (hy : ys.length = 50) (hy1 : ∀ u ∈ ys, u.oneCell' = true) (hx1 : ∀ u ∈ xs, u.oneCell' = true) (hi : i ≤ n) (hn2 : n ≤ 1000000) :
    Calls Tryd.prog 35 #[v, .int .i64 (i : Int), .slice (some ⟨gv, 0, none⟩) 1 1] w fun e w' => ∃ v', e = .returned v' ∧ St w0 w' M (er 71 50 v' (n + 1) (xs.take (i * 50) ++ (ys ++ xs.drop (i * 50))) :: eb gv 71 ys :: L) := by
  have hxl := H.len 0 rfl
  have HY1 := Lib.hid hy1
  have HX1 := Lib.hid hx1
  have HXL := Lib.hid hxl
  have HY := Lib.hid hy
  clear hy1 hx1 hxl hy
  rcases Nat.lt_or_ge i n with hlt | hge
  · -- in the midst
    obtain ⟨_, hr⟩ := er_bind (H.get 0 rfl)
    rcases hr with ⟨rfl, rfl⟩ | ⟨g, cap, cur, rfl, ho, hnc, hcm, hcs, htk⟩
    · exact absurd hlt (Nat.not_lt_zero _)
    · clear ho hcs htk cur
      obtain ⟨cs, HO, hcl, hct, -, -⟩ := H.openRow
      have hne := HO.ne_ 0 1 rfl rfl (by decide)
      have HNE := Lib.hid hne
      have HCL := Lib.hid hcl
      have HCT := Lib.hid hct
      have HLT := Lib.hid hlt
      have HNC := Lib.hid hnc
      have HCM := Lib.hid hcm
      have hrx := (HO.blk 0 rfl).range (i * 50) ((n - i) * 50) (xs.drop (i * 50)) (by rw [← hct, List.drop_take, Nat.sub_mul])
      have hrt : ∀ W, St w0 W M (eb g 71 cs :: eb gv 71 ys :: L) → W.rangeAt g (i * 50) (xs.drop (i * 50)) := fun W HW => (HW.blk 0 rfl).range (i * 50) ((n - i) * 50) _ (by rw [← HCT.out, List.drop_take, Nat.sub_mul])
      have HRT := Lib.hid hrt
      have hrs : ∀ W, St w0 W M (eb g 71 cs :: eb gv 71 ys :: L) → W.rangeAt g 0 (xs.take (i * 50)) := fun W HW => (HW.blk 0 rfl).range 0 (i * 50) _ (by rw [← HCT.out, List.drop_zero, List.take_take, Nat.min_eq_left (Nat.mul_le_mul_right _ (Nat.le_of_lt HLT.out))])
      have HRS := Lib.hid hrs
      have z1 : ((n : Int) == (i : Int)) = false := by simp; omega
      have z2 : ¬ (i : Int) = (n : Int) := by omega
      have z3 : (i : Int) ≤ (n : Int) := by omega
      have z4 : i ≤ n := by omega
      have w1 : IntKind.i64.wrap ((n : Int) + 1) = (n : Int) + 1 := by rw [IntKind.wrap_i64]; omega
      have w2 : IntKind.i64.wrap ((i : Int) + 1) = (i : Int) + 1 := by rw [IntKind.wrap_i64]; omega
      have wi : IntKind.i64.wrap (i : Int) = (i : Int) := by rw [IntKind.wrap_i64]; omega
      have wk : IntKind.i64.wrap ((n : Int) + 1 - (i : Int)) = ((n + 1 - i : Nat) : Int) := by rw [IntKind.wrap_i64]; omega
      clear hrx hrt hrs hne hcl hct H
      by_cases hfull : (cap : Int) < (n : Int) + 1
      · have hcn : cap = n := by have := HNC.out; omega
        subst hcn
        clear hfull hcm hnc
        go_enter Tryd.func35, Tryd.ntmps35
        go_upto_region 9 with fail
        have e1 : i + (cap + 1 - i) = cap + 1 := by omega
        have hk0 : 0 < cap + 1 - i := by omega
        have hkf : cap < i + (cap + 1 - i) := by omega
        have hk1 : (i + (cap + 1 - i)) * 64 ≤ 140737488355328 := by omega
        have hk2 : i + (cap + 1 - i) ≤ 140737488355328 := by omega
        have hxt : (xs.take (i * 50)).length = i * 50 := by rw [List.length_take, HXL.out]; exact Nat.min_eq_left (Nat.mul_le_mul_right _ (Nat.le_of_lt HLT.out))
        have HXT := Lib.hid hxt
        clear hxt
        go_wp2_with (at_builtin; refine wpList_append_zeros_grow_st (sz := 50) HO (by rfl) (.tmp 34) (.tmp 39) 22 3 .i64 .i64 (by rfl) Tryd.infoAcc (by rfl) (by decide) Tryd.underlying22 Tryd.underlying3 g 0 i cap (xs.take (i * 50)) (by rfl) HXT.out (HRS.out _ HO) (cap + 1 - i) (by rfl) hk0 hkf hk1 hk2 ?_)
        intro g2 c2 sp w3 q1 q2 q3 H3
        (try rw [e1] at q1); (try rw [e1])
        clear e1 hk0 hkf hk1 hk2
        have hw1 : ys.length = Nat.min 1 (cap + 1 - i) * 50 := by
          have h1 : Nat.min 1 (cap + 1 - i) = 1 := Nat.min_eq_left (by have := HLT.out; omega)
          rw [h1, HY.out]
        have hw2 : ys.take 50 = ys := by rw [← HY.out, List.take_length]
        have hw3 : i * 50 + ys.length ≤ (xs.take (i * 50) ++ sp).length := by rw [List.length_append, HXT.out, HY.out, q3]; have := HLT.out; omega
        have HW1 := Lib.hid hw1
        have HW2 := Lib.hid hw2
        have HW3 := Lib.hid hw3
        have Q1 := Lib.hid q1
        have Q2 := Lib.hid q2
        have Q3 := Lib.hid q3
        have ic : (i : Int) ≤ (c2 : Int) := by omega
        have ic1 : (i : Int) + 1 ≤ (c2 : Int) := by omega
        have ic2 : (cap : Int) + 1 ≤ (c2 : Int) := by omega
        have in1 : (i : Int) + 1 ≤ (cap : Int) + 1 := by omega
        clear hw1 hw2 hw3 q1 q2 q3
        go_wp2_with (refine wpList_copy_any_st (op := ⟨some 45, _, _, _, _, _⟩) (k := 50) (cs := ys) H3 (by rfl) (.tmp 43) (.tmp 44) 22 22 (by rfl) 71 Tryd.underlying22 Tryd.sizeAcc (i * 50) (cap + 1 - i) (c2 - i) gv 0 1 1 (by rfl) (by rfl) HW1.out ((H3.blk 2 rfl).range 0 50 ys HW2.out) HW3.out HY1.out ?_)
        intro w4 H4
        clear H3 HO
        have hw1 : (xs.drop (i * 50)).length = Nat.min (cap - i) (cap - i) * 50 := by
          have h1 : Nat.min (cap - i) (cap - i) = cap - i := Nat.min_self _
          rw [h1, List.length_drop, HXL.out, Nat.sub_mul]
        have hin : (ins (xs.take (i * 50) ++ sp) (i * 50) ys).length = (xs.take (i * 50) ++ sp).length := by
          have := HW3.out
          unfold ins
          simp only [List.length_append, List.length_take, List.length_drop] at this ⊢
          omega
        have hw3 : (i + 1) * 50 + (xs.drop (i * 50)).length ≤ (ins (xs.take (i * 50) ++ sp) (i * 50) ys).length := by
          rw [hin, List.length_append, HXT.out, Q3.out, List.length_drop, HXL.out]
          have := HLT.out
          have := Q1.out
          omega
        have hx2 : ∀ u ∈ xs.drop (i * 50), u.oneCell' = true := fun u hu => HX1.out u (List.mem_of_mem_drop hu)
        have hend : (ins (ins (xs.take (i * 50) ++ sp) (i * 50) ys) ((i + 1) * 50) (xs.drop (i * 50))).take ((cap + 1) * 50) = xs.take (i * 50) ++ ys ++ xs.drop (i * 50) := Wd.ins_grow (cs := cs) (Nat.le_of_lt HLT.out) HY.out HXL.out (by rw [Q3.out]; have := Q1.out; exact Nat.mul_le_mul_right _ (by omega))
        have hen2 : (ins (ins (xs.take (i * 50) ++ sp) (i * 50) ys) ((i + 1) * 50) (xs.drop (i * 50))).length = c2 * 50 := by
          have h1 : ∀ (a m : List Value) (o : Nat), o + m.length ≤ a.length → (ins a o m).length = a.length := fun a m o h => by
            unfold ins
            simp only [List.length_append, List.length_take, List.length_drop]
            omega
          rw [h1 _ _ _ hw3, hin, List.length_append, HXT.out, Q3.out]
          have := HLT.out
          have := Q1.out
          omega
        have HW4 := Lib.hid hw1
        have HW5 := Lib.hid hw3
        have HX2 := Lib.hid hx2
        have HEND := Lib.hid hend
        have HEN2 := Lib.hid hen2
        obtain ⟨X, hX⟩ : ∃ X, X = ins (xs.take (i * 50) ++ sp) (i * 50) ys := ⟨_, rfl⟩
        rw [← hX] at H4 HW5 HEND HEN2
        clear hw1 hw3 hx2 hend hen2 hin hX HW1 HW2 HW3
        have nc2 : ¬ cap = i := by omega
        have nc1 : ¬ c2 = i + 1 := by have := Q1.out; omega
        have p1 : (0 : Int) ≤ (i : Int) + 1 := by omega
        go_upto_region 11 with fail
        refine Pt.wp_plan (fun w' => St w0 w' M (eb g2 71 X :: eb g 71 cs :: eb gv 71 ys :: L)) (Pt.prs [0, 1, 2, 3, 4, 5, 6, 7] (.st 8 .fin)) [8] Tryd.mixed (by kernel_rfl) (fun _ _ d _ _ h => by cases d <;> exact h) H4.drew ?_
        have H5 := H4.drew
        simp only [Pt.toL, Pt.rds, Pt.prs, Pt.at_, List.drop_succ_cons, List.drop_zero]
        iterate 8 (refine Pt.pr_run (v := ?_) (by rfl) ?_ ?_; rotate_left; (focus (intro w'; go_simp; with_reducible rfl)); simp only [Act.put, List.setIfInBounds_toArray, List.set_cons_zero, List.set_cons_succ])
        refine Pt.run_st ?_
        refine wpList_copy_any_st (op := ⟨some 54, _, _, _, _, _⟩) (k := 50) (cs := xs.drop (i * 50)) H5 (by rfl) (.tmp 50) (.tmp 53) 22 22 (by rfl) 71 Tryd.underlying22 Tryd.sizeAcc ((i + 1) * 50) (cap - i) (c2 - (i + 1)) g (i * 50) (cap - i) (cap - i) (by rfl) (by rfl) HW4.out (HRT.out _ H5.d0) HW5.out HX2.out ?_
        intro w6 H6
        clear H5 H4
        have hr6 := H6.shutRow (n := cap + 1) (cap := c2) HEN2.out Q1.out Q2.out
        rw [HEND.out, List.append_assoc] at hr6
        have H7 := hr6.d1
        clear H6 hr6
        refine wpList_nil ?_
        simp only [Pl.Then, Act.put, List.setIfInBounds_toArray, List.set_cons_zero, List.set_cons_succ]
        refine Pt.run_fin ?_
        go_wp2
        go_ret
        exact ⟨_, rfl, H7⟩
      · have hcn : n + 1 ≤ cap := by omega
        have HCN := Lib.hid hcn
        have hgv : gv ≠ g := fun h => HNE.out h.symm
        have hcl0 : cs.length ≠ 0 := by rw [HCL.out]; omega
        have hov := fun (W : World) (hW : St w0 W M (eb g 71 cs :: eb gv 71 ys :: L)) (la ca lb cb : Nat) => over_any gv g ((i + 1) * 50) la ca lb cb (hW.blk 1 rfl) (hW.blk 0 rfl) hgv hcl0
        have HOV := Lib.hid hov
        have nc1 : ¬ cap = i + 1 := by omega
        have nc2 : ¬ cap = i := by omega
        have p1 : (0 : Int) ≤ (i : Int) + 1 := by omega
        have ic : (i : Int) ≤ (cap : Int) := by omega
        have in1 : (i : Int) + 1 ≤ (n : Int) + 1 := by omega
        have in2 : (n : Int) + 1 ≤ (cap : Int) := by omega
        have in3 : (i : Int) ≤ (n : Int) + 1 := by omega
        clear hcn hov hgv hcl0
        go_enter Tryd.func35, Tryd.ntmps35
        go_upto_region 14 with fail
        have ho := HOV.out w HO 1 1 (n - i) (cap - (i + 1))
        go_upto_region 15 with fail
        have hlen : ∀ (a m : List Value) (o : Nat), o + m.length ≤ a.length → (ins a o m).length = a.length := fun a m o h => by
          unfold ins
          simp only [List.length_append, List.length_take, List.length_drop]
          omega
        have hdl : (xs.drop (i * 50)).length = (n - i) * 50 := by rw [List.length_drop, HXL.out, Nat.sub_mul]
        have hmin : (n - i) * 50 = Nat.min (n + 1 - i) (n - i) * 50 := by
          have h1 : Nat.min (n + 1 - i) (n - i) = n - i := Nat.min_eq_right (by omega)
          rw [h1]
        have hw1 := hdl.trans hmin
        have hw3 : (i + 1) * 50 + (xs.drop (i * 50)).length ≤ cs.length := by
          rw [hdl, HCL.out]
          have := HLT.out
          have := HCN.out
          omega
        have hl1 := hlen _ _ _ hw3
        have hx2 : ∀ u ∈ xs.drop (i * 50), u.oneCell' = true := fun u hu => HX1.out u (List.mem_of_mem_drop hu)
        have hend : (ins (ins cs ((i + 1) * 50) (xs.drop (i * 50))) (i * 50) ys).take ((n + 1) * 50) = xs.take (i * 50) ++ (ys ++ xs.drop (i * 50)) := by
          rw [Wd.ins_two (Nat.le_of_lt HLT.out) HY.out HCT.out (by rw [HCL.out]; exact Nat.mul_le_mul_right _ HCN.out), List.append_assoc]
        have hw4 : i * 50 + ys.length ≤ (ins cs ((i + 1) * 50) (xs.drop (i * 50))).length := by
          rw [hl1, HY.out, HCL.out]
          have := HLT.out
          have := HCN.out
          omega
        have hen2 : (ins (ins cs ((i + 1) * 50) (xs.drop (i * 50))) (i * 50) ys).length = cap * 50 := by rw [hlen _ _ _ hw4, hl1, HCL.out]
        have HW1 := Lib.hid hw1
        have HW3 := Lib.hid hw3
        have HW4 := Lib.hid hw4
        have HX2 := Lib.hid hx2
        have HEND := Lib.hid hend
        have HEN2 := Lib.hid hen2
        clear hlen hdl hmin hw1 hw3 hl1 hx2 hend hw4 hen2
        refine Pt.wp_plan (fun w' => St w0 w' M (eb g 71 cs :: eb gv 71 ys :: L)) (Pt.prs [0, 1, 2, 3, 4, 5, 6, 7] (.st 8 .fin)) [8] Tryd.mixed (by kernel_rfl) (fun _ _ d _ _ h => by cases d <;> exact h) HO.drew ?_
        have H5 := HO.drew
        simp only [Pt.toL, Pt.rds, Pt.prs, Pt.at_, List.drop_succ_cons, List.drop_zero]
        iterate 8 (refine Pt.pr_run (v := ?_) (by rfl) ?_ ?_; rotate_left; (focus (intro w'; go_simp; with_reducible rfl)); simp only [Act.put, List.setIfInBounds_toArray, List.set_cons_zero, List.set_cons_succ])
        refine Pt.run_st ?_
        refine wpList_copy_any_st (op := ⟨some 77, _, _, _, _, _⟩) (k := 50) (cs := xs.drop (i * 50)) H5 (by rfl) (.tmp 73) (.tmp 76) 22 22 (by rfl) 71 Tryd.underlying22 Tryd.sizeAcc ((i + 1) * 50) (n - i) (cap - (i + 1)) g (i * 50) (n + 1 - i) (cap - i) (by rfl) (by rfl) HW1.out (HRT.out _ H5) HW3.out HX2.out ?_
        intro w6 H6
        clear H5 HO
        obtain ⟨X, hX⟩ : ∃ X, X = ins cs ((i + 1) * 50) (xs.drop (i * 50)) := ⟨_, rfl⟩
        rw [← hX] at H6 HW4 HEND HEN2
        clear hX
        have hw5 : ys.length = Nat.min 1 (n + 1 - i) * 50 := by
          have h1 : Nat.min 1 (n + 1 - i) = 1 := Nat.min_eq_left (by have := HLT.out; omega)
          rw [h1, HY.out]
        have hw2 : ys.take 50 = ys := by rw [← HY.out, List.take_length]
        have HW5 := Lib.hid hw5
        have HW2 := Lib.hid hw2
        clear hw5 hw2
        refine wpList_nil ?_
        simp only [Pl.Then, Act.put, List.setIfInBounds_toArray, List.set_cons_zero, List.set_cons_succ]
        refine Pt.run_fin ?_
        go_wp2_with (refine wpList_copy_any_st (op := ⟨some 82, _, _, _, _, _⟩) (k := 50) (cs := ys) H6 (by rfl) (.tmp 80) (.tmp 81) 22 22 (by rfl) 71 Tryd.underlying22 Tryd.sizeAcc (i * 50) (n + 1 - i) (cap - i) gv 0 1 1 (by rfl) (by rfl) HW5.out ((H6.blk 1 rfl).range 0 50 ys HW2.out) HW4.out HY1.out ?_)
        intro w7 H7
        have hr7 := H7.shutRow (n := n + 1) (cap := cap) HEN2.out HCN.out HCM.out
        rw [HEND.out] at hr7
        clear H6 H7
        go_wp2
        go_ret
        exact ⟨_, rfl, hr7⟩
  · obtain rfl : i = n := by omega
    obtain ⟨A, c, rfl, hc, hA⟩ := H.shape' 0 rfl
    have hw2 : ys.take 50 = ys := by rw [← HY.out, List.take_length]
    have hra := (H.blk 1 rfl).ra 0 50 ys hw2
    have HRA := Lib.hid hra
    have hyl : ys.length = 1 * 50 := by rw [HY.out]
    have HYL := Lib.hid hyl
    have e1 : xs.take (i * 50) ++ (ys ++ xs.drop (i * 50)) = xs ++ ys := by rw [← HXL.out, List.take_length, List.drop_length, List.append_nil]
    rw [e1]
    have ic : (i : Int) ≤ (c : Int) := by omega
    clear hw2 hra hyl e1 hge hi
    go_enter Tryd.func35, Tryd.ntmps35
    by_cases hci : c = i
    · subst hci
      go_wp2_with (at_builtin; refine wpList_append_any_st H (by rfl) (.tmp 23) (.tmp 24) 22 (by rfl) Tryd.infoAcc (by rfl) (by decide) Tryd.underlying22 (by rfl) (some ⟨gv, 0, none⟩) 1 1 ys (by rfl) HYL.out (by rintro ⟨⟩) HRA.out HY1.out (by omega) (by omega) ?_)
      intro v' w' H1
      clear H
      go_wp2
      go_ret
      exact ⟨_, rfl, H1⟩
    · cases A with
      | none =>
        have := hA rfl
        omega
      | some a =>
        clear hA
        go_wp2_with (at_builtin; refine wpList_append_any_st H (by rfl) (.tmp 23) (.tmp 24) 22 (by rfl) Tryd.infoAcc (by rfl) (by decide) Tryd.underlying22 (by rfl) (some ⟨gv, 0, none⟩) 1 1 ys (by rfl) HYL.out (by rintro ⟨⟩) HRA.out HY1.out (by omega) (by omega) ?_)
        intro v' w' H1
        clear H
        go_wp2
        go_ret
        exact ⟨_, rfl, H1⟩
end
end Go.Proofs.YtcdljlaoedaliaaDoor
