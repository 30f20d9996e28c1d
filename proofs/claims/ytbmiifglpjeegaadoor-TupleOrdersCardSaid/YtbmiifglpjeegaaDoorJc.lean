/- strings.Builder beside other memory: its methods' contracts. -/
import Derived.Test.YtbmiifglpjeegaaDoorChecked
import Derived.Test.YtbmiifglpjeegaaDoorWk
import Derived.Test.YtbmiifglpjeegaaDoorSg
import Derived.Test.YtbmiifglpjeegaaDoorPt
import Derived.Test.YtbmiifglpjeegaaDoorI5
import Derived.Lib.UnsafeStr
import Derived.Lib.Builder
set_option linter.unusedVariables false
set_option linter.unusedSimpArgs false
namespace Go.Proofs.YtbmiifglpjeegaaDoor
open Go.RowKit Wd
/-- A builder at g: what it holds. -/
def BB (w0 w : World) (M : Mem) (g : Nat) (l : List UInt8) (L : List Ent) : Prop :=
  ∃ a v, (a = .pointer none ∨ a = .pointer (some ⟨g, 0, none⟩)) ∧ St w0 w M (eb g 52 [a, v] :: er 5 1 v l.length (bv l) :: L)
section
variable {w0 w : World} {M : Mem} {L : List Ent} {g : Nat} {l : List UInt8}
theorem BB.rest (H : BB w0 w M g l L) : St w0 w M L := by
  obtain ⟨a, v, _, H⟩ := H
  exact H.d0.d0
theorem BB.drew (H : BB w0 w M g l L) : BB w0 w.drew M g l L := by
  obtain ⟨a, v, h, H⟩ := H
  exact ⟨a, v, h, H.drew⟩
theorem BB.drewN (H : BB w0 w M g l L) (n : Nat) : BB w0 (w.drewN n) M g l L := by
  obtain ⟨a, v, h, H⟩ := H
  exact ⟨a, v, h, H.drewN n⟩
theorem BB.belowK {w' : World} (H : BB w0 w M g l L) (k : Below w.heap.size w w') : BB w0 w' M g l L := by
  obtain ⟨a, v, h, H⟩ := H
  exact ⟨a, v, h, H.belowK k⟩
theorem BB.new (H : St w0 w M L) : BB w0 (w.alloc (.cells #[.pointer none, .slice none 0 0] 52)) M w.heap.size [] L :=
  ⟨_, _, .inl rfl, ((H.addNil 5 1).new [.pointer none, .slice none 0 0] 52)⟩
/-- Other entries aside: a builder beside all. -/
theorem BB.out (H : BB w0 w M g l L) : ∃ Z : List Ent, St w0 w M Z ∧ (∀ w' M', St w0 w' M' Z → BB w0 w' M' g l L) ∧ (∀ w' M' e', St w0 w' M' (e' :: Z) → BB w0 w' M' g l (e' :: L)) ∧ ∀ A k, Sr w0 M L A k → Sr w0 M Z A k := by
  obtain ⟨a, v, h, H⟩ := H
  exact ⟨_, H, fun w' M' h' => ⟨a, v, h, h'⟩, fun w' M' e' h' => ⟨a, v, h, h'.b2⟩, fun A k hs w' M' hM h' => hs w' M' hM h'.d0.d0⟩
theorem BB.drop {e : Ent} (H : BB w0 w M g l (e :: L)) : BB w0 w M g l L := by
  obtain ⟨a, v, h, H⟩ := H
  exact ⟨a, v, h, H.sub (.cons_cons _ (.cons_cons _ (List.sublist_cons_self _ _)))⟩
theorem Tryd.sizeBuilder : (Tryd.prog.info? 52).map (·.size) = some 2 := by kernel_rfl
theorem Tryd.liesBuilder : liesAt Tryd.prog Tryd.prog.depth 52 (2 / Tryd.prog.cellsOf 52) 0 52 1 = true := by kernel_rfl
set_option maxRecDepth 100000 in
theorem cc_any {a v : Value} (ha : a = .pointer none ∨ a = .pointer (some ⟨g, 0, none⟩)) (H : St w0 w M (eb g 52 [a, v] :: L)) :
    Calls Tryd.prog 47 #[.pointer (some ⟨g, 0, none⟩)] w fun e w' => e = .returned (.tuple #[]) ∧ St w0 w' M (eb g 52 [.pointer (some ⟨g, 0, none⟩), v] :: L) := by
  obtain ⟨j, hj, hjs⟩ := Option.map_eq_some_iff.1 Tryd.sizeBuilder
  have c0 := H.cell 0 rfl 0
  have f0 := H.frozen 0 rfl 0
  have HS := H.set 0 (.pointer (some ⟨g, 0, none⟩))
  have hsh : w.shape? g = some (52, 2) := by
    have := H.blk 0 rfl
    unfold Blk at this
    simp [World.shape?, this]
  rcases ha with rfl | rfl
  · go_enter Tryd.func47, Tryd.ntmps47
    go_wp2
    rw [Lib.run_to_unsafe w ⟨g, 0, none⟩ Tryd.underlying50 Tryd.underlying80 hj (by rw [hjs]; decide) hsh (Nat.zero_lt_succ 1)]
    simp only [Result.andThen]
    rw [Oper.upon_value]
    go_wp2
    rw [run_callFunc_extern Tryd.func51 (by kernel_rfl) (by kernel_rfl) (by kernel_rfl) (e := Extern.AbiNoEscape.same) (by kernel_rfl)]
    rw [Lib.run_noEscape]
    simp only [Result.andThen]
    rw [Oper.upon_value]
    go_wp2
    rw [Lib.run_from_unsafe w ⟨g, 0, none⟩ Tryd.underlying80 Tryd.underlying50 hj hsh Tryd.liesBuilder]
    simp only [Result.andThen]
    rw [Oper.upon_value]
    go_wp2
    go_end0
    exact ⟨rfl, HS⟩
  · go_enter Tryd.func47, Tryd.ntmps47
    go_wp2
    rw [Lib.run_neq_ptr_same w _ Tryd.underlying50 hj]
    go_wp2
    go_end0
    exact ⟨rfl, H⟩
set_option maxRecDepth 100000 in
theorem wbyte_any (H : BB w0 w M g l L) (c : UInt8) (hl : l.length ≤ 140737488355000) :
    Calls Tryd.prog 39 #[.pointer (some ⟨g, 0, none⟩), .int .u8 (c.toNat : Int)] w fun e w' => (∃ v, e = .returned v) ∧ BB w0 w' M g (l ++ [c]) L := by
  obtain ⟨a, v, ha, H⟩ := H
  have hcc := cc_any ha H
  have HCC := Lib.hid hcc
  clear hcc H
  go_enter Tryd.func39, Tryd.ntmps39
  go_wp2_with fail
  refine HCC.out.mono ?_
  rintro e w1 ⟨rfl, H1⟩
  obtain ⟨A1, c1, rfl, hc1⟩ := H1.shape 1 rfl
  have e1 := H1.cell 0 rfl 1
  go_wp2_with (at_builtin; refine wpList_append1_st H1.f1 (by rfl) (.tmp 11) (.tmp 13) 47 (by rfl) Tryd.info5 (by rfl) Tryd.underlying47 (by rfl) (by rfl) (by rfl) (by omega) (by omega) ?_)
  intro v2 w2 H2
  obtain ⟨A2, c2, rfl, hc2⟩ := H2.shape 0 rfl
  have f1 := H2.frozen 1 rfl 1
  have x1 := H2.cell 1 rfl 1
  have H3 := H2.f1.set 1 (.slice A2 (l.length + 1) c2)
  go_wp2
  go_ret
  refine ⟨⟨_, rfl⟩, .pointer (some ⟨g, 0, none⟩), .slice A2 (l.length + 1) c2, .inr rfl, ?_⟩
  rw [List.length_append, bv_append]
  exact H3
set_option maxRecDepth 100000 in
theorem wstr_any (H : BB w0 w M g l L) (s : List UInt8) (hl : l.length + s.length ≤ 140737488355000) :
    Calls Tryd.prog 38 #[.pointer (some ⟨g, 0, none⟩), .string ⟨s.toArray⟩] w fun e w' => (∃ v, e = .returned v) ∧ BB w0 w' M g (l ++ s) L := by
  obtain ⟨a, v, ha, H⟩ := H
  have hcc := cc_any ha H
  have HCC := Lib.hid hcc
  clear hcc H
  go_enter Tryd.func38, Tryd.ntmps38
  go_wp2_with fail
  refine HCC.out.mono ?_
  rintro e w1 ⟨rfl, H1⟩
  obtain ⟨A1, c1, rfl, hc1⟩ := H1.shape 1 rfl
  have e1 := H1.cell 0 rfl 1
  go_wp2_with (at_builtin; refine wpList_append_str_st H1.f1 (by rfl) (.tmp 12) (.tmp 13) 47 9 (by rfl) Tryd.info5 Tryd.underlying47 Tryd.underlying9 (by rfl) s (by rfl) (by omega) ?_)
  intro v2 w2 H2
  obtain ⟨A2, c2, rfl, hc2⟩ := H2.shape 0 rfl
  have f1 := H2.frozen 1 rfl 1
  have x1 := H2.cell 1 rfl 1
  have H3 := H2.f1.set 1 (.slice A2 (l.length + s.length) c2)
  go_wp2
  go_ret2
  refine ⟨⟨_, rfl⟩, .pointer (some ⟨g, 0, none⟩), .slice A2 (l.length + s.length) c2, .inr rfl, ?_⟩
  rw [List.length_append, bv_append]
  exact H3
set_option maxRecDepth 100000 in
theorem blen_any (H : BB w0 w M g l L) :
    Calls Tryd.prog 26 #[.pointer (some ⟨g, 0, none⟩)] w fun e w' => e = .returned (.int .i64 (l.length : Int)) ∧ w = w' := by
  obtain ⟨a, v, ha, H⟩ := H
  obtain ⟨A1, c1, rfl, hc1⟩ := H.shape 1 rfl
  have e1 := H.cell 0 rfl 1
  go_enter Tryd.func26, Tryd.ntmps26
  go_wp2
  go_ret
  exact ⟨rfl, rfl⟩
theorem keeps_freeze (w : World) (g n : Nat) : Keeps w (w.freeze ⟨g, 0, none⟩ n) (· = g) := by
  unfold World.freeze
  split
  · exact Keeps.refl w _
  · exact ⟨rfl, rfl, rfl, by simp, fun k hk hn => by
      simp only [Array.getElem?_modify]
      rw [if_neg (fun h => hn h.symm)]⟩
theorem Tryd.cellsByte : Tryd.prog.cellsOf 5 = 1 := by kernel_rfl
set_option maxRecDepth 100000 in
theorem bstr_any (H : BB w0 w M g l L) :
    Calls Tryd.prog 27 #[.pointer (some ⟨g, 0, none⟩)] w fun e w' => e = .returned (.string ⟨l.toArray⟩) ∧ St w0 w' M L := by
  obtain ⟨a, v, ha, H⟩ := H
  have c1 := H.drew.cell 0 rfl 1
  have hown := H.own 1 rfl
  have hd0 := H.drew.d0
  have hd2 := H.drew.d0.d0
  by_cases h0 : l = []
  · subst h0
    have hUS : ∀ (W : World) (q : Option Addr), (Builtin.unsafeString_ #[74, 3] 9 #[.pointer q, .int .i64 0]).run Tryd.prog W = .ok (.string .empty) W := fun W q => Lib.run_unsafeString_none W _ _ _ q
    rcases hown.2 with ⟨rfl, _⟩ | ⟨b, cap, cur, rfl, _, hb, _, _, _, _⟩
    · have hSD : (Builtin.unsafeSliceData_ #[47] 74 #[.slice none 0 0]).run Tryd.prog w.drew = .ok (.pointer none) w.drew := rfl
      go_enter Tryd.func27, Tryd.ntmps27
      go_wp2
      go_region
      all_goals (go_wp2; go_ret; exact ⟨rfl, hd2⟩)
    · by_cases hc : cap = 0
      · subst hc
        have hSD : (Builtin.unsafeSliceData_ #[47] 74 #[.slice (some ⟨b, 0, none⟩) 0 0]).run Tryd.prog w.drew = .ok (.pointer (some ⟨w.drew.heap.size, 0, none⟩)) (w.drew.alloc (.view ⟨b, 0, none⟩ 5)) :=
          Lib.run_unsafeSliceData_zero w.drew _ _ 5 Tryd.underlying74 ⟨b, 0, none⟩ 0 (5, cur.size) (by have hg' : w.drew.heap[b]? = some (.cells cur 5 (0, 0)) := hb; simp [World.shape?, hg'])
        have hA := H.drew.alloc (.view ⟨b, 0, none⟩ 5)
        have c2 := hA.cell 0 rfl 1
        have c3 : (w.alloc (.view ⟨b, 0, none⟩ 5)).drew.cell? ⟨g, 1, none⟩ = some (.slice (some ⟨b, 0, none⟩) 0 0) := c2
        have c0 := H.cell 0 rfl 1
        have hd := hA.d0.d0
        go_enter Tryd.func27, Tryd.ntmps27
        go_wp2
        go_region
        all_goals (go_wp2; go_ret; exact ⟨rfl, hd⟩)
      · have hSD : (Builtin.unsafeSliceData_ #[47] 74 #[.slice (some ⟨b, 0, none⟩) 0 cap]).run Tryd.prog w.drew = .ok (.pointer (some ⟨b, 0, none⟩)) w.drew := Lib.run_unsafeSliceData_row _ _ _ _ _ _ hc
        go_enter Tryd.func27, Tryd.ntmps27
        go_wp2
        go_region
        all_goals (go_wp2; go_ret; exact ⟨rfl, hd2⟩)
  · have hl0 : l.length ≠ 0 := by simpa using h0
    obtain ⟨b, cap, cur, rfl, hbb, hb, hnc, hcm, hcs, htake⟩ : ∃ b cap cur, v = .slice (some ⟨b, 0, none⟩) l.length cap ∧ w0.heap.size ≤ b ∧ w.heap[b]? = some (.cells cur 5 (0, 0)) ∧ l.length ≤ cap ∧ cap ≤ maxLen ∧ cur.size = cap * 1 ∧ cur.toList.take (l.length * 1) = bv l := by
      rcases hown.2 with ⟨_, hz⟩ | ⟨b, cap, cur, hv, r⟩
      · exact absurd hz hl0
      · exact ⟨b, cap, cur, hv, r⟩
    have hSD : (Builtin.unsafeSliceData_ #[47] 74 #[.slice (some ⟨b, 0, none⟩) l.length cap]).run Tryd.prog w.drew = .ok (.pointer (some ⟨b, 0, none⟩)) w.drew := Lib.run_unsafeSliceData_row _ _ _ _ _ _ (by omega)
    have hUS : (Builtin.unsafeString_ #[74, 3] 9 #[.pointer (some ⟨b, 0, none⟩), .int .i64 l.length]).run Tryd.prog w.drew = .ok (.string ⟨l.toArray⟩) (w.drew.freeze ⟨b, 0, none⟩ l.length) := by
      refine Lib.run_unsafeString_row w.drew 74 3 9 5 Tryd.underlying74 Tryd.cellsByte b cur.size (by have hg' : w.drew.heap[b]? = some (.cells cur 5 (0, 0)) := hb; simp [World.shape?, hg']) l h0 (by omega) (by unfold maxLen at hcm; omega) ?_
      intro j x hx
      have := hown.cells (g := b) rfl j (.int .u8 x.toNat) (by rw [bv_get, hx]; rfl)
      exact this
    have hkeep : St w0 (w.drew.freeze ⟨b, 0, none⟩ l.length) M L :=
      hd2.keep (keeps_freeze w.drew b l.length) (fun e he j hj hjb => by
        subst hjb
        exact (List.pairwise_cons.1 hd0.apart).1 e he j rfl hj) (fun j hj => by
        subst hj
        exact (Ent.holds_lt (hd0.get 0 rfl) rfl).1)
    clear hown hb hcs htake hbb
    go_enter Tryd.func27, Tryd.ntmps27
    go_wp2
    go_region
    all_goals (go_wp2; go_ret; exact ⟨rfl, hkeep⟩)
end
end Go.Proofs.YtbmiifglpjeegaaDoor
