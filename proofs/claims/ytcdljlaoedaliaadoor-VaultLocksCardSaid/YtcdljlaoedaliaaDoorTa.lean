/- The tables out of a row's list. -/
import Derived.Test.YtcdljlaoedaliaaDoorRows
import Derived.Test.YtcdljlaoedaliaaDoorBk
import Derived.WalkKit
import Derived.ProofKit
import Derived.OpenShut
import Derived.Deep.DeepHandedRow
import Derived.Lib.LaidTab
import Derived.Lay
set_option linter.unusedVariables false
namespace Go.Proofs.YtcdljlaoedaliaaDoor
open Go.RowKit Wd
theorem Tryd.own : ownKnob Tryd.prog.godebug = none := by kernel_rfl
theorem Tryd.laidOut : laidOutB Tryd.prog = true := by kernel_rfl
theorem Tryd.gFirst : Tryd.prog.globalNamed "lantern/sha.first" = some 0 := by kernel_rfl
theorem Tryd.gKnown : Tryd.prog.globalNamed "lantern/sha.known" = some 2 := by kernel_rfl
theorem Tryd.gFirstT : (Tryd.prog.globals[0]?).map (·.type) = some 96 := by kernel_rfl
theorem Tryd.gKnownT : (Tryd.prog.globals[2]?).map (·.type) = some 97 := by kernel_rfl
theorem Tryd.cells_u32 : Tryd.prog.cellsOf 95 = 1 := by kernel_rfl
theorem Tryd.cells_8 : Tryd.prog.cellsOf 96 = 8 := by kernel_rfl
theorem Tryd.cells_64 : Tryd.prog.cellsOf 97 = 64 := by kernel_rfl
theorem tab_of_var {W : World} {name : String} {g : Nat} {cs : List Value} (hg : Tryd.prog.globalNamed name = some g) (h : W.var? Tryd.prog name = some cs.toArray) : Tab W g cs := by
  unfold World.var? at h
  rw [hg] at h
  simp only [Option.bind_some] at h
  split at h
  · rename_i c t fr he
    injection h with h
    exact ⟨t, fr, by rw [he, h]⟩
  · cases h
theorem tabs_of {W : World} (h : laidMet Tryd.prog [("lantern/sha.first", Rows.laid_lantern_sha_first), ("lantern/sha.known", Rows.laid_lantern_sha_known)] W) : Tabs W := by
  obtain ⟨ps, ⟨g1, t1, cs1, fuel1, p1, q1, hg1, ht1, hvar1, hd1, hrest, _⟩, _⟩ := h
  obtain ⟨g2, t2, cs2, fuel2, p2, q2, hg2, ht2, hvar2, hd2, _, _⟩ := hrest
  obtain rfl := Option.some.inj (Tryd.gFirst.symm.trans hg1)
  obtain rfl := Option.some.inj (Tryd.gFirstT.symm.trans ht1)
  obtain rfl := Option.some.inj (Tryd.gKnown.symm.trans hg2)
  obtain rfl := Option.some.inj (Tryd.gKnownT.symm.trans ht2)
  rw [show Rows.laid_lantern_sha_first = Lib.tabData .u32 (Sha.first.list.map fun x => (x.toNat : Int)) from by kernel_rfl] at hd1
  rw [show Rows.laid_lantern_sha_known = Lib.tabData .u32 (Sha.known.map fun x => (x.toNat : Int)) from by kernel_rfl] at hd2
  have e1 := Lib.cells_of_tab (k := .u32) (zs := Sha.first.list.map fun x => (x.toNat : Int)) Tryd.underlying96 Tryd.underlying95 Tryd.cells_u32 Tryd.cells_8 hd1
  have e2 := Lib.cells_of_tab (k := .u32) (zs := Sha.known.map fun x => (x.toNat : Int)) Tryd.underlying97 Tryd.underlying95 Tryd.cells_u32 Tryd.cells_64 hd2
  refine ⟨tab_of_var Tryd.gFirst ?_, tab_of_var Tryd.gKnown ?_⟩
  · rw [hvar1, show cs1 = (Sha.wv Sha.first.list).toArray from Array.ext' (by rw [e1, List.map_map]; rfl)]
  · rw [hvar2, show cs2 = (Sha.wv Sha.known).toArray from Array.ext' (by rw [e2, List.map_map]; rfl)]
end Go.Proofs.YtcdljlaoedaliaaDoor
