/- Contracts of sha's Hash: New, Len. -/
import Derived.Test.YtcdljlaoedaliaaDoorBk
import Derived.Test.YtcdljlaoedaliaaDoorHm
import Derived.Test.YtcdljlaoedaliaaDoorAp
import Derived.Test.YtcdljlaoedaliaaDoorI5
set_option linter.unusedVariables false
set_option linter.unusedSimpArgs false
namespace Go.Proofs.YtcdljlaoedaliaaDoor
open Go.RowKit Wd

def hcells (H : Sha.HM) (rv : Value) : List Value := .bool true :: (Sha.wv H.h.list ++ [rv, .int .i64 (H.n : Int)])
/-- In the world w the sum H lies at block g. -/
structure IsH (w : World) (base g : Nat) (H : Sha.HM) (rv : Value) : Prop where
  blk : Blk w g 119 (hcells H rv)
  own : w.ownsRow base 5 1 rv H.rest.length (bv H.rest)
  hg : base ≤ g
theorem IsH.keep {w w' : World} {base g : Nat} {H : Sha.HM} {rv : Value} {S : Nat → Prop} (h : IsH w base g H rv) (hk : Keeps w w' S) (h1 : ¬ S g) (h3 : ∀ k, rv.ownBlock = some k → ¬ S k) : IsH w' base g H rv :=
  ⟨hk.blk h.blk h1, hk.own h.own h3, h.hg⟩
theorem IsH.below {w w' : World} {base g : Nat} {H : Sha.HM} {rv : Value} (h : IsH w base g H rv) (hb : Below w.heap.size w w') : IsH w' base g H rv :=
  h.keep (Keeps.of_below hb fun _ => False) id fun _ _ => id
theorem Tryd.zero43 : (Tryd.prog.info? 119).map (fun i => (i.zero, i.size)) = some (some (.agg (.bool false :: (List.replicate 8 (.int .u32 0) ++ [.slice none 0 0, .int .i64 0])).toArray), 11) := by kernel_rfl

set_option maxRecDepth 100000 in
theorem hash_new {w : World} (ht : Tabs w) : Calls Tryd.prog 77 #[] w fun e w' =>
    e = .returned (.pointer (some ⟨w.heap.size, 0, none⟩)) ∧ IsH w' w.heap.size w.heap.size Sha.HM.new (.slice none 0 0) ∧ Below w.heap.size w w' ∧ w'.heap.size = w.heap.size + 1 := by
  have c0 := ht.first.cell 0
  have c1 := ht.first.cell 1
  have c2 := ht.first.cell 2
  have c3 := ht.first.cell 3
  have c4 := ht.first.cell 4
  have c5 := ht.first.cell 5
  have c6 := ht.first.cell 6
  have c7 := ht.first.cell 7
  simp only [Sha.wv, Sha.V8.list, List.map_cons, List.map_nil, List.getElem?_cons_zero, List.getElem?_cons_succ] at c0 c1 c2 c3 c4 c5 c6 c7
  go_enter Tryd.func77, Tryd.ntmps77
  go_wp2
  go_ret
  refine ⟨rfl, ⟨Blk.new w 119 (hcells Sha.HM.new (.slice none 0 0)), World.ownsRow_nil _ _ _ _, Nat.le_refl _⟩, (Below.refl _ _).alloc (Nat.le_refl _) _, Array.size_push _⟩
end Go.Proofs.YtcdljlaoedaliaaDoor
