/- The law's like: a store tells just what the document's does. -/
import Derived.Test.YtepgmebklhemgaaGreatDoorY7
import Derived.Test.YtepgmebklhemgaaGreatDoorG3
set_option linter.unusedVariables false
set_option linter.unusedSimpArgs false
namespace Go.Proofs.YtepgmebklhemgaaGreatDoor
open Go.RowKit Wd
theorem Kv.scan_sorted {l D : List Kv.Pr} (h : Kv.Rel l D) (p : List UInt8) {ps : List Pa} (hp : (ps.map Pa.pr).Perm (Kv.scan D p)) (hs : ps.Pairwise fun p q => ¬ Kv.plt q p) : ps.map Pa.pr = Kv.scan l p := by
  have h1 : Kv.Sorted (Kv.scan l p) := Kv.sorted_filter h.1 _
  have h2 : (Kv.scan l p).Perm (Kv.scan D p) := h.2.filter _
  have h3 : (ps.map Pa.pr).Perm (Kv.scan l p) := hp.trans h2.symm
  refine Kv.sorted_eq ?_ h1 h3
  have h4 : Kv.Apart (ps.map Pa.pr) := Kv.apart_perm (Kv.sorted_apart h1) h3.symm
  unfold Kv.Sorted
  unfold Kv.Apart at h4
  rw [List.pairwise_map] at h4 ⊢
  refine (hs.and h4).imp fun {a b} hh => ?_
  rcases Kv.tlt_tri a.pr.1 b.pr.1 with h5 | h5 | h5
  · exact h5
  · exact absurd h5 hh.2
  · exact absurd h5 hh.1
theorem Kv.scan_all (l : List Kv.Pr) : Kv.scan l [] = l := by
  unfold Kv.scan
  refine List.filter_eq_self.2 fun a _ => ?_
  unfold Kv.begins
  simp
section
variable {w0 w : World} {M : Mem} {L : List Ent} {s g f mb gen en : Nat} {F : FM} {ls : List (List UInt8)} {D : List Pa}
def RetLike (w0 : World) (M : Mem) (s g f mb : Nat) (F : FM) (gen : Nat) (ls : List (List UInt8)) (en : Nat) (D : List Pa) (L : List Ent) (e : Ending) (w' : World) : Prop :=
  ∃ M', e = .returned (.bool true) ∧ M.le M' ∧ KS w0 w' M' s g f mb F gen ls en D L
end
end Go.Proofs.YtepgmebklhemgaaGreatDoor
