/- The reference of files: contracts of Sync, Fuse, Read. -/
import Derived.Test.YtinhpiggakillaaR2
import Derived.Test.YtinhpiggakillaaRt
set_option linter.unusedVariables false
set_option linter.unusedSimpArgs false
namespace Go.Proofs.Ytinhpiggakillaa
open Go.RowKit Wd

theorem Try.sizeRF : (Try.prog.info? 38).map (·.size) = some 6 := by kernel_rfl
def rfz : List Value := rfv none 0 0 none 0 0 false 0 0 false
theorem Wd.St.cells6 {w0 w : World} {M : Mem} {L : List Ent} {g : Nat} {t : TypeId} {a b c d e f : Value} (H : St w0 w M L) (i : Nat) (hi : L[i]? = some (eb g t [a, b, c, d, e, f])) :
    w.cell? ⟨g, 0, none⟩ = some a ∧ w.cell? ⟨g, 1, none⟩ = some b ∧ w.cell? ⟨g, 2, none⟩ = some c ∧ w.cell? ⟨g, 3, none⟩ = some d ∧ w.cell? ⟨g, 4, none⟩ = some e ∧ w.cell? ⟨g, 5, none⟩ = some f :=
  ⟨H.cell i hi 0, H.cell i hi 1, H.cell i hi 2, H.cell i hi 3, H.cell i hi 4, H.cell i hi 5⟩

set_option maxRecDepth 100000 in
theorem ref_sync {w0 w : World} {M : Mem} {F : List Ent} (H : St w0 w M F) {A B : Option Addr} {c d n : Nat} {l : List UInt8} {ws : List WE} (s o : Bool) (lf t : Int) (hA : A = none → c = 0) (hc : l.length ≤ c) (hl : In M (RB · A l)) (hw : In M (WR · B ws)) (hn : l.length = 64 * n) (hn2 : n ≤ 4096) (hok : ∀ e ∈ ws, e.ok n) (hlen : ws.length ≤ 1000) :
    Calls Try.prog 25 #[.agg #[.slice A l.length c, .slice B ws.length d, .bool s, .int .i64 lf, .int .i64 t, .bool o]] w fun e w' =>
      ∃ A' c' M', e = .returned (.agg (rfv A' l.length c' none 0 0 s lf t o).toArray) ∧ (A' = none → c' = 0) ∧ l.length ≤ c' ∧ M.le M' ∧ In M' (RB · A' (lay l ws)) ∧ St w0 w' M' F := by
  have H1 := (H.new [.slice A l.length c, .slice B ws.length d, .bool s, .int .i64 lf, .int .i64 t, .bool o] 38)
  have H2 := H1.newg rfz 38 (g := w.heap.size + 1) (by simp)
  have HN := Lib.hid hn
  clear hn
  go_enter Try.func25, Try.ntmps25
  go_wp2_with fail
  refine (ref_dump H2 s o lf t hA hc hl hw HN.out hn2 hok hlen).mono ?_
  rintro e w3 ⟨A', c', M', rfl, hA', hc', hM', hl', H3⟩
  clear H1 H2 H
  generalize w.heap.size = g at *
  obtain ⟨z0, z1, z2, z3, z4, z5⟩ := H3.cells6 1 rfl
  obtain ⟨y0, y1, y2, y3, y4, y5⟩ := H3.cells6 0 rfl
  have f1 := H3.frozen 1 rfl
  have f2 := H3.frozen 0 rfl
  have ne1 : (g + 1 = g) = False := by simp
  go_wp2
  have H4 := ((((((((H3.f1.set 0 (.slice A' l.length c')).set 1 (.slice none 0 0)).f1.set 0 (.slice A' l.length c')).set 1 (.slice none 0 0)).set 2 (.bool s)).set 3 (.int .i64 lf)).set 4 (.int .i64 t)).set 5 (.bool o))
  exact ret_row H4 (by rfl) (by rfl) Try.underlying38 (by rfl) (by exact Try.sizeRF) rfl ⟨A', c', M', rfl, hA', hc', hM', hl', H4.d0.d0⟩
end Go.Proofs.Ytinhpiggakillaa
