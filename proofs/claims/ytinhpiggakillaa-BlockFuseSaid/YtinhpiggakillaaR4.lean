/- The reference of files: contracts of Fuse, Read. -/
import Derived.Test.YtinhpiggakillaaR3
set_option linter.unusedVariables false
set_option linter.unusedSimpArgs false
namespace Go.Proofs.Ytinhpiggakillaa
open Go.RowKit Wd

set_option maxRecDepth 100000 in
theorem ref_fuse {w0 w : World} {M : Mem} {F : List Ent} (H : St w0 w M F) (A B : Option Addr) (c d n m : Nat) (s o : Bool) (lf t k u : Int) :
    Calls Try.prog 26 #[.agg #[.slice A n c, .slice B m d, .bool s, .int .i64 lf, .int .i64 t, .bool o], .int .i64 k, .int .i64 u] w fun e w' =>
      e = .returned (.agg (rfv A n c B m d (!o) (max 0 k) u o).toArray) ∧ St w0 w' M F := by
  obtain ⟨K, hK⟩ : ∃ K, K = max 0 k := ⟨_, rfl⟩
  rw [← hK]
  by_cases hk : k < 0
  · obtain rfl : K = 0 := by omega
    clear hK
    go_enter Try.func26, Try.ntmps26
    go_wp2
    have H4 := (H.new (rfv A n c B m d (!o) 0 u o) 38).newg (rfv A n c B m d (!o) 0 u o) 38 (g := w.heap.size + 1) (by simp)
    exact ret_row H4 (by rfl) (by rfl) Try.underlying38 (by rfl) (by exact Try.sizeRF) rfl ⟨rfl, H4.d0.d0⟩
  · obtain rfl : K = k := by omega
    clear hK
    go_enter Try.func26, Try.ntmps26
    go_wp2
    have H4 := (H.new (rfv A n c B m d (!o) K u o) 38).newg (rfv A n c B m d (!o) K u o) 38 (g := w.heap.size + 1) (by simp)
    exact ret_row H4 (by rfl) (by rfl) Try.underlying38 (by rfl) (by exact Try.sizeRF) rfl ⟨rfl, H4.d0.d0⟩

set_option maxRecDepth 100000 in
theorem ref_read_no {w0 w : World} {M : Mem} {F : List Ent} (H : St w0 w M F) (A B : Option Addr) (c d n m : Nat) (s o : Bool) (lf t i : Int) (hn : n ≤ 4096) (hi : i < 0 ∨ (n : Int) ≤ i) :
    Calls Try.prog 17 #[.agg #[.slice A (64 * n) c, .slice B m d, .bool s, .int .i64 lf, .int .i64 t, .bool o], .int .i64 i] w fun e w' =>
      e = .returned (.tuple #[.slice none 0 0, .bool false]) ∧ St w0 w' M F := by
  have H1 := (H.new [.slice A (64 * n) c, .slice B m d, .bool s, .int .i64 lf, .int .i64 t, .bool o] 38)
  rcases hi with hi | hi
  · go_enter Try.func17, Try.ntmps17
    go_wp2
    go_ret2
    exact ⟨rfl, H1.d0⟩
  · have g1 : ¬ i < 0 := by omega
    have g2 : decide (((64 * n : Nat) : Int) / 64 ≤ i) = true := by simp; omega
    go_enter Try.func17, Try.ntmps17
    go_wp2
    go_ret2
    exact ⟨rfl, H1.d0⟩
set_option maxRecDepth 100000 in
theorem ref_read {w0 w : World} {M : Mem} {F : List Ent} (H : St w0 w M F) {A B : Option Addr} {c d n : Nat} {l : List UInt8} {ws : List WE} (s o : Bool) (lf t : Int) (hA : A = none → c = 0) (hc : l.length ≤ c) (hl : In M (RB · A l)) (hw : In M (WR · B ws)) (hn : l.length = 64 * n) (hn2 : n ≤ 4096) (hok : ∀ e ∈ ws, e.ok n) (hlen : ws.length ≤ 1000) (i : Nat) (hi : i < n) :
    Calls Try.prog 17 #[.agg #[.slice A l.length c, .slice B ws.length d, .bool s, .int .i64 lf, .int .i64 t, .bool o], .int .i64 (i : Int)] w fun e w' =>
      ∃ A' c' M', e = .returned (.tuple #[.slice A' 64 c', .bool true]) ∧ M.le M' ∧ In M' (RB · A' (((lay l ws).drop (64 * i)).take 64)) ∧ St w0 w' M' F := by
  have H1 := (H.new [.slice A l.length c, .slice B ws.length d, .bool s, .int .i64 lf, .int .i64 t, .bool o] 38)
  have g1 : (i : Int) < (l.length : Int) / 64 := by omega
  have g2 : l.length ≤ 262144 := by omega
  have g3 : (i : Int) < 4096 := by omega
  have HN := Lib.hid hn
  clear hn
  go_enter Try.func17, Try.ntmps17
  go_wp2_with fail
  refine (ref_dump H1 s o lf t hA hc hl hw HN.out hn2 hok hlen).mono ?_
  rintro e w3 ⟨A', c', M', rfl, hA', hc', hM', hl', H3⟩
  have hll := lay_length l n HN.out ws hok
  obtain ⟨b, bo, rfl, _⟩ := hl'.now H3 (by intro h0; rw [h0] at hll; simp at hll; omega)
  have g4 : (64 : Int) * (i : Int) + 64 ≤ (l.length : Int) := by rw [HN.out]; omega
  have g5 : 64 * i + 64 ≤ l.length := by rw [HN.out]; omega
  clear hll
  go_wp2
  rw [show 64 * i + 64 - 64 * i = 64 from by omega]
  go_ret2
  exact ⟨_, _, M', rfl, hM', hl'.imp fun W hW => hW.sub, H3.d0⟩
end Go.Proofs.Ytinhpiggakillaa
