/- Contracts of block's Dump and Load. -/
import Derived.Test.YtpomjaidaignpaaBd
import Derived.Maps.AppendAt
set_option linter.unusedVariables false
set_option linter.unusedSimpArgs false
namespace Go.Proofs.Ytpomjaidaignpaa
open Go.RowKit Wd

theorem take_row (l : List UInt8) (k : Nat) : l.take (64 * (k + 1)) = l.take (64 * k) ++ (l.drop (64 * k)).take 64 := by
  rw [show 64 * (k + 1) = 64 * k + 64 from by omega, List.take_add]
set_option maxRecDepth 100000 in
theorem dump_any {w : World} {base f lb : Nat} {F : FM} {pv : Value} (hF : IsF w base f lb F pv) :
    Calls Try.prog 60 #[.pointer (some ⟨f, 0, none⟩)] w fun e w' =>
      ∃ g c, e = .returned (.slice (some ⟨g, 0, none⟩) (64 * F.n) c) ∧ w'.ownsRow w.heap.size 5 1 (.slice (some ⟨g, 0, none⟩) (64 * F.n) c) (64 * F.n) (bv F.l) ∧ Below w.heap.size w w' := by
  obtain ⟨i0, hi, hz0, hz1, hz2⟩ := info_parts Try.info5
  have n1 := hF.ok.n1
  have n2 := hF.ok.n2
  have hlen := hF.ok.len
  have HLen := Lib.hid hlen
  clear hlen
  go_enter Try.func60, Try.ntmps60
  go_wp2_with (go_at_call 59; refine (blocks_any hF).mono ?_; rintro e w' ⟨rfl, rfl⟩)
  go_loopw [3, 4, 7] (fun v _ i wr => ∃ k : Nat, k ≤ F.n ∧ i = .int .i64 k ∧ wr.ownsRow w.heap.size 5 1 v (64 * k) (bv (F.l.take (64 * k))) ∧ Below w.heap.size w wr) (fun _ _ i _ => F.n - (intOf i).toNat)
  case atStart => exact ⟨0, by omega, rfl, by simpa [bv] using World.ownsRow_nil _ _ _ _, Below.refl _ _⟩
  case round =>
    obtain ⟨k, hk, rfl, hown, hbe⟩ := hrel
    have hFr := hF.below hbe
    obtain ⟨c0, -, -, -, -, -⟩ := hFr.cells
    have hr := hFr.range k
    by_cases hlt : k < F.n
    · have hat := FM.at_length hF.ok hlt
      have HA := Lib.hid hat
      clear hat
      go_wp2_with (at_builtin; refine wpList_append_own _ rfl _ _ 25 rfl w.heap.size 5 i0 (.int .u8 0) 1 1 Try.underlying25 hi hz0 hz1 hz2 rfl (by decide) _ _ _ rfl hown ⟨lb, k * 64, none⟩ 64 64 (bv (F.at_ k)) (by rfl) ?c1 (range_news hr) (bv_one _) ?c3 ?c4 ?c5 ?_)
      case c1 => rw [bv_length, HA.out]
      case c3 => unfold maxLen; omega
      case c4 => omega
      case c5 => exact hbe.size
      intro v' w1 hown1 hgrow _
      go_wp2
      go_roundw
      case rel =>
        refine ⟨k + 1, by omega, by go_num, ?_, hbe.grown hgrow hbe.size (fun g hg => (hown.lt g hg).1)⟩
        rw [take_row, bv_append]
        exact hown1
      case measure => simp [intOf]; omega
    · obtain rfl : k = F.n := by omega
      go_wp2
      go_ret
      obtain ⟨g, c, hv, _, _⟩ := hown.form (by omega)
      subst hv
      rw [← HLen.out, List.take_length] at hown
      rw [HLen.out] at hown
      exact ⟨g, c, rfl, hown, hbe⟩

/-- A file that has bytes. -/
def FM.load (l : List UInt8) : FM := ⟨l.length / 64, l, [], false, false, 0, 0⟩
/-- What the first k rows of a loaded file hold. -/
def loading (l : List UInt8) (n k : Nat) : List UInt8 := l.take (64 * k) ++ List.replicate (64 * (n - k)) 0
theorem loading_zero (l : List UInt8) (n : Nat) : loading l n 0 = List.replicate (64 * n) 0 := by simp [loading]
theorem loading_full (l : List UInt8) (n : Nat) (h : l.length = 64 * n) : loading l n n = l := by simp [loading, ← h]
theorem loading_length (l : List UInt8) (n k : Nat) (h : l.length = 64 * n) (hk : k ≤ n) : (loading l n k).length = 64 * n := by simp [loading]; omega
theorem loading_step (l : List UInt8) (n k : Nat) (h : l.length = 64 * n) (hk : k < n) : spl (loading l n k) (64 * k) ((l.drop (64 * k)).take 64) = loading l n (k + 1) := by
  have e1 : (l.take (64 * k)).length = 64 * k := by simp; omega
  have e2 : ((l.drop (64 * k)).take 64).length = 64 := by simp; omega
  unfold spl loading
  have e3 : (l.take (64 * k) ++ List.replicate (64 * (n - k)) (0 : UInt8)).drop (64 * k + 64) = List.replicate (64 * (n - (k + 1))) 0 := by
    rw [List.drop_append, e1, List.drop_eq_nil_of_le (by omega), List.nil_append, List.drop_replicate]
    congr 1
    omega
  rw [take_row, List.take_left' e1, e2, e3]

end Go.Proofs.Ytpomjaidaignpaa
