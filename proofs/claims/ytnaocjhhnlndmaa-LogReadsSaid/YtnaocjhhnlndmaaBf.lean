/- Contracts of block's Dump and Load. -/
import Derived.Test.YtnaocjhhnlndmaaBd
import Derived.Maps.AppendAt
set_option linter.unusedVariables false
set_option linter.unusedSimpArgs false
namespace Go.Proofs.Ytnaocjhhnlndmaa
open Go.RowKit Wd

theorem take_row (l : List UInt8) (k : Nat) : l.take (64 * (k + 1)) = l.take (64 * k) ++ (l.drop (64 * k)).take 64 := by
  rw [show 64 * (k + 1) = 64 * k + 64 from by omega, List.take_add]
set_option maxRecDepth 100000 in
theorem dump_any {w : World} {base f lb : Nat} {F : FM} {pv : Value} (hF : IsF w base f lb F pv) :
    Calls Try.prog 33 #[.pointer (some ⟨f, 0, none⟩)] w fun e w' =>
      ∃ g c, e = .returned (.slice (some ⟨g, 0, none⟩) (64 * F.n) c) ∧ w'.ownsRow w.heap.size 5 1 (.slice (some ⟨g, 0, none⟩) (64 * F.n) c) (64 * F.n) (bv F.l) ∧ Below w.heap.size w w' := by
  obtain ⟨i0, hi, hz0, hz1, hz2⟩ := info_parts Try.info5
  have n1 := hF.ok.n1
  have n2 := hF.ok.n2
  have hlen := hF.ok.len
  have HLen := Lib.hid hlen
  clear hlen
  go_enter Try.func33, Try.ntmps33
  go_wp2_with (go_at_call 25; refine (blocks_any hF).mono ?_; rintro e w' ⟨rfl, rfl⟩)
  go_loopw [3, 4, 7] (fun v _ i wr => ∃ k : Nat, k ≤ F.n ∧ i = .int .i64 k ∧ wr.ownsRow w.heap.size 5 1 v (64 * k) (bv (F.l.take (64 * k))) ∧ Below w.heap.size w wr) (fun _ _ i _ => F.n - (intOf i).toNat)
  case atStart => exact ⟨0, by omega, rfl, by simpa [bv] using World.ownsRow_nil _ _ _ _, Below.refl _ _⟩
  case round =>
    obtain ⟨k, hk, rfl, hown, hbe⟩ := hrel
    have hFr := hF.below hbe
    obtain ⟨c0, -, -, -, -, -⟩ := hFr.cells
    have hr := hFr.range k
    by_cases hlt : k < F.n
    · have hat := FM.at_length hF.ok hlt
      have HA := Lib.hid hat
      clear hat
      go_wp2_with (at_builtin; refine wpList_append_own _ rfl _ _ 22 rfl w.heap.size 5 i0 (.int .u8 0) 1 1 Try.underlying22 hi hz0 hz1 hz2 rfl (by decide) _ _ _ rfl hown ⟨lb, k * 64, none⟩ 64 64 (bv (F.at_ k)) (by rfl) ?c1 (range_news hr) (bv_one _) ?c3 ?c4 ?c5 ?_)
      case c1 => rw [bv_length, HA.out]
      case c3 => unfold maxLen; omega
      case c4 => omega
      case c5 => exact hbe.size
      intro v' w1 hown1 hgrow _
      go_wp2
      go_roundw
      case rel =>
        refine ⟨k + 1, by omega, by go_num, ?_, hbe.grown hgrow hbe.size (fun g hg => (hown.lt g hg).1)⟩
        rw [take_row, bv_append]
        exact hown1
      case measure => simp [intOf]; omega
    · obtain rfl : k = F.n := by omega
      go_wp2
      go_ret
      obtain ⟨g, c, hv, _, _⟩ := hown.form (by omega)
      subst hv
      rw [← HLen.out, List.take_length] at hown
      rw [HLen.out] at hown
      exact ⟨g, c, rfl, hown, hbe⟩

/-- A file that has bytes. -/
def FM.load (l : List UInt8) : FM := ⟨l.length / 64, l, [], false, false, 0, 0⟩
theorem load_no (A : Option Addr) (n c : Nat) (w : World) (hn : n ≤ 140737488351232) (h : n < 64 ∨ 64 * 4096 < n ∨ n % 64 ≠ 0) : Calls Try.prog 13 #[.slice A n c] w fun e w' =>
    e = .returned (.tuple #[.pointer none, .int .i64 1]) ∧ Below w.heap.size w w' := by
  have n0 : (0 : Int) ≤ (n : Int) := by omega
  have n1 : (n : Int) ≤ 140737488351232 := by omega
  by_cases hq : n / 64 < 1 ∨ 4096 < n / 64
  · have hq' : ((n : Int) / 64 < 1 ∨ 4096 < (n : Int) / 64) := by omega
    have HQ := Lib.hid hq'
    clear h hq hq' hn
    go_enter Try.func13, Try.ntmps13
    go_wp2_with (go_at_call 32; refine (new_no _ _ HQ.out).mono ?_; rintro e w' ⟨rfl, rfl⟩)
    go_ret2
    exact ⟨rfl, Below.refl _ _⟩
  · have h1 : 1 ≤ n / 64 := by omega
    have h2 : n / 64 ≤ 4096 := by omega
    have hm : (((n : Int) % 64) != 0) = true := by
      have : n % 64 ≠ 0 := by omega
      simp; omega
    have e1 : (n : Int) / 64 = ((n / 64 : Nat) : Int) := by omega
    have E1 := Lib.hid e1
    clear h hq hn e1
    go_enter Try.func13, Try.ntmps13
    go_wp2_with fail
    rw [E1.out]
    refine (new_yes (n / 64) _ h1 h2).mono ?_
    rintro e w' ⟨rfl, hF, hbe, hsz⟩
    go_wp2
    go_ret2
    exact ⟨rfl, hbe⟩

/-- What the first k rows of a loaded file hold. -/
def loading (l : List UInt8) (n k : Nat) : List UInt8 := l.take (64 * k) ++ List.replicate (64 * (n - k)) 0
theorem loading_zero (l : List UInt8) (n : Nat) : loading l n 0 = List.replicate (64 * n) 0 := by simp [loading]
theorem loading_full (l : List UInt8) (n : Nat) (h : l.length = 64 * n) : loading l n n = l := by simp [loading, ← h]
theorem loading_length (l : List UInt8) (n k : Nat) (h : l.length = 64 * n) (hk : k ≤ n) : (loading l n k).length = 64 * n := by simp [loading]; omega
theorem loading_step (l : List UInt8) (n k : Nat) (h : l.length = 64 * n) (hk : k < n) : spl (loading l n k) (64 * k) ((l.drop (64 * k)).take 64) = loading l n (k + 1) := by
  have e1 : (l.take (64 * k)).length = 64 * k := by simp; omega
  have e2 : ((l.drop (64 * k)).take 64).length = 64 := by simp; omega
  unfold spl loading
  have e3 : (l.take (64 * k) ++ List.replicate (64 * (n - k)) (0 : UInt8)).drop (64 * k + 64) = List.replicate (64 * (n - (k + 1))) 0 := by
    rw [List.drop_append, e1, List.drop_eq_nil_of_le (by omega), List.nil_append, List.drop_replicate]
    congr 1
    omega
  rw [take_row, List.take_left' e1, e2, e3]

set_option maxRecDepth 100000 in
theorem load_yes (bb bo c : Nat) (l : List UInt8) (w : World) (hb : w.rangeAt bb bo (bv l)) (hbb : bb < w.heap.size) (h0 : l.length % 64 = 0) (h1 : 64 ≤ l.length) (h2 : l.length ≤ 64 * 4096) (hc : l.length ≤ c) : Calls Try.prog 13 #[.slice (some ⟨bb, bo, none⟩) l.length c] w fun e w' =>
    e = .returned (.tuple #[.pointer (some ⟨w.heap.size + 1, 0, none⟩), .int .i64 0]) ∧ IsF w' w.heap.size (w.heap.size + 1) w.heap.size (FM.load l) (.slice none 0 0) ∧ Below w.heap.size w w' := by
  obtain ⟨n, hn⟩ : ∃ n, n = l.length / 64 := ⟨_, rfl⟩
  have q1 : 1 ≤ n := by omega
  have q2 : n ≤ 4096 := by omega
  have hl : l.length = 64 * n := by omega
  have n0 : (0 : Int) ≤ (l.length : Int) := by omega
  have n1 : (l.length : Int) ≤ 262144 := by omega
  have e1 : (l.length : Int) / 64 = (n : Int) := by omega
  have e2 : (((l.length : Int) % 64) != 0) = false := by simp; omega
  have E1 := Lib.hid e1
  have HL := Lib.hid hl
  have HN := Lib.hid hn
  have hc0 : (l.length : Int) ≤ (c : Int) := by omega
  clear h0 h1 h2 e1 hl hn hc
  go_enter Try.func13, Try.ntmps13
  go_wp2_with fail
  rw [E1.out]
  refine (new_yes n _ q1 q2).mono ?_
  rintro e w1 ⟨rfl, hF, hbe, hsz⟩
  obtain ⟨d0, -, -, -, -, -⟩ := hF.cells
  have d0' : w1.cell? ⟨w.heap.size + 1, 0, none⟩ = some (.slice (some ⟨w.heap.size, 0, none⟩) n n) := d0
  clear d0
  go_wp2
  go_loopw [6, 27] (fun _ i wr => ∃ k : Nat, k ≤ n ∧ i = .int .i64 k ∧ Blk wr (w.heap.size + 1) 63 (fcells w.heap.size (FM.new n) (.slice none 0 0)) ∧ Blk wr w.heap.size 65 (bv (loading l n k)) ∧ Below w.heap.size w wr) (fun _ i _ => n - (intOf i).toNat)
  case atStart => exact ⟨0, by omega, rfl, hF.blk, by rw [loading_zero]; exact hF.row, hbe⟩
  case round =>
    obtain ⟨k, hk, rfl, hb2, hr2, hbe2⟩ := hrel
    clear d0' hF hbe hsz
    by_cases hlt : k < n
    · have d0 : wr.cell? ⟨w.heap.size + 1, 0, none⟩ = some (.slice (some ⟨w.heap.size, 0, none⟩) n n) := by rw [hb2.cell]; rfl
      have hbr : wr.rangeAt bb (bo + k * 64) (bv ((l.drop (64 * k)).take 64)) := by
        have := rangeAt_below hb hbe2 hbb
        intro j v hj
        rw [bv_get, List.getElem?_take] at hj
        split at hj
        · rw [List.getElem?_drop] at hj
          have h3 := this (64 * k + j) v (by rw [bv_get]; exact hj)
          rw [show bo + k * 64 + j = bo + (64 * k + j) from by omega]
          exact h3
        · cases hj
      have k0 : (0 : Int) ≤ (k : Int) := by omega
      have k1 : (k : Int) < (n : Int) := by omega
      have hseg : ((l.drop (64 * k)).take 64).length = 64 := by rw [List.length_take, List.length_drop, HL.out]; omega
      have HSEG := Lib.hid hseg
      have k2 : (k : Int) * 64 + 64 ≤ (l.length : Int) := by have := HL.out; omega
      have hnc : ¬ c = k * 64 := by have := HL.out; omega
      clear hseg
      have hwr : IntKind.i64.wrap ((k : Int) * 64) = (k : Int) * 64 := by rw [IntKind.wrap_i64]; omega
      have HWR := Lib.hid hwr
      have hs2a := arrayAt_ok (P := Try.prog) Try.underlying65 (some ⟨bb, bo + k * 64, none⟩) (l.length - k * 64) (c - k * 64) (by omega)
      have k3 : (0 : Int) ≤ (k : Int) * 64 := by omega
      have k4 : (k : Int) * 64 ≤ (l.length : Int) := by omega
      have k5 : ((k : Int) * 64).toNat = k * 64 := by omega
      have hlt2 : Hid (k < n) := hlt
      clear hlt
      go_wp2
      have hwr := HWR.out
      refine Pl.wp_plan (fun w' => w'.cell? ⟨w.heap.size + 1, 0, none⟩ = some (.slice (some ⟨w.heap.size, 0, none⟩) n n) ∧ w'.rangeAt bb (bo + k * 64) (bv ((l.drop (64 * k)).take 64))) [0, 1, 2, 3, 4, 5, 6, 7, 8, 9, 10] [] [11, 12] Try.mixed (by kernel_rfl) (fun _ _ d _ _ h => by cases d <;> exact h) ⟨by simpa using d0, by simpa using hbr⟩ ?_
      simp only [Pl.pick, List.drop_succ_cons, List.drop_zero]
      iterate 10 (refine Pl.head_run (v := ?_) (by rfl) ?_ ?_; rotate_left; (focus (intro w' hS; obtain ⟨s0, s1⟩ := hS; go_simp; with_reducible rfl)); simp only [Act.put, List.setIfInBounds_toArray, List.set_cons_zero, List.set_cons_succ])
      (refine Pl.head_load_mid (by rfl) 65 (.tmp 39) (by rfl) bb (bo + k * 64) (by rfl) (bv ((l.drop (64 * k)).take 64)) _ (fun _ h => h.2) Try.underlying65 rfl (by rw [bv_length, HSEG.out]; exact Try.size62) ?_; simp only [Act.put, List.setIfInBounds_toArray, List.set_cons_zero, List.set_cons_succ])
      refine Pl.head_nil ?_
      simp only [Pl.Mid]
      have hr2' := hr2.drew
      have HW := Lib.hid (show (bv ((l.drop (64 * k)).take 64)).length = 64 by rw [bv_length, HSEG.out])
      clear hwr hs2a k3 k4 k5 k2 hnc
      go_wp2_with (refine wpList_store_blk (by rfl) 65 (.tmp 41) (.tmp 40) (by rfl) w.heap.size (k * 64) (bv ((l.drop (64 * k)).take 64)) (by rfl) (by rfl) 65 _ hr2' (by rw [HW.out, bv_length, loading_length l n k HL.out hk]; have := hlt2.out; omega) (by rw [HW.out]; exact Try.size62) (bv_one _) ?_; intro w5 hl5 hk5 hsz5)
      go_roundw
      case rel =>
        have h3 := hlt2.out
        refine ⟨k + 1, by omega, by go_num, hk5.blk hb2.drew (by omega), ?_, (hk5.below (w := wr.drew) (B := w.heap.size) hbe2.size (fun k hk => by omega)).trans_of hbe2.drew⟩
        rw [← loading_step l n k HL.out h3, bv_spl]
        rw [Nat.mul_comm k 64] at hl5
        exact hl5
      case measure => have h3 := hlt2.out; simp [intOf]; omega
    · obtain rfl : k = n := by omega
      go_wp2
      go_ret2
      rw [loading_full l k HL.out] at hr2
      have hlen := HL.out
      have hload : FM.load l = ⟨k, l, [], false, false, 0, 0⟩ := by rw [HN.out]; rfl
      refine ⟨rfl, ⟨?_, ?_, ?_, World.ownsRow_nil _ _ _ _, by omega, by omega⟩, hbe2⟩
      · rw [hload]
        exact ⟨q1, q2, hlen, fun p hp => (by cases hp), by simp, by simp, by simp, by simp⟩
      · rw [hload]
        exact hb2
      · exact hr2
end Go.Proofs.Ytnaocjhhnlndmaa
