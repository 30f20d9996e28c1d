/- The law's own small question (awake). -/
import Derived.Test.YtinhpiggakillaaBe
import Derived.Test.YtinhpiggakillaaBf
set_option linter.unusedVariables false
set_option linter.unusedSimpArgs false
namespace Go.Proofs.Ytinhpiggakillaa
open Go.RowKit Wd

def awakeF : FM := (((FM.new 2).write 0 (List.replicate 64 1)).write 0 (List.replicate 64 2)).crash 1 3
theorem awakeF_at : awakeF.at_ 0 = List.replicate 3 2 ++ List.replicate 61 1 := by kernel_rfl
theorem awakeF_pend : awakeF.pend = [] := by kernel_rfl
theorem FM.write_n (F : FM) (i : Nat) (m : List UInt8) : (F.write i m).n = F.n := by
  unfold FM.write
  split
  · rfl
  · split <;> rfl
theorem FM.write_pend (F : FM) (i : Nat) (m : List UInt8) : (F.write i m).pend.length ≤ F.pend.length + 1 := by
  unfold FM.write
  split
  · omega
  · split
    · simp [FM.fused]
    · simp [FM.put]

theorem filled_file {w : World} {base f lb : Nat} {F : FM} {pv : Value} (hF : IsF w base f lb F pv) (c : UInt8) : Calls Try.prog 11 #[.int .u8 (c.toNat : Int)] w fun e w' =>
    ∃ g, e = .returned (.slice (some ⟨g, 0, none⟩) 64 64) ∧ Blk w' g 5 (bv (List.replicate 64 c)) ∧ IsF w' base f lb F pv ∧ Below w.heap.size w w' :=
  (filled_any c w).mono fun e w' ⟨he, hb, hs, hbe⟩ => ⟨_, he, hb, hF.below hbe, hbe⟩

theorem Wd.Blk.whole {w : World} {g : Nat} {t : TypeId} {cs : List Value} (h : Blk w g t cs) : w.rangeAt g 0 cs := fun j v hj => by rw [Nat.zero_add, h.cell]; exact hj
set_option maxRecDepth 100000 in
theorem awake_any (w : World) : Calls Try.prog 9 #[] w fun e w' => e = .returned (.bool true) ∧ Below w.heap.size w w' := by
  go_enter Try.func9, Try.ntmps9
  go_wp2_with (go_at_call 8; refine (new_yes 2 _ (by decide) (by decide)).mono ?_; rintro e w1 ⟨rfl, hF1, hbe1, hsz1⟩)
  go_wp2_with fail
  refine (filled_file hF1 1).mono ?_
  rintro e w2 ⟨g2, rfl, hg2, hF2, hbe2⟩
  go_wp2_with fail
  refine (write_any hF2 0 (by decide) g2 0 64 (List.replicate 64 1) List.length_replicate hg2.whole hg2.lt (by simp [FM.new])).mono ?_
  rintro e w3 ⟨rfl, pv3, hF3, hk3⟩
  go_wp2_with fail
  refine (filled_file hF3 2).mono ?_
  rintro e w4 ⟨g4, rfl, hg4, hF4, hbe4⟩
  go_wp2_with fail
  refine (write_any hF4 0 (by rw [FM.write_n]; decide) g4 0 64 (List.replicate 64 2) List.length_replicate hg4.whole hg4.lt (Nat.lt_of_le_of_lt (FM.write_pend _ _ _) (by simp [FM.new]))).mono ?_
  rintro e w5 ⟨rfl, pv5, hF5, hk5⟩
  go_wp2_with fail
  refine (crash_any hF5 1 3 (Nat.lt_of_le_of_lt (FM.write_pend _ _ _) (Nat.lt_of_le_of_lt (Nat.succ_le_succ (FM.write_pend _ _ _)) (by simp [FM.new]))) (by decide)).mono ?_
  rintro e w6 ⟨rfl, hF6, hk6⟩
  go_wp2_with fail
  refine (read_any hF6 0 (by show 0 < FM.n _; simp only [FM.crash, FM.write_n]; decide)).mono ?_
  rintro e w7 ⟨rfl, hb7, hbe7, hsz7⟩
  have e7 : FM.at_ _ 0 = List.replicate 3 2 ++ List.replicate 61 1 := awakeF_at
  unfold awakeF at e7
  rw [e7] at hb7
  have d2 : w7.cell? ⟨w6.heap.size, 2, none⟩ = some (.int .u8 2) := by rw [hb7.cell]; rfl
  have d3 : w7.cell? ⟨w6.heap.size, 3, none⟩ = some (.int .u8 1) := by rw [hb7.cell]; rfl
  have hF7 := hF6.below hbe7
  have s1 := hbe1.size
  have s2 := hbe2.size
  have s3 := hk3.size
  have s4 := hbe4.size
  have s5 := hk5.size
  have s6 := hk6.size
  have b2 := (hbe2.mono (B' := w.heap.size) (by omega)).trans_of hbe1
  have b3 := (hk3.below (B := w.heap.size) (by omega) (fun k hk => by omega)).trans_of b2
  have b4 := (hbe4.mono (B' := w.heap.size) (by omega)).trans_of b3
  have b5 := (hk5.below (B := w.heap.size) (by omega) (fun k hk => by omega)).trans_of b4
  have b6 := (hk6.below (B := w.heap.size) (by omega) (fun k hk => by omega)).trans_of b5
  have b7 := (hbe7.mono (B' := w.heap.size) (by omega)).trans_of b6
  have p7 := pending_any hF7
  have e8 : (FM.crash ((((FM.new 2).write 0 (List.replicate 64 1)).write 0 (List.replicate 64 2))) 1 3).pend.length = 0 := rfl
  rw [e8] at p7
  clear hg2 hg4 hb7 hF1 hF2 hF3 hF4 hF5 hF6 hbe1 hbe2 hk3 hbe4 hk5 hk6 hbe7
  go_wp2_with (go_at_call 18; refine p7.mono ?_; rintro e w8 ⟨rfl, rfl⟩)
  go_ret
  exact ⟨rfl, b7⟩
end Go.Proofs.Ytinhpiggakillaa
