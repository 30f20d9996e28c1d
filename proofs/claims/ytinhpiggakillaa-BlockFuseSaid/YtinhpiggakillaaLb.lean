/- BlockActs walked: bytes that are no file, and great files. -/
import Derived.Test.YtinhpiggakillaaLz
set_option linter.unusedVariables false
set_option linter.unusedSimpArgs false
namespace Go.Proofs.Ytinhpiggakillaa
open Go.RowKit Wd
set_option maxRecDepth 100000 in
set_option maxHeartbeats 1000000 in
theorem acts_no {w : World} {A : Option Addr} {c : Nat} {l : List UInt8} (hA : A = none → c = 0) (hl : RB w A l) (hlen : l.length ≤ 140737488351232) (v : Value) (hn : l.length < 64 ∨ 64 * 4096 < l.length ∨ l.length % 64 ≠ 0) :
    Calls Try.prog 7 #[.slice A l.length c, v] w fun e w' => e = .returned (.bool true) ∧ Below w.heap.size w w' := by
  have H1 := (St.start w).lit0 5
  have r1 : RB (w.alloc (.cells #[] 5)) A l := hl.below ((Below.refl _ _).alloc (Nat.le_refl _) _)
  have g0 : (l.length : Int) ≤ 140737488351232 := by omega
  have HN := Lib.hid hn
  go_enter Try.func7, Try.ntmps7
  go_wp2_with (at_builtin; refine wpList_append_st H1 (by rfl) (.tmp 15) (.tmp 16) 28 (by rfl) Try.info5 Try.underlying28 (by rfl) A l.length c l (by rfl) rfl hA r1 (by omega) ?_)
  intro v1 w1 H2
  obtain ⟨A1, c1, rfl, hc1⟩ := H2.shape 0 rfl
  try simp only [Nat.zero_add, List.nil_append] at H2
  try simp only [Nat.zero_add] at hc1
  clear H1 r1
  go_wp2_with fail
  refine (load_no _ _ _ _ hlen HN.out).mono ?_
  rintro e w2 ⟨rfl, hb⟩
  have H3 := H2.belowK hb
  clear H2 hb
  by_cases h1 : l.length % 64 = 0
  · have g1 : (((l.length : Int) % 64) != 0) = false := by simp; omega
    by_cases h2 : l.length < 64
    · have g2 : (l.length : Int) < 64 := by omega
      clear h1 h2 hn
      go_wp2_with (go_at_call 9; refine (awake_st H3).mono ?_; rintro e w3 ⟨rfl, H4⟩)
      go_ret
      exact ⟨rfl, H4.below⟩
    · have g2 : ¬ (l.length : Int) < 64 := by omega
      have g3 : (262144 : Int) < (l.length : Int) := by omega
      clear h1 h2 hn
      go_wp2_with (go_at_call 9; refine (awake_st H3).mono ?_; rintro e w3 ⟨rfl, H4⟩)
      go_ret
      exact ⟨rfl, H4.below⟩
  · have g1 : (((l.length : Int) % 64) != 0) = true := by simp; omega
    clear h1 hn
    go_wp2_with (go_at_call 9; refine (awake_st H3).mono ?_; rintro e w3 ⟨rfl, H4⟩)
    go_ret
    exact ⟨rfl, H4.below⟩
set_option maxRecDepth 100000 in
set_option maxHeartbeats 1000000 in
theorem acts_long {w : World} {A : Option Addr} {c : Nat} {l : List UInt8} (hA : A = none → c = 0) (hl : RB w A l) (v : Value) (h1 : l.length % 64 = 0) (h2 : 4096 < l.length) (h3 : l.length ≤ 64 * 4096) :
    Calls Try.prog 7 #[.slice A l.length c, v] w fun e w' => e = .returned (.bool true) ∧ Below w.heap.size w w' := by
  have H1 := (St.start w).lit0 5
  have r1 : RB (w.alloc (.cells #[] 5)) A l := hl.below ((Below.refl _ _).alloc (Nat.le_refl _) _)
  have g1 : (((l.length : Int) % 64) != 0) = false := by simp; omega
  have g2 : ¬ (l.length : Int) < 64 := by omega
  have g3 : ¬ (262144 : Int) < (l.length : Int) := by omega
  have g4 : (4096 : Int) < (l.length : Int) := by omega
  have H64 := Lib.hid h1
  have hln : (FM.load l).n = l.length / 64 := rfl
  have HLN := Lib.hid hln
  clear h1 hln
  go_enter Try.func7, Try.ntmps7
  go_wp2_with (at_builtin; refine wpList_append_st H1 (by rfl) (.tmp 15) (.tmp 16) 28 (by rfl) Try.info5 Try.underlying28 (by rfl) A l.length c l (by rfl) rfl hA r1 (by omega) ?_)
  intro v1 w1 H2
  obtain ⟨A1, c1, rfl, hc1⟩ := H2.shape 0 rfl
  try simp only [Nat.zero_add, List.nil_append] at H2
  try simp only [Nat.zero_add] at hc1
  clear H1 r1
  go_wp2_with fail
  refine (fs_load H2.d0 (er_RB (H2.get 0 rfl)) H64.out (by omega) (by omega) hc1).mono ?_
  rintro e w2 ⟨f, rfl, H3⟩
  clear H2
  go_wp2_with fail
  refine (fs_blocks H3).mono ?_
  rintro e w3 ⟨rfl, rfl⟩
  rw [HLN.out]
  have q1 : ((l.length / 64 : Nat) : Int) = (l.length : Int) / 64 := by omega
  rw [q1]
  go_wp2_with fail
  refine (awake_fs H3).mono ?_
  rintro e w3 ⟨rfl, H4⟩
  go_wp2
  go_ret
  exact ⟨rfl, H4.rest.below⟩
end Go.Proofs.Ytinhpiggakillaa
