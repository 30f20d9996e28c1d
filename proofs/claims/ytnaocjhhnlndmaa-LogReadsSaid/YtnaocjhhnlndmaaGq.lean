/- The reference's Half, Room, Same; the log's Generation (layer 18). -/
import Derived.Test.YtnaocjhhnlndmaaGh
import Derived.Test.YtnaocjhhnlndmaaGo
set_option linter.unusedVariables false
set_option linter.unusedSimpArgs false
namespace Go.Proofs.Ytnaocjhhnlndmaa
open Go.RowKit Wd
set_option maxRecDepth 100000 in
theorem rhalf_any (bb bo n c nb g : Nat) (hn : n = 64 * nb) (h1 : 6 ≤ nb) (h2 : nb ≤ 4096) (hc : n ≤ c) (hc2 : c ≤ 9223372036854775807) (hg : g < 18446744073709551616) (w : World) :
    Calls Try.prog 10 #[.slice (some ⟨bb, bo, none⟩) n c, .int .u64 (g : Int)] w fun e w' => e = .returned (.slice (some ⟨bb, bo + 64 * Lg.halfFrom nb g, none⟩) (64 * Lg.halfN nb) (c - 64 * Lg.halfFrom nb g)) ∧ w = w' := by
  obtain ⟨N, hN⟩ : ∃ N, N = Lg.halfN nb := ⟨_, rfl⟩
  have hN2 : N = (nb - 2) / 2 := hN
  have hf : Lg.halfFrom nb g = 2 + g % 2 * N := by rw [hN]; rfl
  rw [hf, ← hN]
  obtain ⟨d2, hd2⟩ : ∃ d2, d2 = nb - 2 := ⟨_, rfl⟩
  obtain ⟨H, hH⟩ : ∃ H, H = 64 * N := ⟨_, rfl⟩
  have e1 : (n : Int) / 64 = (nb : Int) := by omega
  have e1' : (n : Int).tdiv 64 = (nb : Int) := by rw [Int.tdiv_eq_ediv_of_nonneg (by omega)]; exact e1
  have e2 : (nb : Int) - 2 = (d2 : Int) := by omega
  have e3 : (d2 : Int) / 2 = (N : Int) := by omega
  have e3' : (d2 : Int).tdiv 2 = (N : Int) := by rw [Int.tdiv_eq_ediv_of_nonneg (by omega)]; exact e3
  have e4 : (N : Int) * 64 = (H : Int) := by omega
  have hHb : H ≤ 131072 := by omega
  have hHf : 128 + H + H ≤ n := by omega
  have hH0 : 128 ≤ H := by omega
  have q3 : (c : Int) ≤ 9223372036854775807 := by omega
  have hgm : g % 2 = 0 ∨ g % 2 = 1 := by omega
  rw [← hH]
  rcases hgm with h0 | h0
  · have e5 : (g : Int) % 2 = 0 := by omega
    have e5' : (g : Int).tmod 2 = 0 := by rw [Int.tmod_eq_emod_of_nonneg (by omega)]; exact e5
    obtain ⟨o2, ho2⟩ : ∃ o2, o2 = 128 + H := ⟨_, rfl⟩
    have e6 : 128 + (H : Int) = (o2 : Int) := by omega
    have e7 : o2 - 128 = H := by omega
    have e8 : 128 ≤ o2 := by omega
    have e9 : o2 ≤ n := by omega
    have ez : 64 * (2 + 0 * N) = 128 := by omega
    rw [h0, ez]
    clear h0 hN hN2 hf hd2 hH ho2 hn
    go_enter Try.func10, Try.ntmps10
    go_wp2
    go_ret
    exact ⟨rfl, rfl⟩
  · have e5 : (g : Int) % 2 = 1 := by omega
    have e5' : (g : Int).tmod 2 = 1 := by rw [Int.tmod_eq_emod_of_nonneg (by omega)]; exact e5
    obtain ⟨o1, ho1⟩ : ∃ o1, o1 = 128 + H := ⟨_, rfl⟩
    obtain ⟨o2, ho2⟩ : ∃ o2, o2 = o1 + H := ⟨_, rfl⟩
    have e6 : 128 + (H : Int) = (o1 : Int) := by omega
    have e6' : (o1 : Int) + (H : Int) = (o2 : Int) := by omega
    have e7 : o2 - o1 = H := by omega
    have e8 : o1 ≤ o2 := by omega
    have e9 : o2 ≤ n := by omega
    have ez : 64 * (2 + 1 * N) = o1 := by omega
    rw [h0, ez]
    clear h0 hN hN2 hf hd2 hH ho1 ho2 hn
    go_enter Try.func10, Try.ntmps10
    go_wp2
    go_ret
    exact ⟨rfl, rfl⟩
theorem rroom_any (N en : Nat) (hN : N ≤ 131072) (he : en ≤ 1000000) (w : World) :
    Calls Try.prog 20 #[.int .i64 (N : Int), .int .i64 (en : Int)] w fun e w' => e = .returned (.int .i64 (Lg.room N en : Int)) ∧ w = w' := by
  obtain ⟨x, hx⟩ : ∃ x : Int, x = (N : Int) - (en : Int) - 6 := ⟨_, rfl⟩
  have e1 : (N : Int) - (en : Int) - 6 = x := hx.symm
  have hx1 : -2000000 ≤ x := by omega
  have hx2 : x ≤ 200000 := by omega
  obtain ⟨R, hR⟩ : ∃ R, R = Lg.room N en := ⟨_, rfl⟩
  have hR2 : R = min 65535 (N - en - 6) := hR
  rw [← hR]
  have hcase : (65535 < x ∧ R = 65535) ∨ (¬ 65535 < x ∧ x < 0 ∧ R = 0) ∨ (¬ 65535 < x ∧ ¬ x < 0 ∧ x = (R : Int)) := by omega
  clear hx hR hR2
  rcases hcase with ⟨h1, h2⟩ | ⟨h1, h2, h3⟩ | ⟨h1, h2, h3⟩
  · subst h2
    go_enter Try.func20, Try.ntmps20
    go_wp2
    go_ret
    exact ⟨rfl, rfl⟩
  · subst h3
    go_enter Try.func20, Try.ntmps20
    go_wp2
    go_ret
    exact ⟨rfl, rfl⟩
  · subst h3
    go_enter Try.func20, Try.ntmps20
    go_wp2
    go_ret
    exact ⟨rfl, rfl⟩
section
variable {w0 w : World} {M : Mem} {L : List Ent} {g f gen en : Nat} {F : FM} {ls : List (List UInt8)}
theorem lgen_any (H : LS w0 w M g f F gen ls en L) : Calls Try.prog 16 #[.pointer (some ⟨g, 0, none⟩)] w fun e w' => e = .returned (.int .u64 (gen : Int)) ∧ w = w' := by
  have hi := is_any H
  have c1 := H.c1
  have HI := Lib.hid hi
  clear hi
  go_enter Try.func16, Try.ntmps16
  go_wp2_with fail
  refine HI.out.mono ?_
  rintro e w' ⟨rfl, rfl⟩
  go_wp2
  go_ret
  exact ⟨rfl, rfl⟩
end
end Go.Proofs.Ytnaocjhhnlndmaa
