/- The reference's Of. -/
import Derived.Test.YtgnlkcdpklgikaaVy
set_option linter.unusedVariables false
set_option linter.unusedSimpArgs false
namespace Go.Proofs.Ytgnlkcdpklgikaa
open Go.RowKit Wd Go.Sort
open Du (Due)
section
variable {w0 w : World} {M : Mem} {L : List Ent}
set_option maxRecDepth 100000 in
theorem of_any (H : St w0 w M L) {A : Option Addr} {c n : Nat} {l : List Due} (hn : n = l.length) (hn2 : n ≤ 1000000) (hl : SrA w0 M L A (dcs l)) (T : Nat) :
    Calls Try.prog 16 #[.slice A n c, .int .u64 (T : Int)] w fun e w' => ∃ v, e = .returned v ∧ St w0 w' M (er 40 3 v (Du.of T l).length (dcs (Du.of T l)) :: L) := by
  have HN := Lib.hid hn
  have H1 := H.lit00 40 3
  clear hn H
  go_enter Try.func16, Try.ntmps16
  go_wp2
  go_loopw [5, 6] (fun v i wr => ∃ (k : Nat) (X : List Due), k ≤ n ∧ X.length ≤ k ∧ i = .int .i64 k ∧ X = Du.of T (l.take k) ∧ St w0 wr M (er 40 3 v X.length (dcs X) :: L)) (fun _ i _ => n - (intOf i).toNat)
  case atStart => exact ⟨0, [], by omega, by simp, rfl, rfl, H1⟩
  case round =>
    obtain ⟨k, X, hk, hXk, rfl, hX, H2⟩ := hrel
    clear H1
    have HX := Lib.hid hX
    clear hX
    by_cases hlt : k < n
    · have hk1 : k < l.length := by have := HN.out; omega
      obtain ⟨b, o, rfl, hrg⟩ := RA.at3 (hl.now H2.d0) k hk1
      have hst : Du.of T (l.take (k + 1)) = Du.of T (l.take k) ++ Du.of T [l[k]] := by unfold Du.of; rw [List.take_succ_eq_append_getElem hk1, List.filter_append]
      obtain ⟨y, hy⟩ : ∃ y, y = l[k] := ⟨_, rfl⟩
      rw [← hy] at hrg hst
      have c0 := hrg 0 (.int .u64 (y.t : Int)) rfl
      rw [Nat.add_zero] at c0
      have r1 : (k : Int) < (n : Int) := by omega
      have HLT := Lib.hid hlt
      by_cases hT : y.t = T
      · have q : ((y.t : Int) == (T : Int)) = true := by rw [hT]; simp
        have h2 : X ++ [y] = Du.of T (l.take (k + 1)) := by rw [hst, ← HX.out]; simp [Du.of, hT]
        have HH := Lib.hid h2
        have HRG := Lib.hid hrg
        have H3 := H2.new [.int .u64 (y.t : Int), .int .u64 (y.s : Int), .int .i64 y.a] 40
        have ra := (H3.blk 0 rfl).ra 0 3 [.int .u64 (y.t : Int), .int .u64 (y.s : Int), .int .i64 y.a] rfl
        have RA1 := Lib.hid ra
        clear hT h2 hst hrg hy hk1 hlt ra
        go_wp2_with first
          | (refine wpList_load_mid (by rfl) 40 (.tmp 24) (by rfl) b (o + k * 3) (by rfl) [.int .u64 (y.t : Int), .int .u64 (y.s : Int), .int .i64 y.a] _ HRG.out Try.underlying40 rfl (by exact Try.sizeDue) ?_)
          | (at_builtin; refine wpList_append_any_st H3.f1 (by rfl) (.tmp 21) (.tmp 26) 22 (by rfl) Try.infoDue (by rfl) (by decide) Try.underlying22 (by rfl) (some ⟨wr.heap.size, 0, none⟩) 1 1 [.int .u64 (y.t : Int), .int .u64 (y.s : Int), .int .i64 y.a] (by rfl) (by rfl) (by rintro ⟨⟩) RA1.out (by simp [Value.oneCell']) (by omega) (by omega) ?_)
        intro v5 w6 HV
        have HV2 : St w0 w6 M (er 40 3 v5 (X ++ [y]).length (dcs (X ++ [y])) :: L) := by
          rw [List.length_append, dcs_append]
          exact HV.d1
        clear H2 H3 HV RA1
        go_wp2
        exact ⟨⟨k + 1, X ++ [y], by have := HLT.out; omega, by rw [List.length_append, List.length_singleton]; omega, by go_num, HH.out, HV2⟩, by have := HLT.out; simp [intOf]; omega⟩
      · have q : ((y.t : Int) == (T : Int)) = false := by simp; omega
        have h2 : X = Du.of T (l.take (k + 1)) := by rw [hst, ← HX.out]; simp [Du.of, hT]
        have HH := Lib.hid h2
        clear hT h2 hst hrg hy hk1 hlt
        go_wp2
        exact ⟨⟨k + 1, X, by have := HLT.out; omega, by omega, by go_num, HH.out, H2⟩, by have := HLT.out; simp [intOf]; omega⟩
    · obtain rfl : k = n := by omega
      have h2 : X = Du.of T l := by rw [HX.out, HN.out, List.take_length]
      subst h2
      clear hlt
      go_wp2
      go_ret
      exact ⟨_, rfl, H2⟩
end
end Go.Proofs.Ytgnlkcdpklgikaa
