/- Nobody's store; KvNobody walked. -/
import Derived.Test.YtpomjaidaignpaaG3
set_option linter.unusedVariables false
set_option linter.unusedSimpArgs false
namespace Go.Proofs.Ytpomjaidaignpaa
open Go.RowKit Wd
/-- A store that nobody opened. -/
def Nb (w : World) (v : Value) : Prop := v = .pointer none ∨ ∃ s, v = .pointer (some ⟨s, 0, none⟩) ∧ w.cell? ⟨s, 0, none⟩ = some (.pointer none)
set_option maxRecDepth 100000 in
theorem sis_nb {w : World} {v : Value} (h : Nb w v) : Calls Try.prog 28 #[v] w fun e w' => e = .returned (.bool false) ∧ w = w' := by
  rcases h with rfl | ⟨s, rfl, c0⟩
  · go_enter Try.func28, Try.ntmps28
    go_wp2
    go_ret
    exact ⟨rfl, rfl⟩
  · go_enter Try.func28, Try.ntmps28
    go_wp2
    go_ret
    exact ⟨rfl, rfl⟩
set_option maxRecDepth 100000 in
theorem sget_nb {w : World} {v k : Value} (h : Nb w v) : Calls Try.prog 14 #[v, k] w fun e w' => e = .returned (.tuple #[.slice none 0 0, .bool false]) ∧ w = w' := by
  have HI := Lib.hid (sis_nb h)
  clear h
  go_enter Try.func14, Try.ntmps14
  go_wp2_with fail
  refine HI.out.mono ?_
  rintro e w' ⟨rfl, rfl⟩
  go_wp2
  go_ret2
  exact ⟨rfl, rfl⟩
set_option maxRecDepth 100000 in
theorem sapply_nb {w : World} {v l : Value} (h : Nb w v) : Calls Try.prog 15 #[v, l] w fun e w' => e = .returned (.int .i64 1) ∧ w = w' := by
  have HI := Lib.hid (sis_nb h)
  clear h
  go_enter Try.func15, Try.ntmps15
  go_wp2_with fail
  refine HI.out.mono ?_
  rintro e w' ⟨rfl, rfl⟩
  go_wp2
  go_ret
  exact ⟨rfl, rfl⟩
set_option maxRecDepth 100000 in
theorem sscan_nb {w : World} {v k : Value} (h : Nb w v) : Calls Try.prog 16 #[v, k] w fun e w' => e = .returned (.slice none 0 0) ∧ w = w' := by
  have HI := Lib.hid (sis_nb h)
  clear h
  go_enter Try.func16, Try.ntmps16
  go_wp2_with fail
  refine HI.out.mono ?_
  rintro e w' ⟨rfl, rfl⟩
  go_wp2
  go_ret
  exact ⟨rfl, rfl⟩
set_option maxRecDepth 100000 in
theorem slen_nb {w : World} {v : Value} (h : Nb w v) : Calls Try.prog 17 #[v] w fun e w' => e = .returned (.int .i64 0) ∧ w = w' := by
  have HI := Lib.hid (sis_nb h)
  clear h
  go_enter Try.func17, Try.ntmps17
  go_wp2_with fail
  refine HI.out.mono ?_
  rintro e w' ⟨rfl, rfl⟩
  go_wp2
  go_ret
  exact ⟨rfl, rfl⟩
set_option maxRecDepth 100000 in
theorem sgen_nb {w : World} {v : Value} (h : Nb w v) : Calls Try.prog 18 #[v] w fun e w' => e = .returned (.int .u64 0) ∧ w = w' := by
  have HI := Lib.hid (sis_nb h)
  clear h
  go_enter Try.func18, Try.ntmps18
  go_wp2_with fail
  refine HI.out.mono ?_
  rintro e w' ⟨rfl, rfl⟩
  go_wp2
  go_ret
  exact ⟨rfl, rfl⟩
set_option maxRecDepth 100000 in
theorem lopen_nil (w : World) : Calls Try.prog 40 #[.pointer none] w fun e w' => e = .returned (.tuple #[.pointer none, .int .i64 1]) ∧ w = w' := by
  go_enter Try.func40, Try.ntmps40
  go_wp2
  go_ret2
  exact ⟨rfl, rfl⟩
set_option maxRecDepth 100000 in
theorem kopen_nil (w : World) : Calls Try.prog 19 #[.pointer none] w fun e w' => e = .returned (.tuple #[.pointer none, .int .i64 1]) ∧ w = w' := by
  have HI := Lib.hid (lopen_nil w)
  go_enter Try.func19, Try.ntmps19
  go_wp2_with fail
  refine HI.out.mono ?_
  rintro e w' ⟨rfl, rfl⟩
  go_wp2
  go_ret2
  exact ⟨rfl, rfl⟩
set_option maxRecDepth 100000 in
set_option maxHeartbeats 1000000 in
theorem kvNobody_any (w : World) (l k : Value) : Calls Try.prog 5 #[l, k] w fun e w' => e = .returned (.bool true) ∧ Below w.heap.size w w' := by
  obtain ⟨M, H⟩ : ∃ M, St w w M [] := ⟨_, St.start w⟩
  go_enter Try.func5, Try.ntmps5
  go_wp2_with fail
  go_loopw [5] (fun i wr => ∃ j : Nat, j ≤ 2 ∧ i = .int .i64 j ∧ St w wr M []) (fun i _ => 2 - (intOf i).toNat)
  case atStart => exact ⟨0, by omega, rfl, H⟩
  case round =>
    obtain ⟨j, hj, rfl, H1⟩ := hrel
    clear H
    by_cases hlt : j < 2
    · have q1 : (j : Int) < 2 := by omega
      by_cases h1 : j = 1
      · subst h1
        have H2 := H1.new [.pointer none, .map none] 41
        have nb : Nb (wr.alloc (.cells #[.pointer none, .map none] 41)) (.pointer (some ⟨wr.heap.size, 0, none⟩)) := .inr ⟨_, rfl, H2.cell 0 rfl 0⟩
        have G := Lib.hid (And.intro (fun k => sget_nb (k := k) nb) (And.intro (fun l => sapply_nb (l := l) nb) (And.intro (fun k => sscan_nb (k := k) nb) (And.intro (slen_nb nb) (sgen_nb nb)))))
        have H3 := H2.d0
        clear nb H2 H1
        go_wp2_with fail
        refine (G.out.1 _).mono ?_
        rintro e w' ⟨rfl, rfl⟩
        go_wp2_with fail
        refine (G.out.2.1 _).mono ?_
        rintro e w' ⟨rfl, rfl⟩
        go_wp2_with fail
        refine (G.out.2.2.1 _).mono ?_
        rintro e w' ⟨rfl, rfl⟩
        go_wp2_with fail
        refine G.out.2.2.2.1.mono ?_
        rintro e w' ⟨rfl, rfl⟩
        go_wp2_with fail
        refine G.out.2.2.2.2.mono ?_
        rintro e w' ⟨rfl, rfl⟩
        go_wp2
        exact ⟨⟨2, by omega, by go_num, H3⟩, by simp [intOf]⟩
      · have h0 : j = 0 := by omega
        subst h0
        have nb : Nb wr (.pointer none) := .inl rfl
        have G := Lib.hid (And.intro (fun k => sget_nb (k := k) nb) (And.intro (fun l => sapply_nb (l := l) nb) (And.intro (fun k => sscan_nb (k := k) nb) (And.intro (slen_nb nb) (sgen_nb nb)))))
        clear nb
        go_wp2_with fail
        refine (G.out.1 _).mono ?_
        rintro e w' ⟨rfl, rfl⟩
        go_wp2_with fail
        refine (G.out.2.1 _).mono ?_
        rintro e w' ⟨rfl, rfl⟩
        go_wp2_with fail
        refine (G.out.2.2.1 _).mono ?_
        rintro e w' ⟨rfl, rfl⟩
        go_wp2_with fail
        refine G.out.2.2.2.1.mono ?_
        rintro e w' ⟨rfl, rfl⟩
        go_wp2_with fail
        refine G.out.2.2.2.2.mono ?_
        rintro e w' ⟨rfl, rfl⟩
        go_wp2
        exact ⟨⟨1, by omega, by go_num, H1⟩, by simp [intOf]⟩
    · have h2 : j = 2 := by omega
      subst h2
      have HK := Lib.hid (kopen_nil wr)
      have HAW := Lib.hid (awake20_any H1)
      clear hlt hj
      go_wp2_with fail
      refine HK.out.mono ?_
      rintro e w' ⟨rfl, rfl⟩
      go_wp2_with fail
      refine HAW.out.mono ?_
      rintro e w4 ⟨rfl, H2⟩
      go_wp2
      go_ret
      exact ⟨rfl, H2.below⟩
end Go.Proofs.Ytpomjaidaignpaa
