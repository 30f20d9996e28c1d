/- Sorting nothing; slices.Clone at dues; due.Pick's first closure. -/
import Derived.Test.YtgnlkcdpklgikaaVk
import Derived.Test.YtgnlkcdpklgikaaWk
set_option linter.unusedVariables false
set_option linter.unusedSimpArgs false
namespace Go.Proofs.Ytgnlkcdpklgikaa
open Go.RowKit Wd Go.Sort
open Du (Due)
section
variable {w0 w : World} {M : Mem} {L : List Ent}
theorem bitsLen_any (n : Nat) (h : n ≤ 1000000) (w : World) : Calls Try.prog 40 #[.int .u64 (n : Int)] w fun e w' => (∃ l : Int, e = .returned (.int .i64 l)) ∧ w = w' :=
  (Any.bits_Len Try.bitsLen n w (by omega) (by omega)).mono fun _ _ ⟨he, hw⟩ => ⟨⟨_, he⟩, hw.symm⟩
theorem ins_nil (v : Value) (w : World) : Calls Try.prog 45 #[.slice none 0 0, .int .i64 0, .int .i64 0, v] w fun e w' => e = .returned (.tuple #[]) ∧ w = w' := by
  go_enter Try.func45, Try.ntmps45
  go_wp2
  go_loopw [8] (fun i wr => i = .int .i64 1 ∧ wr = w) (fun _ _ => 0)
  case atStart => exact ⟨rfl, rfl⟩
  case round =>
    obtain ⟨rfl, rfl⟩ := hrel
    go_wp2
    go_end0
    exact ⟨rfl, rfl⟩
theorem pdq_nil (v : Value) (k : Int) (w : World) : Calls Try.prog 39 #[.slice none 0 0, .int .i64 0, .int .i64 0, .int .i64 k, v] w fun e w' => e = .returned (.tuple #[]) ∧ w = w' := by
  go_enter Try.func39, Try.ntmps39
  go_wp2
  go_loopw [1, 2] (fun i j wr => i = .int .i64 0 ∧ j = .int .i64 0 ∧ wr = w) (fun _ _ _ => 0)
  case atStart => exact ⟨rfl, rfl, rfl⟩
  case round =>
    obtain ⟨rfl, rfl, rfl⟩ := hrel
    go_wp2_with fail
    refine (ins_nil v _).mono ?_
    rintro e w1 ⟨rfl, rfl⟩
    go_wp2
    refine bodyPost_ret (results_none rfl _ _ _) rfl ?_
    exact ⟨rfl, rfl⟩
theorem sort_nil (v : Value) (w : World) : Calls Try.prog 22 #[.slice none 0 0, v] w fun e w' => e = .returned (.tuple #[]) ∧ w = w' := by
  go_enter Try.func22, Try.ntmps22
  go_wp2_with fail
  refine (bitsLen_any 0 (by omega) w).mono ?_
  rintro e w1 ⟨⟨l, rfl⟩, rfl⟩
  go_wp2_with fail
  refine (pdq_nil v l w).mono ?_
  rintro e w1 ⟨rfl, rfl⟩
  go_wp2
  go_end0
  exact ⟨rfl, rfl⟩
/-- Whatever owned slice of dues. -/
theorem sort_row {v : Value} {n : Nat} {l : List Due} (H : St w0 w M (er 40 3 v n (dcs l) :: L)) (hn : n = l.length) (hn2 : n ≤ 1000000) :
    Calls Try.prog 22 #[v, .func (.func 23) #[] #[]] w (RetSort w0 M L v n l) := by
  obtain ⟨_, h2⟩ := er_bind (H.get 0 rfl)
  rcases h2 with ⟨rfl, rfl⟩ | ⟨g', cap', cur, rfl, _⟩
  · obtain rfl : l = [] := List.eq_nil_of_length_eq_zero hn.symm
    refine (sort_nil _ w).mono ?_
    rintro e w1 ⟨rfl, rfl⟩
    exact ⟨rfl, [], List.Perm.refl _, List.Pairwise.nil, H⟩
  · exact sort_any H hn hn2
theorem pick1_any (H : St w0 w M L) {gb : Nat} {now : Int} (hi : eb gb 2 [.int .i64 now] ∈ L) (p : Due) :
    Calls Try.prog 21 #[dv p, .pointer (some ⟨gb, 0, none⟩)] w fun e w' => e = .returned (.bool (decide (now < p.a))) ∧ St w0 w' M L := by
  obtain ⟨t, s, a⟩ := p
  have H1 := H.alloc (.cells #[.int .u64 (t : Int), .int .u64 (s : Int), .int .i64 a] 40)
  have c := (H1.blkm hi).cell 0
  simp only [List.getElem?_cons_zero] at c
  unfold dv
  simp only
  by_cases h : now < a
  · rw [decide_eq_true h]
    go_enter Try.func21, Try.ntmps21
    go_wp2
    go_ret
    exact ⟨rfl, H1⟩
  · rw [decide_eq_false h]
    go_enter Try.func21, Try.ntmps21
    go_wp2
    go_ret
    exact ⟨rfl, H1⟩
theorem clone_any (H : St w0 w M L) {A : Option Addr} {c n : Nat} {l : List Due} (hn : n = l.length) (hn2 : n ≤ 1000000) (hA : A = none → c = 0) (hl : SrA w0 M L A (dcs l)) :
    Calls Try.prog 20 #[.slice A n c] w fun e w' => ∃ v, e = .returned v ∧ St w0 w' M (er 40 3 v n (dcs l) :: L) := by
  have hx : (dcs l).length = n * 3 := by rw [dcs_length, hn]
  cases A with
  | none =>
    have h0 : l = [] := by
      cases l with
      | nil => rfl
      | cons d r => have := RA.at3 (hl.now H) 0 (by simp); obtain ⟨b, o, he, _⟩ := this; cases he
    subst h0
    obtain rfl : n = 0 := hn
    have H1 := H.addNil 40 3
    have hnil := fun w => Lib.run_eql_slice_nil (P := Try.prog) w 22 40 none 0 c 0 0 Try.underlying22
    simp only [Option.isNone_none] at hnil
    clear hl hx hA
    go_enter Try.func20, Try.ntmps20
    go_wp2
    go_ret
    exact ⟨_, rfl, H1⟩
  | some ad =>
    have H1 := H.lit00 40 3
    have hr := (hl.cons (er 40 3 (.slice (some ⟨w.heap.size, 0, none⟩) 0 0) 0 [])).now H1
    have HR := Lib.hid hr
    have HX := Lib.hid hx
    have HA := Lib.hid hA
    have hone := dcs_one l
    have hnil := fun w => Lib.run_eql_slice_nil (P := Try.prog) w 22 40 (some ad) n c 0 0 Try.underlying22
    simp only [Option.isNone_some] at hnil
    have HONE := Lib.hid hone
    clear hr hx hA hone hn hl
    go_enter Try.func20, Try.ntmps20
    go_wp2_with (at_builtin; refine wpList_append_any_st H1 (by rfl) (.tmp 5) (.tmp 6) 22 (by rfl) Try.infoDue (by rfl) (by decide) Try.underlying22 (by rfl) (some ad) n c (dcs l) (by rfl) HX.out HA.out HR.out HONE.out (by omega) (by omega) ?_)
    intro v w1 H2
    go_wp2
    go_ret
    refine ⟨v, rfl, ?_⟩
    simpa using H2
end
end Go.Proofs.Ytgnlkcdpklgikaa
