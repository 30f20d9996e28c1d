/- What tuple.Compare is made of: numbers and texts compared, cmp.Or, the closure; the reference's less. -/
import Derived.Test.YtbmiifglpjeegaaDoorM6
import Derived.Test.YtbmiifglpjeegaaDoorJs
set_option linter.unusedVariables false
set_option linter.unusedSimpArgs false
namespace Go.Proofs.YtbmiifglpjeegaaDoor
open Go.RowKit Wd
theorem isNaN_any (n : Nat) (w : World) : Calls Tryd.prog 44 #[.int .u64 (n : Int)] w fun e w' => e = .returned (.bool false) ∧ w = w' := by
  go_enter Tryd.func44, Tryd.ntmps44
  go_wp2
  go_ret
  simp
theorem ncmp_any (n m : Nat) (w : World) : Calls Tryd.prog 34 #[.int .u64 (n : Int), .int .u64 (m : Int)] w fun e w' => e = .returned (.int .i64 (Tu.ncmp n m)) ∧ w = w' := by
  have hc := Tu.ncmp_cases n m
  obtain ⟨R, hR⟩ : ∃ R, R = Tu.ncmp n m := ⟨_, rfl⟩
  rw [← hR] at hc ⊢
  clear hR
  go_enter Tryd.func34, Tryd.ntmps34
  go_wp2_with fail
  refine (isNaN_any n w).mono ?_
  rintro e w1 ⟨rfl, rfl⟩
  go_wp2_with fail
  refine (isNaN_any m w).mono ?_
  rintro e w1 ⟨rfl, rfl⟩
  rcases hc with ⟨h, rfl⟩ | ⟨h, rfl⟩ | ⟨h, rfl⟩
  · have q : (n : Int) < (m : Int) := by omega
    clear h
    go_wp2
    go_ret
    exact ⟨rfl, rfl⟩
  · subst h
    go_wp2
    go_ret
    exact ⟨rfl, rfl⟩
  · have q : ¬ (n : Int) < (m : Int) := by omega
    have q2 : (m : Int) < (n : Int) := by omega
    clear h
    go_wp2
    go_ret
    exact ⟨rfl, rfl⟩
theorem bscmp_any (s t : ByteArray) (w : World) : Calls Tryd.prog 45 #[.string s, .string t] w fun e w' => e = .returned (.int .i64 (Lib.compareBytes s.data.toList t.data.toList)) ∧ w = w' := by
  go_enter Tryd.func45, Tryd.ntmps45
  go_wp2
  rw [run_callFunc_extern Tryd.func49 (by kernel_rfl) (by kernel_rfl) (by kernel_rfl) (e := Extern.BytealgCompare.compare) (by kernel_rfl), Lib.run_compareString]
  simp only [Result.andThen]
  rw [Oper.upon_value]
  go_wp2
  go_ret
  exact ⟨rfl, rfl⟩
theorem scmp_any (x y : List UInt8) (w : World) : Calls Tryd.prog 35 #[.string (str x), .string (str y)] w fun e w' => e = .returned (.int .i64 (Lib.compareBytes x y)) ∧ w = w' := by
  have hb := fun w => bscmp_any (str x) (str y) w
  rw [show (str x).data.toList = x from rfl, show (str y).data.toList = y from rfl] at hb
  have HB := Lib.hid hb
  clear hb
  go_enter Tryd.func35, Tryd.ntmps35
  go_wp2_with fail
  refine (HB.out w).mono ?_
  rintro e w1 ⟨rfl, rfl⟩
  go_wp2
  go_ret
  exact ⟨rfl, rfl⟩
section
variable {w0 w : World} {M : Mem} {L : List Ent}
theorem or_any {g : Nat} (x y : Int) (c0 : w.cell? ⟨g, 0, none⟩ = some (.int .i64 x)) (c1 : w.cell? ⟨g, 1, none⟩ = some (.int .i64 y)) :
    Calls Tryd.prog 33 #[.slice (some ⟨g, 0, none⟩) 2 2] w fun e w' => e = .returned (.int .i64 (if x ≠ 0 then x else y)) ∧ w = w' := by
  obtain ⟨R, hR⟩ : ∃ R, R = if x ≠ 0 then x else y := ⟨_, rfl⟩
  rw [← hR]
  have HR := Lib.hid hR
  clear hR
  go_enter Tryd.func33, Tryd.ntmps33
  go_wp2
  go_loopw [8] (fun i wr => ∃ k : Nat, k ≤ 2 ∧ (1 ≤ k → x = 0) ∧ (2 ≤ k → y = 0) ∧ i = .int .i64 k ∧ wr = w) (fun i _ => 2 - (intOf i).toNat)
  case atStart => exact ⟨0, by omega, by omega, by omega, rfl, rfl⟩
  case round =>
    obtain ⟨k, hk, h1, h2, rfl, rfl⟩ := hrel
    have hcase : k = 0 ∨ k = 1 ∨ k = 2 := by omega
    rcases hcase with rfl | rfl | rfl
    · clear h1 h2 hk
      by_cases hx : x = 0
      · subst hx
        go_wp2
        exact ⟨⟨1, by omega, by simp, by omega, rfl, trivial⟩, by simp [intOf]⟩
      · have q : (x != 0) = true := by simpa using hx
        have hR2 : R = x := by rw [HR.out, if_pos hx]
        subst hR2
        clear hx
        go_wp2
        go_ret
        exact ⟨rfl, rfl⟩
    · obtain rfl := h1 (by omega)
      clear h1 h2 hk
      have hR2 : R = y := by rw [HR.out]; simp
      subst hR2
      by_cases hx : R = 0
      · subst hx
        go_wp2
        exact ⟨⟨2, by omega, by simp, by simp, rfl, trivial⟩, by simp [intOf]⟩
      · have q : (R != 0) = true := by simpa using hx
        clear hx
        go_wp2
        go_ret
        exact ⟨rfl, rfl⟩
    · obtain rfl := h1 (by omega)
      obtain rfl := h2 (by omega)
      clear h1 h2 hk
      have hR2 : R = 0 := by rw [HR.out]; simp
      subst hR2
      go_wp2
      go_ret
      exact ⟨rfl, rfl⟩
set_option maxRecDepth 100000 in
theorem less_any (H : St w0 w M L) (p q : Tu.Part) :
    Calls Tryd.prog 36 #[pv p, pv q] w fun e w' => e = .returned (.bool (Tu.less p q)) ∧ St w0 w' M L := by
  obtain ⟨s, n, b⟩ := p
  obtain ⟨t, m, d⟩ := q
  have H1 := (H.alloc (.cells #[.string (str s), .int .u64 (n : Int), .bool b] 42)).alloc (.cells #[.string (str t), .int .u64 (m : Int), .bool d] 42)
  unfold pv
  simp only
  have hnm : ((n : Int) < (m : Int) ∧ n < m) ∨ (¬ (n : Int) < (m : Int) ∧ ¬ n < m) := by omega
  cases b <;> cases d
  · have e : Tu.less ⟨s, n, false⟩ ⟨t, m, false⟩ = (decide (n < m) || Op.bytesLess s t) := by unfold Tu.less; rw [if_pos rfl, Tu.bytesLess_tlt]
    rw [e]
    clear e
    rcases hnm with ⟨h1, h2⟩ | ⟨h1, h2⟩
    all_goals
      simp only [h2, decide_true, decide_false, Bool.true_or, Bool.false_or]
      go_enter Tryd.func36, Tryd.ntmps36
      go_wp2
      go_ret
      exact ⟨rfl, H1⟩
  · rw [show Tu.less ⟨s, n, false⟩ ⟨t, m, true⟩ = true from rfl]
    go_enter Tryd.func36, Tryd.ntmps36
    go_wp2
    go_ret
    exact ⟨rfl, H1⟩
  · rw [show Tu.less ⟨s, n, true⟩ ⟨t, m, false⟩ = false from rfl]
    go_enter Tryd.func36, Tryd.ntmps36
    go_wp2
    go_ret
    exact ⟨rfl, H1⟩
  · have e : Tu.less ⟨s, n, true⟩ ⟨t, m, true⟩ = (decide (n < m) || Op.bytesLess s t) := by unfold Tu.less; rw [if_pos rfl, Tu.bytesLess_tlt]
    rw [e]
    clear e
    rcases hnm with ⟨h1, h2⟩ | ⟨h1, h2⟩
    all_goals
      simp only [h2, decide_true, decide_false, Bool.true_or, Bool.false_or]
      go_enter Tryd.func36, Tryd.ntmps36
      go_wp2
      go_ret
      exact ⟨rfl, H1⟩
end
end Go.Proofs.YtbmiifglpjeegaaDoor
