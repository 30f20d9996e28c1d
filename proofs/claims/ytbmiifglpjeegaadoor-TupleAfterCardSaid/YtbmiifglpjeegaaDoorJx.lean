/- TupleAfter walked. -/
import Derived.Test.YtbmiifglpjeegaaDoorJw
import Derived.Test.YtbmiifglpjeegaaDoorJs
set_option linter.unusedVariables false
set_option linter.unusedSimpArgs false
namespace Go.Proofs.YtbmiifglpjeegaaDoor
open Go.RowKit Wd
theorem str_leq (t : TypeId) (a b : ByteArray) : binOp .leq t (.string a) (.string b) = pure (.bool (Op.bytesLess a.toList b.toList || a.toList == b.toList)) := by simp [binOp, Op.stringOp]
theorem str_geq (t : TypeId) (a b : ByteArray) : binOp .geq t (.string a) (.string b) = pure (.bool !(Op.bytesLess a.toList b.toList)) := by simp [binOp, Op.stringOp]
theorem all_step (P : List UInt8) (j : Nat) (h : j < P.length) : (P.take (j + 1)).all (· == 255) = ((P.take j).all (· == 255) && ((P[j].toNat : Int) == 255)) := by
  rw [List.take_succ_eq_append_getElem h, List.all_append]
  congr 1
  simp only [List.all_cons, List.all_nil, Bool.and_true]
  rw [Bool.eq_iff_iff, beq_iff_eq, beq_iff_eq]
  exact ⟨fun h => by rw [h]; rfl, fun h => UInt8.toNat_inj.1 (by show P[j].toNat = 255; omega)⟩
section
variable {w0 w : World} {M : Mem} {L : List Ent}
theorem after_any (H : St w0 w M L) (p : List UInt8) (hl : p.length ≤ 1000000) :
    Calls Tryd.prog 16 #[.string (str p)] w fun e w' => ∃ A ok, e = .returned (.tuple #[.string (str A), .bool ok]) ∧ St w0 w' M L ∧
      ((ok = false ∧ A = [] ∧ p.all (· == 255) = true) ∨
        (ok = true ∧ p.all (· == 255) = false ∧ A.length ≤ p.length ∧ Tu.tlt A p = false ∧ (A == p) = false ∧ (∀ s, Tu.tlt (p ++ s) A = true) ∧ ∀ s, decide (p <+: s) = (!Tu.tlt s p && Tu.tlt s A))) := by
  rcases Tu.trim p with h | ⟨u, x, k, hp, hx⟩
  · refine (after_no p h hl).mono ?_
    rintro e w1 ⟨rfl, rfl⟩
    refine ⟨[], false, rfl, H, .inl ⟨rfl, rfl, ?_⟩⟩
    rw [h]
    simp
  · refine (after_yes H p u x k hp hx hl).mono ?_
    rintro e w1 ⟨rfl, H1⟩
    have hb := Tu.after_bef hp hx []
    rw [List.append_nil] at hb
    refine ⟨_, true, rfl, H1, .inr ⟨rfl, ?_, ?_, Tu.tlt_asymm hb.tlt, ?_, fun s => (Tu.after_bef hp hx s).tlt, fun s => Tu.after_begins hp hx s⟩⟩
    · rw [hp]
      simp [hx]
    · rw [hp]
      simp
    · rw [beq_eq_false_iff_ne]
      intro h
      have h2 := hb.tlt
      rw [h, Tu.tlt_irrefl] at h2
      cases h2
set_option maxRecDepth 100000 in
set_option maxHeartbeats 2000000 in
theorem tupleAfter_any {w : World} (hw : MaxI w) (P S : List UInt8) :
    Calls Tryd.prog 5 #[.string (str P), .string (str S)] w fun e w' => e = .returned (.bool true) ∧ Below w.heap.size w w' := by
  obtain ⟨M0, H, hx⟩ := start19 hw
  by_cases h1 : 3000 < P.length
  · have q1 : (3000 : Int) < (P.length : Int) := by omega
    clear h1
    go_enter Tryd.func5, Tryd.ntmps5
    go_wp2_with fail
    refine (awake19_any H hx).mono ?_
    rintro e w1 ⟨rfl, H1⟩
    go_wp2
    go_ret
    exact ⟨rfl, H1.below⟩
  · have q1 : ¬ (3000 : Int) < (P.length : Int) := by omega
    by_cases h2 : 3000 < S.length
    · have q2 : (3000 : Int) < (S.length : Int) := by omega
      clear h1 h2
      go_enter Tryd.func5, Tryd.ntmps5
      go_wp2_with fail
      refine (awake19_any H hx).mono ?_
      rintro e w1 ⟨rfl, H1⟩
      go_wp2
      go_ret
      exact ⟨rfl, H1.below⟩
    · have q2 : ¬ (3000 : Int) < (S.length : Int) := by omega
      have hP : P.length ≤ 3000 := by omega
      have hS : S.length ≤ 3000 := by omega
      have HP := Lib.hid hP
      have HS := Lib.hid hS
      clear h1 h2 hP hS
      go_enter Tryd.func5, Tryd.ntmps5
      go_wp2_with fail
      refine (after_any H P (by have := HP.out; omega)).mono ?_
      rintro e w1 ⟨A, ok, rfl, H1, hc⟩
      have HC := Lib.hid hc
      clear hc
      go_wp2
      go_loopw [7, 8] (fun a i wr => ∃ (j : Nat) (b : Bool), j ≤ P.length ∧ i = .int .i64 j ∧ a = .bool b ∧ b = (P.take j).all (· == 255) ∧ wr = w1) (fun _ i _ => P.length - (intOf i).toNat)
      case atStart => exact ⟨0, true, Nat.zero_le _, rfl, rfl, rfl, rfl⟩
      case round =>
        obtain ⟨j, b, hj, rfl, rfl, hb, rfl⟩ := hrel
        by_cases hjl : j < P.length
        · have p1 : (j : Int) < (P.length : Int) := by omega
          have ix := fun w => str_index (P := Tryd.prog) (k := .i64) (i := (j : Int)) Tryd.underlying9 P j hjl rfl w
          have HST := Lib.hid (all_step P j hjl)
          have HB := Lib.hid hb
          have HJ := Lib.hid hjl
          have w1' : IntKind.i64.wrap ((j : Int) + 1) = (j : Int) + 1 := by rw [IntKind.wrap_i64]; have := HP.out; omega
          clear hb hj
          cases b with
          | true =>
            go_wp2
            refine ⟨⟨j + 1, _, HJ.out, rfl, rfl, ?_, trivial⟩, ?_⟩
            · rw [HST.out, ← HB.out, Bool.true_and]
            · simp [intOf]
              have := HJ.out
              omega
          | false =>
            go_wp2
            refine ⟨⟨j + 1, _, HJ.out, rfl, rfl, ?_, trivial⟩, ?_⟩
            · rw [HST.out, ← HB.out, Bool.false_and]
            · simp [intOf]
              have := HJ.out
              omega
        · have p1 : ¬ (j : Int) < (P.length : Int) := by omega
          obtain rfl : j = P.length := by omega
          rw [List.take_length] at hb
          clear hjl hj
          rcases HC.out with ⟨rfl, rfl, ha⟩ | ⟨rfl, ha, hal, h3, h4, h5, h6⟩
          · rw [ha] at hb
            subst hb
            clear ha
            go_wp2_with fail
            refine (awake19_any H1 hx).mono ?_
            rintro e w2 ⟨rfl, H2⟩
            go_wp2
            go_ret
            exact ⟨rfl, H2.below⟩
          · rw [ha] at hb
            subst hb
            have hadd : ∀ w, (Op.stringOp .add (str P) (str S)).run Tryd.prog w = .ok (.string (str (P ++ S))) w := fun w => run_string_add_lists w P S (by have := HP.out; omega) (by have := HS.out; omega)
            have g3 : (Op.bytesLess A P || A == P) = false := by rw [Tu.bytesLess_tlt, h3, h4]; rfl
            have g5 : Op.bytesLess (P ++ S) A = true := by rw [Tu.bytesLess_tlt]; exact h5 S
            have g6 : decide (P <+: S) = (!Op.bytesLess S P && Op.bytesLess S A) := by rw [Tu.bytesLess_tlt, Tu.bytesLess_tlt]; exact h6 S
            have l1 : ∀ w, (binOp .leq 9 (.string (str A)) (.string (str P))).run Tryd.prog w = .ok (.bool false) w := fun w => by
              rw [str_leq, show (str A).toList = A from ByteArray.toList_mk A, show (str P).toList = P from ByteArray.toList_mk P, g3]
              rfl
            have l2 : ∀ w, (binOp .geq 9 (.string (str S)) (.string (str P))).run Tryd.prog w = .ok (.bool (!Op.bytesLess S P)) w := fun w => by
              rw [str_geq, show (str S).toList = S from ByteArray.toList_mk S, show (str P).toList = P from ByteArray.toList_mk P]
              rfl
            have g7 : ¬ (P.length : Int) < (A.length : Int) := by omega
            clear h3 h4 h5 h6 ha
            have gb : (S.take P.length == P) = (!Op.bytesLess S P && Op.bytesLess S A) := by
              rw [← g6, Bool.eq_iff_iff, beq_iff_eq, decide_eq_true_eq, List.prefix_iff_eq_take]
              exact eq_comm
            have gc : ¬ P.length ≤ S.length → (!Op.bytesLess S P && Op.bytesLess S A) = false := fun hle => by
              rw [← g6, decide_eq_false_iff_not]
              exact fun h => hle h.length_le
            clear g6
            by_cases h8 : P.length ≤ S.length
            · have p8 : (P.length : Int) ≤ (S.length : Int) := by omega
              have sl := fun w => str_to (P := Tryd.prog) (k := .i64) (i := (P.length : Int)) Tryd.underlying9 S P.length h8 rfl w
              clear gc h8 hal
              cases hX : Op.bytesLess S P <;> cases hY : Op.bytesLess S A <;> rw [hX, hY] at gb <;> rw [hX] at l2 <;> simp only [Bool.not_true, Bool.not_false, Bool.and_true, Bool.and_false, Bool.true_and, Bool.false_and] at gb l2
              all_goals
                go_wp2_with fail
                refine (awake19_any H1 hx).mono ?_
                rintro e w2 ⟨rfl, H2⟩
                go_wp2
                go_ret
                exact ⟨rfl, H2.below⟩
            · have p8 : ¬ (P.length : Int) ≤ (S.length : Int) := by omega
              have gd := gc h8
              clear gc gb h8 hal
              cases hX : Op.bytesLess S P <;> cases hY : Op.bytesLess S A <;> rw [hX, hY] at gd <;> rw [hX] at l2 <;> simp only [Bool.not_true, Bool.not_false] at l2 <;> first | (exfalso; revert gd; decide) | skip
              all_goals
                clear gd
                go_wp2_with fail
                refine (awake19_any H1 hx).mono ?_
                rintro e w2 ⟨rfl, H2⟩
                go_wp2
                go_ret
                exact ⟨rfl, H2.below⟩
end
end Go.Proofs.YtbmiifglpjeegaaDoor
