/- The contract of the reference's Unhex. -/
import Derived.Test.YtcegmakkfhfalaaDoorUi
set_option linter.unusedVariables false
set_option linter.unusedSimpArgs false
namespace Go.Proofs.YtcegmakkfhfalaaDoor
open Go.RowKit Wd
section
variable {w0 w : World} {M : Mem} {L : List Ent}
set_option maxRecDepth 100000 in
set_option maxHeartbeats 1000000 in
theorem runhex_any (H : St w0 w M L) (l : List UInt8) (hn : l.length ≤ 1000000) : Calls Tryd.prog 22 #[.string ⟨l.toArray⟩] w (Unhexed w0 M L l (.bool false) (.bool true)) := by
  have hsz : (ByteArray.mk l.toArray).size = l.length := by show l.toArray.size = _; simp
  by_cases hodd : l.length % 2 = 1
  · have ho : ((l.length : Int) % 2 != 0) = true := by simp; omega
    have hno : unhexL l = none := by
      cases h : unhexL l with
      | none => rfl
      | some o => have := unhexL_len l o h; omega
    have HNO := Lib.hid hno
    clear hno hodd
    go_enter Tryd.func22, Tryd.ntmps22
    go_wp2
    go_ret2
    exact .inl ⟨HNO.out, rfl, H⟩
  · have ho : ((l.length : Int) % 2 != 0) = false := by simp; omega
    have H1 := H.lit0 5
    have HODD := Lib.hid hodd
    clear hodd
    go_enter Tryd.func22, Tryd.ntmps22
    go_wp2
    go_loopw [4, 5] (fun v i wr => ∃ (K : Nat) (o : List UInt8), K ≤ l.length ∧ K % 2 = 0 ∧ i = .int .i64 K ∧ unhexL (l.take K) = some o ∧ St w0 wr M (er 5 1 v o.length (bv o) :: L)) (fun _ i _ => l.length - (intOf i).toNat)
    case atStart => exact ⟨0, [], Nat.zero_le _, rfl, rfl, rfl, H1⟩
    case round =>
      obtain ⟨K, o, hK, hK2, rfl, hu, H2⟩ := hrel
      clear H1
      obtain ⟨A1, c1, rfl, hc1, hA1⟩ := H2.shape' 0 rfl
      have hol : o.length ≤ 1000000 := by have := unhexL_len _ _ hu; rw [List.length_take] at this; omega
      by_cases hlt : K < l.length
      · have hlt1 : K + 1 < l.length := by have := HODD.out; omega
        obtain ⟨x, hx⟩ : ∃ x, x = l[K] := ⟨_, rfl⟩
        obtain ⟨y, hy⟩ : ∃ y, y = l[K + 1] := ⟨_, rfl⟩
        obtain ⟨K1, hK1⟩ : ∃ k, k = K + 1 := ⟨_, rfl⟩
        have hbad := unhexL_bad l o K hlt1 hu
        have hgood := unhexL_good l o K hlt1 hu
        have ix0 : ∀ W : World, (Instr.index 9 (.string ⟨l.toArray⟩) (.int .i64 (K : Int))).run Tryd.prog W = .ok (.int .u8 (x.toNat : Int)) W := fun W => by rw [run_index_list W l K Tryd.underlying9 hlt rfl, hx]
        have ix1 : ∀ W : World, (Instr.index 9 (.string ⟨l.toArray⟩) (.int .i64 (K1 : Int))).run Tryd.prog W = .ok (.int .u8 (y.toNat : Int)) W := fun W => by rw [run_index_list W l (K + 1) Tryd.underlying9 hlt1 (by rw [hK1]), hy]
        rw [← hx, ← hy] at hbad hgood
        have wk : IntKind.i64.wrap ((K : Int) + 1) = (K1 : Int) := by rw [IntKind.wrap_i64]; omega
        have HBAD := Lib.hid hbad
        have HGOOD := Lib.hid hgood
        have HLT := Lib.hid hlt1
        have HK1 := Lib.hid hK1
        have HU := Lib.hid hu
        have d1 := dig_lo x
        have d2 := dig_lo y
        obtain ⟨p, hp⟩ : ∃ p, p = dig x := ⟨_, rfl⟩
        obtain ⟨q, hq⟩ : ∃ q, q = dig y := ⟨_, rfl⟩
        have c1' := rdigit_any x
        have c2' := rdigit_any y
        rw [← hp] at d1 c1' HBAD HGOOD
        rw [← hq] at d2 c2' HBAD HGOOD
        have C1 := Lib.hid c1'
        have C2 := Lib.hid c2'
        clear hbad hgood hlt1 hK1 hu c1' c2' hx hy hp hq
        have kk : (K : Int) + 1 = (K1 : Int) := by have := HK1.out; omega
        by_cases hp0 : p < 0
        · go_wp2_with fail
          refine (C1.out _).mono ?_
          rintro e w5 ⟨rfl, rfl⟩
          go_wp2
          go_ret2
          exact .inl ⟨HBAD.out (.inl hp0), rfl, H2.d0⟩
        · go_wp2_with fail
          refine (C1.out _).mono ?_
          rintro e w5 ⟨rfl, rfl⟩
          by_cases hq0 : q < 0
          · go_wp2_with fail
            refine (C2.out _).mono ?_
            rintro e w5 ⟨rfl, rfl⟩
            go_wp2
            go_ret2
            exact .inl ⟨HBAD.out (.inr hq0), rfl, H2.d0⟩
          · go_wp2_with fail
            refine (C2.out _).mono ?_
            rintro e w5 ⟨rfl, rfl⟩
            have hg := HGOOD.out (by omega)
            obtain ⟨P, hP⟩ := Int.eq_ofNat_of_zero_le (show 0 ≤ p by omega)
            obtain ⟨Q, hQ⟩ := Int.eq_ofNat_of_zero_le (show 0 ≤ q by omega)
            obtain ⟨s, hs⟩ : ∃ s : UInt8, s = UInt8.ofNat (16 * p + q).toNat := ⟨_, rfl⟩
            have hsn : 16 * p + q = (s.toNat : Int) := by
              rw [hs, show (16 * p + q).toNat = 16 * P + Q from by omega, UInt8.toNat_ofNat']
              omega
            rw [← hs] at hg
            have slt : (s.toNat : Int) < 256 := by have := s.toNat_lt; omega
            have s0 : 0 ≤ (s.toNat : Int) := by omega
            have wr1 : IntKind.i64.wrap (16 * p) = 16 * p := by rw [IntKind.wrap_i64]; omega
            have wr2 : IntKind.i64.wrap (s.toNat : Int) = (s.toNat : Int) := by rw [IntKind.wrap_i64]; omega
            have wr3 : IntKind.u8.wrap (s.toNat : Int) = (s.toNat : Int) := by rw [IntKind.wrap_u8]; omega
            have HG := Lib.hid hg
            have H3 := H2.drew
            have H4 := H3.lit (bv [s]) 5 (by show 1 ≤ maxLen; decide)
            clear hg hs HGOOD HBAD hP hQ kk
            go_wp2
            refine Pt.wp_plan (fun w' => True) (Pt.prs [0, 1, 2, 3, 6, 7, 8, 9] (.go 4 (Pt.prs [5] (.go 10 (Pt.prs [11, 12] (.go 13 (.st 14 (Pt.prs [15] .fin)))))))) [14] Tryd.mixed (by kernel_rfl) (fun _ _ d _ _ h => by cases d <;> exact h) trivial ?_
            simp only [Pt.toL, Pt.rds, Pt.prs, Pt.at_, List.drop_succ_cons, List.drop_zero]
            iterate 8 (refine Pt.pr_run (v := ?_) (by rfl) ?_ ?_; rotate_left; (focus (intro w'; go_simp; with_reducible rfl)); simp only [Act.put, List.setIfInBounds_toArray, List.set_cons_zero, List.set_cons_succ])
            refine Pt.run_go ?_
            go_wp2_with fail
            refine (C1.out _).mono ?_
            rintro e w5 ⟨rfl, rfl⟩
            go_wp2_with fail
            refine Pt.same trivial ?_
            (refine Pt.pr_run (v := ?_) (by rfl) ?_ ?_; rotate_left; (focus (intro w'; go_simp; with_reducible rfl)); simp only [Act.put, List.setIfInBounds_toArray, List.set_cons_zero, List.set_cons_succ])
            refine Pt.run_go ?_
            go_wp2_with fail
            refine (C2.out _).mono ?_
            rintro e w5 ⟨rfl, rfl⟩
            go_wp2_with fail
            refine Pt.same trivial ?_
            iterate 2 (refine Pt.pr_run (v := ?_) (by rfl) ?_ ?_; rotate_left; (focus (intro w'; go_simp; with_reducible rfl)); simp only [Act.put, List.setIfInBounds_toArray, List.set_cons_zero, List.set_cons_succ])
            refine Pt.run_go ?_
            go_wp2_with fail
            refine Pt.same trivial ?_
            refine Pt.run_st ?_
            refine wpList_append_st H4.f1 (by rfl) (.tmp 30) (.tmp 43) 22 (by rfl) Tryd.info5 Tryd.underlying22 (by rfl) (some ⟨wr.heap.size, 0, none⟩) 1 1 [s] (by rfl) rfl (by rintro ⟨⟩) (er_RB (H4.get 0 rfl)) (by omega) ?_
            intro v2 w6 H5
            have H5 := H5.d1
            rw [← bv_append] at H5
            refine wpList_nil ?_
            refine cast rfl ?_
            simp only [Act.put, List.setIfInBounds_toArray, List.set_cons_zero, List.set_cons_succ]
            (refine Pt.pr_run (v := ?_) (by rfl) ?_ ?_; rotate_left; (focus (intro w'; go_simp; with_reducible rfl)); simp only [Act.put, List.setIfInBounds_toArray, List.set_cons_zero, List.set_cons_succ])
            refine Pt.run_fin ?_
            go_wp2
            exact ⟨⟨K + 2, _, by have := HLT.out; omega, by omega, by go_num, HG.out, by rw [List.length_append]; exact H5⟩, by have := HLT.out; simp [intOf]; omega⟩
      · obtain rfl : K = l.length := by omega
        rw [List.take_length] at hu
        obtain ⟨M', hM', H3, hb, -⟩ := H2.lendRow
        have HU := Lib.hid hu
        clear hu
        go_wp2
        go_ret2
        exact .inr ⟨o, A1, c1, M', HU.out, rfl, hM', hb, H3⟩
end
end Go.Proofs.YtcegmakkfhfalaaDoor
