/- The reference's Decode walked (layer 19). -/
import Derived.Test.YtbmiifglpjeegaaDoorJp
set_option linter.unusedVariables false
set_option linter.unusedSimpArgs false
namespace Go.Proofs.YtbmiifglpjeegaaDoor
open Go.RowKit Wd
/-- What the reference's Decode gives. -/
def RetRDec (w0 : World) (M : Mem) (L : List Ent) (s : List UInt8) (e : Ending) (w' : World) : Prop :=
  (∃ l v, Tu.Key s l ∧ e = .returned (.tuple #[v, .bool true]) ∧ St w0 w' M (er 42 3 v l.length (pcs l) :: L)) ∨ ((∀ l, ¬ Tu.Key s l) ∧ e = .returned (.tuple #[.slice none 0 0, .bool false]) ∧ St w0 w' M L)
section
variable {w0 w : World} {M : Mem} {L : List Ent}
set_option maxRecDepth 100000 in
set_option maxHeartbeats 2000000 in
theorem rdecode_any (H : St w0 w M L) (s : List UInt8) (hs : s.length ≤ 1024) :
    Calls Tryd.prog 9 #[.string (str s)] w (RetRDec w0 M L s) := by
  have H0 := H.lit00 42 3
  obtain ⟨n, hn⟩ : ∃ n, n = s.length := ⟨_, rfl⟩
  have hn2 : n ≤ 1024 := by omega
  have HN := Lib.hid hn
  go_enter Tryd.func9, Tryd.ntmps9
  go_wp2
  go_loopw [4, 5] (fun v i wr => ∃ (a : Nat) (l : List Tu.Part), i = .int .i64 a ∧ a ≤ s.length + 2 ∧ l.length ≤ a ∧ Tu.Read s l a ∧ St w0 wr M (er 42 3 v l.length (pcs l) :: L)) (fun _ i _ => s.length + 2 - (intOf i).toNat)
  case atStart => exact ⟨0, [], rfl, by omega, by simp, Tu.Read.start s, H0⟩
  case round =>
    obtain ⟨a, l, rfl, ha, hla, hrd, H1⟩ := hrel
    clear H0 H hn
    have HRD := Lib.hid hrd
    clear hrd
    obtain ⟨A1, c1, rfl, hc1⟩ := H1.shape 0 rfl
    by_cases hlt : a < s.length
    · have ix := fun w => str_index (P := Tryd.prog) (k := .i64) (i := (a : Int)) Tryd.underlying9 s a hlt rfl w
      have hd : s.drop a = s[a] :: s.drop (a + 1) := List.drop_eq_getElem_cons hlt
      obtain ⟨c, hc⟩ : ∃ c, c = s[a] := ⟨_, rfl⟩
      simp only [← hc] at ix
      rw [← hc] at hd
      have q1 : (a : Int) < (s.length : Int) := by omega
      have q1n : a < s.length := hlt
      have HD := Lib.hid hd
      obtain ⟨a1, ha1⟩ : ∃ a1, a1 = a + 1 := ⟨_, rfl⟩
      have e1 : (a : Int) + 1 = (a1 : Int) := by omega
      have ha1b : a1 ≤ 1025 := by omega
      have HA1 := Lib.hid ha1
      obtain ⟨G, hG⟩ : ∃ G, G = wr.heap.size := ⟨_, rfl⟩
      clear hd hc hlt ha1
      by_cases hc32 : c = 32
      · subst hc32
        rw [show ((32 : UInt8).toNat : Int) = 32 from rfl] at ix
        have H2 := H1.newg [.string ⟨#[]⟩, .int .u64 0, .bool true] 42 hG
        have H3 := H2.litg [] 5 (by simp [maxLen]) (g := wr.heap.size + 1) (by simp)
        have HG := Lib.hid hG
        clear hG H2
        go_wp2
        simp only [← HG.out]
        rw [← HG.out] at H3
        go_loopw [7, 8] (fun v i wx => ∃ (k : Nat) (b : List UInt8), i = .int .i64 k ∧ k ≤ s.length ∧ a1 ≤ k ∧ b.length ≤ k ∧ Tu.loose (s.drop a1) = (b ++ (Tu.loose (s.drop k)).1, (Tu.loose (s.drop k)).2) ∧ St w0 wx M (er 5 1 v b.length (bv b) :: eb G 42 [.string ⟨#[]⟩, .int .u64 0, .bool true] :: er 42 3 (.slice A1 l.length c1) l.length (pcs l) :: L)) (fun _ i _ => s.length - (intOf i).toNat)
        case atStart => exact ⟨a1, [], rfl, by have := HA1.out; omega, by omega, by simp, rfl, H3⟩
        case round =>
          obtain ⟨k, b, rfl, hk, hk1, hbk, hlo, H4⟩ := hrel
          clear H3 ix
          have HLO := Lib.hid hlo
          clear hlo
          obtain ⟨A2, cc, rfl, hc2⟩ := H4.shape 0 rfl
          have hkb : k ≤ 1024 := by omega
          have HAK := Lib.hid hk1
          have HBK := Lib.hid hbk
          clear hk1 hbk
          by_cases hgo : ∃ (h : k + 1 < s.length), ¬ (s[k] = 0 ∧ s[k + 1] = 1)
          · obtain ⟨hkl, hno⟩ := hgo
            have i1 := fun w => str_index (P := Tryd.prog) (k := .i64) (i := (k : Int)) Tryd.underlying9 s k (by omega) rfl w
            obtain ⟨k1, hk1e⟩ : ∃ k1, k1 = k + 1 := ⟨_, rfl⟩
            have i2 := fun w => str_index (P := Tryd.prog) (k := .i64) (i := (k1 : Int)) Tryd.underlying9 s k1 (by omega) rfl w
            have e2 : (k : Int) + 1 = (k1 : Int) := by omega
            have hd1 : s.drop k = s[k] :: s[k + 1] :: s.drop (k + 2) := by
              rw [List.drop_eq_getElem_cons (by omega : k < s.length), List.drop_eq_getElem_cons (by omega : k + 1 < s.length)]
            have hd2 : s.drop (k + 1) = s[k + 1] :: s.drop (k + 2) := List.drop_eq_getElem_cons hkl
            obtain ⟨x, hx⟩ : ∃ x, x = s[k] := ⟨_, rfl⟩
            obtain ⟨y, hy⟩ : ∃ y, y = s[k + 1] := ⟨_, rfl⟩
            simp only [hk1e, ← hx, ← hy] at i1 i2
            rw [← hk1e] at i2
            rw [← hx, ← hy] at hno hd1
            rw [← hy] at hd2
            have q2 : (k1 : Int) < (s.length : Int) := by omega
            have q2n : k1 < s.length := by omega
            have HK1 := Lib.hid hk1e
            have hkb1 : k1 ≤ 1025 := by omega
            by_cases hx0 : x = 0
            · have hy1 : ¬ y = 1 := fun h => hno ⟨hx0, h⟩
              have p2 : ((y.toNat : Int) == 1) = false := by
                simp only [beq_eq_false_iff_ne]
                intro h
                exact hy1 (UInt8.toNat_inj.1 (by show y.toNat = 1; omega))
              have hl2 : Tu.loose (s.drop a1) = (b ++ [0] ++ (Tu.loose (s.drop (k + 2))).1, (Tu.loose (s.drop (k + 2))).2) := by
                rw [HLO.out, hd1, Tu.loose, if_pos hx0, if_neg hy1]
                simp
              subst hx0
              rw [show ((0 : UInt8).toNat : Int) = 0 from rfl] at i1
              have HL2 := Lib.hid hl2
              have HKL := Lib.hid hkl
              clear hno hd1 hd2 hx hy hl2 hy1 hkl hk1e
              go_wp2_with (at_builtin; refine wpList_append1_st H4 (by rfl) (.tmp 44) (.tmp 48) 47 (by rfl) Tryd.info5 (by rfl) Tryd.underlying47 (by rfl) (by rfl) (by rfl) (by have := HBK.out; omega) (by have := HBK.out; omega) ?_)
              intro v5 w5 H5
              go_wp2
              refine ⟨⟨k + 2, b ++ [0], ?_, by have := HKL.out; omega, by have := HAK.out; omega, by have := HBK.out; simp; omega, HL2.out, ?_⟩, by have := HKL.out; have := HK1.out; simp [intOf]; omega⟩
              · have := HK1.out
                exact congrArg (Value.int .i64) (by omega)
              · rw [List.length_append, bv_append]
                exact H5
            · have p1 : ((x.toNat : Int) == 0) = false := by
                simp only [beq_eq_false_iff_ne]
                intro h
                exact hx0 (UInt8.toNat_inj.1 (by show x.toNat = 0; omega))
              have hl2 : Tu.loose (s.drop a1) = (b ++ [x] ++ (Tu.loose (s.drop (k + 1))).1, (Tu.loose (s.drop (k + 1))).2) := by
                rw [HLO.out, hd1, Tu.loose, if_neg hx0, ← hd2]
                simp
              have HL2 := Lib.hid hl2
              have HKL := Lib.hid hkl
              clear hno hd1 hd2 hx hy hl2 hkl hk1e hx0
              go_wp2_with (at_builtin; refine wpList_append1_st H4 (by rfl) (.tmp 44) (.tmp 48) 47 (by rfl) Tryd.info5 (by rfl) Tryd.underlying47 (by rfl) (by rfl) (by rfl) (by have := HBK.out; omega) (by have := HBK.out; omega) ?_)
              intro v5 w5 H5
              go_wp2
              refine ⟨⟨k + 1, b ++ [x], ?_, by have := HKL.out; omega, by have := HAK.out; omega, by have := HBK.out; simp; omega, HL2.out, ?_⟩, by have := HKL.out; have := HK1.out; simp [intOf]; omega⟩
              · have := HK1.out
                exact congrArg (Value.int .i64) (by omega)
              · rw [List.length_append, bv_append]
                exact H5
          · obtain ⟨k1, hk1e⟩ : ∃ k1, k1 = k + 1 := ⟨_, rfl⟩
            have e2 : (k : Int) + 1 = (k1 : Int) := by omega
            have hend : Tu.loose (s.drop a1) = (b, s.drop (k + 2)) := by
              rw [HLO.out]
              by_cases hkl : k + 1 < s.length
              · have hd1 : s.drop k = s[k] :: s[k + 1] :: s.drop (k + 2) := by
                  rw [List.drop_eq_getElem_cons (by omega : k < s.length), List.drop_eq_getElem_cons (by omega : k + 1 < s.length)]
                have h3 : s[k] = 0 ∧ s[k + 1] = 1 := by
                  rcases Classical.em (s[k] = 0 ∧ s[k + 1] = 1) with h | h
                  · exact h
                  · exact absurd ⟨hkl, h⟩ hgo
                rw [hd1, Tu.loose, if_pos h3.1, if_pos h3.2]
                simp
              · rw [Tu.loose_short (by rw [List.length_drop]; omega), List.drop_eq_nil_of_le (by omega)]
                simp
            have hcase : (¬ (k1 : Int) < (s.length : Int) ∧ ¬ k1 < s.length) ∨ ((k1 : Int) < (s.length : Int) ∧ k1 < s.length ∧ (∀ w, (Instr.index 9 (.string (str s)) (.int .i64 (k : Int))).run Tryd.prog w = .ok (.int .u8 0) w) ∧ (∀ w, (Instr.index 9 (.string (str s)) (.int .i64 (k1 : Int))).run Tryd.prog w = .ok (.int .u8 1) w)) := by
              by_cases hkl : k + 1 < s.length
              · have h3 : s[k] = 0 ∧ s[k + 1] = 1 := by
                  rcases Classical.em (s[k] = 0 ∧ s[k + 1] = 1) with h | h
                  · exact h
                  · exact absurd ⟨hkl, h⟩ hgo
                refine .inr ⟨by omega, by omega, fun w => ?_, fun w => ?_⟩
                · have := str_index (P := Tryd.prog) (k := .i64) (i := (k : Int)) Tryd.underlying9 s k (by omega) rfl w
                  rw [h3.1] at this
                  exact this
                · have := str_index (P := Tryd.prog) (k := .i64) (i := (k1 : Int)) Tryd.underlying9 s (k + 1) (by omega) (by omega) w
                  rw [h3.2] at this
                  exact this
              · exact .inl ⟨by omega, by omega⟩
            have hrd2 := HRD.out.text (at' := k + 2) (by omega) (by have := HD.out; rwa [← HA1.out] at this) (by have := HBK.out; omega) hend
            have HRD2 := Lib.hid hrd2
            have HK1 := Lib.hid hk1e
            have hkb1 : k1 ≤ 1025 := by omega
            have g0 := H4.cell 1 rfl 0
            have g1 := H4.cell 1 rfl 1
            have g2 := H4.cell 1 rfl 2
            have f0 := H4.frozen 1 rfl 0
            have cv := conv_RB (P := Tryd.prog) (src := 47) (dst := 9) (n := b.length) (c := cc) Tryd.underlying47 Tryd.underlying5 Tryd.underlying9 (er_RB (H4.get 0 rfl)) rfl
            have H5 := H4.f1.set 0 (.string (str b))
            have H6 := H5.newg [.string (str b), .int .u64 0, .bool true] 42 (g := wr.heap.size) (by simp [World.setCell])
            have ra := (H6.blk 0 rfl).ra 0 3 [.string (str b), .int .u64 0, .bool true] rfl
            have e3 : (k : Int) + 2 = ((k + 2 : Nat) : Int) := by omega
            obtain ⟨k2, hk2⟩ : ∃ k2, k2 = k + 2 := ⟨_, rfl⟩
            rw [← hk2] at e3 HRD2
            have hk2b : k2 ≤ 1026 := by omega
            have HK2 := Lib.hid hk2
            clear hrd2 hend hgo hk1e hk2
            rcases hcase with ⟨z1, z2⟩ | ⟨z1, z2, z3, z4⟩
            all_goals
              go_wp2_with (at_builtin; refine wpList_append_any_st H6.f3 (by rfl) (.tmp 104) (.tmp 106) 23 (by rfl) Tryd.infoPart (by rfl) (by decide) Tryd.underlying23 (by rfl) (some ⟨wr.heap.size, 0, none⟩) 1 1 [.string (str b), .int .u64 0, .bool true] (by rfl) (by rfl) (by rintro ⟨⟩) ra (by simp [Value.oneCell']) (by omega) (by omega) ?_)
              intro v7 w7 H7
              have H8 : St w0 w7 M (er 42 3 v7 (l ++ [(⟨b, 0, true⟩ : Tu.Part)]).length (pcs (l ++ [⟨b, 0, true⟩])) :: L) := by
                rw [List.length_append, pcs_append]
                exact H7.d1.d1.d1
              clear H5 H6 H7 ra
              go_wp2
              refine ⟨⟨k2, l ++ [⟨b, 0, true⟩], rfl, by have := HK2.out; omega, ?_, HRD2.out, H8⟩, ?_⟩
              · rw [List.length_append, List.length_singleton]; have := HK2.out; have := HAK.out; have := HA1.out; omega
              · have := HK2.out; have := HAK.out; have := HA1.out; simp [intOf]; omega
      · have p0 : ((c.toNat : Int) == 32) = false := by
          simp only [beq_eq_false_iff_ne]
          intro h
          exact hc32 (UInt8.toNat_inj.1 (by show c.toNat = 32; omega))
        have hcl := c.toNat_lt
        obtain ⟨x, hx⟩ : ∃ x : Int, x = (c.toNat : Int) - 16 := ⟨_, rfl⟩
        have ex : (c.toNat : Int) - 16 = x := hx.symm
        have hx1 : -16 ≤ x := by omega
        have hx2 : x ≤ 239 := by omega
        have hr : (s.drop (a + 1)).length = s.length - (a + 1) := List.length_drop
        have H2 := H1.newg [.string ⟨#[]⟩, .int .u64 0, .bool false] 42 hG
        have HG := Lib.hid hG
        clear hG
        by_cases hbad : c.toNat < 16 ∨ 24 < c.toNat ∨ (s.drop (a + 1)).length < c.toNat - 16
        · have hno := HRD.out.no_num HD.out hc32 hbad
          have hcase : x < 0 ∨ (¬ x < 0 ∧ 8 < x) ∨ (¬ x < 0 ∧ ¬ 8 < x ∧ (s.length : Int) < (a1 : Int) + x) := by
            have := HA1.out
            rcases hbad with h | h | h
            · exact .inl (by omega)
            · exact .inr (.inl (by omega))
            · rcases Nat.lt_or_ge c.toNat 16 with h1 | h1
              · exact .inl (by omega)
              · rcases Nat.lt_or_ge 24 c.toNat with h2 | h2
                · exact .inr (.inl (by omega))
                · exact .inr (.inr ⟨by omega, by omega, by omega⟩)
          have HNO := Lib.hid hno
          clear hno hbad hx hr hc32
          rcases hcase with z1 | ⟨z1, z2⟩ | ⟨z1, z2, z3⟩
          all_goals
            go_wp2
            go_ret2
            exact .inr ⟨HNO.out, rfl, H2.d0.d0⟩
        · obtain ⟨N, hNe⟩ : ∃ N, N = c.toNat - 16 := ⟨_, rfl⟩
          have hcN : c.toNat = 16 + N := by omega
          have hN8 : N ≤ 8 := by omega
          have hNr : N ≤ (s.drop (a + 1)).length := by omega
          have exN : x = (N : Int) := by omega
          subst exN
          obtain ⟨aN, haN⟩ : ∃ aN, aN = a + 1 + N := ⟨_, rfl⟩
          have e2 : (a1 : Int) + (N : Int) = (aN : Int) := by have := HA1.out; omega
          have z1 : ¬ (N : Int) < 0 := by omega
          have z2 : ¬ 8 < (N : Int) := by omega
          have z3 : ¬ (s.length : Int) < (aN : Int) := by have := HA1.out; omega
          have z3n : ¬ s.length < aN := by have := HA1.out; omega
          have hrd2 := HRD.out.num HD.out hc32 hcN hN8 hNr
          rw [← haN] at hrd2
          obtain ⟨r, hrr⟩ : ∃ r, r = s.drop (a + 1) := ⟨_, rfl⟩
          rw [← hrr] at hrd2 hNr hr
          have HRD2 := Lib.hid hrd2
          have HR := Lib.hid hrr
          have HAN := Lib.hid haN
          have HNR := Lib.hid hNr
          have HRL := Lib.hid hr
          have haNb : aN ≤ 1034 := by have := HA1.out; omega
          clear hrd2 hrr haN hNr hbad hx hcN hNe hr hc32
          go_wp2
          simp only [← HG.out]
          go_loopw [10] (fun i wx => ∃ k : Nat, k ≤ N ∧ i = .int .i64 k ∧ St w0 wx M (eb G 42 [.string ⟨#[]⟩, .int .u64 (Tu.val (r.take k) : Int), .bool false] :: er 42 3 (.slice A1 l.length c1) l.length (pcs l) :: L)) (fun i _ => N - (intOf i).toNat)
          case atStart => exact ⟨0, by omega, rfl, H2⟩
          case round =>
            obtain ⟨k, hk, rfl, H3⟩ := hrel
            clear H2 ix
            by_cases hlt : k < N
            · have hks : k < r.length := by have := HNR.out; omega
              have hrv := Tu.val_take r k hks
              have hlim := Tu.val_lt8 (l := r.take (k + 1)) (by rw [List.length_take]; omega)
              rw [hrv] at hlim
              obtain ⟨ak, hak⟩ : ∃ ak, ak = a1 + k := ⟨_, rfl⟩
              have hakl : ak < s.length := by have := HRL.out; have := HA1.out; omega
              have ik := fun w => str_index (P := Tryd.prog) (k := .i64) (i := (ak : Int)) Tryd.underlying9 s ak hakl rfl w
              have hvv : s[ak] = r[k] := by
                have h1 : r[k]? = s[ak]? := by rw [HR.out, List.getElem?_drop, hak, HA1.out]
                rw [List.getElem?_eq_getElem hks, List.getElem?_eq_getElem hakl] at h1
                injection h1 with h1
                exact h1.symm
              obtain ⟨Y, hY⟩ : ∃ Y, Y = Tu.val (r.take k) := ⟨_, rfl⟩
              obtain ⟨v, hv⟩ : ∃ v, v = r[k] := ⟨_, rfl⟩
              rw [← hY, ← hv] at hrv hlim
              simp only [hvv, ← hv] at ik
              rw [← hY] at H3
              obtain ⟨m, f1, f3, _⟩ := Tu.val_run Y v hlim
              obtain ⟨T, hT⟩ : ∃ T, T = Y * 256 + v.toNat := ⟨_, rfl⟩
              have hmy : m = Y * 256 := by
                have h1 : Y * 256 < 18446744073709551616 := Nat.lt_of_le_of_lt (Nat.le_add_right _ _) hlim
                have h2 : IntKind.u64.wrap ((Y * 256 : Nat) : Int) = ((Y * 256 : Nat) : Int) := by
                  rw [IntKind.wrap_u64]
                  exact Int.emod_eq_of_lt (Int.natCast_nonneg _) (Int.ofNat_lt.2 h1)
                push_cast at h2
                rw [h2] at f1
                omega
              have f4 : IntKind.u64.wrap ((m : Int) + (v.toNat : Int)) = (T : Int) := by
                have h2 : IntKind.u64.wrap ((Y * 256 + v.toNat : Nat) : Int) = ((Y * 256 + v.toNat : Nat) : Int) := by
                  rw [IntKind.wrap_u64]
                  exact Int.emod_eq_of_lt (Int.natCast_nonneg _) (Int.ofNat_lt.2 hlim)
                rw [hmy, hT]
                push_cast at h2 ⊢
                exact h2
              rw [← hT] at hrv
              have HRV := Lib.hid hrv
              have HLT := Lib.hid hlt
              have q5 : (k : Int) < (N : Int) := by omega
              have e5 : (a1 : Int) + (k : Int) = (ak : Int) := by omega
              have w5 : IntKind.i64.wrap (ak : Int) = (ak : Int) := by rw [IntKind.wrap_i64]; omega
              have w1 : IntKind.i64.wrap (a1 : Int) = (a1 : Int) := by rw [IntKind.wrap_i64]; omega
              clear hrv hY hv hT hlt hlim hks hakl hak hvv hmy
              go_wp2
              refine Pt.wp_plan (fun w' => St w0 w' M (eb G 42 [.string ⟨#[]⟩, .int .u64 (Y : Int), .bool false] :: er 42 3 (.slice A1 l.length c1) l.length (pcs l) :: L)) (Pt.prs [0, 3, 4, 5, 6, 7, 8] (Pt.rds [1] (Pt.prs [2] (Pt.rds [9] (Pt.prs [10, 11] (.st 12 .fin)))))) [12] Tryd.mixed (by kernel_rfl) (fun _ _ d _ _ h => by cases d <;> exact h) H3.drew ?_
              have H4 := H3.drew
              simp only [Pt.toL, Pt.rds, Pt.prs, Pt.at_, List.drop_succ_cons, List.drop_zero]
              iterate 7 (refine Pt.pr_run (v := ?_) (by rfl) ?_ ?_; rotate_left; (focus (intro w'; go_simp; with_reducible rfl)); simp only [Act.put, List.setIfInBounds_toArray, List.set_cons_zero, List.set_cons_succ])
              (refine Pt.rd_run (v := ?_) (by rfl) ?_ ?_; rotate_left; (focus (intro w' hS; have g1 := hS.cell 0 rfl 1; go_simp; with_reducible rfl)); simp only [Act.put, List.setIfInBounds_toArray, List.set_cons_zero, List.set_cons_succ])
              (refine Pt.pr_run (v := ?_) (by rfl) ?_ ?_; rotate_left; (focus (intro w'; go_simp; with_reducible rfl)); simp only [Act.put, List.setIfInBounds_toArray, List.set_cons_zero, List.set_cons_succ])
              (refine Pt.rd_run (v := ?_) (by rfl) ?_ ?_; rotate_left; (focus (intro w' hS; obtain s0 := hS; go_simp; with_reducible rfl)); simp only [Act.put, List.setIfInBounds_toArray, List.set_cons_zero, List.set_cons_succ])
              iterate 2 (refine Pt.pr_run (v := ?_) (by rfl) ?_ ?_; rotate_left; (focus (intro w'; go_simp; with_reducible rfl)); simp only [Act.put, List.setIfInBounds_toArray, List.set_cons_zero, List.set_cons_succ])
              generalize hxx : wr.drew = wy at *
              clear hxx H3
              have f1' := H4.frozen 0 rfl 1
              have c1' := H4.cell 0 rfl 1
              have H5 := H4.set 1 (.int .u64 (T : Int))
              clear f1 f3 f4 e5 w5 w1 ik
              have t1 : (storeVar 40 ⟨G, 1, none⟩ (.int .u64 (T : Int))).run Tryd.prog wy = .ok () (wy.setCell ⟨G, 1, none⟩ (.int .u64 (T : Int))) := by go_simp
              refine Pt.run_st ?_
              refine wpList_store_run (by rfl) 40 (.tmp 99) (.tmp 98) (by rfl) ⟨G, 1, none⟩ (.int .u64 (T : Int)) (by rfl) (by rfl) _ t1 ?_
              refine wpList_nil ?_
              clear t1
              simp only [Pl.Then]
              simp only [Act.put, List.setIfInBounds_toArray, List.set_cons_zero, List.set_cons_succ]
              refine Pt.run_fin ?_
              go_wp2
              refine ⟨⟨k + 1, by have := HLT.out; omega, by go_num, by rw [HRV.out]; exact H5⟩, by have := HLT.out; simp [intOf]; omega⟩
            · obtain rfl : k = N := by omega
              obtain ⟨V, hV⟩ : ∃ V, V = Tu.val (r.take k) := ⟨_, rfl⟩
              have hrd3 := HRD2.out
              rw [← hV] at H3 hrd3
              have HRD3 := Lib.hid hrd3
              have g0 := H3.cell 0 rfl 0
              have g1 := H3.cell 0 rfl 1
              have g2 := H3.cell 0 rfl 2
              have H6 := H3.newg [.string ⟨#[]⟩, .int .u64 (V : Int), .bool false] 42 (g := wr.heap.size) rfl
              have ra := (H6.blk 0 rfl).ra 0 3 [.string ⟨#[]⟩, .int .u64 (V : Int), .bool false] rfl
              clear hlt hV hrd3
              go_wp2_with (at_builtin; refine wpList_append_any_st H6.f2 (by rfl) (.tmp 104) (.tmp 106) 23 (by rfl) Tryd.infoPart (by rfl) (by decide) Tryd.underlying23 (by rfl) (some ⟨wr.heap.size, 0, none⟩) 1 1 [.string ⟨#[]⟩, .int .u64 (V : Int), .bool false] (by rfl) (by rfl) (by rintro ⟨⟩) ra (by simp [Value.oneCell']) (by omega) (by omega) ?_)
              intro v7 w7 H7
              have H8 : St w0 w7 M (er 42 3 v7 (l ++ [(⟨[], V, false⟩ : Tu.Part)]).length (pcs (l ++ [⟨[], V, false⟩])) :: L) := by
                rw [List.length_append, pcs_append]
                exact H7.d1.d1
              clear H6 H7 ra
              go_wp2
              refine ⟨⟨aN, l ++ [⟨[], V, false⟩], rfl, by have := HAN.out; omega, ?_, HRD3.out, H8⟩, ?_⟩
              · rw [List.length_append, List.length_singleton]; have := HAN.out; omega
              · have := HAN.out; simp [intOf]; omega
    · have hdone := HRD.out.done (by omega)
      have q1 : ¬ (a : Int) < (s.length : Int) := by omega
      have q1n : ¬ a < s.length := hlt
      by_cases h8 : 8 < l.length
      · have hno : ∀ m, ¬ Tu.Key s m := fun m hm => by
          have := (hdone ⟨m, hm⟩).2.1
          omega
        have HNO := Lib.hid hno
        have q8 : 8 < (l.length : Int) := by omega
        clear hno hdone h8 hlt
        go_wp2
        go_ret2
        exact .inr ⟨HNO.out, rfl, H1.d0⟩
      · have htame : Tame l := ⟨by omega, fun p hp => ⟨by have := (HRD.out.1 p hp).2; omega, (HRD.out.1 p hp).1.2⟩⟩
        have henc := rencode_any (c := c1) H1 rfl (SrA.row 0 rfl) htame
        obtain ⟨E, hE⟩ : ∃ E, E = Tu.enc l := ⟨_, rfl⟩
        rw [← hE] at henc
        obtain ⟨t, ht⟩ : ∃ t, t = decide (E = s) := ⟨_, rfl⟩
        have hse : (E == s) = t := by rw [ht, Bool.eq_iff_iff]; simp
        have hres : (t = true → Tu.Key s l) ∧ (t = false → ∀ m, ¬ Tu.Key s m) := by
          refine ⟨fun h => ⟨fun p hp => (HRD.out.1 p hp).1, by omega, ?_⟩, fun h m hm => ?_⟩
          · rw [h] at ht
            rw [← hE]
            simpa using ht
          · have h2 := (hdone ⟨m, hm⟩).2.2
            rw [← hE] at h2
            rw [h2] at ht
            simp [h] at ht
        have HENC := Lib.hid henc
        have HRES := Lib.hid hres
        have q8 : ¬ 8 < (l.length : Int) := by omega
        clear henc hE ht hres hdone h8 hlt htame
        cases t with
        | true =>
          go_wp2_with fail
          refine HENC.out.mono ?_
          rintro e w5 ⟨rfl, H5⟩
          go_wp2
          go_ret2
          exact .inl ⟨l, _, HRES.out.1 trivial, rfl, H5⟩
        | false =>
          go_wp2_with fail
          refine HENC.out.mono ?_
          rintro e w5 ⟨rfl, H5⟩
          go_wp2
          go_ret2
          exact .inr ⟨HRES.out.2 trivial, rfl, H5.d0⟩
end
end Go.Proofs.YtbmiifglpjeegaaDoor
