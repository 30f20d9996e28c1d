/- The reference's times. -/
import Derived.Test.YtcegmakkfhfalaaDoorMm
import Derived.Test.YtcegmakkfhfalaaDoorWk
set_option linter.unusedVariables false
set_option linter.unusedSimpArgs false
namespace Go.Proofs.YtcegmakkfhfalaaDoor
open Go.RowKit Wd
theorem val_split (l : List Nat) (i : Nat) : val l = val (l.take i) + 65536 ^ i * val (l.drop i) := by
  induction l generalizing i with
  | nil => simp [val]
  | cons x l ih =>
    cases i with
    | zero => simp [val]
    | succ i =>
      simp only [List.take_succ_cons, List.drop_succ_cons, val]
      have h1 := ih i
      have e : 65536 ^ (i + 1) * val (l.drop i) = 65536 * (65536 ^ i * val (l.drop i)) := by rw [Nat.pow_succ, Nat.mul_comm (65536 ^ i) 65536, Nat.mul_assoc]
      rw [e]
      omega
theorem val_take12 (l : List Nat) (h : val l < 65536 ^ 12) : val (l.take 12) = val l := by
  have h1 := val_split l 12
  rcases Nat.eq_zero_or_pos (val (l.drop 12)) with h2 | h2
  · rw [h2, Nat.mul_zero, Nat.add_zero] at h1; exact h1.symm
  · have h3 : 65536 ^ 12 * 1 ≤ 65536 ^ 12 * val (l.drop 12) := Nat.mul_le_mul_left _ h2
    omega
/-- Two numbers whose digits agree from place n on, and differ below it first at i. -/
theorem val_less (b l : List Nat) (hb : ∀ d ∈ b, d < 65536) (hbl : b.length = l.length) (i : Nat) (hi : i < b.length) (heq : b.drop (i + 1) = l.drop (i + 1)) (hlt : b[i] < l[i]'(by omega)) : val b < val l := by
  have h1 := val_split b (i + 1)
  have h2 := val_split l (i + 1)
  rw [val_take_succ b i hi] at h1
  rw [val_take_succ l i (by omega), ← heq] at h2
  have h3 := val_lt (b.take i) fun d hd => hb d (List.mem_of_mem_take hd)
  rw [List.length_take, Nat.min_eq_left (by omega)] at h3
  have h4 : 65536 ^ i * (b[i] + 1) ≤ 65536 ^ i * l[i]'(by omega) := Nat.mul_le_mul_left _ hlt
  rw [Nat.mul_add, Nat.mul_one] at h4
  omega
theorem drop_step (b l : List Nat) (i : Nat) (hi : i < b.length) (hi2 : i < l.length) (heq : b.drop (i + 1) = l.drop (i + 1)) (h : b[i] = l[i]) : b.drop i = l.drop i := by
  rw [List.drop_eq_getElem_cons hi, List.drop_eq_getElem_cons hi2, heq, h]
theorem Wd.RA.pre {w : World} {A : Option Addr} {l : List Nat} (h : RA w A (uv l)) (k : Nat) : RA w A (uv (l.take k)) := fun hne => by
  obtain ⟨b, o, rfl, hlt, hr⟩ := h (fun h0 => hne (by
    have : l = [] := by cases l with | nil => rfl | cons _ _ => simp [uv] at h0
    rw [this, List.take_nil]; rfl))
  refine ⟨b, o, rfl, hlt, fun j u hj => hr j u ?_⟩
  unfold uv at hj ⊢
  rw [List.map_take, List.getElem?_take] at hj
  split at hj
  · exact hj
  · cases hj
def limitL (root p : Nat) : List Nat := (List.replicate 12 0).set (2 * root) p
section
variable {w0 w : World} {M : Mem} {L : List Ent}
set_option maxRecDepth 100000 in
set_option maxHeartbeats 2000000 in
theorem times_any (H : St w0 w M L) (x root p : Nat) (hx : x < 2 ^ 40) (hroot : root = 2 ∨ root = 3) (hp : p < 65536) :
    Calls Tryd.prog 24 #[.int .u64 (x : Int), .int .i64 (root : Int), .int .i64 (p : Int)] w fun e w' => e = .returned (.bool (decide (x ^ root ≤ p * 65536 ^ (2 * root)))) ∧ St w0 w' M L := by
  have hpow : x ^ root < 65536 ^ 8 := by
    have h1 : x ^ root ≤ (2 ^ 40) ^ root := Nat.pow_le_pow_left (by omega) root
    rcases hroot with rfl | rfl
    · exact Nat.lt_of_le_of_lt h1 (by decide)
    · exact Nat.lt_of_le_of_lt h1 (by decide)
  have hlim : val (limitL root p) = p * 65536 ^ (2 * root) := by
    rcases hroot with rfl | rfl
    · show 0 + 65536 * (0 + 65536 * (0 + 65536 * (0 + 65536 * (p + 65536 * val (List.replicate 7 0))))) = _
      rw [show val (List.replicate 7 0) = 0 from rfl]
      omega
    · show 0 + 65536 * (0 + 65536 * (0 + 65536 * (0 + 65536 * (0 + 65536 * (0 + 65536 * (p + 65536 * val (List.replicate 5 0))))))) = _
      rw [show val (List.replicate 5 0) = 0 from rfl]
      omega
  have hll : (limitL root p).length = 12 := by unfold limitL; rw [List.length_set, List.length_replicate]
  have hld : ∀ d ∈ limitL root p, d < 65536 := fun d hd => by
    unfold limitL at hd
    rcases List.mem_or_eq_of_mem_set hd with h | h
    · rw [(List.mem_replicate.1 h).2]; decide
    · rw [h]; exact hp
  obtain ⟨LM, hLM⟩ : ∃ LM, LM = limitL root p := ⟨_, rfl⟩
  have hset : (uv (List.replicate 12 0)).set (2 * root) (.int .u64 (p : Int)) = uv LM := by rw [hLM, uv_set]; rfl
  rw [← hLM] at hlim hll hld
  have HSET := Lib.hid hset
  have HLIM := Lib.hid hlim
  have HLL := Lib.hid hll
  have HLD := Lib.hid hld
  have HPOW := Lib.hid hpow
  have hx64 : x < 18446744073709551616 := by have : (2:Nat) ^ 40 < 18446744073709551616 := by decide
                                             omega
  have HX := Lib.hid hx
  clear hLM hset hlim hll hld hpow hx
  have hr3 : root ≤ 3 := by omega
  have hr2 : 2 ≤ root := by omega
  go_enter Tryd.func24, Tryd.ntmps24
  go_wp2_with fail
  refine (parts_any H x hx64).mono ?_
  rintro e w1 ⟨ga, rfl, H1⟩
  obtain ⟨M1, hM1, H2, hra, _⟩ := H1.lendRowA
  have hva := partsL_val x hx64
  have hlt := partsL_lt x
  have hal : (partsL x 4).length = 12 := by simp [partsL]
  obtain ⟨a, ha⟩ : ∃ a, a = partsL x 4 := ⟨_, rfl⟩
  rw [← ha] at hra hva hlt hal
  have HA := Lib.hid (And.intro hva (And.intro hlt (And.intro hal hra)))
  have hHM1 : M.le M1 := hM1
  clear ha hva hlt hal hra H1
  go_wp2
  go_loopw [8, 9] (fun v i wr => ∃ (m gb cb : Nat) (bl : List Nat) (M2 : Mem), 1 ≤ m ∧ m ≤ root ∧ i = .int .i64 m ∧ v = .slice (some ⟨gb, 0, none⟩) 12 cb ∧ 12 ≤ cb ∧ bl.length = 12 ∧ (∀ d ∈ bl, d < 65536) ∧ val bl = x ^ m ∧ M1.le M2 ∧ In M2 (fun W => RA W (some ⟨gb, 0, none⟩) (uv bl)) ∧ St w0 wr M2 L) (fun _ i _ => 4 - (intOf i).toNat)
  case atStart =>
    obtain ⟨h1, h2, h3, h4⟩ := HA.out
    exact ⟨1, ga, 12, a, M1, by omega, by omega, rfl, rfl, Nat.le_refl _, h3, h2, by rw [h1, Nat.pow_one], Mem.le.refl _, h4, H2⟩
  case round =>
    obtain ⟨m, gb, cb, bl, M2, hm1, hmr, rfl, rfl, hcb, hbl, hbd, hbv, hM2, hrb, H3⟩ := hrel
    clear H2
    have HB := Lib.hid (And.intro hbl (And.intro hbd (And.intro hbv hrb)))
    by_cases hlt : m < root
    · have hltI : (m : Int) < (root : Int) := by omega
      obtain ⟨h1, h2, h3, h4⟩ := HA.out
      have hprod : val bl * val a = x ^ (m + 1) := by rw [hbv, h1, Nat.pow_succ]
      have hpb : x ^ (m + 1) < 65536 ^ 12 := by
        have q1 : x ^ (m + 1) ≤ (2 ^ 40) ^ (m + 1) := Nat.pow_le_pow_left (by have := HX.out; omega) _
        have q2 : ((2 : Nat) ^ 40) ^ (m + 1) ≤ (2 ^ 40) ^ 3 := Nat.pow_le_pow_right (by decide) (by omega)
        have q3 : ((2 : Nat) ^ 40) ^ 3 < 65536 ^ 12 := by decide
        omega
      have hmul := mul_any H3 (ga := gb) (oa := 0) (ca := cb) (gb := ga) (ob := 0) (cb := 12) (a := bl) (b := a) hbl h3 hbd h2 hrb (h4.le hM2) (by rw [hprod]; exact Nat.lt_trans hpb (by decide))
      rw [hprod] at hmul
      have HMUL := Lib.hid hmul
      have HPB := Lib.hid hpb
      have HLT := Lib.hid hlt
      clear hmul hprod hpb hlt h1 h2 h3 h4 hbl hbd hbv hrb
      go_wp2_with fail
      refine HMUL.out.mono ?_
      rintro e w4 ⟨g4, l, rfl, hl1, hl2, hl3, H4⟩
      obtain ⟨M4, hM4, H5, hr4, _⟩ := H4.lendRowA
      have HL := Lib.hid (show (l.take 12).length = 12 ∧ (∀ d ∈ l.take 12, d < 65536) ∧ val (l.take 12) = x ^ (m + 1) ∧ In M4 (fun W => RA W (some ⟨g4, 0, none⟩) (uv (l.take 12))) from
        ⟨by rw [List.length_take]; omega, fun d hd => hl2 d (List.mem_of_mem_take hd), by rw [val_take12 l (by rw [hl3]; exact HPB.out)]; exact hl3, hr4.imp fun W hW => RA.pre hW 12⟩)
      clear hl1 hl2 hl3 hr4 H4 H3
      go_wp2
      obtain ⟨k1, k2, k3, k4⟩ := HL.out
      exact ⟨⟨m + 1, g4, 24, l.take 12, M4, by omega, HLT.out, by go_num, rfl, by omega, k1, k2, k3, hM2.trans hM4, k4, H5⟩, by have := HLT.out; simp [intOf]; omega⟩
    · obtain rfl : m = root := by omega
      have hltI : ¬ (m : Int) < (m : Int) := by omega
      have hmk := make_u64 12 (by omega) 12 rfl
      have H4 := H3.lit (uv (List.replicate 12 0)) 51 (by rw [uv_length, List.length_replicate]; show 12 ≤ maxLen; decide)
      rw [show (uv (List.replicate 12 0)).length = 12 from by rw [uv_length, List.length_replicate]] at H4
      obtain ⟨zs, hzs⟩ : ∃ zs, zs = uv (List.replicate 12 0) := ⟨_, rfl⟩
      rw [← hzs] at hmk H4
      obtain ⟨r2, hr2'⟩ : ∃ r2, r2 = 2 * m := ⟨_, rfl⟩
      have i1 : (2 : Int) * (m : Int) = (r2 : Int) := by omega
      have i2 : IntKind.i64.wrap (r2 : Int) = (r2 : Int) := by rw [IntKind.wrap_i64]; omega
      have i3 : (r2 : Int) < 12 := by omega
      have i4 : IntKind.u64.wrap (p : Int) = (p : Int) := by rw [IntKind.wrap_u64]; omega
      have i5 : (p : Int) < 65536 := by omega
      have hset := HSET.out
      rw [← hr2', ← hzs] at hset
      have HSET := Lib.hid hset
      have HZS := Lib.hid hzs
      clear hset hr2' hlt hzs hbl hbd hbv hrb H3
      go_upto_region 8 with fail
      generalize hw5 : wr.alloc (.cells zs.toArray 51) = w5 at *
      generalize hg5 : wr.heap.size = g5 at *
      clear hw5 hmk hg5
      have hc5 : w5.frozen? ⟨g5, r2, none⟩ = false ∧ ∃ v, w5.cell? ⟨g5, r2, none⟩ = some v := by
        obtain ⟨g', he, hc, hf⟩ := H4.at_ r2 (by omega)
        injection he with he
        injection he with he
        subst he
        refine ⟨hf, zs.getD r2 undef, ?_⟩
        rw [hc, List.getD_eq_getElem?_getD, List.getElem?_eq_getElem (by rw [HZS.out, uv_length, List.length_replicate]; omega)]
        rfl
      obtain ⟨f5, v5, c5⟩ := hc5
      have H5 := H4.store r2 (.int .u64 (p : Int))
      rw [HSET.out] at H5
      clear H4
      go_wp2
      clear i1 i2 i3 i4 i5 f5 c5
      go_loopw [11] (fun i wr => ∃ (n : Nat) (I : Int), n ≤ 12 ∧ I = (n : Int) - 1 ∧ i = .int .i64 I ∧ bl.drop n = LM.drop n ∧ St w0 wr M2 (er 51 1 (.slice (some ⟨g5, 0, none⟩) 12 12) 12 (uv LM) :: L)) (fun i _ => (intOf i + 1).toNat)
      case atStart => exact ⟨12, 11, by omega, rfl, rfl, by rw [List.drop_of_length_le (by rw [HB.out.1]; exact Nat.le_refl _), List.drop_of_length_le (by rw [HLL.out]; exact Nat.le_refl _)], H5⟩
      case round =>
        obtain ⟨n, I, hn, hI, rfl, hdr, H6⟩ := hrel
        clear H5
        obtain ⟨hbl, hbd, hbv, hrb⟩ := HB.out
        have hLl := HLL.out
        cases n with
        | zero =>
          obtain rfl : I = -1 := by omega
          clear hI
          rw [List.drop_zero, List.drop_zero] at hdr
          have hd : decide (x ^ m ≤ p * 65536 ^ (2 * m)) = true := by
            rw [← HLIM.out, ← hdr, hbv]
            simp
          have HD := Lib.hid hd
          clear hd hdr hbl hbd hbv hrb hLl hn
          go_wp2
          go_ret
          exact ⟨by rw [HD.out]; rfl, H6.d0.weak H (hHM1.trans hM2)⟩
        | succ q =>
          obtain rfl : I = (q : Int) := by omega
          clear hI
          obtain ⟨y, hy⟩ : ∃ y, y = bl[q]'(by omega) := ⟨_, rfl⟩
          obtain ⟨z, hz⟩ : ∃ z, z = LM[q]'(by omega) := ⟨_, rfl⟩
          have hlmq : (uv LM)[q]? = some (.int .u64 (z : Int)) := by rw [uv_get LM q (by omega), hz]
          have hcd : ∀ W, St w0 W M2 (er 51 1 (.slice (some ⟨g5, 0, none⟩) 12 12) 12 (uv LM) :: L) → W.cell? ⟨gb, q, none⟩ = some (.int .u64 (y : Int)) ∧ W.cell? ⟨g5, q, none⟩ = some (.int .u64 (z : Int)) := fun W hW => by
            refine ⟨?_, ?_⟩
            · have h := RA.cell (hrb.now hW) q (by omega)
              rw [Nat.zero_add] at h
              rw [h, hy]
            · obtain ⟨g', he, hc, _⟩ := hW.at_ q (by omega)
              injection he with he
              injection he with he
              subst he
              rw [hc, hlmq]
          have q0 : (0 : Int) ≤ (q : Int) := by omega
          have q1 : (q : Int) < 12 := by omega
          have hy1 : y < 65536 := by rw [hy]; exact hbd _ (List.getElem_mem _)
          have HCD := Lib.hid hcd
          have H7 := H6.drew
          have H8 := H7.drew
          by_cases heq : y = z
          · have hds : bl.drop q = LM.drop q := drop_step bl LM q (by omega) (by omega) hdr (by rw [← hy, ← hz, heq])
            have HDS := Lib.hid hds
            have hne : ((y : Int) != (z : Int)) = false := by simp; omega
            clear hds hdr hbl hbd hbv hrb hLl hy hz hlmq hcd heq
            go_wp2
            refine Pt.wp_plan (fun w' => w'.cell? ⟨gb, q, none⟩ = some (.int .u64 (y : Int)) ∧ w'.cell? ⟨g5, q, none⟩ = some (.int .u64 (z : Int))) (Pt.prs [0, 1, 2, 4, 5, 6] (Pt.rds [3, 7] (Pt.prs [8] .fin))) [] Tryd.mixed (by kernel_rfl) (fun _ _ d _ _ h => by cases d <;> exact h) (HCD.out _ H7) ?_
            simp only [Pt.toL, Pt.rds, Pt.prs, Pt.at_, List.drop_succ_cons, List.drop_zero]
            iterate 6 (refine Pt.pr_run (v := ?_) (by rfl) ?_ ?_; rotate_left; (focus (intro w'; go_simp; with_reducible rfl)); simp only [Act.put, List.setIfInBounds_toArray, List.set_cons_zero, List.set_cons_succ])
            iterate 2 (refine Pt.rd_run (v := ?_) (by rfl) ?_ ?_; rotate_left; (focus (intro w' hS; obtain ⟨s0, s1⟩ := hS; go_simp; with_reducible rfl)); simp only [Act.put, List.setIfInBounds_toArray, List.set_cons_zero, List.set_cons_succ])
            (refine Pt.pr_run (v := ?_) (by rfl) ?_ ?_; rotate_left; (focus (intro w'; go_simp; with_reducible rfl)); simp only [Act.put, List.setIfInBounds_toArray, List.set_cons_zero, List.set_cons_succ])
            refine Pt.run_fin ?_
            go_wp2
            exact ⟨⟨q, (q : Int) - 1, by omega, rfl, by go_num, HDS.out, H7⟩, by first | (simp [intOf]; done) | (simp [intOf]; omega)⟩
          · have hne : ((y : Int) != (z : Int)) = true := by simp; omega
            have hd : decide (x ^ m ≤ p * 65536 ^ (2 * m)) = decide (y < z) := by
              rw [← HLIM.out, ← hbv]
              rcases Nat.lt_or_ge y z with h | h
              · have h1 := val_less bl LM hbd (by omega) q (by omega) hdr (by rw [← hy, ← hz]; exact h)
                simp only [h, decide_true, decide_eq_true_eq]
                omega
              · have h1 := val_less LM bl HLD.out (by omega) q (by omega) hdr.symm (by rw [← hy, ← hz]; omega)
                rw [decide_eq_false (by omega), decide_eq_false (by omega)]
            have HD := Lib.hid hd
            have hyz : decide ((y : Int) < (z : Int)) = decide (y < z) := by
              congr 1
              simp
            have HYZ := Lib.hid hyz
            clear hd hyz hdr hbl hbd hbv hrb hLl hy hz hlmq hcd heq
            go_wp2
            refine Pt.wp_plan (fun w' => w'.cell? ⟨gb, q, none⟩ = some (.int .u64 (y : Int)) ∧ w'.cell? ⟨g5, q, none⟩ = some (.int .u64 (z : Int))) (Pt.prs [0, 1, 2, 4, 5, 6] (Pt.rds [3, 7] (Pt.prs [8] .fin))) [] Tryd.mixed (by kernel_rfl) (fun _ _ d _ _ h => by cases d <;> exact h) (HCD.out _ H7) ?_
            simp only [Pt.toL, Pt.rds, Pt.prs, Pt.at_, List.drop_succ_cons, List.drop_zero]
            iterate 6 (refine Pt.pr_run (v := ?_) (by rfl) ?_ ?_; rotate_left; (focus (intro w'; go_simp; with_reducible rfl)); simp only [Act.put, List.setIfInBounds_toArray, List.set_cons_zero, List.set_cons_succ])
            iterate 2 (refine Pt.rd_run (v := ?_) (by rfl) ?_ ?_; rotate_left; (focus (intro w' hS; obtain ⟨s0, s1⟩ := hS; go_simp; with_reducible rfl)); simp only [Act.put, List.setIfInBounds_toArray, List.set_cons_zero, List.set_cons_succ])
            (refine Pt.pr_run (v := ?_) (by rfl) ?_ ?_; rotate_left; (focus (intro w'; go_simp; with_reducible rfl)); simp only [Act.put, List.setIfInBounds_toArray, List.set_cons_zero, List.set_cons_succ])
            refine Pt.run_fin ?_
            go_wp2
            refine Pt.wp_plan (fun w' => w'.cell? ⟨gb, q, none⟩ = some (.int .u64 (y : Int)) ∧ w'.cell? ⟨g5, q, none⟩ = some (.int .u64 (z : Int))) (Pt.prs [0, 1, 2, 4, 5, 6] (Pt.rds [3, 7] (Pt.prs [8, 9] .fin))) [] Tryd.mixed (by kernel_rfl) (fun _ _ d _ _ h => by cases d <;> exact h) (HCD.out _ H8) ?_
            simp only [Pt.toL, Pt.rds, Pt.prs, Pt.at_, List.drop_succ_cons, List.drop_zero]
            iterate 6 (refine Pt.pr_run (v := ?_) (by rfl) ?_ ?_; rotate_left; (focus (intro w'; go_simp; with_reducible rfl)); simp only [Act.put, List.setIfInBounds_toArray, List.set_cons_zero, List.set_cons_succ])
            iterate 2 (refine Pt.rd_run (v := ?_) (by rfl) ?_ ?_; rotate_left; (focus (intro w' hS; obtain ⟨s0, s1⟩ := hS; go_simp; with_reducible rfl)); simp only [Act.put, List.setIfInBounds_toArray, List.set_cons_zero, List.set_cons_succ])
            iterate 2 (refine Pt.pr_run (v := ?_) (by rfl) ?_ ?_; rotate_left; (focus (intro w'; go_simp; with_reducible rfl)); simp only [Act.put, List.setIfInBounds_toArray, List.set_cons_zero, List.set_cons_succ])
            refine Pt.run_fin ?_
            go_wp2
            go_ret
            exact ⟨by rw [HD.out, ← HYZ.out]; rfl, H8.d0.weak H (hHM1.trans hM2)⟩
end
end Go.Proofs.YtcegmakkfhfalaaDoor
