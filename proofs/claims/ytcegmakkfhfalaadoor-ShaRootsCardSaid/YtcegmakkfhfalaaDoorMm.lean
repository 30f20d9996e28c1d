/- The reference's mul. -/
import Derived.Test.YtcegmakkfhfalaaDoorPr
import Derived.Test.YtcegmakkfhfalaaDoorPt
set_option linter.unusedVariables false
set_option linter.unusedSimpArgs false
namespace Go.Proofs.YtcegmakkfhfalaaDoor
open Go.RowKit Wd
theorem Wd.RA.cell {w : World} {b o : Nat} {l : List Nat} (h : RA w (some ⟨b, o, none⟩) (uv l)) (k : Nat) (hk : k < l.length) : w.cell? ⟨b, o + k, none⟩ = some (.int .u64 (l[k] : Int)) := by
  obtain ⟨b', o', he, _, hr⟩ := h (by intro h0; have := uv_length l; rw [h0] at this; simp at this; omega)
  injection he with he
  injection he with e1 e2
  subst e1 e2
  exact hr k _ (uv_get l k hk)
section
variable {w0 w : World} {M : Mem} {L : List Ent}
set_option maxRecDepth 100000 in
set_option maxHeartbeats 2000000 in
theorem mul_any (H : St w0 w M L) {ga oa gb ob ca cb : Nat} {a b : List Nat} (hal : a.length = 12) (hbl : b.length = 12) (ha : ∀ d ∈ a, d < 65536) (hb : ∀ d ∈ b, d < 65536) (hra : In M fun W => RA W (some ⟨ga, oa, none⟩) (uv a)) (hrb : In M fun W => RA W (some ⟨gb, ob, none⟩) (uv b)) (hv : val a * val b < 65536 ^ 22) :
    Calls Tryd.prog 30 #[.slice (some ⟨ga, oa, none⟩) 12 ca, .slice (some ⟨gb, ob, none⟩) 12 cb] w fun e w' => ∃ g l, e = .returned (.slice (some ⟨g, 0, none⟩) 12 24) ∧ l.length = 24 ∧ (∀ d ∈ l, d < 65536) ∧ val l = val a * val b ∧ St w0 w' M (er 51 1 (.slice (some ⟨g, 0, none⟩) 24 24) 24 (uv l) :: L) := by
  have hmk := make_u64 24 (by omega) 24 rfl
  have H1 := H.lit (uv (List.replicate 24 0)) 51 (by rw [uv_length, List.length_replicate]; show 24 ≤ maxLen; decide)
  obtain ⟨zs, hzs⟩ : ∃ zs, zs = uv (List.replicate 24 0) := ⟨_, rfl⟩
  rw [← hzs] at hmk
  have H2 : St w0 (w.alloc (.cells zs.toArray 51)) M (er 51 1 (.slice (some ⟨w.heap.size, 0, none⟩) 24 24) 24 (uv (List.replicate 24 0)) :: L) := by rw [hzs]; exact H1
  have HV := Lib.hid hv
  have HAL := Lib.hid hal
  have HBL := Lib.hid hbl
  clear hzs H1 hv hal hbl
  go_enter Tryd.func30, Tryd.ntmps30
  go_upto_region 2 with fail
  generalize hw1 : w.alloc (.cells zs.toArray 51) = w1 at *
  generalize hg : w.heap.size = g at *
  obtain ⟨l0, hl0⟩ : ∃ l0, l0 = List.replicate 24 0 := ⟨_, rfl⟩
  rw [← hl0] at H2
  have h00 : l0.length = 24 ∧ (∀ d ∈ l0, d < 65536) ∧ val l0 = val (a.take 0) * val b := by
    rw [hl0]
    refine ⟨rfl, fun d hd => by rw [(List.mem_replicate.1 hd).2]; decide, ?_⟩
    rw [List.take_zero]
    show _ = 0 * val b
    rw [Nat.zero_mul]
    rfl
  have H00 := Lib.hid h00
  clear hw1 hg hmk hl0 h00
  go_wp2
  go_loopw [6] (fun i wr => ∃ (k : Nat) (l : List Nat), k ≤ 12 ∧ i = .int .i64 k ∧ (l.length = 24 ∧ (∀ d ∈ l, d < 65536) ∧ val l = val (a.take k) * val b) ∧ St w0 wr M (er 51 1 (.slice (some ⟨g, 0, none⟩) 24 24) 24 (uv l) :: L)) (fun i _ => 12 - (intOf i).toNat)
  case atStart => exact ⟨0, l0, by omega, rfl, H00.out, H2⟩
  case round =>
    obtain ⟨i, l, hi, rfl, hl, H3⟩ := hrel
    have HL := Lib.hid hl
    clear H2 hl
    by_cases hi12 : i < 12
    · go_wp2
      go_loopw [7] (fun j wr => ∃ (k : Nat) (l : List Nat), k ≤ 12 ∧ j = .int .i64 k ∧ (l.length = 24 ∧ (∀ d ∈ l, d < 65536) ∧ val l = val (a.take i) * val b + 65536 ^ i * a.getD i 0 * val (b.take k)) ∧ St w0 wr M (er 51 1 (.slice (some ⟨g, 0, none⟩) 24 24) 24 (uv l) :: L)) (fun j _ => 12 - (intOf j).toNat)
      case atStart =>
        refine ⟨0, l, by omega, rfl, ?_, H3⟩
        obtain ⟨h1, h2, h3⟩ := HL.out
        exact ⟨h1, h2, by rw [h3, List.take_zero]; show _ = _ + _ * 0; rw [Nat.mul_zero, Nat.add_zero]⟩
      case round =>
        obtain ⟨k, l, hk, rfl, hl, H3⟩ := hrel
        have HL2 := Lib.hid hl
        clear hl
        by_cases hk12 : k < 12
        · obtain ⟨hl1, hl2, hl3⟩ := HL2.out
          obtain ⟨x, hx⟩ : ∃ x, x = a[i]'(by rw [HAL.out]; exact hi12) := ⟨_, rfl⟩
          obtain ⟨y, hy⟩ : ∃ y, y = b[k]'(by rw [HBL.out]; exact hk12) := ⟨_, rfl⟩
          obtain ⟨z, hz⟩ : ∃ z, z = l[i + k]'(by omega) := ⟨_, rfl⟩
          have x1 : x < 65536 := by rw [hx]; exact ha _ (List.getElem_mem _)
          have y1 : y < 65536 := by rw [hy]; exact hb _ (List.getElem_mem _)
          have z1 : z < 65536 := by rw [hz]; exact hl2 _ (List.getElem_mem _)
          have hxy : x * y ≤ 65535 * 65535 := Nat.mul_le_mul (by omega) (by omega)
          have caI : In M fun W => W.cell? ⟨ga, oa + i, none⟩ = some (.int .u64 (x : Int)) := hra.imp fun W h => by rw [RA.cell h i (by rw [HAL.out]; exact hi12), hx]
          have cbI : In M fun W => W.cell? ⟨gb, ob + k, none⟩ = some (.int .u64 (y : Int)) := hrb.imp fun W h => by rw [RA.cell h k (by rw [HBL.out]; exact hk12), hy]
          obtain ⟨N, hN⟩ : ∃ N, N = i + k := ⟨_, rfl⟩
          obtain ⟨xy, hxy2⟩ : ∃ s, s = x * y := ⟨_, rfl⟩
          obtain ⟨s, hs⟩ : ∃ s, s = z + xy := ⟨_, rfl⟩
          have s1 : s < 8589934592 := by omega
          have e1 : IntKind.i64.wrap ((i : Int) + (k : Int)) = (N : Int) := by rw [IntKind.wrap_i64]; omega
          have e2 : IntKind.u64.wrap ((x : Int) * (y : Int)) = (xy : Int) := by rw [← Int.natCast_mul, ← hxy2, IntKind.wrap_u64]; omega
          have e3 : IntKind.u64.wrap ((z : Int) + (xy : Int)) = (s : Int) := by rw [IntKind.wrap_u64]; omega
          have n0 : (0 : Int) ≤ (N : Int) := by omega
          have n1 : (N : Int) < 24 := by omega
          obtain ⟨V, hV⟩ : ∃ V, V = val (a.take i) * val b + 65536 ^ i * a.getD i 0 * val (b.take (k + 1)) := ⟨_, rfl⟩
          have hcl : ∀ W, St w0 W M (er 51 1 (.slice (some ⟨g, 0, none⟩) 24 24) 24 (uv l) :: L) → W.cell? ⟨g, N, none⟩ = some (.int .u64 (z : Int)) ∧ W.frozen? ⟨g, N, none⟩ = false := fun W h => by
            obtain ⟨g', he, hc, hf⟩ := h.at_ N (by omega)
            injection he with he
            injection he with he
            subst he
            refine ⟨?_, hf⟩
            rw [hc, uv_get l N (by omega), hz]
            simp only [hN]
          have t1 := val_take_succ a i (by rw [HAL.out]; exact hi12)
          have t3 : a.getD i 0 = x := by rw [hx, List.getD_eq_getElem?_getD, List.getElem?_eq_getElem (by rw [HAL.out]; exact hi12)]; rfl
          have hVal : val (l.set N s) = V := by
            have u1 := val_set l N s (by omega)
            have u2 := val_take_succ b k (by rw [HBL.out]; exact hk12)
            have u4 : 65536 ^ N * s = 65536 ^ N * z + 65536 ^ i * x * (65536 ^ k * y) := by
              rw [hs, hxy2, hN, Nat.mul_add, Nat.pow_add]
              congr 1
              ac_rfl
            have u5 : l[N]'(by omega) = z := by rw [hz]; simp only [hN]
            rw [u5, u4] at u1
            rw [hV, u2, ← hy, Nat.mul_add, t3]
            rw [t3] at hl3
            omega
          have hVlt : V < 65536 ^ 22 := by
            have u2 : V ≤ val (a.take (i + 1)) * val b := by
              rw [hV, t1, Nat.add_mul, t3, ← hx]
              exact Nat.add_le_add_left (Nat.mul_le_mul_left _ (val_take_le b (k + 1))) _
            exact Nat.lt_of_le_of_lt (Nat.le_trans u2 (Nat.mul_le_mul_right _ (val_take_le a (i + 1)))) HV.out
          have HVAL := Lib.hid hVal
          have HVLT := Lib.hid hVlt
          have HN := Lib.hid hN
          have HL1 := Lib.hid hl1
          have HLT := Lib.hid hl2
          have HVD := Lib.hid hV
          clear hVal hVlt hN hl1 hl2 hl3 hs hxy2 hxy hx hy hz hV t1 t3
          go_wp2
          refine Pt.wp_plan (fun w' => w'.cell? ⟨g, N, none⟩ = some (.int .u64 (z : Int)) ∧ w'.cell? ⟨ga, oa + i, none⟩ = some (.int .u64 (x : Int)) ∧ w'.cell? ⟨gb, ob + k, none⟩ = some (.int .u64 (y : Int))) (Pt.prs [0, 1, 2, 3, 4, 5, 6, 7, 8, 10, 11, 12, 14, 15, 16] (Pt.rds [9, 13, 17] (Pt.prs [18, 19, 20] (.st 21 .fin)))) [21] Tryd.mixed (by kernel_rfl) (fun _ _ d _ _ h => by cases d <;> exact h) ⟨(hcl _ H3.drew).1, caI.now H3.drew, cbI.now H3.drew⟩ ?_
          simp only [Pt.toL, Pt.rds, Pt.prs, Pt.at_, List.drop_succ_cons, List.drop_zero]
          iterate 15 (refine Pt.pr_run (v := ?_) (by rfl) ?_ ?_; rotate_left; (focus (intro w'; go_simp; with_reducible rfl)); simp only [Act.put, List.setIfInBounds_toArray, List.set_cons_zero, List.set_cons_succ])
          iterate 3 (refine Pt.rd_run (v := ?_) (by rfl) ?_ ?_; rotate_left; (focus (intro w' hS; obtain ⟨s0, s1, s2⟩ := hS; go_simp; with_reducible rfl)); simp only [Act.put, List.setIfInBounds_toArray, List.set_cons_zero, List.set_cons_succ])
          iterate 3 (refine Pt.pr_run (v := ?_) (by rfl) ?_ ?_; rotate_left; (focus (intro w'; go_simp; with_reducible rfl)); simp only [Act.put, List.setIfInBounds_toArray, List.set_cons_zero, List.set_cons_succ])
          have H4 := H3.drew
          have hfr := (hcl _ H4).2
          have hce := (hcl _ H4).1
          refine Pt.run_st ?_
          go_wp2_with fail
          have H5 := H4.store N (.int .u64 (s : Int))
          rw [uv_set] at H5
          simp only [Pl.Then, Act.put]
          refine Pt.run_fin ?_
          have e0 : (i : Int) + (k : Int) = (N : Int) := by have := HN.out; omega
          generalize hl' : l.set N s = l1 at *
          have hl1len : l1.length = 24 := by rw [← hl', List.length_set]; exact HL1.out
          have hdig : ∀ j (h : j < l1.length), j ≠ N → l1[j] < 65536 := fun j h hj => by
            subst hl'
            rw [List.getElem_set_ne (by omega)]
            exact HLT.out _ (List.getElem_mem _)
          have hdn : ∀ h : N < l1.length, l1[N] < 8589934592 := fun h => by
            subst hl'
            rw [List.getElem_set_self]
            exact s1
          have HLL := Lib.hid hl1len
          have n23 : N ≤ 23 := by have := HN.out; omega
          clear hl' H3 H4 hfr hce hl1len e1
          go_wp2
          go_loopw [8] (fun nv wr => ∃ (n : Nat) (l : List Nat), n ≤ 23 ∧ nv = .int .i64 n ∧ l.length = 24 ∧ (∀ j (h : j < l.length), j ≠ n → l[j] < 65536) ∧ (∀ h : n < l.length, l[n] < 8589934592) ∧ val l = V ∧ St w0 wr M (er 51 1 (.slice (some ⟨g, 0, none⟩) 24 24) 24 (uv l) :: L)) (fun nv _ => 23 - (intOf nv).toNat)
          case atStart => exact ⟨N, l1, n23, rfl, HLL.out, hdig, hdn, HVAL.out, H5⟩
          case round =>
            obtain ⟨n, l, hn, rfl, hll, hd, hdn2, hval, H6⟩ := hrel
            clear H5
            have hc : ∀ j (h : j < 24) W, St w0 W M (er 51 1 (.slice (some ⟨g, 0, none⟩) 24 24) 24 (uv l) :: L) → W.cell? ⟨g, j, none⟩ = some (.int .u64 ((l[j]'(by omega)) : Int)) ∧ W.frozen? ⟨g, j, none⟩ = false := fun j h W hW => by
              obtain ⟨g', he, hc, hf⟩ := hW.at_ j h
              injection he with he
              injection he with he
              subst he
              exact ⟨by rw [hc, uv_get l j (by omega)], hf⟩
            obtain ⟨u, hu⟩ : ∃ u, u = l[n]'(by omega) := ⟨_, rfl⟩
            have c0 : wr.cell? ⟨g, n, none⟩ = some (.int .u64 (u : Int)) := by rw [(hc n (by omega) _ H6).1, hu]
            have u1 : u < 8589934592 := by rw [hu]; exact hdn2 _
            by_cases hgo : n < 23 ∧ 65536 ≤ u
            · obtain ⟨hn23, hu65⟩ := hgo
              obtain ⟨u2, hu2⟩ : ∃ x, x = l[n + 1]'(by omega) := ⟨_, rfl⟩
              obtain ⟨q, hq⟩ : ∃ x, x = u / 65536 := ⟨_, rfl⟩
              obtain ⟨r, hr⟩ : ∃ x, x = u % 65536 := ⟨_, rfl⟩
              obtain ⟨s2, hs2⟩ : ∃ x, x = u2 + q := ⟨_, rfl⟩
              obtain ⟨N1, hN1⟩ : ∃ x, x = n + 1 := ⟨_, rfl⟩
              have u21 : u2 < 65536 := by rw [hu2]; exact hd _ _ (by omega)
              have f0 : (65536 : Int) ≤ (u : Int) := by omega
              have f1 : IntKind.i64.wrap ((n : Int) + 1) = (N1 : Int) := by rw [IntKind.wrap_i64]; omega
              have f2 : (u : Int).tdiv 65536 = (q : Int) := by rw [Int.tdiv_eq_ediv_of_nonneg (by omega)]; omega
              have f3 : IntKind.u64.wrap (q : Int) = (q : Int) := by rw [IntKind.wrap_u64]; omega
              have f4 : IntKind.u64.wrap ((u2 : Int) + (q : Int)) = (s2 : Int) := by rw [IntKind.wrap_u64]; omega
              have f5 : (u : Int) % 65536 = (r : Int) := by omega
              have f6 : (n : Int) + 1 = (N1 : Int) := by omega
              have f7 : (N1 : Int) < 24 := by omega
              have f8 : (n : Int) < 24 := by omega
              have f9 : (0 : Int) ≤ (N1 : Int) := by omega
              have hfin : val ((l.set N1 s2).set n r) = V := by
                subst hN1 hs2 hr hq hu2 hu
                exact (val_carry l n (by omega)).trans hval
              have hfd : ∀ j (h : j < ((l.set N1 s2).set n r).length), j ≠ N1 → ((l.set N1 s2).set n r)[j] < 65536 := fun j h hj => by
                by_cases hjn : n = j
                · subst hjn
                  rw [List.getElem_set_self]
                  omega
                · rw [List.getElem_set_ne hjn, List.getElem_set_ne (by omega)]
                  exact hd j _ (by omega)
              have hfn : ∀ h : N1 < ((l.set N1 s2).set n r).length, ((l.set N1 s2).set n r)[N1] < 8589934592 := fun h => by
                rw [List.getElem_set_ne (by omega), List.getElem_set_self]
                omega
              have hcd := (hc N1 (by omega) _ H6.drew)
              have c1 : wr.drew.cell? ⟨g, N1, none⟩ = some (.int .u64 (u2 : Int)) := by rw [hcd.1, hu2]; simp only [hN1]
              have c0d : wr.drew.cell? ⟨g, n, none⟩ = some (.int .u64 (u : Int)) := by rw [(hc n (by omega) _ H6.drew).1, hu]
              have H7 := H6.drew.store N1 (.int .u64 (s2 : Int))
              rw [uv_set] at H7
              have c2 : (wr.drew.setCell ⟨g, N1, none⟩ (.int .u64 (s2 : Int))).cell? ⟨g, n, none⟩ = some (.int .u64 (u : Int)) ∧ (wr.drew.setCell ⟨g, N1, none⟩ (.int .u64 (s2 : Int))).frozen? ⟨g, n, none⟩ = false := by
                obtain ⟨g', he, hc', hf⟩ := H7.at_ n (by omega)
                injection he with he
                injection he with he
                subst he
                refine ⟨?_, hf⟩
                rw [hc', uv_get _ n (by rw [List.length_set]; omega), List.getElem_set_ne (by omega), hu]
              have H8 := H7.store n (.int .u64 (r : Int))
              rw [uv_set] at H8
              have hfz := hcd.2
              obtain ⟨c3, c4⟩ := c2
              have HFIN := Lib.hid (show N1 ≤ 23 ∧ ((l.set N1 s2).set n r).length = 24 ∧ _ ∧ _ ∧ _ from ⟨by omega, by rw [List.length_set, List.length_set]; exact hll, hfd, hfn, hfin⟩)
              have HN1 := Lib.hid hN1
              clear hfd hfn hfin hd hdn2 hval hll hc hu hu2 hq hr hs2 hN1 f6 hcd
              go_wp2
              refine Pt.wp_plan (fun w' => w'.cell? ⟨g, n, none⟩ = some (.int .u64 (u : Int)) ∧ w'.cell? ⟨g, N1, none⟩ = some (.int .u64 (u2 : Int))) (Pt.prs [0, 1, 2, 3, 4, 5, 6, 8, 9, 10] (Pt.rds [7, 11] (Pt.prs [12, 13, 14] (.st 15 .fin)))) [15] Tryd.mixed (by kernel_rfl) (fun _ _ d _ _ h => by cases d <;> exact h) ⟨c0d, c1⟩ ?_
              generalize wr.drew = wd at *
              simp only [Pt.toL, Pt.rds, Pt.prs, Pt.at_, List.drop_succ_cons, List.drop_zero]
              iterate 10 (refine Pt.pr_run (v := ?_) (by rfl) ?_ ?_; rotate_left; (focus (intro w'; go_simp; with_reducible rfl)); simp only [Act.put, List.setIfInBounds_toArray, List.set_cons_zero, List.set_cons_succ])
              iterate 2 (refine Pt.rd_run (v := ?_) (by rfl) ?_ ?_; rotate_left; (focus (intro w' hS; obtain ⟨s0, s1'⟩ := hS; go_simp; with_reducible rfl)); simp only [Act.put, List.setIfInBounds_toArray, List.set_cons_zero, List.set_cons_succ])
              iterate 3 (refine Pt.pr_run (v := ?_) (by rfl) ?_ ?_; rotate_left; (focus (intro w'; go_simp; with_reducible rfl)); simp only [Act.put, List.setIfInBounds_toArray, List.set_cons_zero, List.set_cons_succ])
              refine Pt.run_st ?_
              go_wp2_with fail
              simp only [Pl.Then, Act.put]
              refine Pt.run_fin ?_
              generalize wd.setCell ⟨g, N1, none⟩ (.int .u64 (s2 : Int)) = wz at *
              go_wp2
              obtain ⟨q1, q2, q3, q4, q5⟩ := HFIN.out
              have d1 : decide ((i : Int) < 12) = true := decide_eq_true (by omega)
              have d2 : decide ((k : Int) < 12) = true := decide_eq_true (by omega)
              simp only [d1, d2]
              refine ⟨?_, ?_⟩
              · repeat (first | exact ⟨⟨N1, _, q1, rfl, q2, q3, q4, q5, H8⟩, rfl⟩ | apply Exists.intro)
              show 23 - N1 < 23 - n
              have := HN1.out
              omega
            · have hu65 : u < 65536 := by
                rcases Nat.lt_or_ge n 23 with h | h
                · omega
                · obtain rfl : n = 23 := by omega
                  have h1 := val_digit l 23 (by omega)
                  rw [← hu, hval] at h1
                  have h2 := HVLT.out
                  rcases Nat.lt_or_ge u 1 with h3 | h3
                  · omega
                  · have h4 : 65536 ^ 23 * 1 ≤ 65536 ^ 23 * u := Nat.mul_le_mul_left _ h3
                    have h5 : (65536 : Nat) ^ 22 < 65536 ^ 23 * 1 := by decide
                    omega
              have hall : ∀ d ∈ l, d < 65536 := fun d hd2 => by
                obtain ⟨j, hj, rfl⟩ := List.getElem_of_mem hd2
                by_cases hjn : j = n
                · subst hjn; rw [← hu]; exact hu65
                · exact hd j hj hjn
              have HFIN := Lib.hid (show l.length = 24 ∧ (∀ d ∈ l, d < 65536) ∧ val l = V from ⟨hll, hall, hval⟩)
              clear hall hd hdn2 hval hll hc hu
              have hx2 : ¬ n < 23 ∨ (n < 23 ∧ ¬ (65536 : Int) ≤ (u : Int)) := by omega
              clear hgo
              rcases hx2 with hx2 | ⟨hx2, hx3⟩
              all_goals
                go_wp2
                obtain ⟨h1, h2, h3⟩ := HFIN.out
                have h4 : val l = val (a.take i) * val b + 65536 ^ i * a[i]?.getD 0 * val (b.take (k + 1)) := by rw [h3, HVD.out, List.getD_eq_getElem?_getD]
                first
                  | exact ⟨⟨k + 1, l, by omega, by go_num, ⟨h1, h2, h4⟩, H6⟩, by simp [intOf]; omega⟩
                  | exact ⟨⟨k + 1, by omega, by go_num, l, ⟨h1, h2, h4⟩, H6⟩, by simp [intOf]; omega⟩
                  | exact ⟨⟨k + 1, by omega, l, by go_num, ⟨h1, h2, h4⟩, H6⟩, by simp [intOf]; omega⟩
                  | exact ⟨⟨k + 1, by omega, by go_num, l, h1, h2, h4, H6⟩, by simp [intOf]; omega⟩
        · obtain rfl : k = 12 := by omega
          go_wp2
          refine ⟨⟨i + 1, l, by omega, by go_num, ?_, H3⟩, by simp [intOf]; omega⟩
          obtain ⟨h1, h2, h3⟩ := HL2.out
          refine ⟨h1, h2, ?_⟩
          have e := val_take_succ a i (by rw [HAL.out]; exact hi12)
          rw [h3, e, show b.take 12 = b from List.take_of_length_le (by rw [HBL.out]; exact Nat.le_refl _), Nat.add_mul, List.getD_eq_getElem?_getD, List.getElem?_eq_getElem (by rw [HAL.out]; exact hi12)]
          rfl
    · obtain rfl : i = 12 := by omega
      have HG := H3
      go_wp2
      go_ret
      obtain ⟨h1, h2, h3⟩ := HL.out
      exact ⟨g, l, rfl, h1, h2, by rw [h3, List.take_of_length_le (by rw [HAL.out]; exact Nat.le_refl _)], H3⟩
end
end Go.Proofs.YtcegmakkfhfalaaDoor
