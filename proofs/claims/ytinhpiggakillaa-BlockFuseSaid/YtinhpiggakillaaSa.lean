/- BlockSafe walked. -/
import Derived.Test.YtinhpiggakillaaLc
import Derived.Deep.CutBlock
set_option linter.unusedVariables false
set_option linter.unusedSimpArgs false
namespace Go.Proofs.Ytinhpiggakillaa
open Go.RowKit Wd
theorem lay_far (b : List UInt8) (n : Nat) (hb : b.length = 64 * n) (ws : List WE) (hw : ∀ e ∈ ws, e.ok n) (i : Nat) (h : ∀ e ∈ ws, e.at_ ≠ i) : ((lay b ws).drop (64 * i)).take 64 = (b.drop (64 * i)).take 64 := by
  induction ws generalizing b with
  | nil => rfl
  | cons e ws ih =>
    have he := hw e (by simp)
    have h1 := ih (spl b (64 * e.at_) e.l) (by rw [spl_length _ _ _ (by rw [he.2.1, hb]; have := he.1; omega), hb]) (fun x hx => hw x (by simp [hx])) (fun x hx => h x (by simp [hx]))
    show ((lay (spl b (64 * e.at_) e.l) ws).drop (64 * i)).take 64 = _
    rw [h1]
    exact spl_at_ne b e.l e.at_ i (by rw [he.2.1]; exact Nat.le_refl _) (by rw [hb]; have := he.1; omega) (fun h2 => h e (by simp) h2.symm)
theorem wrecked_far (b : List UInt8) (n : Nat) (hb : b.length = 64 * n) (ws : List WE) (hw : ∀ e ∈ ws, e.ok n) (K T : Nat) (i : Nat) (h : ∀ e ∈ ws, e.at_ ≠ i) : ((wrecked b ws K T).drop (64 * i)).take 64 = (b.drop (64 * i)).take 64 := by
  unfold wrecked
  cases hq : ws[K]? with
  | none => exact lay_far b n hb ws hw i h
  | some e =>
    have hm := List.mem_of_getElem? hq
    have he := hw e hm
    have hl := lay_length b n hb (ws.take K) fun x hx => hw x (List.mem_of_mem_take hx)
    show ((spl _ _ _).drop (64 * i)).take 64 = _
    rw [spl_at_ne _ _ e.at_ i (by rw [List.length_take, he.2.1]; omega) (by rw [hl]; have := he.1; omega) (fun h2 => h e hm h2.symm)]
    exact lay_far b n hb (ws.take K) (fun x hx => hw x (List.mem_of_mem_take hx)) i fun x hx => h x (List.mem_of_mem_take hx)
theorem any_take_succ (ws : List WE) (m : Nat) (h : m < ws.length) (k : Nat) : ((ws.take (m + 1)).any fun e => e.at_ == k) = (((ws.take m).any fun e => e.at_ == k) || (ws[m]).at_ == k) := by
  rw [List.take_succ_eq_append_getElem h, List.any_append]
  simp
def RZ (b : List UInt8) : RM := ⟨b, [], false, 0, 0, false⟩
theorem rel_new (n : Nat) (h : n ≤ 4096) : Rel (FM.new n) (RZ (List.replicate (64 * n) 0)) 0 :=
  { n2 := h, len := List.length_replicate, ok := (fun e he => by cases he), l := rfl, pend := rfl, set := rfl, off := rfl, left := (fun h => by cases h), lo := (by show -((0 : Nat) : Int) ≤ 0; omega), hi := (by show (0 : Int) ≤ _; omega), torn := (fun h => by cases h), many := (Nat.le_refl _) }
theorem rel_lasts (b : List UInt8) (n : Nat) (hb : b.length = 64 * n) (h : n ≤ 4096) : Rel ⟨n, b, [], false, false, 0, 0⟩ (RZ b) 0 :=
  { n2 := h, len := hb, ok := (fun e he => by cases he), l := rfl, pend := rfl, set := rfl, off := rfl, left := (fun h => by cases h), lo := (by show -((0 : Nat) : Int) ≤ 0; omega), hi := (by show (0 : Int) ≤ _; omega), torn := (fun h => by cases h), many := (Nat.le_refl _) }
theorem make_bytes (m : Nat) (hm : m ≤ 140737488355328) (X : Int) (hX : X = (m : Int)) : ∀ W : World, (Instr.makeSlice 28 (.int .i64 X) (.int .i64 X)).run Try.prog W = .ok (.slice (some ⟨W.heap.size, 0, none⟩) m m) (W.alloc (.cells (bv (List.replicate m 0)).toArray 5)) := fun W => by
  obtain ⟨i0, hi, hz0, hz1, hz2⟩ := info_parts Try.info5
  subst hX
  have := run_make W 28 5 i0 _ Try.underlying28 hi hz0 .i64 .i64 m m (by omega) (by omega) (by rw [hz2]; omega) (by omega)
  rw [this, hz1]
  simp only [Value.cells, Int.toNat_natCast]
  rw [made_bv, filling_zero, Nat.mul_one]
set_option maxRecDepth 100000 in
set_option maxHeartbeats 4000000 in
theorem safe_any {w : World} (n : UInt8) {B : Option Addr} {d : Nat} {ax : List AM} (hB : RA w B (amcs ax)) (hK : ∀ a ∈ ax, a.k ≤ 9223372036854775807) (hlen : ax.length ≤ 9223372036854775807) (K T : Int) (hk : K ≤ 9223372036854775807) :
    Calls Try.prog 4 #[.int .u8 (n.toNat : Int), .slice B ax.length d, .agg #[.int .i64 K, .int .i64 T]] w fun e w' => e = .returned (.bool true) ∧ Below w.heap.size w w' := by
  have hB0 := In.oldRA (St.start w) hB
  have H1 := (St.start w).new [.int .i64 K, .int .i64 T] 35
  obtain ⟨N, hN⟩ : ∃ N : Nat, N = 1 + n.toNat % 20 := ⟨_, rfl⟩
  have hNi : 1 + (n.toNat : Int) % 20 = (N : Int) := by omega
  have hmk := make_bytes (64 * N) (by omega) (64 * (1 + (n.toNat : Int) % 20)) (by omega)
  have n1 : 1 ≤ N := by omega
  have n2 : N ≤ 20 := by omega
  have nlt : (n.toNat : Int) < 256 := by have := n.toNat_lt; omega
  have HNI := Lib.hid hNi
  clear hN hNi
  go_enter Try.func4, Try.ntmps4
  go_wp2
  refine Pt.wp_plan (fun w' => Blk w' w.heap.size 35 [.int .i64 K, .int .i64 T]) (Pt.prs [0, 2] (Pt.rds [1, 3] (Pt.prs [4, 5] .fin))) [] Try.mixed (by kernel_rfl) (fun _ _ d _ _ h => by cases d <;> exact h) (H1.drew.blk 0 rfl) ?_
  simp only [Pt.toL, Pt.rds, Pt.prs, Pt.at_, List.drop_succ_cons, List.drop_zero]
  iterate 2 (refine Pt.pr_run (v := ?_) (by rfl) ?_ ?_; rotate_left; (focus (intro w'; go_simp; with_reducible rfl)); simp only [Act.put, List.setIfInBounds_toArray, List.set_cons_zero, List.set_cons_succ])
  iterate 2 (refine Pt.rd_run (v := ?_) (by rfl) ?_ ?_; rotate_left; (focus (intro w' hS; have c1 := Blk.cell hS 0; have c2 := Blk.cell hS 1; simp only [List.getElem?_cons_succ, List.getElem?_cons_zero] at c1 c2; go_simp; with_reducible rfl)); simp only [Act.put, List.setIfInBounds_toArray, List.set_cons_zero, List.set_cons_succ])
  iterate 2 (refine Pt.pr_run (v := ?_) (by rfl) ?_ ?_; rotate_left; (focus (intro w'; go_simp; with_reducible rfl)); simp only [Act.put, List.setIfInBounds_toArray, List.set_cons_zero, List.set_cons_succ])
  refine Pt.run_fin ?_
  have H2 := H1.drew
  generalize World.drew _ = w1 at *
  clear H1
  go_wp2_with fail
  rw [HNI.out]
  refine (fs_new H2.d0 N n1 (by omega)).mono ?_
  rintro e w2 ⟨f, rfl, H3⟩
  clear H2
  have H4 := H3.newg (bv (List.replicate (64 * N) 0)) 5 rfl
  obtain ⟨ok, lb, pv, H5⟩ := H4
  obtain ⟨M1, hM1, H6, hb1, -⟩ := H5.f3.lendBlk
  go_upto_region 6 with fail
  have H7 := (show FS w _ M1 f (FM.new N) [] from ⟨ok, lb, pv, H6⟩).newg [.slice (some ⟨w2.heap.size, 0, none⟩) (64 * N) (64 * N), .slice none 0 0, .bool false, .int .i64 0, .int .i64 0, .bool false] 38 (g := w2.heap.size + 1) (by simp)
  have hb2 : In M1 (RB · (some ⟨w2.heap.size, 0, none⟩) (List.replicate (64 * N) 0)) := hb1.imp fun W hW => Blk.RB hW (by rw [List.drop_zero, List.length_replicate, List.take_of_length_le (by rw [bv_length, List.length_replicate]; exact Nat.le_refl _)])
  clear H3 H5 H6 hb1 hmk
  generalize hg : w2.heap.size = g at *
  generalize hw3 : World.alloc _ (.cells _ 38) = w3 at *
  clear hg hw3
  have hrl : (List.replicate (64 * N) (0 : UInt8)).length = 64 * N := List.length_replicate
  have H8 : FS w w3 M1 f (FM.new N) [eb (g + 1) 38 (rval (RZ (List.replicate (64 * N) 0)) (some ⟨g, 0, none⟩) (64 * N) none 0)] := by
    unfold rval
    rw [show (RZ (List.replicate (64 * N) 0)).b.length = 64 * N from hrl]
    exact H7
  have hv0 : RV M1 (RZ (List.replicate (64 * N) 0)) (some ⟨g, 0, none⟩) (64 * N) none 0 := ⟨fun h => (by cases h), Nat.le_of_eq hrl, hb2, fun _ => rfl, Nat.le_refl _, fun W _ => wcs_nil_ra W none⟩
  have hr0 := rel_new N (by omega)
  clear H7 hb2 hrl ok
  go_upto_block 0 with fail
  go_cut [12] (fun i wr => ∃ (F : FM) (R : RM) (A' : Option Addr) (c' : Nat) (B' : Option Addr) (d' : Nat) (M' : Mem), Mem.le (w.heap[·]?) M' ∧ RV M' R A' c' B' d' ∧ Rel F R 60 ∧ F.n = N ∧ FS w wr M' f F [eb (g + 1) 38 (rval R A' c' B' d')])
  case first =>
    go_wp2
    go_loopw [12] (fun i wr => ∃ (k : Nat) (F : FM) (R : RM) (A' : Option Addr) (c' : Nat) (B' : Option Addr) (d' : Nat) (M' : Mem), k ≤ ax.length ∧ k ≤ 60 ∧ i = .int .i64 k ∧ Mem.le (w.heap[·]?) M' ∧ RV M' R A' c' B' d' ∧ Rel F R k ∧ F.n = N ∧ FS w wr M' f F [eb (g + 1) 38 (rval R A' c' B' d')]) (fun i _ => 60 - (intOf i).toNat)
    case atStart => exact ⟨0, _, _, _, _, _, _, M1, by omega, by omega, rfl, hM1, hv0, hr0, rfl, H8⟩
    case round =>
      obtain ⟨k, F, R, A', c', B', d', M', hk, hk60, rfl, hM', hv, hr, hFn, H6⟩ := hrel
      have HFN := Lib.hid hFn
      clear H8 hFn hr0 hv0
      by_cases hlt : k < ax.length ∧ k < 60
      · obtain ⟨hlt, h60⟩ := hlt
        obtain ⟨a, ha⟩ : ∃ a, a = ax[k] := ⟨_, rfl⟩
        have haK := hK _ (List.getElem_mem hlt)
        obtain ⟨b, bo, rfl, _⟩ := hB.at5 k hlt
        have hin : In (w.heap[·]?) fun W => W.rangeAt b (bo + k * 5) a.cells := fun W hW => by
          obtain ⟨b', bo', he, hr⟩ := (hB0 W hW).at5 k hlt
          injection he with he
          injection he with e1 e2
          subst e1 e2
          rw [ha]
          exact hr
        rw [← ha] at haK
        clear ha
        have c0 : wr.cell? ⟨b, bo + k * 5, none⟩ = some (.int .i64 a.d) := (hin.le hM') _ H6.rest.agr 0 _ rfl
        by_cases h4 : a.d = 4
        · rw [h4] at c0
          clear hin haK h4
          go_wp2
          refine ⟨⟨k + 1, F, R, A', c', B', d', M', by omega, by omega, by go_num, hM', hv, hr.mono (by omega), HFN.out, H6⟩, by simp [intOf]; omega⟩
        · have h4' : (a.d != 4) = true := by simpa using h4
          clear h4
          go_wp2
          refine Pt.wp_plan (fun w' => Agr M' w' ∧ Blk w' (g + 1) 38 (rval R A' c' B' d')) (Pt.prs [0, 2, 3, 4] (Pt.rds [1, 5] (.go 6 (Pt.prs [7, 8, 9] (.st 10 .fin))))) [10] Try.mixed (by kernel_rfl) (fun _ _ d _ _ h => by cases d <;> exact h) ⟨H6.drew.rest.agr, H6.drew.rest.blk 0 rfl⟩ ?_
          simp only [Pt.toL, Pt.rds, Pt.prs, Pt.at_, List.drop_succ_cons, List.drop_zero]
          iterate 4 (refine Pt.pr_run (v := ?_) (by rfl) ?_ ?_; rotate_left; (focus (intro w'; go_simp; with_reducible rfl)); simp only [Act.put, List.setIfInBounds_toArray, List.set_cons_zero, List.set_cons_succ])
          (refine Pt.rd_load (by rfl) 38 (.tmp 11) (by rfl) (g + 1) 0 (by rfl) (rval R A' c' B' d') _ (fun _ h => h.2.range 0 6 _ rfl) Try.underlying38 rfl (by exact Try.sizeRF) ?_; simp only [Act.put, List.setIfInBounds_toArray, List.set_cons_zero, List.set_cons_succ])
          (refine Pt.rd_load (by rfl) 40 (.tmp 67) (by rfl) b (bo + k * 5) (by rfl) a.cells _ (fun _ h => (hin.le hM') _ h.1) Try.underlying40 rfl (by exact Try.sizeAct) ?_; simp only [Act.put, List.setIfInBounds_toArray, List.set_cons_zero, List.set_cons_succ])
          refine Pt.run_go ?_
          go_wp2_with fail
          refine (does_any H6.drew hv hr hk60 a.d a.i a.b a.k a.t haK).mono ?_
          rintro e w4 ⟨F1, R1, A1', c1', B1, d1, M2, rfl, hM2, hv1, hr1, hF1, H7⟩
          have HF1 := Lib.hid hF1
          clear hF1 c0 h4'
          go_wp2_with fail
          refine Pt.same ⟨H7.rest.agr.le hM2, H7.rest.blk 0 rfl⟩ ?_
          iterate 3 (refine Pt.pr_run (v := ?_) (by rfl) ?_ ?_; rotate_left; (focus (intro w'; go_simp; with_reducible rfl)); simp only [Act.put, List.setIfInBounds_toArray, List.set_cons_zero, List.set_cons_succ])
          refine Pt.run_st ?_
          obtain ⟨ok1, lb1, pv1, H8⟩ := H7
          refine wpList_store_st H8.f3 (by rfl) 38 (.tmp 11) (.tmp 70) (by rfl) 0 (rval R1 A1' c1' B1 d1) (by rfl) (by rfl) (Nat.le_refl _) (by exact Try.sizeRF) (by intro u hu; simp [rval, rfv] at hu; rcases hu with rfl | rfl | rfl | rfl | rfl | rfl <;> rfl) ?_
          intro w5 H9
          have H10 : FS w w5 M2 f F1 [eb (g + 1) 38 (rval R1 A1' c1' B1 d1)] := ⟨ok1, lb1, pv1, fs_add rfl H9⟩
          clear H8 H9 H6 hv hr
          refine wpList_nil ?_
          simp only [Pl.Then, Act.put]
          refine Pt.run_fin ?_
          go_wp2
          exact ⟨⟨k + 1, F1, R1, A1', c1', B1, d1, M2, by omega, by omega, by go_num, hM'.trans hM2, hv1, hr1, HF1.out.trans HFN.out, H10⟩, by simp [intOf]; omega⟩
      · have hx : ¬ k < ax.length ∨ (k < ax.length ∧ k = 60) := by omega
        have hr60 := hr.mono (j' := 60) (by omega)
        clear hlt
        rcases hx with hx | ⟨hx, rfl⟩
        all_goals
          go_wp2
          go_meet
          exact ⟨F, R, A', c', B', d', M', hM', hv, hr60, HFN.out, H6⟩
  case rest =>
    obtain ⟨F, R, A', c', B', d', M', hM', hv, hr, hFn, H6⟩ := hcut
    clear H8 hr0 hv0 hB hB0 hK
    have HFN := Lib.hid hFn
    clear hFn
    have c0 : wc.cell? ⟨g + 1, 0, none⟩ = some (.slice A' R.b.length c') := H6.cell 0 rfl 0
    have H7 := H6.newg [.slice A' R.b.length c', .slice none 0 0, .bool false, .int .i64 0, .int .i64 0, .bool false] 38 rfl
    have hpn := hr.pn
    have HPN := Lib.hid hpn
    have hmany := hr.many
    clear hpn
    go_wp2_with fail
    refine (fs_crash H7 K T (by have := HPN.out; omega) hk).mono ?_
    rintro e w5 ⟨rfl, H8⟩
    clear c0 H6 H7
    obtain ⟨F2, hF2⟩ : ∃ F2, F2 = F.crash K T := ⟨_, rfl⟩
    rw [← hF2] at H8
    have hn2' : F2.n = N := by rw [hF2]; exact HFN.out
    have hl2 : F2.l = wrecked R.b R.ws (max 0 K).toNat (min 64 (max 0 T)).toNat := by rw [hF2]; have := (hr.crash K T).l; exact this
    have hp2 : F2.pend.length = 0 := by rw [hF2]; rfl
    have hfar : ∀ i, (R.ws.any fun e => e.at_ == i) = false → rdB F2.l N (i : Nat) = rdB R.b N (i : Nat) := fun i hi => by
      unfold rdB
      rw [hl2, Int.toNat_natCast, wrecked_far R.b F.n hr.len R.ws hr.ok _ _ i fun e he => by
        have := List.any_eq_false.1 hi e he
        simpa using this]
    have hrz := rel_lasts R.b N (by rw [hr.len, HFN.out]) (by omega)
    have HN2 := Lib.hid hn2'
    have HRZ := Lib.hid hrz
    clear hrz
    have HFAR := Lib.hid hfar
    have HP2 := Lib.hid hp2
    have HBL := Lib.hid hr.len
    clear hF2 hn2' hl2 hp2 hfar
    generalize hg13 : wc.heap.size = g13 at *
    clear hg13
    obtain ⟨ws, hws⟩ : ∃ ws, ws = R.ws := ⟨_, rfl⟩
    have hv2 : RV M' (RZ R.b) A' c' none 0 := ⟨hv.hA, hv.hc, hv.hl, fun _ => rfl, Nat.le_refl _, fun W _ => wcs_nil_ra W none⟩
    go_wp2
    go_loopw [14] (fun i wr => ∃ (k : Nat) (M2 : Mem), k ≤ N ∧ i = .int .i64 k ∧ M'.le M2 ∧ FS w wr M2 f F2 [eb g13 38 (rval (RZ R.b) A' c' none 0), eb (g + 1) 38 (rval R A' c' B' d')]) (fun i _ => N - (intOf i).toNat)
    case atStart => exact ⟨0, M', by omega, rfl, Mem.le.refl _, H8⟩
    case round =>
      obtain ⟨k, M2, hk2, rfl, hM2, H9⟩ := hrel
      clear H8
      by_cases hlt : k < N
      · have c1 : wr.cell? ⟨g + 1, 1, none⟩ = some (.slice B' R.ws.length d') := H9.cell 1 rfl 1
        have hw9 := (hv.hw.le hM2).now H9.rest
        go_wp2_with fail
        refine (fs_blocks H9).mono ?_
        rintro e w6 ⟨rfl, rfl⟩
        rw [HN2.out]
        go_wp2
        go_loopw [15, 16] (fun t i wi => wi = wr ∧ ∃ m : Nat, m ≤ R.ws.length ∧ i = .int .i64 m ∧ t = .bool ((R.ws.take m).any fun e => e.at_ == k)) (fun _ i _ => R.ws.length - (intOf i).toNat)
        case atStart => exact ⟨rfl, 0, Nat.zero_le _, rfl, rfl⟩
        case round =>
          obtain ⟨rfl, m, hm, rfl, rfl⟩ := hrel
          by_cases hlt2 : m < R.ws.length
          · obtain ⟨b, bo, rfl, w1, w2⟩ := hw9.at m hlt2
            have hs := any_take_succ R.ws m hlt2 k
            obtain ⟨q, hq⟩ : ∃ q, q = (R.ws[m]).at_ := ⟨_, rfl⟩
            rw [← hq] at w1 hs
            clear hq
            obtain ⟨t, ht⟩ : ∃ t, t = (R.ws.take m).any fun e => e.at_ == k := ⟨_, rfl⟩
            rw [← ht] at hs ⊢
            have HS := Lib.hid hs
            clear hs ht w2
            cases t with
            | true =>
              go_wp2
              exact ⟨⟨trivial, m + 1, by omega, by go_num, by rw [HS.out]; rfl⟩, by simp [intOf]; omega⟩
            | false =>
              have hqe : ((q : Int) == (k : Int)) = (q == k) := by
                rw [Bool.eq_iff_iff, beq_iff_eq, beq_iff_eq]
                omega
              have HQE := Lib.hid hqe
              clear hqe
              go_wp2
              exact ⟨⟨trivial, m + 1, by omega, by go_num, by rw [HS.out, HQE.out]; rfl⟩, by simp [intOf]; omega⟩
          · have hme : m = R.ws.length := by omega
            subst hme
            rw [List.take_length]
            obtain ⟨t, ht⟩ : ∃ t, t = R.ws.any fun e => e.at_ == k := ⟨_, rfl⟩
            rw [← ht]
            have hsame : t = false → rdB F2.l N (k : Nat) = rdB R.b N (k : Nat) := fun h => HFAR.out k (by rw [← ht, h])
            have HSAME := Lib.hid hsame
            clear hsame ht hw9
            go_wp2_with fail
            refine (fs_readM H9 (k : Int)).mono ?_
            rintro e w7 ⟨X, cx, M3, rfl, hM3, hX, H10⟩
            rw [show rdE F2.n (k : Int) = 0 from by unfold rdE isB; rw [HN2.out, decide_eq_true (by omega)]; rfl]
            clear c1
            obtain ⟨z0, z1, z2, z3, z4, z5⟩ := H10.rest.cells6 0 rfl
            obtain ⟨ok2, lb2, pv2, H10⟩ := H10
            go_wp2_with fail
            refine (ref_readM H10 (hv2.le (hM2.trans hM3)) HRZ.out (by omega) (k : Int)).mono ?_
            rintro e w8 ⟨Y, cy, M4, rfl, hM4, hY, H11⟩
            rw [show isB (FM.mk N R.b [] false false 0 0).n (k : Int) = true from by unfold isB; rw [decide_eq_true (by show 0 ≤ (k : Int) ∧ (k : Int) < N; omega)]]
            have hY : In M4 (RB · Y (rdB R.b N (k : Int))) := hY
            have cvX := conv_RB (P := Try.prog) (src := 28) (dst := 9) (c := cx) Try.underlying28 Try.underlying5 Try.underlying9 ((hX.le hM4).now H11) rfl
            have cvY := conv_RB (P := Try.prog) (src := 28) (dst := 9) (c := cy) Try.underlying28 Try.underlying5 Try.underlying9 (hY.now H11) rfl
            rw [HN2.out] at cvX ⊢
            have H12 : FS w w8 M4 f F2 [eb g13 38 (rval (RZ R.b) A' c' none 0), eb (g + 1) 38 (rval R A' c' B' d')] := ⟨ok2, lb2, pv2, H11⟩
            clear H10 H11 H9 z0 z1 z2 z3 z4 z5 hX hY
            simp only [FM.n, FM.l] at cvX cvY ⊢
            obtain ⟨bx, hbx⟩ : ∃ bs, bs = rdB F2.l N (k : Int) := ⟨_, rfl⟩
            obtain ⟨bz, hbz⟩ : ∃ bs, bs = rdB R.b N (k : Int) := ⟨_, rfl⟩
            have hsame : t = false → bx = bz := fun h => by rw [hbx, hbz]; exact HSAME.out h
            rw [← hbx] at cvX ⊢
            rw [← hbz] at cvY ⊢
            have HSAME2 := Lib.hid hsame
            clear hsame hbx hbz HSAME
            cases t with
            | true =>
              go_wp2
              exact ⟨⟨k + 1, M4, by omega, by go_num, hM2.trans (hM3.trans hM4), H12⟩, by simp [intOf]; omega⟩
            | false =>
              have := HSAME2.out rfl
              subst this
              go_wp2
              exact ⟨⟨k + 1, M4, by omega, by go_num, hM2.trans (hM3.trans hM4), H12⟩, by simp [intOf]; omega⟩
      · have hke : k = N := by omega
        subst hke
        have hpd := fs_pending H9
        rw [HP2.out] at hpd
        have HPD := Lib.hid hpd
        clear hpd
        go_wp2_with fail
        refine (fs_blocks H9).mono ?_
        rintro e w6 ⟨rfl, rfl⟩
        rw [HN2.out]
        go_wp2_with fail
        refine HPD.out.mono ?_
        rintro e w7 ⟨rfl, rfl⟩
        go_wp2_with fail
        refine (awake_fs H9).mono ?_
        rintro e w8 ⟨rfl, H10⟩
        go_wp2
        go_ret
        exact ⟨rfl, H10.rest.below⟩
end Go.Proofs.Ytinhpiggakillaa
