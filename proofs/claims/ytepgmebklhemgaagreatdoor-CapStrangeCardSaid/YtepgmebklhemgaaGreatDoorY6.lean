/- The reference's Apply. -/
import Derived.Test.YtepgmebklhemgaaGreatDoorY5
import Derived.Test.YtepgmebklhemgaaGreatDoorG8
set_option linter.unusedVariables false
set_option linter.unusedSimpArgs false
namespace Go.Proofs.YtepgmebklhemgaaGreatDoor
open Go.RowKit Wd
def RetRApply (w0 : World) (M : Mem) (L : List Ent) (r : Kv.RS × Int) (e : Ending) (w' : World) : Prop :=
  ∃ cs M', e = .returned (.tuple #[.agg cs.toArray, .int .i64 r.2]) ∧ M.le M' ∧ RsIn M' r.1 cs ∧ St w0 w' M' L
section
variable {w0 w : World} {M : Mem} {L : List Ent}
set_option maxRecDepth 100000 in
set_option maxHeartbeats 4000000 in
theorem rapply20_any (H : St w0 w M L) {S : Kv.RS} {cs : List Value} (hs : RsIn M S cs) (hg : S.gen < 18446744073709551616) (hz : S.size ≤ 8192) (hL : S.L.length ≤ 400000) (hok : ∀ p ∈ S.L, Kv.okP p) (hR : ∀ r ∈ S.R, r.length ≤ 65535) (hRl : S.R.length ≤ 10000)
    {B : Option Addr} {d m : Nat} {acts : List Ac} (hm : m = acts.length) (hb : SrA w0 M L B (acs acts)) (hi : AcIn M acts) (hm2 : m ≤ 300) (hsz : ∀ a ∈ acts, a.key.length ≤ 1000000 ∧ a.p.l.length ≤ 1000000)
    (hturn : Kv.check (acts.map Ac.act) = 0 → ∀ p ∈ Kv.turn S.L (acts.map Ac.act), Kv.okP p) :
    Calls Tryz.prog 12 #[.agg cs.toArray, .slice B m d] w (RetRApply w0 M L (S.apply (acts.map Ac.act))) := by
  obtain ⟨A, n, c, ps, A2, n2, c2, qs, hcs, hpa, hpe, hra⟩ := hs
  have hck := fun w (H : St w0 w M L) => rcheck_any (c := d) H hm hb (fun a ha => (hi a ha).1.1) (by omega) hsz
  obtain ⟨C, hC⟩ : ∃ C, C = Kv.check (acts.map Ac.act) := ⟨_, rfl⟩
  rw [← hC] at hck hturn
  have hrs : RsIn M S cs := ⟨A, n, c, ps, A2, n2, c2, qs, hcs, hpa, hpe, hra⟩
  obtain ⟨g, hgg⟩ : ∃ g, g = S.gen := ⟨_, rfl⟩
  obtain ⟨N, hN⟩ : ∃ N, N = S.size := ⟨_, rfl⟩
  rw [← hgg, ← hN] at hcs
  subst hcs
  have H1 := H.new [.slice A n c, .slice A2 n2 c2, .int .u64 (g : Int), .int .i64 (N : Int)] 38
  have hsz1 : (w.alloc (.cells [.slice A n c, .slice A2 n2 c2, .int .u64 (g : Int), .int .i64 (N : Int)].toArray 38)).heap.size = w.heap.size + 1 := Array.size_push _
  have H2 := H1.newg rs0 38 (g := w.heap.size + 1) hsz1.symm
  have hno : C ≠ 0 ∨ acts = [] → S.apply (acts.map Ac.act) = (S, C) := fun h => by
    unfold Kv.RS.apply
    rw [← hC, if_pos (h.imp id fun h => by rw [h]; rfl)]
  have hm0 : m = 0 ↔ acts = [] := by rw [hm]; exact List.length_eq_zero_iff
  have HCK := Lib.hid (hck _ H2.d0.d0)
  have HS := Lib.hid (And.intro hm (And.intro hi (And.intro hm2 (And.intro hsz (And.intro hgg (And.intro hN (And.intro hrs hC)))))))
  have HP := Lib.hid (And.intro hpa (And.intro hpe (And.intro hra (And.intro hg (And.intro hz (And.intro hL (And.intro hok (And.intro hR hRl))))))))
  have HNO := Lib.hid hno
  have HT := Lib.hid hturn
  have HM0 := Lib.hid hm0
  clear hck hm hi hm2 hsz hgg hN hrs hC hpa hpe hra hg hz hL hok hR hRl hno hturn H1 hm0 hsz1 H
  go_enter Tryz.func12, Tryz.ntmps12
  go_wp2_with fail
  refine HCK.out.mono ?_
  rintro e w1 ⟨rfl, rfl⟩
  clear HCK
  generalize World.alloc _ _ = w1 at *
  obtain ⟨gR, hgR⟩ : ∃ gR, gR = w.heap.size + 1 := ⟨_, rfl⟩
  rw [← hgR] at H2 ⊢
  generalize w.heap.size = gP at *
  clear hgR
  by_cases hc : C = 0
  · subst hc
    by_cases hm0 : m = 0
    · subst hm0
      have hno := HNO.out (.inr (HM0.out.1 rfl))
      have HNO2 := Lib.hid hno
      clear hno
      go_upto_region 3 with fail
      refine wp_region_lit ?_
      refine wpList_load_mid (by rfl) 38 (.tmp 2) (by rfl) gP 0 (by rfl) [.slice A n c, .slice A2 n2 c2, .int .u64 (g : Int), .int .i64 (N : Int)] _ ((H2.blk 1 rfl).range 0 4 _ rfl) Tryz.underlying38 rfl (by exact Tryz.sizeState) ?_
      simp only [Act.put, List.setIfInBounds_toArray, List.set_cons_zero, List.set_cons_succ]
      (refine wpList_ex (v := ?_) (by rfl) ?_ ?_; rotate_left; (focus (go_simp; with_reducible rfl)); simp only [Act.put, List.setIfInBounds_toArray, List.set_cons_zero, List.set_cons_succ])
      refine wpList_store_st H2 (by rfl) 38 (.tmp 4) (.tmp 17) (by rfl) 0 [.slice A n c, .slice A2 n2 c2, .int .u64 (g : Int), .int .i64 (N : Int)] (by rfl) (by rfl) (by simp [rs0]) (by exact Tryz.sizeState) (by simp [Value.oneCell']) ?_
      intro w4 H4
      rw [ins_all rs0 [.slice A n c, .slice A2 n2 c2, .int .u64 (g : Int), .int .i64 (N : Int)] rfl] at H4
      simp only [Act.put, List.setIfInBounds_toArray, List.set_cons_zero, List.set_cons_succ]
      (refine wpList_ex (v := ?_) (by rfl) ?_ ?_; rotate_left; (focus (go_simp; with_reducible rfl)); simp only [Act.put, List.setIfInBounds_toArray, List.set_cons_zero, List.set_cons_succ])
      refine wpList_nil ?_
      go_wp2
      refine ret_row_tmp H4 (by rfl) (by rfl) Tryz.underlying38 (by rfl) (by exact Tryz.sizeState) rfl ?_
      have hno := HNO2.out
      rw [hno]
      exact ⟨_, M, rfl, Mem.le.refl _, HS.out.2.2.2.2.2.2.1, H4.d0.d0⟩
    · have q2 : ¬ (m : Int) = 0 := by omega
      have hm1 : 1 ≤ m := by omega
      have HM1 := Lib.hid hm1
      clear hm0 hm1
      go_upto_region 4 with fail
      refine wp_region_lit ?_
      refine wpList_load_mid (by rfl) 38 (.tmp 2) (by rfl) gP 0 (by rfl) [.slice A n c, .slice A2 n2 c2, .int .u64 (g : Int), .int .i64 (N : Int)] _ ((H2.blk 1 rfl).range 0 4 _ rfl) Tryz.underlying38 rfl (by exact Tryz.sizeState) ?_
      simp only [Act.put, List.setIfInBounds_toArray, List.set_cons_zero, List.set_cons_succ]
      refine wpList_alloc_st H2 (by rfl) 38 (by rfl) Tryz.zeroState ?_
      intro gN w3 H3
      have H3' : St w0 w3 M (eb gN 38 rs0 :: _) := H3
      simp only [Act.put, List.setIfInBounds_toArray, List.set_cons_zero, List.set_cons_succ]
      refine wpList_store_st H3' (by rfl) 38 (.tmp 7) (.tmp 19) (by rfl) 0 [.slice A n c, .slice A2 n2 c2, .int .u64 (g : Int), .int .i64 (N : Int)] (by rfl) (by rfl) (by simp [rs0]) (by exact Tryz.sizeState) (by simp [Value.oneCell']) ?_
      intro w4 H4
      rw [ins_all rs0 [.slice A n c, .slice A2 n2 c2, .int .u64 (g : Int), .int .i64 (N : Int)] rfl] at H4
      simp only [Act.put, List.setIfInBounds_toArray, List.set_cons_zero, List.set_cons_succ]
      refine wpList_nil ?_
      clear H2 H3 H3'
      have hck := HS.out.2.2.2.2.2.2.2.symm
      have hcz := Kv.check_zero hck
      have htu := rturn_any H4 HP.out.1 (B := B) (d := d) HS.out.1 (((hb.cons _).cons _).cons _) HS.out.2.1 (by
        have h1 := HP.out.1.1
        have h2 := congrArg List.length HP.out.2.1
        rw [List.length_map] at h2
        have h3 := HP.out.2.2.2.2.2.1
        omega) HS.out.2.2.1 (fun a ha => (HS.out.2.2.2.1 a ha).2)
      rw [HP.out.2.1] at htu
      have hm255 : m ≤ 255 := by have := hcz.2.1; rw [List.length_map, ← HS.out.1] at this; exact this
      have hln : ∀ a ∈ acts, a.key.length ≤ 1024 ∧ a.p.l.length ≤ 60000 := fun a ha => Kv.long_no hck (List.mem_map.2 ⟨a, ha, rfl⟩)
      have HTU := Lib.hid htu
      have HC := Lib.hid (And.intro hck (And.intro hm255 hln))
      have y0 := H4.cell 2 rfl 0
      simp only [List.getElem?_cons_succ, List.getElem?_cons_zero] at y0
      clear htu hck hcz hm255 hln
      go_wp2_with fail
      refine HTU.out.mono ?_
      rintro e w5 ⟨A7, n7, c7, ps7, M7, rfl, hM7, hpa7, hpe7, H5⟩
      have z0 := H5.frozen 0 rfl 0
      have y0 := H5.cell 0 rfl 0
      simp only [List.getElem?_cons_succ, List.getElem?_cons_zero] at y0
      have H6 := H5.set 0 (.slice A7 n7 c7)
      simp only [List.set_cons_succ, List.set_cons_zero] at H6
      have H5b := Lib.hid (And.intro hM7 (And.intro hpa7 hpe7))
      clear hM7 hpa7 hpe7 HTU H4 H5
      go_upto_region 6 with fail
      generalize World.setCell _ _ _ = w6 at *
      clear y0 z0
      have H7 := H6.lit00 30 1
      have y1 := H7.cell 3 rfl 1
      simp only [List.getElem?_cons_succ, List.getElem?_cons_zero] at y1
      have hlq : (qs.map Pc.v).length = n2 * 1 := by rw [List.length_map, ← HP.out.2.2.1.1, Nat.mul_one]
      have h1q : ∀ u ∈ qs.map Pc.v, u.oneCell' = true := fun u hu => by
        obtain ⟨q, -, rfl⟩ := List.mem_map.1 hu
        rfl
      have hn2b : n2 ≤ 10000 := by
        have h1 := HP.out.2.2.1.2.2.2.1.len
        have h2 := HP.out.2.2.1.1
        have h3 := HP.out.2.2.2.2.2.2.2.2
        omega
      have HQ2 := Lib.hid (And.intro hlq h1q)
      clear hlq h1q
      go_wp2_with (at_builtin; refine wpList_append_any_st H7 (by rfl) (.tmp 25) (.tmp 27) 36 (by rfl) Tryz.info22 (by rfl) (by decide) Tryz.underlying36 (by rfl) A2 n2 c2 (qs.map Pc.v) (by rfl) HQ2.out.1 HP.out.2.2.1.2.2.1 (((HP.out.2.2.1.2.2.2.2.le H5b.out.1)).now H7) HQ2.out.2 (by omega) (by omega) ?_)
      intro v8 w7 H8
      try simp only [Nat.zero_add, List.nil_append] at H8
      obtain ⟨A8, c8, rfl, -⟩ := H8.shape 0 rfl
      clear y1 H6 H7
      have hby := rbytes_any H8 (c := d) HS.out.1 (((((hb.cons _).cons _).cons _).cons _).le H5b.out.1) (HS.out.2.1.le H5b.out.1) HC.out.2.1 HC.out.2.2
      obtain ⟨R, hR⟩ : ∃ R, R = Kv.bytes (acts.map Ac.act) := ⟨_, rfl⟩
      rw [← hR] at hby
      have HBY := Lib.hid hby
      have HRR := Lib.hid hR
      clear hby hR
      go_wp2_with fail
      refine HBY.out.mono ?_
      rintro e w8 ⟨B3, d3, M8, rfl, hd3, hB3, hM8, hin8, H9⟩
      obtain ⟨r, hr⟩ : ∃ r, r = R.length := ⟨_, rfl⟩
      rw [← hr] at hd3 ⊢
      have HB3 := Lib.hid (And.intro hd3 (And.intro hB3 (And.intro hM8 (And.intro hin8 hr))))
      clear hd3 hB3 hM8 hin8 hr HBY H8
      have z1 := H9.frozen 1 rfl 1
      have y1 := H9.cell 1 rfl 1
      simp only [List.getElem?_cons_succ, List.getElem?_cons_zero] at y1
      go_wp2_with (at_builtin; refine wpList_append1_st H9 (by rfl) (.tmp 28) (.tmp 31) 36 (by rfl) Tryz.info22 (by rfl) Tryz.underlying36 (by rfl) (by rfl) (by rfl) (by omega) (by omega) ?_)
      intro v9 w9 H10
      obtain ⟨A10, c10, rfl, hc10, hA10⟩ := H10.shape' 0 rfl
      obtain ⟨M9, hM9, H11, hin11, -⟩ := H10.lendRowA
      have hM89 := (HB3.out.2.2.1.trans hM9)
      have hrow : RowsAt M9 A10 (n2 + 1) c10 (qs ++ [⟨B3, r, d3, R⟩]) (S.R ++ [R]) := ⟨by rw [List.length_append, ← HP.out.2.2.1.1]; rfl, hc10, hA10, (HP.out.2.2.1.2.2.2.1.le (H5b.out.1.trans hM89)).snoc (p := ⟨B3, r, d3, R⟩) ⟨HB3.out.2.2.2.2, HB3.out.2.1, HB3.out.1⟩ (HB3.out.2.2.2.1.le hM9), by rw [List.map_append]; exact hin11⟩
      have HROW := Lib.hid (And.intro hrow (H5b.out.1.trans hM89))
      have hMM := hM89
      have HMM := Lib.hid hMM
      have z1 := H11.frozen 0 rfl 1
      have y1 := H11.cell 0 rfl 1
      simp only [List.getElem?_cons_succ, List.getElem?_cons_zero] at y1
      have H12 := H11.set 1 (.slice A10 (n2 + 1) c10)
      simp only [List.set_cons_succ, List.set_cons_zero] at H12
      clear hrow hM89 hMM hin11 hM9 hc10 hA10 H9 H10
      go_upto_region 7 with fail
      generalize World.setCell _ _ _ = w10 at *
      clear y1 z1 H11
      have hcz := Kv.check_zero HC.out.1
      have hRl : R.length ≤ 65535 := by rw [HRR.out]; exact hcz.2.2.2
      have hfi := rfits_any w10 H12 (A := A10) (c := c10) (n := n2 + 1) (ps := qs ++ [⟨B3, r, d3, R⟩]) HROW.out.1.1 (SrA.of_in HROW.out.1.2.2.2.2) (fun p hp => by
        have h1 := HROW.out.1.2.2.2.1.2 p hp
        have h2 : p.l ∈ S.R ++ [R] := by rw [← HROW.out.1.2.2.2.1.1]; exact List.mem_map.2 ⟨p, hp, rfl⟩
        have h3 := h1.1.1
        rcases List.mem_append.1 h2 with h4 | h4
        · have := HP.out.2.2.2.2.2.2.2.1 _ h4
          exact ⟨h3, by omega⟩
        · rw [List.mem_singleton.1 h4] at h3
          exact ⟨by rw [List.mem_singleton.1 h4]; exact h3, by omega⟩) N (by have := HP.out.2.2.2.2.1; have := HS.out.2.2.2.2.2.1; omega) (by omega)
      rw [HROW.out.1.2.2.2.1.1] at hfi
      have hno : ¬ (Kv.check (acts.map Ac.act) ≠ 0 ∨ acts.map Ac.act = []) := by
        rintro (h | h)
        · exact h HC.out.1
        · have h1 := congrArg List.length h
          rw [List.length_map, ← HS.out.1] at h1
          have := HM1.out
          simp at h1
          omega
      have hap1 : Lg.total (S.R ++ [R]) ≤ N → S.apply (acts.map Ac.act) = (S.next (acts.map Ac.act), 0) := fun h => by
        unfold Kv.RS.apply
        rw [if_neg hno, ← HRR.out, ← HS.out.2.2.2.2.2.1, if_pos h]
      have hap2 : ¬ Lg.total (S.R ++ [R]) ≤ N → (S.gen = 18446744073709551615 ∨ N < Lg.total (Kv.recsOf (Kv.turn S.L (acts.map Ac.act)))) → S.apply (acts.map Ac.act) = (S, 2) := fun h h2 => by
        unfold Kv.RS.apply
        rw [if_neg hno, ← HRR.out, ← HS.out.2.2.2.2.2.1, if_neg h, if_pos h2]
      have hap3 : ¬ Lg.total (S.R ++ [R]) ≤ N → ¬ (S.gen = 18446744073709551615 ∨ N < Lg.total (Kv.recsOf (Kv.turn S.L (acts.map Ac.act)))) → S.apply (acts.map Ac.act) = (S.anew (acts.map Ac.act), 0) := fun h h2 => by
        unfold Kv.RS.apply
        rw [if_neg hno, ← HRR.out, ← HS.out.2.2.2.2.2.1, if_neg h, if_neg h2]
      have HAP := Lib.hid (And.intro hap1 (And.intro hap2 hap3))
      have hn7 : n7 ≤ 500000 := by
        have h1 := H5b.out.2.1.1
        have h2 := congrArg List.length H5b.out.2.2
        have h3 := Kv.turn_len (acts.map Ac.act) S.L
        have h4 := HP.out.2.2.2.2.2.1
        have h5 := HC.out.2.1
        have h6 := HS.out.1
        rw [List.length_map] at h2
        rw [List.length_map] at h3
        omega
      have HFI := Lib.hid hfi
      have HN7 := Lib.hid hn7
      have y1 := H12.cell 0 rfl 1
      have y3 := H12.cell 2 rfl 3
      simp only [List.getElem?_cons_succ, List.getElem?_cons_zero] at y1 y3
      clear hfi hno hap1 hap2 hap3 hcz hRl hn7
      by_cases hf : Lg.total (S.R ++ [R]) ≤ N
      · have hfd : decide (Lg.total (S.R ++ [R]) ≤ N) = true := decide_eq_true hf
        rw [hfd] at HFI
        have HF := Lib.hid hf
        clear hf hfd
        go_wp2_with fail
        refine HFI.out.mono ?_
        rintro e w11 ⟨rfl, rfl⟩
        clear HFI y1 y3
        go_upto_region 8 with fail
        refine wp_region_lit ?_
        refine wpList_load_mid (by rfl) 38 (.tmp 7) (by rfl) gN 0 (by rfl) [.slice A7 n7 c7, .slice A10 (n2 + 1) c10, .int .u64 (g : Int), .int .i64 (N : Int)] _ ((H12.blk 0 rfl).range 0 4 _ rfl) Tryz.underlying38 rfl (by exact Tryz.sizeState) ?_
        simp only [Act.put, List.setIfInBounds_toArray, List.set_cons_zero, List.set_cons_succ]
        refine wpList_store_st H12.f1 (by rfl) 38 (.tmp 4) (.tmp 39) (by rfl) 0 [.slice A7 n7 c7, .slice A10 (n2 + 1) c10, .int .u64 (g : Int), .int .i64 (N : Int)] (by rfl) (by rfl) (by simp [rs0]) (by exact Tryz.sizeState) (by simp [Value.oneCell']) ?_
        intro w12 H13
        rw [ins_all rs0 [.slice A7 n7 c7, .slice A10 (n2 + 1) c10, .int .u64 (g : Int), .int .i64 (N : Int)] rfl] at H13
        simp only [Act.put, List.setIfInBounds_toArray, List.set_cons_zero, List.set_cons_succ]
        (refine wpList_ex (v := ?_) (by rfl) ?_ ?_; rotate_left; (focus (go_simp; with_reducible rfl)); simp only [Act.put, List.setIfInBounds_toArray, List.set_cons_zero, List.set_cons_succ])
        refine wpList_nil ?_
        go_wp2
        refine ret_row_tmp H13 (by rfl) (by rfl) Tryz.underlying38 (by rfl) (by exact Tryz.sizeState) rfl ?_
        rw [HAP.out.1 HF.out]
        exact ⟨_, M9, rfl, HROW.out.2, ⟨A7, n7, c7, ps7, A10, n2 + 1, c10, _, by rw [HS.out.2.2.2.2.1, HS.out.2.2.2.2.2.1]; rfl, H5b.out.2.1.le HMM.out, H5b.out.2.2, by rw [HRR.out] at HROW; exact HROW.out.1⟩, H13.d0.d0.d0⟩
      · have hfd : decide (Lg.total (S.R ++ [R]) ≤ N) = false := decide_eq_false hf
        rw [hfd] at HFI
        have HF := Lib.hid hf
        clear hf hfd
        have y0 := H12.cell 0 rfl 0
        simp only [List.getElem?_cons_succ, List.getElem?_cons_zero] at y0
        have hre := rrecs_any H12 (H5b.out.2.1.le HMM.out) (by rw [H5b.out.2.2]; exact HT.out trivial) (by have := HN7.out; omega)
        rw [H5b.out.2.2] at hre
        have HRE := Lib.hid hre
        clear hre
        go_wp2_with fail
        refine HFI.out.mono ?_
        rintro e w11 ⟨rfl, rfl⟩
        clear HFI y1 y3
        go_wp2_with fail
        refine HRE.out.mono ?_
        rintro e w11 ⟨A11, n11, c11, ps11, M11, rfl, hM11, hrow11, H13⟩
        have z1 := H13.frozen 0 rfl 1
        have y1 := H13.cell 0 rfl 1
        simp only [List.getElem?_cons_succ, List.getElem?_cons_zero] at y1
        have H14 := H13.set 1 (.slice A11 n11 c11)
        simp only [List.set_cons_succ, List.set_cons_zero] at H14
        have HR11 := Lib.hid (And.intro hM11 hrow11)
        clear hM11 hrow11 H12 H13 HRE y0
        go_upto_region 10 with fail
        generalize World.setCell _ _ _ = w12 at *
        clear y1 z1
        have y2 := H14.cell 2 rfl 2
        have y1 := H14.cell 0 rfl 1
        have y3 := H14.cell 2 rfl 3
        simp only [List.getElem?_cons_succ, List.getElem?_cons_zero] at y1 y2 y3
        by_cases hgm : g = 18446744073709551615
        · subst hgm
          have hap := HAP.out.2.1 HF.out (.inl HS.out.2.2.2.2.1.symm)
          have HAP2 := Lib.hid hap
          clear hap
          go_upto_region 11 with fail
          clear y1 y2 y3
          refine wp_region_lit ?_
          refine wpList_load_mid (by rfl) 38 (.tmp 2) (by rfl) gP 0 (by rfl) [.slice A n c, .slice A2 n2 c2, .int .u64 ((18446744073709551615 : Nat) : Int), .int .i64 (N : Int)] _ ((H14.blk 2 rfl).range 0 4 _ rfl) Tryz.underlying38 rfl (by exact Tryz.sizeState) ?_
          simp only [Act.put, List.setIfInBounds_toArray, List.set_cons_zero, List.set_cons_succ]
          refine wpList_store_st H14.f1 (by rfl) 38 (.tmp 4) (.tmp 55) (by rfl) 0 [.slice A n c, .slice A2 n2 c2, .int .u64 ((18446744073709551615 : Nat) : Int), .int .i64 (N : Int)] (by rfl) (by rfl) (by simp [rs0]) (by exact Tryz.sizeState) (by simp [Value.oneCell']) ?_
          intro w13 H15
          rw [ins_all rs0 [.slice A n c, .slice A2 n2 c2, .int .u64 ((18446744073709551615 : Nat) : Int), .int .i64 (N : Int)] rfl] at H15
          simp only [Act.put, List.setIfInBounds_toArray, List.set_cons_zero, List.set_cons_succ]
          (refine wpList_ex (v := ?_) (by rfl) ?_ ?_; rotate_left; (focus (go_simp; with_reducible rfl)); simp only [Act.put, List.setIfInBounds_toArray, List.set_cons_zero, List.set_cons_succ])
          refine wpList_nil ?_
          go_wp2
          refine ret_row_tmp H15 (by rfl) (by rfl) Tryz.underlying38 (by rfl) (by exact Tryz.sizeState) rfl ?_
          rw [HAP2.out]
          exact ⟨_, M11, rfl, HROW.out.2.trans HR11.out.1, HS.out.2.2.2.2.2.2.1.le (HROW.out.2.trans HR11.out.1), H15.d0.d0.d0⟩
        · have q1 : ¬ (g : Int) = 18446744073709551615 := by omega
          have hl0 : ∀ p ∈ ps11, p.n = p.l.length ∧ p.n ≤ 1000000 := fun p hp => by
            have h1 := HR11.out.2.2.2.2.1.2 p hp
            have h2 : p.l ∈ Kv.recsOf (Kv.turn S.L (acts.map Ac.act)) := by rw [← HR11.out.2.2.2.2.1.1]; exact List.mem_map.2 ⟨p, hp, rfl⟩
            have h3 := Kv.recsOf_long (HT.out trivial) _ h2
            have h4 := h1.1.1
            exact ⟨h4, by omega⟩
          have hln11 : n11 ≤ 500000 := by
            have h1 := HR11.out.2.1
            have h2 := HR11.out.2.2.2.2.1.len
            have h3 := H5b.out.2.1.1
            have h4 := congrArg List.length H5b.out.2.2
            have h5 := HN7.out
            unfold Kv.recsOf at h2
            rw [List.length_map] at h2 h4
            omega
          have hfi := rfits_any w12 H14 (A := A11) (c := c11) (n := n11) (ps := ps11) HR11.out.2.1 (SrA.of_in HR11.out.2.2.2.2.2) hl0 N (by have := HP.out.2.2.2.2.1; have := HS.out.2.2.2.2.2.1; omega) (by omega)
          rw [HR11.out.2.2.2.2.1.1] at hfi
          have HFI := Lib.hid hfi
          have HG := Lib.hid hgm
          clear hfi hl0 hln11 hgm
          by_cases hf2 : Lg.total (Kv.recsOf (Kv.turn S.L (acts.map Ac.act))) ≤ N
          · have hfd : decide (Lg.total (Kv.recsOf (Kv.turn S.L (acts.map Ac.act))) ≤ N) = true := decide_eq_true hf2
            rw [hfd] at HFI
            have hap := HAP.out.2.2 HF.out (by have := HG.out; have := HS.out.2.2.2.2.1; omega)
            have HAP2 := Lib.hid hap
            obtain ⟨g1, hg1⟩ : ∃ g1, g1 = g + 1 := ⟨_, rfl⟩
            have hgl := HP.out.2.2.2.1
            have e1 : (g : Int) + 1 = (g1 : Int) := by omega
            have w1 : IntKind.u64.wrap (g1 : Int) = (g1 : Int) := by rw [IntKind.wrap_u64]; have := HG.out; have := HS.out.2.2.2.2.1; omega
            have HG1 := Lib.hid hg1
            clear hf2 hfd hap hg1 hgl
            go_wp2_with fail
            refine HFI.out.mono ?_
            rintro e w13 ⟨rfl, rfl⟩
            clear HFI y1 y3
            have z2 := H14.frozen 0 rfl 2
            have x2 := H14.cell 0 rfl 2
            simp only [List.getElem?_cons_succ, List.getElem?_cons_zero] at x2
            have H15 := H14.set 2 (.int .u64 (g1 : Int))
            simp only [List.set_cons_succ, List.set_cons_zero] at H15
            clear H14
            go_upto_region 13 with fail
            generalize World.setCell _ _ _ = w14 at *
            clear x2 z2 y2
            refine wp_region_lit ?_
            refine wpList_load_mid (by rfl) 38 (.tmp 7) (by rfl) gN 0 (by rfl) [.slice A7 n7 c7, .slice A11 n11 c11, .int .u64 (g1 : Int), .int .i64 (N : Int)] _ ((H15.blk 0 rfl).range 0 4 _ rfl) Tryz.underlying38 rfl (by exact Tryz.sizeState) ?_
            simp only [Act.put, List.setIfInBounds_toArray, List.set_cons_zero, List.set_cons_succ]
            refine wpList_store_st H15.f1 (by rfl) 38 (.tmp 4) (.tmp 60) (by rfl) 0 [.slice A7 n7 c7, .slice A11 n11 c11, .int .u64 (g1 : Int), .int .i64 (N : Int)] (by rfl) (by rfl) (by simp [rs0]) (by exact Tryz.sizeState) (by simp [Value.oneCell']) ?_
            intro w15 H16
            rw [ins_all rs0 [.slice A7 n7 c7, .slice A11 n11 c11, .int .u64 (g1 : Int), .int .i64 (N : Int)] rfl] at H16
            simp only [Act.put, List.setIfInBounds_toArray, List.set_cons_zero, List.set_cons_succ]
            (refine wpList_ex (v := ?_) (by rfl) ?_ ?_; rotate_left; (focus (go_simp; with_reducible rfl)); simp only [Act.put, List.setIfInBounds_toArray, List.set_cons_zero, List.set_cons_succ])
            refine wpList_nil ?_
            go_wp2
            refine ret_row_tmp H16 (by rfl) (by rfl) Tryz.underlying38 (by rfl) (by exact Tryz.sizeState) rfl ?_
            rw [HAP2.out]
            exact ⟨_, M11, rfl, HROW.out.2.trans HR11.out.1, ⟨A7, n7, c7, ps7, A11, n11, c11, ps11, by rw [HG1.out, HS.out.2.2.2.2.1, HS.out.2.2.2.2.2.1]; rfl, H5b.out.2.1.le (HMM.out.trans HR11.out.1), H5b.out.2.2, HR11.out.2⟩, H16.d0.d0.d0⟩
          · have hfd : decide (Lg.total (Kv.recsOf (Kv.turn S.L (acts.map Ac.act))) ≤ N) = false := decide_eq_false hf2
            rw [hfd] at HFI
            have hap := HAP.out.2.1 HF.out (.inr (by omega))
            have HAP2 := Lib.hid hap
            clear hf2 hfd hap
            go_wp2_with fail
            refine HFI.out.mono ?_
            rintro e w13 ⟨rfl, rfl⟩
            clear HFI y1 y2 y3
            go_upto_region 11 with fail
            refine wp_region_lit ?_
            refine wpList_load_mid (by rfl) 38 (.tmp 2) (by rfl) gP 0 (by rfl) [.slice A n c, .slice A2 n2 c2, .int .u64 (g : Int), .int .i64 (N : Int)] _ ((H14.blk 2 rfl).range 0 4 _ rfl) Tryz.underlying38 rfl (by exact Tryz.sizeState) ?_
            simp only [Act.put, List.setIfInBounds_toArray, List.set_cons_zero, List.set_cons_succ]
            refine wpList_store_st H14.f1 (by rfl) 38 (.tmp 4) (.tmp 55) (by rfl) 0 [.slice A n c, .slice A2 n2 c2, .int .u64 (g : Int), .int .i64 (N : Int)] (by rfl) (by rfl) (by simp [rs0]) (by exact Tryz.sizeState) (by simp [Value.oneCell']) ?_
            intro w14 H15
            rw [ins_all rs0 [.slice A n c, .slice A2 n2 c2, .int .u64 (g : Int), .int .i64 (N : Int)] rfl] at H15
            simp only [Act.put, List.setIfInBounds_toArray, List.set_cons_zero, List.set_cons_succ]
            (refine wpList_ex (v := ?_) (by rfl) ?_ ?_; rotate_left; (focus (go_simp; with_reducible rfl)); simp only [Act.put, List.setIfInBounds_toArray, List.set_cons_zero, List.set_cons_succ])
            refine wpList_nil ?_
            go_wp2
            refine ret_row_tmp H15 (by rfl) (by rfl) Tryz.underlying38 (by rfl) (by exact Tryz.sizeState) rfl ?_
            rw [HAP2.out]
            exact ⟨_, M11, rfl, HROW.out.2.trans HR11.out.1, HS.out.2.2.2.2.2.2.1.le (HROW.out.2.trans HR11.out.1), H15.d0.d0.d0⟩
  · have hno := HNO.out (.inl hc)
    have HNO2 := Lib.hid hno
    clear hno
    go_upto_region 3 with fail
    refine wp_region_lit ?_
    refine wpList_load_mid (by rfl) 38 (.tmp 2) (by rfl) gP 0 (by rfl) [.slice A n c, .slice A2 n2 c2, .int .u64 (g : Int), .int .i64 (N : Int)] _ ((H2.blk 1 rfl).range 0 4 _ rfl) Tryz.underlying38 rfl (by exact Tryz.sizeState) ?_
    simp only [Act.put, List.setIfInBounds_toArray, List.set_cons_zero, List.set_cons_succ]
    (refine wpList_ex (v := ?_) (by rfl) ?_ ?_; rotate_left; (focus (go_simp; with_reducible rfl)); simp only [Act.put, List.setIfInBounds_toArray, List.set_cons_zero, List.set_cons_succ])
    refine wpList_store_st H2 (by rfl) 38 (.tmp 4) (.tmp 17) (by rfl) 0 [.slice A n c, .slice A2 n2 c2, .int .u64 (g : Int), .int .i64 (N : Int)] (by rfl) (by rfl) (by simp [rs0]) (by exact Tryz.sizeState) (by simp [Value.oneCell']) ?_
    intro w4 H4
    rw [ins_all rs0 [.slice A n c, .slice A2 n2 c2, .int .u64 (g : Int), .int .i64 (N : Int)] rfl] at H4
    simp only [Act.put, List.setIfInBounds_toArray, List.set_cons_zero, List.set_cons_succ]
    (refine wpList_ex (v := ?_) (by rfl) ?_ ?_; rotate_left; (focus (go_simp; with_reducible rfl)); simp only [Act.put, List.setIfInBounds_toArray, List.set_cons_zero, List.set_cons_succ])
    refine wpList_nil ?_
    go_wp2
    refine ret_row_tmp H4 (by rfl) (by rfl) Tryz.underlying38 (by rfl) (by exact Tryz.sizeState) rfl ?_
    have hno := HNO2.out
    rw [hno]
    exact ⟨_, M, rfl, Mem.le.refl _, HS.out.2.2.2.2.2.2.1, H4.d0.d0⟩
end
end Go.Proofs.YtepgmebklhemgaaGreatDoor
