/- SealSeals walked. -/
import Derived.Test.YtfhphkhkpejomaaDoorZl
import Derived.Test.YtfhphkhkpejomaaDoorZj
import Derived.Test.YtfhphkhkpejomaaDoorZh
import Derived.Test.YtfhphkhkpejomaaDoorEa
import Derived.Deep.DeepCutAuto
set_option linter.unusedVariables false
set_option linter.unusedSimpArgs false
namespace Go.Proofs.YtfhphkhkpejomaaDoor
open Go.RowKit Wd
/-- What is sealed, as cells. -/
def icells (non lb : List UInt8) (C : Option Addr) (n f : Nat) : List Value := bv non ++ [.string ⟨lb.toArray⟩, .slice C n f]
theorem Tryd.sizeIn : (Tryd.prog.info? 30).map (·.size) = some 18 := by kernel_rfl
theorem Tryd.size16 : (Tryd.prog.info? 28).map (·.size) = some 16 := by kernel_rfl
section
variable {w0 w : World} {M : Mem} {L : List Ent} {non lb : List UInt8} {C : Option Addr} {n f g : Nat}
theorem icells_len (hnl : non.length = 16) : (icells non lb C n f).length = 18 := by unfold icells; rw [List.length_append, bv_length, hnl]; rfl
theorem icells_16 (hnl : non.length = 16) : (icells non lb C n f)[16]? = some (.string ⟨lb.toArray⟩) := by
  unfold icells
  rw [List.getElem?_append_right (by rw [bv_length, hnl]; exact Nat.le_refl _), bv_length, hnl]
  rfl
theorem icells_17 (hnl : non.length = 16) : (icells non lb C n f)[17]? = some (.slice C n f) := by
  unfold icells
  rw [List.getElem?_append_right (by rw [bv_length, hnl]; decide), bv_length, hnl]
  rfl
theorem icells_take (hnl : non.length = 16) : ((icells non lb C n f).drop 0).take 16 = bv non := by
  unfold icells
  rw [List.drop_zero, ← hnl, ← bv_length non]
  exact List.take_left
set_option maxRecDepth 100000 in
theorem light_any (H : St w0 w M L) (A : Option Addr) (c : Nat) (k : List UInt8) (hnl : non.length = 16) :
    Calls Tryd.prog 10 #[.slice A k.length c, .agg (icells non lb C n f).toArray] w fun e w' => e = .returned (.bool (decide (k.length ≤ 500 ∧ lb.length ≤ 600 ∧ n ≤ 6000))) ∧ St w0 w' M L := by
  have hsz : (ByteArray.mk lb.toArray).size = lb.length := by show lb.toArray.size = _; simp
  have H1 := H.new (icells non lb C n f) 30
  have c16 : (w.alloc (.cells (icells non lb C n f).toArray 30)).cell? ⟨w.heap.size, 16, none⟩ = some (.string ⟨lb.toArray⟩) := by rw [H1.cell 0 rfl 16, icells_16 hnl]
  have c17 : (w.alloc (.cells (icells non lb C n f).toArray 30)).cell? ⟨w.heap.size, 17, none⟩ = some (.slice C n f) := by rw [H1.cell 0 rfl 17, icells_17 hnl]
  obtain ⟨X, hX⟩ : ∃ X, X = icells non lb C n f := ⟨_, rfl⟩
  rw [← hX] at H1 c16 c17 ⊢
  clear hX
  by_cases h1 : k.length ≤ 500
  · have q1 : (k.length : Int) ≤ 500 := by omega
    by_cases h2 : lb.length ≤ 600
    · have q2 : (lb.length : Int) ≤ 600 := by omega
      by_cases h3 : n ≤ 6000
      · have q3 : (n : Int) ≤ 6000 := by omega
        rw [show decide (k.length ≤ 500 ∧ lb.length ≤ 600 ∧ n ≤ 6000) = true from by simp [h1, h2, h3]]
        clear h1 h2 h3
        go_enter Tryd.func10, Tryd.ntmps10
        go_wp2
        go_ret
        exact ⟨rfl, H1.d0⟩
      · have q3 : ¬ (n : Int) ≤ 6000 := by omega
        rw [show decide (k.length ≤ 500 ∧ lb.length ≤ 600 ∧ n ≤ 6000) = false from by simp [h3]]
        clear h1 h2 h3
        go_enter Tryd.func10, Tryd.ntmps10
        go_wp2
        go_ret
        exact ⟨rfl, H1.d0⟩
    · have q2 : ¬ (lb.length : Int) ≤ 600 := by omega
      rw [show decide (k.length ≤ 500 ∧ lb.length ≤ 600 ∧ n ≤ 6000) = false from by simp [h2]]
      clear h1 h2
      go_enter Tryd.func10, Tryd.ntmps10
      go_wp2
      go_ret
      exact ⟨rfl, H1.d0⟩
  · have q1 : ¬ (k.length : Int) ≤ 500 := by omega
    rw [show decide (k.length ≤ 500 ∧ lb.length ≤ 600 ∧ n ≤ 6000) = false from by simp [h1]]
    clear h1
    go_enter Tryd.func10, Tryd.ntmps10
    go_wp2
    go_ret
    exact ⟨rfl, H1.d0⟩
end
set_option maxRecDepth 100000 in
set_option maxHeartbeats 1000000 in
theorem sealSeals_any {w : World} (ht : Tabs w) {A : Option Addr} {c : Nat} {k : List UInt8} (hA : A = none → c = 0) (hk : RB w A k) (hc : k.length ≤ c) (non lb : List UInt8) (hnl : non.length = 16)
    {C : Option Addr} {f : Nat} {b : List UInt8} (hC : C = none → f = 0) (hb : RB w C b) (hbf : b.length ≤ f) :
    Calls Tryd.prog 5 #[.slice A k.length c, .agg (icells non lb C b.length f).toArray] w fun e w' => e = .returned (.bool true) ∧ Below w.heap.size w w' := by
  have hsz : (ByteArray.mk lb.toArray).size = lb.length := by show lb.toArray.size = _; simp
  have H := St.start w
  have HAW := Lib.hid (fun (w1 : World) (M : Mem) (L : List Ent) (H1 : St w w1 M L) => awake_any ht H1)
  have hli := fun (w1 : World) (M : Mem) (L : List Ent) (H1 : St w w1 M L) => light_any (lb := lb) (C := C) (n := b.length) (f := f) H1 A c k hnl
  have h16 := icells_16 (lb := lb) (C := C) (n := b.length) (f := f) hnl
  have h17 := icells_17 (lb := lb) (C := C) (n := b.length) (f := f) hnl
  have h0t := icells_take (lb := lb) (C := C) (n := b.length) (f := f) hnl
  have hXl := icells_len (lb := lb) (C := C) (n := b.length) (f := f) hnl
  obtain ⟨X, hX⟩ : ∃ X, X = icells non lb C b.length f := ⟨_, rfl⟩
  rw [← hX] at hli h16 h17 h0t hXl ⊢
  clear hX
  have H1 := H.new X 30
  have HLI := Lib.hid hli
  have HXL := Lib.hid hXl
  have hbl : (bv non).length = 16 := by rw [bv_length, hnl]
  have HBL := Lib.hid hbl
  have r0 := (H1.blk 0 rfl).range 0 18 X (by rw [List.drop_zero, List.take_of_length_le (by omega)])
  have HX16 := Lib.hid h16
  have HX17 := Lib.hid h17
  have HX0 := Lib.hid h0t
  clear hli hXl hbl h16 h17 h0t
  by_cases hbig : k.length ≤ 500 ∧ lb.length ≤ 600 ∧ b.length ≤ 6000
  · have hd : decide (k.length ≤ 500 ∧ lb.length ≤ 600 ∧ b.length ≤ 6000) = true := by simpa using hbig
    obtain ⟨k1, k2, k3⟩ := hbig
    have HD := Lib.hid hd
    have sk : Sr w (w.heap[·]?) [] A k := Sr.of_in (In.oldRB H hk)
    have sb : Sr w (w.heap[·]?) [] C b := Sr.of_in (In.oldRB H hb)
    obtain ⟨R, hR⟩ : ∃ R, R = Seal.sealR k non lb b := ⟨_, rfl⟩
    have hse := fun (w1 : World) (L : List Ent) (H1 : St w w1 (w.heap[·]?) L) (A' : Option Addr) (c' : Nat) (a1 : A' = none → c' = 0) (a2 : k.length ≤ c') (a3 : Sr w (w.heap[·]?) L A' k) (C' : Option Addr) (f' : Nat) (h1 : C' = none → f' = 0) (h2 : b.length ≤ f') (h3 : Sr w (w.heap[·]?) L C' b) => seal_any ht H1 a1 a2 a3 (by omega) non lb hnl (by omega) h1 h2 h3 (by omega)
    have hrs := fun (w1 : World) (M : Mem) (L : List Ent) (H1 : St w w1 M L) (h3 : Sr w M L C b) (h4 : Sr w M L A k) => rseal_any H1 hA hc h4 (by omega) non lb hnl (by omega) hC hbf h3 (by omega)
    rw [← hR] at hse hrs
    obtain ⟨Y, E⟩ := R
    have HSE := Lib.hid hse
    have HRS := Lib.hid hrs
    have HR := Lib.hid hR
    have HNL := Lib.hid hnl
    clear hR hse hrs hd hnl
    go_enter Tryd.func5, Tryd.ntmps5
    go_wp2_with (refine wpList_load_mid (by rfl) 30 (.tmp 3) (by rfl) w.heap.size 0 (by rfl) X _ r0 Tryd.underlying30 rfl (by rw [HXL.out]; exact Tryd.sizeIn) ?_)
    refine (HLI.out _ _ _ H1).mono ?_
    rintro e w1 ⟨rfl, H2⟩
    rw [HD.out]
    clear H1 r0
    go_upto_region 3 with fail
    generalize hg : w.heap.size = g at *
    go_cut [5, 6] (fun v u wx => ∃ (A9 : Option Addr) (c9 : Nat) (M9 : Mem), v = .slice A9 Y.length c9 ∧ u = .int .i64 E ∧ Y.length ≤ c9 ∧ (A9 = none → c9 = 0) ∧ Mem.le (w.heap[·]?) M9 ∧ In M9 (RB · A9 Y) ∧ St w wx M9 [eb g 30 X])
    case first =>
      refine Pt.wp_plan (fun w' => St w w' (w.heap[·]?) [eb g 30 X]) (Pt.prs [1, 3, 5, 8] (Pt.rds [4, 6, 9] (.go2 0 (.go2 2 (.go 7 (.go 10 (.go 11 (Pt.prs [12, 13, 14, 15, 16] .fin)))) 7 (.go 2 (.go 10 (.go 11 (Pt.prs [12, 13, 14, 15, 16] .fin))))) 7 (.go 0 (.go 2 (.go 10 (.go 11 (Pt.prs [12, 13, 14, 15, 16] .fin)))))))) [] Tryd.mixed (by kernel_rfl) (fun _ _ d _ _ h => by cases d <;> exact h) H2.drew ?_
      have H2 := H2.drew
      simp only [Pt.toL, Pt.rds, Pt.prs, Pt.at_, List.drop_succ_cons, List.drop_zero]
      iterate 4 (refine Pt.pr_run (v := ?_) (by rfl) ?_ ?_; rotate_left; (focus (intro w'; go_simp; with_reducible rfl)); simp only [Act.put, List.setIfInBounds_toArray, List.set_cons_zero, List.set_cons_succ])
      refine Pt.rd_load (by rfl) 28 (.tmp 22) (by rfl) g 0 (by rfl) (bv non) _ (fun w' hS => (hS.blk 0 rfl).range 0 16 (bv non) HX0.out) Tryd.underlying28 rfl (by rw [HBL.out]; exact Tryd.size16) ?_
      simp only [Act.put, List.setIfInBounds_toArray, List.set_cons_zero, List.set_cons_succ]
      (refine Pt.rd_run (v := ?_) (by rfl) ?_ ?_; rotate_left; (focus (intro w' hS; have s16 : w'.cell? ⟨g, 16, none⟩ = some (.string ⟨lb.toArray⟩) := (by rw [hS.cell 0 rfl 16, HX16.out]); go_simp; with_reducible rfl)); simp only [Act.put, List.setIfInBounds_toArray, List.set_cons_zero, List.set_cons_succ])
      (refine Pt.rd_run (v := ?_) (by rfl) ?_ ?_; rotate_left; (focus (intro w' hS; have s17 : w'.cell? ⟨g, 17, none⟩ = some (.slice C b.length f) := (by rw [hS.cell 0 rfl 17, HX17.out]); go_simp; with_reducible rfl)); simp only [Act.put, List.setIfInBounds_toArray, List.set_cons_zero, List.set_cons_succ])
      refine Pt.run_go2 ?_ ?_
      · -- the key's copy begins
        have H3 := H2.lit0 5
        go_wp2_with fail
        refine Pt.same (H3.sub (by repeat (first | exact List.Sublist.refl _ | apply List.Sublist.cons))) ?_
        refine Pt.run_go2 ?_ ?_
        · refine wpList_append_st H3 (by rfl) (.tmp 19) (.tmp 20) 22 (by rfl) Tryd.info5 Tryd.underlying22 (by rfl) A k.length c k (by rfl) rfl hA (((sk.cons _).cons _).now H3) (by omega) ?_
          intro v4 w4 H4
          try simp only [Nat.zero_add, List.nil_append] at H4
          refine wpList_nil ?_
          refine Pt.same (H4.sub (by repeat (first | exact List.Sublist.refl _ | apply List.Sublist.cons))) ?_
          simp only [Act.put, List.setIfInBounds_toArray, List.set_cons_zero, List.set_cons_succ]
          refine Pt.run_go ?_
          have H5 := H4.lit0 5
          go_wp2_with fail
          refine Pt.same (H5.sub (by repeat (first | exact List.Sublist.refl _ | apply List.Sublist.cons))) ?_
          refine Pt.run_go ?_
          refine wpList_append_st H5 (by rfl) (.tmp 26) (.tmp 28) 22 (by rfl) Tryd.info5 Tryd.underlying22 (by rfl) C b.length f b (by rfl) rfl hC ((((sb.cons _).cons _).cons _).now H5) (by omega) ?_
          intro v6 w6 H6
          try simp only [Nat.zero_add, List.nil_append] at H6
          refine wpList_nil ?_
          refine Pt.same (H6.sub (by repeat (first | exact List.Sublist.refl _ | apply List.Sublist.cons))) ?_
          simp only [Act.put, List.setIfInBounds_toArray, List.set_cons_zero, List.set_cons_succ]
          obtain ⟨Ak, ck, rfl, hck, hAk⟩ := H6.shape' 1 rfl
          obtain ⟨Ab, cb, rfl, hcb, hAb⟩ := H6.shape' 0 rfl
          refine Pt.run_go ?_
          go_wp2_with fail
          refine (HSE.out _ _ H6 Ak ck hAk hck (Sr.row 1 rfl) Ab cb hAb hcb (Sr.row 0 rfl)).mono ?_
          rintro e w9 ⟨A9, c9, M9, rfl, hl9, hA9, hM9, hin9, H9⟩
          go_wp2_with fail
          refine Pt.same ((H9.sub (by repeat (first | exact List.Sublist.refl _ | apply List.Sublist.cons))).weak H2 hM9) ?_
          iterate 5 (refine Pt.pr_run (v := ?_) (by rfl) ?_ ?_; rotate_left; (focus (intro w'; go_simp; with_reducible rfl)); simp only [Act.put, List.setIfInBounds_toArray, List.set_cons_zero, List.set_cons_succ])
          refine Pt.run_fin ?_
          go_wp2_with fail
          go_meet
          exact ⟨A9, c9, M9, rfl, rfl, hl9, hA9, hM9, hin9, H9.sub (by repeat (first | exact List.Sublist.refl _ | apply List.Sublist.cons))⟩
        · have H4 := H3.lit0 5
          rw [show (w1.drew.alloc (.cells #[] 5)).heap.size = w1.heap.size + 1 from by simp] at H4
          go_wp2_with fail
          refine Pt.same (H4.sub (by repeat (first | exact List.Sublist.refl _ | apply List.Sublist.cons))) ?_
          refine Pt.run_go ?_
          refine wpList_append_st H4.f1 (by rfl) (.tmp 19) (.tmp 20) 22 (by rfl) Tryd.info5 Tryd.underlying22 (by rfl) A k.length c k (by rfl) rfl hA ((((sk.cons _).cons _).cons _).now H4) (by omega) ?_
          intro v5 w5 H5
          try simp only [Nat.zero_add, List.nil_append] at H5
          refine wpList_nil ?_
          refine Pt.same (H5.sub (by repeat (first | exact List.Sublist.refl _ | apply List.Sublist.cons))) ?_
          simp only [Act.put, List.setIfInBounds_toArray, List.set_cons_zero, List.set_cons_succ]
          refine Pt.run_go ?_
          refine wpList_append_st H5.f1 (by rfl) (.tmp 26) (.tmp 28) 22 (by rfl) Tryd.info5 Tryd.underlying22 (by rfl) C b.length f b (by rfl) rfl hC ((((sb.cons _).cons _).cons _).now H5) (by omega) ?_
          intro v6 w6 H6
          try simp only [Nat.zero_add, List.nil_append] at H6
          refine wpList_nil ?_
          refine Pt.same (H6.sub (by repeat (first | exact List.Sublist.refl _ | apply List.Sublist.cons))) ?_
          simp only [Act.put, List.setIfInBounds_toArray, List.set_cons_zero, List.set_cons_succ]
          obtain ⟨Ak, ck, rfl, hck, hAk⟩ := H6.shape' 1 rfl
          obtain ⟨Ab, cb, rfl, hcb, hAb⟩ := H6.shape' 0 rfl
          refine Pt.run_go ?_
          go_wp2_with fail
          refine (HSE.out _ _ H6 Ak ck hAk hck (Sr.row 1 rfl) Ab cb hAb hcb (Sr.row 0 rfl)).mono ?_
          rintro e w9 ⟨A9, c9, M9, rfl, hl9, hA9, hM9, hin9, H9⟩
          go_wp2_with fail
          refine Pt.same ((H9.sub (by repeat (first | exact List.Sublist.refl _ | apply List.Sublist.cons))).weak H2 hM9) ?_
          iterate 5 (refine Pt.pr_run (v := ?_) (by rfl) ?_ ?_; rotate_left; (focus (intro w'; go_simp; with_reducible rfl)); simp only [Act.put, List.setIfInBounds_toArray, List.set_cons_zero, List.set_cons_succ])
          refine Pt.run_fin ?_
          go_wp2_with fail
          go_meet
          exact ⟨A9, c9, M9, rfl, rfl, hl9, hA9, hM9, hin9, H9.sub (by repeat (first | exact List.Sublist.refl _ | apply List.Sublist.cons))⟩
      · have H3 := H2.lit0 5
        go_wp2_with fail
        refine Pt.same (H3.sub (by repeat (first | exact List.Sublist.refl _ | apply List.Sublist.cons))) ?_
        refine Pt.run_go ?_
        have H4 := H3.lit0 5
        rw [show (w1.drew.alloc (.cells #[] 5)).heap.size = w1.heap.size + 1 from by simp] at H4
        go_wp2_with fail
        refine Pt.same (H4.sub (by repeat (first | exact List.Sublist.refl _ | apply List.Sublist.cons))) ?_
        refine Pt.run_go ?_
        refine wpList_append_st H4 (by rfl) (.tmp 19) (.tmp 20) 22 (by rfl) Tryd.info5 Tryd.underlying22 (by rfl) A k.length c k (by rfl) rfl hA ((((sk.cons _).cons _).cons _).now H4) (by omega) ?_
        intro v5 w5 H5
        try simp only [Nat.zero_add, List.nil_append] at H5
        refine wpList_nil ?_
        refine Pt.same (H5.sub (by repeat (first | exact List.Sublist.refl _ | apply List.Sublist.cons))) ?_
        simp only [Act.put, List.setIfInBounds_toArray, List.set_cons_zero, List.set_cons_succ]
        refine Pt.run_go ?_
        refine wpList_append_st H5.f1 (by rfl) (.tmp 26) (.tmp 28) 22 (by rfl) Tryd.info5 Tryd.underlying22 (by rfl) C b.length f b (by rfl) rfl hC ((((sb.cons _).cons _).cons _).now H5) (by omega) ?_
        intro v6 w6 H6
        try simp only [Nat.zero_add, List.nil_append] at H6
        refine wpList_nil ?_
        refine Pt.same (H6.sub (by repeat (first | exact List.Sublist.refl _ | apply List.Sublist.cons))) ?_
        simp only [Act.put, List.setIfInBounds_toArray, List.set_cons_zero, List.set_cons_succ]
        obtain ⟨Ak, ck, rfl, hck, hAk⟩ := H6.shape' 1 rfl
        obtain ⟨Ab, cb, rfl, hcb, hAb⟩ := H6.shape' 0 rfl
        refine Pt.run_go ?_
        go_wp2_with fail
        refine (HSE.out _ _ H6 Ak ck hAk hck (Sr.row 1 rfl) Ab cb hAb hcb (Sr.row 0 rfl)).mono ?_
        rintro e w9 ⟨A9, c9, M9, rfl, hl9, hA9, hM9, hin9, H9⟩
        go_wp2_with fail
        refine Pt.same ((H9.sub (by repeat (first | exact List.Sublist.refl _ | apply List.Sublist.cons))).weak H2 hM9) ?_
        iterate 5 (refine Pt.pr_run (v := ?_) (by rfl) ?_ ?_; rotate_left; (focus (intro w'; go_simp; with_reducible rfl)); simp only [Act.put, List.setIfInBounds_toArray, List.set_cons_zero, List.set_cons_succ])
        refine Pt.run_fin ?_
        go_wp2_with fail
        go_meet
        exact ⟨A9, c9, M9, rfl, rfl, hl9, hA9, hM9, hin9, H9.sub (by repeat (first | exact List.Sublist.refl _ | apply List.Sublist.cons))⟩
    case rest =>
      obtain ⟨A9, c9, M9, rfl, rfl, hl9, hA9, hM9, hin9, H3⟩ := hcut
      clear H2 HSE HLI
      have hbad3 := HR.out
      have r3 := (H3.blk 0 rfl).range 0 16 (bv non) HX0.out
      have s16 : wc.cell? ⟨g, 16, none⟩ = some (.string ⟨lb.toArray⟩) := by rw [H3.cell 0 rfl 16, HX16.out]
      have s17 : wc.cell? ⟨g, 17, none⟩ = some (.slice C b.length f) := by rw [H3.cell 0 rfl 17, HX17.out]
      have HIN9 := Lib.hid hin9
      clear hin9
      by_cases hbad : 256 < lb.length ∨ 4096 < b.length
      · rw [show Seal.sealR k non lb b = ([], 3) from if_pos hbad] at hbad3
        injection hbad3 with e1 e2
        subst e2
        have hbx : (4096 : Int) < (b.length : Int) ∨ ¬ (4096 : Int) < (b.length : Int) := by omega
        have hszr := fun W => size_any W (b.length : Int) (by omega)
        clear hbad
        rcases hbx with hbx | hbx
        · rw [show sizeR (b.length : Int) = (0, 3) from if_pos (.inr hbx)] at hszr
          have hbn : ¬ (b.length : Int) ≤ 4096 := by omega
          have HSZ := Lib.hid hszr
          clear hszr e1
          go_wp2_with (refine wpList_load_mid (by rfl) 28 (.tmp 35) (by rfl) g 0 (by rfl) (bv non) _ r3 Tryd.underlying28 rfl (by rw [HBL.out]; exact Tryd.size16) ?_)
          refine (HRS.out _ _ _ H3 ((sb.le hM9).cons _) ((sk.le hM9).cons _)).mono ?_
          rintro e w4 ⟨A10, c10, M10, rfl, hl10, hA10, hM10, hin10, H4⟩
          have s16 : w4.cell? ⟨g, 16, none⟩ = some (.string ⟨lb.toArray⟩) := by rw [H4.cell 0 rfl 16, HX16.out]
          have s17 : w4.cell? ⟨g, 17, none⟩ = some (.slice C b.length f) := by rw [H4.cell 0 rfl 17, HX17.out]
          have cv := conv_RB (P := Tryd.prog) (src := 22) (dst := 9) (c := c9) Tryd.underlying22 Tryd.underlying5 Tryd.underlying9 ((HIN9.out.le hM10).now H4) rfl
          have cv2 := conv_RB (P := Tryd.prog) (src := 22) (dst := 9) (c := c10) Tryd.underlying22 Tryd.underlying5 Tryd.underlying9 (hin10.now H4) rfl
          clear H3 r3 hin10 HRS
          go_wp2_with fail
          refine (HSZ.out _).mono ?_
          rintro e w' ⟨rfl, rfl⟩
          go_wp2_with fail
          refine (HAW.out _ _ _ H4).mono ?_
          rintro e w5 ⟨rfl, H5⟩
          go_wp2
          go_ret
          refine ⟨?_, H5.below⟩
          show Ending.returned (.bool (!decide ((b.length : Int) ≤ 4096))) = _
          rw [decide_eq_false (show ¬ (b.length : Int) ≤ 4096 by omega)]
          rfl
        · rw [show sizeR (b.length : Int) = ((b.length : Int) + 48, 0) from if_neg (by omega)] at hszr
          have HSZ := Lib.hid hszr
          clear hszr e1
          go_wp2_with (refine wpList_load_mid (by rfl) 28 (.tmp 35) (by rfl) g 0 (by rfl) (bv non) _ r3 Tryd.underlying28 rfl (by rw [HBL.out]; exact Tryd.size16) ?_)
          refine (HRS.out _ _ _ H3 ((sb.le hM9).cons _) ((sk.le hM9).cons _)).mono ?_
          rintro e w4 ⟨A10, c10, M10, rfl, hl10, hA10, hM10, hin10, H4⟩
          have s16 : w4.cell? ⟨g, 16, none⟩ = some (.string ⟨lb.toArray⟩) := by rw [H4.cell 0 rfl 16, HX16.out]
          have s17 : w4.cell? ⟨g, 17, none⟩ = some (.slice C b.length f) := by rw [H4.cell 0 rfl 17, HX17.out]
          have cv := conv_RB (P := Tryd.prog) (src := 22) (dst := 9) (c := c9) Tryd.underlying22 Tryd.underlying5 Tryd.underlying9 ((HIN9.out.le hM10).now H4) rfl
          have cv2 := conv_RB (P := Tryd.prog) (src := 22) (dst := 9) (c := c10) Tryd.underlying22 Tryd.underlying5 Tryd.underlying9 (hin10.now H4) rfl
          clear H3 r3 hin10 HRS
          go_wp2_with fail
          refine (HSZ.out _).mono ?_
          rintro e w' ⟨rfl, rfl⟩
          go_wp2_with fail
          refine (HAW.out _ _ _ H4).mono ?_
          rintro e w5 ⟨rfl, H5⟩
          go_wp2
          go_ret
          exact ⟨rfl, H5.below⟩
      · rw [show Seal.sealR k non lb b = (Seal.sealed k non lb b, 0) from if_neg hbad] at hbad3
        injection hbad3 with e1 e2
        subst e2
        · have hszr := fun W => size_any W (b.length : Int) (by omega)
          rw [show sizeR (b.length : Int) = ((b.length : Int) + 48, 0) from if_neg (by omega)] at hszr
          have hop := Seal.open_sealed k non lb b HNL.out (by omega) (by omega)
          have hYl : Y.length = b.length + 48 := by rw [e1]; exact Seal.sealed_len k non lb b HNL.out
          rw [← e1] at hop
          have hYI : (((b.length : Int) + 48) == (Y.length : Int)) = true := by simp; omega
          have hoo := fun (W : World) (M : Mem) (L : List Ent) (H1 : St w W M L) (h1 : Sr w M L A9 Y) (h4 : Sr w M L A k) => open_any ht H1 hA hc h4 (by omega) lb (by omega) hA9 hl9 h1 (by omega)
          rw [hop] at hoo
          have HOO := Lib.hid hoo
          have HSZ := Lib.hid hszr
          clear hszr e1 hop hYl hoo hbad
          go_wp2_with (refine wpList_load_mid (by rfl) 28 (.tmp 35) (by rfl) g 0 (by rfl) (bv non) _ r3 Tryd.underlying28 rfl (by rw [HBL.out]; exact Tryd.size16) ?_)
          refine (HRS.out _ _ _ H3 ((sb.le hM9).cons _) ((sk.le hM9).cons _)).mono ?_
          rintro e w4 ⟨A10, c10, M10, rfl, hl10, hA10, hM10, hin10, H4⟩
          have s16 : w4.cell? ⟨g, 16, none⟩ = some (.string ⟨lb.toArray⟩) := by rw [H4.cell 0 rfl 16, HX16.out]
          have s17 : w4.cell? ⟨g, 17, none⟩ = some (.slice C b.length f) := by rw [H4.cell 0 rfl 17, HX17.out]
          have cv := conv_RB (P := Tryd.prog) (src := 22) (dst := 9) (c := c9) Tryd.underlying22 Tryd.underlying5 Tryd.underlying9 ((HIN9.out.le hM10).now H4) rfl
          have cv2 := conv_RB (P := Tryd.prog) (src := 22) (dst := 9) (c := c10) Tryd.underlying22 Tryd.underlying5 Tryd.underlying9 (hin10.now H4) rfl
          clear H3 r3 hin10 HRS
          go_wp2_with fail
          refine (HSZ.out _).mono ?_
          rintro e w' ⟨rfl, rfl⟩
          go_wp2_with fail
          refine (HOO.out _ _ _ H4 (Sr.of_in (HIN9.out.le hM10)) (((sk.le hM9).le hM10).cons _)).mono ?_
          rintro e w5 ⟨A11, c11, M11, rfl, hl11, hA11, hM11, hin11, H5⟩
          have s17 : w5.cell? ⟨g, 17, none⟩ = some (.slice C b.length f) := by rw [H5.cell 0 rfl 17, HX17.out]
          have cv := conv_RB (P := Tryd.prog) (src := 22) (dst := 9) (c := c11) Tryd.underlying22 Tryd.underlying5 Tryd.underlying9 (hin11.now H5) rfl
          have cv2 := conv_RB (P := Tryd.prog) (src := 22) (dst := 9) (c := f) Tryd.underlying22 Tryd.underlying5 Tryd.underlying9 ((((sb.le hM9).le hM10).le hM11).now H5.d0) rfl
          clear hin11 H4
          go_wp2_with fail
          refine (HAW.out _ _ _ H5).mono ?_
          rintro e w6 ⟨rfl, H6⟩
          go_wp2
          go_ret
          exact ⟨rfl, H6.below⟩
  · have hd : decide (k.length ≤ 500 ∧ lb.length ≤ 600 ∧ b.length ≤ 6000) = false := by simpa using hbig
    have HD := Lib.hid hd
    clear hd hbig
    go_enter Tryd.func5, Tryd.ntmps5
    go_wp2_with (refine wpList_load_mid (by rfl) 30 (.tmp 3) (by rfl) w.heap.size 0 (by rfl) X _ r0 Tryd.underlying30 rfl (by rw [HXL.out]; exact Tryd.sizeIn) ?_)
    refine (HLI.out _ _ _ H1).mono ?_
    rintro e w1 ⟨rfl, H2⟩
    rw [HD.out]
    go_wp2_with fail
    refine (HAW.out _ _ _ H2).mono ?_
    rintro e w2 ⟨rfl, H3⟩
    go_wp2
    go_ret
    exact ⟨rfl, H3.below⟩
end Go.Proofs.YtfhphkhkpejomaaDoor
