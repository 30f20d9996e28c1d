/- The contract of the reference's keyed digest. -/
import Derived.Test.YtcdljlaoedaliaaDoorMo
import Derived.Test.YtcdljlaoedaliaaDoorRz
import Derived.Deep.CutBlock
set_option linter.unusedVariables false
set_option linter.unusedSimpArgs false
namespace Go.Proofs.YtcdljlaoedaliaaDoor
open Go.RowKit Wd
namespace Mac
/-- The first i bytes of l, noughts behind. -/
def padto (l : List UInt8) (i : Nat) : List UInt8 := l.take i ++ List.replicate (64 - i) 0
theorem padto_zero (l : List UInt8) : padto l 0 = List.replicate 64 0 := by simp [padto]
theorem padto_len (l : List UInt8) (i : Nat) (h : i ≤ l.length) (h2 : i ≤ 64) : (padto l i).length = 64 := by
  unfold padto
  rw [List.length_append, List.length_take, List.length_replicate]
  omega
theorem padto_set (l : List UInt8) (i : Nat) (h : i < l.length) (h2 : i < 64) : (padto l i).set i l[i] = padto l (i + 1) := by
  unfold padto
  have hl : (l.take i).length = i := by rw [List.length_take]; omega
  rw [List.set_append_right _ _ (by omega), hl, Nat.sub_self, show 64 - i = (64 - (i + 1)) + 1 from by omega, List.replicate_succ, List.set_cons_zero, List.take_succ_eq_append_getElem h, List.append_assoc]
  rfl
theorem padto_end (k : List UInt8) : padto (short k) (short k).length = pad k := by
  unfold padto pad
  rw [List.take_length]
theorem xr_succ (x : UInt8) (p : List UInt8) (i : Nat) (h : i < p.length) : xr x (p.take i) ++ [p[i] ^^^ x] = xr x (p.take (i + 1)) := by
  rw [List.take_succ_eq_append_getElem h]
  unfold xr
  rw [List.map_append]
  rfl
end Mac
section
variable {w0 w : World} {M : Mem} {L : List Ent}
set_option maxRecDepth 100000 in
set_option maxHeartbeats 4000000 in
theorem rmac_any (H : St w0 w M L) {A : Option Addr} {c : Nat} {k : List UInt8} (hA : A = none → c = 0) (hk : Sr w0 M L A k) (hn : k.length < 1000000000) (hkc : k.length ≤ c)
    {B : Option Addr} {d : Nat} {b : List UInt8} (hB : B = none → d = 0) (hb : Sr w0 M L B b) (hbn : b.length < 1000000000) :
    Calls Tryd.prog 21 #[.slice A k.length c, .slice B b.length d] w fun e w' => e = .returned (.agg (bv (Mac.mac k b)).toArray) ∧ St w0 w' M L := by
  obtain ⟨D, hD⟩ : ∃ D, D = Mac.mac k b := ⟨_, rfl⟩
  rw [← hD]
  have HD := Lib.hid hD
  clear hD
  go_enter Tryd.func21, Tryd.ntmps21
  go_upto_region 1 with fail
  have H1 := H.new (bv (List.replicate 32 0)) 40
  rw [obj32]
  generalize hw1 : w.alloc (.cells (bv (List.replicate 32 0)).toArray 40) = w1 at *
  generalize hob : w.heap.size = ob at *
  obtain ⟨zs, hzs⟩ : ∃ zs, zs = bv (List.replicate 32 0) := ⟨_, rfl⟩
  rw [← hzs] at H1
  have hzl : zs.length = 32 := by rw [hzs, bv_length, List.length_replicate]
  have HZS := Lib.hid hzl
  clear hw1 hob hzs hzl
  refine wp_region_lit ?_
  refine wpList_build_is (by rfl) 77 _ (by rfl) (cells := (bv (List.replicate 64 0)).toArray) (by kernel_rfl) ?_
  simp only [Act.put, List.setIfInBounds_toArray, List.set_cons_zero, List.set_cons_succ]
  refine wpList_alloc_st H1 (by rfl) 77 (by rfl) Tryd.zeroK ?_
  intro kb w2 H2
  rw [cells64] at H2
  simp only [Act.put, List.setIfInBounds_toArray, List.set_cons_zero, List.set_cons_succ]
  refine wpList_store_st H2 (by rfl) 77 (.tmp 5) (.tmp 14) (by rfl) 0 (bv (List.replicate 64 0)) (by rfl) (by rfl) (by exact Nat.le_refl 64) (by kernel_rfl) (bv_one _) ?_
  intro w3 H3
  rw [ins_all _ _ rfl] at H3
  obtain ⟨Z, hZ⟩ : ∃ Z : List UInt8, Z = List.replicate 64 0 := ⟨_, rfl⟩
  rw [← hZ] at H3 ⊢
  have HZ := Lib.hid hZ
  clear hZ H2 H1
  refine wpList_nil ?_
  simp only [Act.put]
  go_upto_if 17 with fail
  go_cut [0] (fun v wx => v = .slice A k.length c ∧ St w0 wx M (eb kb 77 (bv (Mac.pad k)) :: eb ob 40 zs :: L))
  case first =>
    by_cases h64 : 64 < k.length
    · have q1 : (64 : Int) < (k.length : Int) := by omega
      obtain ⟨E, hE⟩ : ∃ E, E = Sha.sha k := ⟨_, rfl⟩
      have hso := rof_any H3 hA ((hk.cons _).cons _) (by omega)
      rw [← hE] at hso
      have hel : E.length = 32 := by rw [hE, sha_len]
      have hel2 : (bv E).length = 32 := by rw [bv_length, hel]
      have HSO := Lib.hid hso
      have HSS := Lib.hid (show Mac.short k = E from by rw [hE]; exact Mac.short_long h64)
      have HEL := Lib.hid hel
      clear hso hE hel h64
      go_wp2_with fail
      refine HSO.out.mono ?_
      rintro e w4 ⟨rfl, H4⟩
      have H5 := H4.new (bv (List.replicate 32 0)) 40
      obtain ⟨w5, hst, H6⟩ := run_store_st (P := Tryd.prog) H5 (cs := bv E) (by rw [hel2, bv_length, List.length_replicate]) (bv_one _)
      rw [← obj32] at hst
      generalize hw4 : w4.heap.size = g4 at *
      clear H4 H5
      rw [HZ.out, ← Mac.padto_zero E] at H6
      go_wp2
      clear hst
      go_loopw [7] (fun i wr => ∃ j : Nat, j ≤ 32 ∧ i = .int .i64 j ∧ St w0 wr M (eb g4 40 (bv E) :: eb kb 77 (bv (Mac.padto E j)) :: eb ob 40 zs :: L)) (fun i _ => 32 - (intOf i).toNat)
      case atStart => exact ⟨0, by omega, rfl, H6⟩
      case round =>
        obtain ⟨j, hj, rfl, H7⟩ := hrel
        clear H6
        have hel := HEL.out
        by_cases hlt : j < 32
        · obtain ⟨x, hx⟩ : ∃ x, x = E[j]'(by omega) := ⟨_, rfl⟩
          have hs := Mac.padto_set E j (by omega) (by omega)
          rw [← hx] at hs
          have c1 : wr.cell? ⟨g4, j, none⟩ = some (.int .u8 (x.toNat : Int)) := by rw [H7.cell 0 rfl j, bv_get, List.getElem?_eq_getElem (by omega), hx]; rfl
          have c2 : ∃ v, wr.cell? ⟨kb, j, none⟩ = some v := ⟨_, by rw [H7.cell 1 rfl j, List.getElem?_eq_getElem (by rw [bv_length, Mac.padto_len E j (by omega) (by omega)]; omega)]⟩
          obtain ⟨v2, c2⟩ := c2
          have f2 := H7.frozen 1 rfl j
          have H8 := H7.f1.set j (.int .u8 (x.toNat : Int))
          rw [bv_set, hs] at H8
          have HLT := Lib.hid hlt
          clear hx hs hel hj hlt H7 hel2
          have hj1 : (j : Int) < 32 := by have := HLT.out; omega
          go_wp2
          exact ⟨⟨j + 1, by have := HLT.out; omega, by go_num, H8.f1⟩, by have := HLT.out; simp [intOf]; omega⟩
        · obtain rfl : j = 32 := by omega
          have e1 : Mac.padto E 32 = Mac.pad k := by
            have h := Mac.padto_end k
            rw [HSS.out, hel] at h
            exact h
          rw [e1] at H7
          clear hel hel2 e1
          go_wp2
          go_meet
          exact ⟨rfl, H7.d0⟩
    · have q1 : ¬ (64 : Int) < (k.length : Int) := by omega
      have HSS := Lib.hid (Mac.short_short h64)
      have H64 := Lib.hid h64
      clear h64
      rw [HZ.out, ← Mac.padto_zero k] at H3
      go_wp2
      go_loopw [8] (fun i wr => ∃ j : Nat, j ≤ k.length ∧ i = .int .i64 j ∧ St w0 wr M (eb kb 77 (bv (Mac.padto k j)) :: eb ob 40 zs :: L)) (fun i _ => 64 - (intOf i).toNat)
      case atStart => exact ⟨0, by omega, rfl, H3⟩
      case round =>
        obtain ⟨j, hj, rfl, H7⟩ := hrel
        clear H3
        have h64 := H64.out
        by_cases hlt : j < k.length
        · obtain ⟨ba, oa, rfl, ca⟩ := ((hk.cons _).cons _ wr M (Mem.le.refl _) H7).at j hlt
          obtain ⟨x, hx⟩ : ∃ x, x = k[j] := ⟨_, rfl⟩
          have hs := Mac.padto_set k j (by omega) (by omega)
          rw [← hx] at hs ca
          have c2 : ∃ v, wr.cell? ⟨kb, j, none⟩ = some v := ⟨_, by rw [H7.cell 0 rfl j, List.getElem?_eq_getElem (by rw [bv_length, Mac.padto_len k j (by omega) (by omega)]; omega)]⟩
          obtain ⟨v2, c2⟩ := c2
          have f2 := H7.frozen 0 rfl j
          have H8 := H7.set j (.int .u8 (x.toNat : Int))
          rw [bv_set, hs] at H8
          have HLT := Lib.hid hlt
          have hj64 : (j : Int) < 64 := by omega
          have hjk : (j : Int) < (k.length : Int) := by omega
          have hjc : (j : Int) < (c : Int) := by omega
          clear hx hs hj hlt H7 h64
          go_wp2
          exact ⟨⟨j + 1, by have := HLT.out; omega, by go_num, H8⟩, by simp [intOf]; omega⟩
        · obtain rfl : j = k.length := by omega
          have e1 : Mac.padto k k.length = Mac.pad k := by
            have h := Mac.padto_end k
            rw [HSS.out] at h
            exact h
          rw [e1] at H7
          clear e1 h64 hlt hj
          go_wp2
          go_meet
          exact ⟨rfl, H7⟩
  case rest =>
    obtain ⟨rfl, H4⟩ := hcut
    clear H3
    obtain ⟨p, hp⟩ : ∃ p, p = Mac.pad k := ⟨_, rfl⟩
    have hpl : p.length = 64 := by rw [hp, Mac.pad_len]
    rw [← hp] at H4
    have HP := Lib.hid hp
    have HPL := Lib.hid hpl
    clear hp hpl
    have H5 := (H4.lit0 5)
    have H6 := H5.lit0 5
    rw [show (wc.alloc (.cells #[] 5)).heap.size = wc.heap.size + 1 from by simp] at H6
    go_wp2
    clear H5
    go_loopw [9, 10, 11] (fun v u i wr => ∃ j : Nat, j ≤ 64 ∧ i = .int .i64 j ∧ St w0 wr M (er 5 1 u j (bv (Mac.xr 92 (p.take j))) :: er 5 1 v j (bv (Mac.xr 54 (p.take j))) :: eb kb 77 (bv p) :: eb ob 40 zs :: L)) (fun _ _ i _ => 64 - (intOf i).toNat)
    case atStart => exact ⟨0, by omega, rfl, H6⟩
    case round =>
      obtain ⟨j, hj, rfl, H7⟩ := hrel
      clear H6 H4
      obtain ⟨A1, c1, rfl, hc1, hA1⟩ := H7.shape' 0 rfl
      obtain ⟨A2, c2, rfl, hc2, hA2⟩ := H7.shape' 1 rfl
      have hpl := HPL.out
      by_cases hlt : j < 64
      · obtain ⟨x, hx⟩ : ∃ x, x = p[j]'(by omega) := ⟨_, rfl⟩
        have s7 := Mac.xr_succ 92 p j (by omega)
        have s6 := Mac.xr_succ 54 p j (by omega)
        have hxk : (bv p)[j]? = some (.int .u8 (x.toNat : Int)) := by rw [bv_get, List.getElem?_eq_getElem (by omega), hx]; rfl
        rw [← hx] at s6 s7
        have e6 := Mac.xor54 x
        have e7 := Mac.xor92 x
        obtain ⟨y, hy⟩ : ∃ y, y = x ^^^ 54 := ⟨_, rfl⟩
        obtain ⟨z, hz⟩ : ∃ z, z = x ^^^ 92 := ⟨_, rfl⟩
        rw [← hy] at e6 s6
        rw [← hz] at e7 s7
        have HS := Lib.hid (And.intro s6 s7)
        have HXK := Lib.hid hxk
        have HLT := Lib.hid hlt
        have hj1 : (j : Int) < 64 := by omega
        have c0 : wr.cell? ⟨kb, j, none⟩ = some (.int .u8 (x.toNat : Int)) := by rw [H7.cell 2 rfl j, hxk]
        clear hx hy hz s6 s7 hxk hpl hj hlt
        have H8 := H7.lit (bv [y]) 5 (by show 1 ≤ maxLen; decide)
        go_wp2_with (at_builtin; refine wpList_append_st H8.f2 (by rfl) (.tmp 47) (.tmp 52) 42 (by rfl) Tryd.info5 Tryd.underlying42 (by rfl) (some ⟨wr.heap.size, 0, none⟩) 1 1 [y] (by rfl) rfl (by rintro ⟨⟩) (er_RB (H8.get 0 rfl)) (by omega) ?_)
        intro v9 w9 H9
        have H10 := H9.d1.f1
        rw [← bv_append, HS.out.1] at H10
        have c0 : w9.cell? ⟨kb, j, none⟩ = some (.int .u8 (x.toNat : Int)) := by rw [H10.cell 2 rfl j, HXK.out]
        clear H8 H9 H7
        have H8 := H10.lit (bv [z]) 5 (by show 1 ≤ maxLen; decide)
        go_wp2_with (at_builtin; refine wpList_append_st H8.f1 (by rfl) (.tmp 54) (.tmp 59) 42 (by rfl) Tryd.info5 Tryd.underlying42 (by rfl) (some ⟨w9.heap.size, 0, none⟩) 1 1 [z] (by rfl) rfl (by rintro ⟨⟩) (er_RB (H8.get 0 rfl)) (by omega) ?_)
        intro v11 w11 H11
        have H12 := H11.d1
        rw [← bv_append, HS.out.2] at H12
        clear H8 H10 H11
        go_wp2
        exact ⟨⟨j + 1, by have := HLT.out; omega, by go_num, H12⟩, by have := HLT.out; simp [intOf]; omega⟩
      · obtain rfl : j = 64 := by omega
        rw [List.take_of_length_le (by omega)] at H7
        obtain ⟨I, hI⟩ : ∃ I, I = Mac.xr 54 p := ⟨_, rfl⟩
        obtain ⟨O, hO⟩ : ∃ O, O = Mac.xr 92 p := ⟨_, rfl⟩
        rw [← hI, ← hO] at H7
        have HI := Lib.hid hI
        have HO := Lib.hid hO
        clear hI hO hpl hj hlt
        have rb := ((((hb.cons (eb ob 40 zs)).cons (eb kb 77 (bv p))).cons (er 5 1 (.slice A2 64 c2) 64 (bv I))).cons (er 5 1 (.slice A1 64 c1) 64 (bv O))).now H7
        go_wp2_with (at_builtin; refine wpList_append_st H7.f1 (by rfl) (.tmp 61) (.tmp 62) 42 (by rfl) Tryd.info5 Tryd.underlying42 (by rfl) B b.length d b (by rfl) rfl hB rb (by omega) ?_)
        intro v8 w8 H8
        rw [← bv_append] at H8
        obtain ⟨A3, c3, rfl, hc3, hA3⟩ := H8.shape' 0 rfl
        obtain ⟨T, hT⟩ : ∃ T, T = I ++ b := ⟨_, rfl⟩
        have hTl : T.length = 64 + b.length := by rw [hT, List.length_append, HI.out, Mac.xr_len, HPL.out]
        rw [← hT, ← hTl] at H8
        obtain ⟨E, hE⟩ : ∃ E, E = Sha.sha T := ⟨_, rfl⟩
        have hro := rof_any H8 hA3 (Sr.row 0 rfl) (by omega)
        rw [← hE, hTl] at hro
        have hel : E.length = 32 := by rw [hE, sha_len]
        have hel2 : (bv E).length = 32 := by rw [bv_length, hel]
        have HRO := Lib.hid hro
        have HT := Lib.hid hT
        have HE := Lib.hid hE
        have HEL := Lib.hid hel
        clear hro hT hTl hE hel H7 rb
        go_wp2_with fail
        refine HRO.out.mono ?_
        rintro e w9 ⟨rfl, H9⟩
        have H10 := H9.new (bv (List.replicate 32 0)) 40
        obtain ⟨w10, hst, H11⟩ := run_store_st (P := Tryd.prog) H10 (cs := bv E) (by rw [hel2, bv_length, List.length_replicate]) (bv_one _)
        rw [← obj32] at hst
        generalize hw4 : w9.heap.size = g9 at *
        clear H10 H9 H8 HRO
        have H12 : St w0 w10 M (er 5 1 (.slice A1 64 c1) (64 + 0) (bv (O ++ E.take 0)) :: eb g9 40 (bv E) :: eb ob 40 zs :: L) := by
          rw [List.take_zero, List.append_nil]
          exact (H11.f2.sub (by repeat (first | exact List.Sublist.refl _ | apply List.Sublist.cons_cons | apply List.Sublist.cons)))
        clear H11
        go_wp2
        clear hst
        go_loopw [10, 13] (fun v i wr => ∃ j : Nat, j ≤ 32 ∧ i = .int .i64 j ∧ St w0 wr M (er 5 1 v (64 + j) (bv (O ++ E.take j)) :: eb g9 40 (bv E) :: eb ob 40 zs :: L)) (fun _ i _ => 32 - (intOf i).toNat)
        case atStart => exact ⟨0, by omega, rfl, H12⟩
        case round =>
          obtain ⟨j, hj, rfl, H7⟩ := hrel
          clear H12
          obtain ⟨A4, c4, rfl, hc4, hA4⟩ := H7.shape' 0 rfl
          have hel := HEL.out
          by_cases hlt : j < 32
          · obtain ⟨x, hx⟩ : ∃ x, x = E[j]'(by omega) := ⟨_, rfl⟩
            have hs : O ++ E.take j ++ [x] = O ++ E.take (j + 1) := by rw [List.take_succ_eq_append_getElem (by omega), hx, List.append_assoc]
            have c0 : wr.cell? ⟨g9, j, none⟩ = some (.int .u8 (x.toNat : Int)) := by rw [H7.cell 1 rfl j, bv_get, List.getElem?_eq_getElem (by omega), hx]; rfl
            have HS := Lib.hid hs
            have HLT := Lib.hid hlt
            have hj1 : (j : Int) < 32 := by omega
            clear hx hs hel hj hlt hel2
            have H8 := H7.lit (bv [x]) 5 (by show 1 ≤ maxLen; decide)
            go_wp2_with (at_builtin; refine wpList_append_st H8.f1 (by rfl) (.tmp 69) (.tmp 73) 42 (by rfl) Tryd.info5 Tryd.underlying42 (by rfl) (some ⟨wr.heap.size, 0, none⟩) 1 1 [x] (by rfl) rfl (by rintro ⟨⟩) (er_RB (H8.get 0 rfl)) (by omega) ?_)
            intro v11 w11 H11
            have H12 := H11.d1
            rw [← bv_append, HS.out] at H12
            clear H8 H7 H11
            go_wp2
            exact ⟨⟨j + 1, by have := HLT.out; omega, by go_num, H12⟩, by have := HLT.out; simp [intOf]; omega⟩
          · obtain rfl : j = 32 := by omega
            rw [List.take_of_length_le (by omega)] at H7
            obtain ⟨U, hU⟩ : ∃ U, U = O ++ E := ⟨_, rfl⟩
            have hUl : U.length = 64 + 32 := by rw [hU, List.length_append, HO.out, Mac.xr_len, HPL.out, hel]
            rw [← hU, ← hUl] at H7
            have hro := rof_any H7 hA4 (Sr.row 0 rfl) (by omega)
            rw [hU, show Sha.sha (O ++ E) = D from by rw [HD.out, HO.out, HE.out, HT.out, HI.out, HP.out]; rfl, ← hU, hUl] at hro
            have hdl : (bv D).length = 32 := by rw [bv_length, HD.out, Mac.mac_len]
            have HRO := Lib.hid hro
            clear hro hU hUl hel hel2
            go_wp2_with fail
            refine HRO.out.mono ?_
            rintro e w12 ⟨rfl, H8⟩
            obtain ⟨w14, hst, H9⟩ := run_store_st (P := Tryd.prog) H8.f2 (cs := bv D) (by rw [hdl, HZS.out]) (bv_one _)
            go_wp2
            refine ret_row H9 (by rfl) (by rfl) Tryd.underlying40 (by rfl) (by rw [hdl]; exact Tryd.size24) rfl ?_
            exact ⟨rfl, H9.d0.d0.d0⟩
end
end Go.Proofs.YtcdljlaoedaliaaDoor
