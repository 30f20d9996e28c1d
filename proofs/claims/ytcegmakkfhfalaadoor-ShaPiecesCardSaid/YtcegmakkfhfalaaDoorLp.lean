/- ShaPieces walked. -/
import Derived.Test.YtcegmakkfhfalaaDoorLo
import Derived.Test.YtcegmakkfhfalaaDoorAs
import Derived.Deep.CutBlock
import Derived.Deep.DeepCutAuto
set_option linter.unusedVariables false
set_option linter.unusedSimpArgs false
namespace Go.Proofs.YtcegmakkfhfalaaDoor
open Go.RowKit Wd
theorem bv_set_ (l : List UInt8) (k : Nat) (x : UInt8) (v : Int) (hv : v = (x.toNat : Int)) : (bv l).set k (.int .u8 v) = bv (l.set k x) := by
  subst hv
  simp [bv, List.map_set]
set_option maxRecDepth 100000 in
set_option maxHeartbeats 4000000 in
theorem shaPieces_any {w : World} (ht : Tabs w) {A : Option Addr} {c : Nat} {pl : List PM} (hlen : pl.length ≤ 9223372036854775807)
    (hp : ∀ i (hi : i < pl.length), (∃ b o, A = some ⟨b, o, none⟩ ∧ b < w.heap.size ∧ w.rangeAt b (o + i) [(pl[i]).v]) ∧ (pl[i]).ok w) :
    Calls Tryd.prog 5 #[.slice A pl.length c] w fun e w' => e = .returned (.bool true) ∧ Below w.heap.size w w' := by
  have H := St.start w
  have HP := Lib.hid hp
  clear hp
  go_enter Tryd.func5, Tryd.ntmps5
  go_wp2_with fail
  refine (hs_new ht H).mono ?_
  rintro e w1 ⟨g, rfl, rv0, H1⟩
  have H2 := H1.lit0 5
  go_upto_block 0 with fail
  have H3 : HS w _ (w.heap[·]?) g [] [er 5 1 (.slice (some ⟨w1.heap.size, 0, none⟩) 0 0) 0 []] := ⟨rv0, H2.b2⟩
  clear H1 H2
  generalize hg1 : w1.heap.size = g1 at *
  generalize hw2 : w1.alloc (.cells #[] 5) = w2 at *
  clear hg1 hw2
  go_cut [4] (fun v wr => ∃ al : List UInt8, al.length ≤ 4000 ∧ HS w wr (w.heap[·]?) g al [er 5 1 v al.length (bv al)])
  case first =>
    go_wp2
    go_loopw [4, 5] (fun v i wr => ∃ (p : Nat) (al : List UInt8), p ≤ pl.length ∧ p ≤ 100 ∧ i = .int .i64 p ∧ al.length ≤ 4000 ∧ HS w wr (w.heap[·]?) g al [er 5 1 v al.length (bv al)]) (fun _ i _ => 100 - (intOf i).toNat)
    case atStart => exact ⟨0, [], Nat.zero_le _, by omega, rfl, by decide, H3⟩
    case round =>
      obtain ⟨p, al, hpl, hp100, rfl, hall, rv, H4⟩ := hrel
      clear H3
      obtain ⟨A1, c1, rfl, hc1, hA1⟩ := H4.shape' 2 rfl
      by_cases hlt : p < pl.length ∧ p < 100
      · obtain ⟨hlt, h100⟩ := hlt
        obtain ⟨⟨b, o, rfl, hb, hr⟩, hok⟩ := HP.out p hlt
        obtain ⟨q, hq⟩ : ∃ q, q = pl[p] := ⟨_, rfl⟩
        rw [← hq] at hr hok
        obtain ⟨Aq, cq, lq⟩ := q
        clear hq
        have hci : In (w.heap[·]?) (fun W => W.cell? ⟨b, o + p, none⟩ = some (.slice Aq lq.length cq)) := In.oldCell H (hr 0 _ rfl)
        have hqi : In (w.heap[·]?) (RB · Aq lq) := In.oldRB H hok.2.2
        have hqA : Aq = none → cq = 0 := hok.1
        have HLT := Lib.hid hlt
        have H100 := Lib.hid h100
        clear hr hok
        have c0 : wr.cell? ⟨b, o + p, none⟩ = some (.slice Aq lq.length cq) := hci.now H4
        by_cases hbig : 4000 - (al.length : Int) < (lq.length : Int)
        · go_wp2
          go_meet
          exact ⟨al, hall, rv, H4⟩
        · have H5 := H4.lit0 5
          have r5 := hqi.now H5
          have hsum : al.length + lq.length ≤ 4000 := by omega
          have c0' : (wr.alloc (.cells #[] 5)).cell? ⟨b, o + p, none⟩ = some (.slice Aq lq.length cq) := hci.now H5
          go_wp2_with (at_builtin; refine wpList_append_st H5 (by rfl) (.tmp 31) (.tmp 35) 22 (by rfl) Tryd.info5 Tryd.underlying22 (by rfl) Aq lq.length cq lq (by rfl) rfl hqA r5 (by omega) ?_)
          intro v5 w5 H6
          try simp only [Nat.zero_add, List.nil_append] at H6
          obtain ⟨A5, c5, rfl, hc5, hA5⟩ := H6.shape' 0 rfl
          have H7 : HS w w5 (w.heap[·]?) g al [er 5 1 (.slice A5 lq.length c5) lq.length (bv lq), er 5 1 (.slice A1 al.length c1) al.length (bv al)] := ⟨rv, H6.b2⟩
          have hwr := hs_write ht H7 hA5 (er_RB (H6.get 0 rfl)) (by omega)
          have HW := Lib.hid hwr
          clear hwr H5 H4 c0 c0' r5 H6 H7
          go_wp2_with fail
          refine HW.out.mono ?_
          rintro e w6 ⟨rfl, H8⟩
          clear HW
          obtain ⟨T, hT⟩ : ∃ T, T = al ++ lq := ⟨_, rfl⟩
          have hTl : T.length = al.length + lq.length := by rw [hT, List.length_append]
          rw [← hT] at H8
          have HT := Lib.hid hT
          have HTL := Lib.hid hTl
          clear hT hTl
          go_upto_block 2 with fail
          go_cut [7] (fun _ wx => ∃ xs : List UInt8, HS w wx (w.heap[·]?) g T [er 5 1 (.slice A5 lq.length c5) lq.length (bv xs), er 5 1 (.slice A1 al.length c1) al.length (bv al)])
          case first =>
            go_wp2
            go_loopw [7] (fun i wr => ∃ (k : Nat) (xs : List UInt8), k ≤ lq.length ∧ i = .int .i64 k ∧ xs.length = lq.length ∧ HS w wr (w.heap[·]?) g T [er 5 1 (.slice A5 lq.length c5) lq.length (bv xs), er 5 1 (.slice A1 al.length c1) al.length (bv al)]) (fun i _ => lq.length - (intOf i).toNat)
            case atStart => exact ⟨0, lq, Nat.zero_le _, rfl, rfl, H8⟩
            case round =>
              obtain ⟨k, xs, hk, rfl, hxl, rv2, H9⟩ := hrel
              clear H8
              by_cases hkl : k < lq.length
              · have HA := H9.f2
                obtain ⟨go_, rfl, hce, hfr⟩ := HA.at_ k hkl
                obtain ⟨x, hx⟩ : ∃ x, x = xs[k]'(by omega) := ⟨_, rfl⟩
                rw [bv_get, List.getElem?_eq_getElem (by omega), ← hx] at hce
                simp only [Option.map_some] at hce
                have xlt : (x.toNat : Int) < 256 := by have := x.toNat_lt; omega
                have x0 : (0 : Int) ≤ (x.toNat : Int) := by omega
                obtain ⟨y, hy⟩ : ∃ y : UInt8, y = UInt8.ofNat ((x.toNat + 1) % 256) := ⟨_, rfl⟩
                have ey : ((x.toNat : Int) + 1) % 256 = (y.toNat : Int) := by rw [hy, UInt8.toNat_ofNat']; omega
                have HXL := Lib.hid hxl
                clear hx hy hxl
                go_wp2
                have HB := HA.store k (.int .u8 (y.toNat : Int))
                rw [bv_set_ xs k y _ rfl] at HB
                exact ⟨⟨k + 1, xs.set k y, by omega, by go_num, by rw [List.length_set]; exact HXL.out, rv2, HB.b2⟩, by simp [intOf]; omega⟩
              · go_wp2
                go_meet
                exact ⟨xs, rv2, H9⟩
          case rest =>
            obtain ⟨xs, rv2, H9⟩ := hcut
            clear H8
            have c0 : wc.cell? ⟨b, o + p, none⟩ = some (.slice Aq lq.length cq) := hci.now H9
            have r9 := hqi.now H9
            go_wp2_with (at_builtin; refine wpList_append_st H9.f3 (by rfl) (.tmp 52) (.tmp 56) 22 (by rfl) Tryd.info5 Tryd.underlying22 (by rfl) Aq lq.length cq lq (by rfl) rfl hqA r9 (by omega) ?_)
            intro v9 w9 HA
            rw [← bv_append, ← HT.out, ← HTL.out] at HA
            obtain ⟨A9, c9, rfl, hc9, hA9⟩ := HA.shape' 0 rfl
            have HB : HS w w9 (w.heap[·]?) g T [er 5 1 (.slice A9 T.length c9) T.length (bv T)] := ⟨rv2, (HA.sub (by repeat (first | exact List.Sublist.refl _ | apply List.Sublist.cons_cons | apply List.Sublist.cons))).b2⟩
            have hT4 : T.length ≤ 4000 := by have := HTL.out; omega
            clear HA H9 c0 r9
            go_wp2_with fail
            refine (hs_len HB).mono ?_
            rintro e w10 ⟨rfl, rfl⟩
            cases hmod : ((p : Int) % 4 == 0) with
            | false =>
              go_wp2
              exact ⟨⟨p + 1, T, by have := HLT.out; omega, by have := H100.out; omega, by go_num, hT4, HB⟩, by have := H100.out; simp [intOf]; omega⟩
            | true =>
              obtain ⟨D, hD⟩ : ∃ D, D = Sha.sha T := ⟨_, rfl⟩
              have h1 := hs_sum ht HB (by omega)
              rw [← hD] at h1
              have HS1 := Lib.hid h1
              have HD := Lib.hid hD
              clear h1 hD
              go_wp2_with fail
              refine HS1.out.mono ?_
              rintro e w11 ⟨rfl, rv3, HC⟩
              have h2 := of_any ht HC hA9 hc9 (Sr.row 2 rfl) (by omega)
              rw [← HD.out] at h2
              have HO := Lib.hid h2
              clear h2
              go_wp2_with fail
              refine HO.out.mono ?_
              rintro e w12 ⟨rfl, HE⟩
              have heq := Tryd.eq32 w12 D (by rw [HD.out, sha_len])
              go_wp2
              exact ⟨⟨p + 1, T, by have := HLT.out; omega, by have := H100.out; omega, by go_num, hT4, rv3, HE⟩, by have := H100.out; simp [intOf]; omega⟩
      · have hx : ¬ p < pl.length ∨ (p < pl.length ∧ p = 100) := by omega
        clear hlt
        rcases hx with hx | ⟨hx, rfl⟩
        all_goals
          go_wp2
          go_meet
          exact ⟨al, hall, rv, H4⟩
  case rest =>
    obtain ⟨al, hall, H4⟩ := hcut
    clear H3
    obtain ⟨D, hD⟩ : ∃ D, D = Sha.sha al := ⟨_, rfl⟩
    have h1 := hs_sum ht H4 (by omega)
    rw [← hD] at h1
    have HS1 := Lib.hid h1
    have HD := Lib.hid hD
    obtain ⟨rv, H5⟩ := H4
    obtain ⟨A1, c1, rfl, hc1, hA1⟩ := H5.shape' 2 rfl
    clear h1 hD
    go_wp2_with fail
    refine HS1.out.mono ?_
    rintro e w11 ⟨rfl, rv3, HC⟩
    have h2 := rof_any HC (c := c1) hA1 (Sr.row 2 rfl) (by omega)
    rw [← HD.out] at h2
    have HO := Lib.hid h2
    clear h2
    go_wp2_with fail
    refine HO.out.mono ?_
    rintro e w12 ⟨rfl, HE⟩
    have heq := Tryd.eq32 w12 D (by rw [HD.out, sha_len])
    go_wp2_with fail
    refine (awake_any ht HE).mono ?_
    rintro e w13 ⟨rfl, HF⟩
    go_wp2
    go_ret
    exact ⟨rfl, HF.below⟩
end Go.Proofs.YtcegmakkfhfalaaDoor
