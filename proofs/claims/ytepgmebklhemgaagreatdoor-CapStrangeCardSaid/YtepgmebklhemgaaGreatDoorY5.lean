/- The reference's Of: the store of a file's bytes. -/
import Derived.Test.YtepgmebklhemgaaGreatDoorY4
import Derived.Test.YtepgmebklhemgaaGreatDoorG8
import Derived.Test.YtepgmebklhemgaaGreatDoorG5
import Derived.Test.YtepgmebklhemgaaGreatDoorGp
set_option linter.unusedVariables false
set_option linter.unusedSimpArgs false
namespace Go.Proofs.YtepgmebklhemgaaGreatDoor
open Go.RowKit Wd
/-- The document's store as a struct's cells; what it names is never written again. -/
def RsIn (M : Mem) (S : Kv.RS) (cs : List Value) : Prop :=
  ∃ A n c ps B m d qs, cs = [.slice A n c, .slice B m d, .int .u64 (S.gen : Int), .int .i64 (S.size : Int)] ∧ PasAt M A n c ps ∧ ps.map Pa.pr = S.L ∧ RowsAt M B m d qs S.R
theorem RsIn.le {M M' : Mem} {S : Kv.RS} {cs : List Value} (h : RsIn M S cs) (hm : M.le M') : RsIn M' S cs := by
  obtain ⟨A, n, c, ps, B, m, d, qs, h1, h2, h3, h4⟩ := h
  exact ⟨A, n, c, ps, B, m, d, qs, h1, h2.le hm, h3, h4.le hm⟩
def rs0 : List Value := [.slice none 0 0, .slice none 0 0, .int .u64 0, .int .i64 0]
def RetOf (w0 : World) (M : Mem) (L : List Ent) (b : List UInt8) (e : Ending) (w' : World) : Prop :=
  ∃ M', M.le M' ∧ St w0 w' M' L ∧ (Kv.RS.of b = none ∧ e = .returned (.tuple #[.agg rs0.toArray, .bool false]) ∨ ∃ S cs, Kv.RS.of b = some S ∧ e = .returned (.tuple #[.agg cs.toArray, .bool true]) ∧ RsIn M' S cs)
theorem Tryz.sizeState : (Tryz.prog.info? 38).map (·.size) = some 4 := by kernel_rfl
theorem Tryz.zeroState : (Tryz.prog.info? 38).map (fun i => (i.zero, i.size)) = some (some (.agg rs0.toArray), 4) := by kernel_rfl
theorem Kv.turn_len : ∀ (acts : List Kv.Act) (l : List Kv.Pr), (Kv.turn l acts).length ≤ l.length + acts.length
  | [], l => by simp [Kv.turn]
  | a :: acts, l => by
    have h1 := Kv.turn_len acts (Kv.turn1 l a)
    have h2 := Kv.turn1_len l a
    have e : Kv.turn l (a :: acts) = Kv.turn (Kv.turn1 l a) acts := rfl
    rw [e, List.length_cons]
    omega
theorem Kv.rload_none {D : List Kv.Pr} {ls : List (List UInt8)} {k : Nat} (hk : k < ls.length) (h : Kv.decode ls[k] = none) : Kv.rload D (ls.drop k) = none := by
  rw [List.drop_eq_getElem_cons hk, Kv.rload, h]
theorem Kv.rload_step {D : List Kv.Pr} {ls : List (List UInt8)} {k : Nat} {l : List Kv.Act} (hk : k < ls.length) (h : Kv.decode ls[k] = some l) : Kv.rload D (ls.drop k) = Kv.rload (Kv.turn D l) (ls.drop (k + 1)) := by
  rw [List.drop_eq_getElem_cons hk, Kv.rload, h]
section
variable {w0 w : World} {M : Mem} {L : List Ent}
set_option maxRecDepth 100000 in
set_option maxHeartbeats 4000000 in
theorem rof20_any (H : St w0 w M L) {A : Option Addr} {c n nb : Nat} {b : List UInt8} (hn : n = b.length) (hnb : n = 64 * nb) (h6 : 6 ≤ nb) (h128 : nb ≤ 128) (hl : In M (RB · A b)) (hc : n ≤ c) (hc2 : c ≤ 9223372036854775807) :
    Calls Tryz.prog 9 #[.slice A n c] w (RetOf w0 M L b) := by
  obtain ⟨bb, bo, rfl, -, -⟩ := hl.now H (by rintro rfl; simp at hn; omega)
  have H1 := H.new rs0 38
  have hg := rgeneration_any H1 hn (Sr.of_in hl) (by omega) hc hc2
  obtain ⟨G, hG⟩ : ∃ G, G = Lg.generation b := ⟨_, rfl⟩
  have hGl : G < 18446744073709551616 := by rw [hG]; exact Lg.generation_lt _
  rw [← hG] at hg
  obtain ⟨h, hh⟩ : ∃ h, h = Lg.half b G := ⟨_, rfl⟩
  have hhl : h.length = 64 * Lg.halfN nb := by rw [hh]; exact Lg.half_len (by omega) (by omega)
  obtain ⟨N, hN⟩ : ∃ N, N = 64 * Lg.halfN nb := ⟨_, rfl⟩
  obtain ⟨fr, hfr⟩ : ∃ fr, fr = 64 * Lg.halfFrom nb G := ⟨_, rfl⟩
  have hfn : fr + N ≤ n := by
    have := Lg.half_le nb G (by omega)
    omega
  have hhe : h = (b.drop fr).take N := by
    rw [hh, hN, hfr]
    unfold Lg.half
    rw [← hn, hnb, Nat.mul_div_cancel_left _ (by decide)]
  have hhf := fun w => rhalf_any bb bo n c nb G hnb h6 (by omega) hc hc2 hGl w
  rw [← hN, ← hfr] at hhf
  have hsr : In M (RB · (some ⟨bb, bo + fr, none⟩) h) := hl.imp fun W hW => by rw [hhe]; exact hW.sub
  have hN2 : N ≤ 8192 := by rw [hN]; unfold Lg.halfN; omega
  have hof0 : Kv.rload [] (Lg.records G h).1 = none → Kv.RS.of b = none := fun hx => by
    unfold Kv.RS.of
    rw [← hG, ← hh, hx]
  have hof1 : ∀ l, Kv.rload [] (Lg.records G h).1 = some l → Kv.RS.of b = some ⟨l, (Lg.records G h).1, G, h.length⟩ := fun l hx => by
    unfold Kv.RS.of
    rw [← hG, ← hh, hx]
  rw [← hN] at hhl
  have HGN := Lib.hid hg
  have HHF := Lib.hid hhf
  have hrl : ∀ r ∈ (Lg.records G h).1, 1 ≤ r.length ∧ r.length ≤ 65535 := (Lg.rec_of_scan _ _ (rfl : Lg.scan G h h.length 0 = ((Lg.scan G h h.length 0).1, (Lg.scan G h h.length 0).2))).long
  have hrn : 7 * (Lg.records G h).1.length ≤ N := by
    have r1 := (Lg.rec_of_scan _ _ (rfl : Lg.scan G h h.length 0 = ((Lg.scan G h h.length 0).1, (Lg.scan G h h.length 0).2))).le
    have : (Lg.records G h).1 = (Lg.scan G h h.length 0).1 := rfl
    rw [this]
    rcases r1.2 with h0 | h0
    · rw [h0]; simp
    · omega
  have HO := Lib.hid (And.intro hhl (And.intro hsr (And.intro hN2 (And.intro hGl (And.intro hof0 (And.intro hof1 (And.intro hrl hrn)))))))
  have hcn : N ≤ c - fr := by omega
  have hcx : c - fr ≤ 9223372036854775807 := by omega
  have HC := Lib.hid (And.intro hcn hcx)
  clear hg hhf hof0 hof1 hrl hrn hhl hsr hN2 hGl hhe hfn hfr hN hh hG hn hnb h6 h128 hl hc hc2 hcn hcx H1
  go_enter Tryz.func9, Tryz.ntmps9
  go_wp2_with fail
  refine HGN.out.mono ?_
  rintro e w1 ⟨rfl, H2⟩
  have H3 := H2.newg [.slice none 0 0, .slice none 0 0, .int .u64 (G : Int), .int .i64 0] 38 rfl
  go_wp2_with fail
  refine (HHF.out _).mono ?_
  rintro e w2 ⟨rfl, rfl⟩
  generalize hwx : w1.alloc _ = w2 at *
  generalize hgs : w1.heap.size = gs at *
  generalize hg0 : w.heap.size = g0 at *
  clear hwx hgs hg0 H2 HHF HGN H
  have y3 := H3.cell 0 rfl 3
  have z3 := H3.frozen 0 rfl 3
  have H4 := H3.set 3 (.int .i64 (N : Int))
  simp only [List.set_cons_succ, List.set_cons_zero, List.getElem?_cons_succ, List.getElem?_cons_zero] at H4 y3
  have y2 := H4.cell 0 rfl 2
  simp only [List.getElem?_cons_succ, List.getElem?_cons_zero] at y2
  have hrr := rrecords_any H4 G HO.out.2.2.2.1 (A := some ⟨bb, bo + fr, none⟩) (c := c - fr) (n := N) (h := h) HO.out.1.symm (Sr.of_in HO.out.2.1) (by rintro ⟨⟩) HC.out.1 HC.out.2 (by have := HO.out.2.2.1; omega)
  obtain ⟨R, hR⟩ : ∃ R, R = (Lg.records G h).1 := ⟨_, rfl⟩
  obtain ⟨E, hE⟩ : ∃ E, E = (Lg.records G h).2 := ⟨_, rfl⟩
  rw [← hR] at HO
  rw [← hR, ← hE] at hrr
  have HRR := Lib.hid hrr
  clear hrr hR hE H3
  go_wp2_with fail
  refine HRR.out.mono ?_
  rintro e w3 ⟨v3, qs, M3, rfl, hM3, hrow, H5⟩
  obtain ⟨B, d, rfl, hd, hB⟩ := H5.shape' 0 rfl
  obtain ⟨M4, hM4, H6, hinq, -⟩ := H5.lendRowA
  have hra : RowsAt M4 B qs.length d qs R := ⟨rfl, hd, hB, hrow.le hM4, hinq⟩
  have HRA := Lib.hid (And.intro hra (hM3.trans hM4))
  have hlq : R.length = qs.length := hrow.len
  obtain ⟨m, hm⟩ : ∃ m, m = qs.length := ⟨_, rfl⟩
  rw [← hm] at HRA hlq
  have y1 := H6.cell 0 rfl 1
  have z1 := H6.frozen 0 rfl 1
  have H7 := H6.set 1 (.slice B m d)
  simp only [List.set_cons_succ, List.set_cons_zero, List.getElem?_cons_succ, List.getElem?_cons_zero] at H7 y1
  have HLQ := Lib.hid (And.intro hlq hm)
  rw [← hm]
  clear hra hM3 hd hB hrow H5 hM4 hinq hlq hm y2 y3 z3 H4 HRR
  go_wp2_with fail
  clear y1 z1
  go_loopw [6] (fun i wr => ∃ (k nn cc : Nat) (An : Option Addr) (ps : List Pa) (M' : Mem), k ≤ m ∧ i = .int .i64 k ∧ M4.le M' ∧ PasAt M' An nn cc ps ∧ nn ≤ 255 * k ∧ Kv.rload [] R = Kv.rload (ps.map Pa.pr) (R.drop k) ∧ St w0 wr M' (eb gs 38 [.slice An nn cc, .slice B m d, .int .u64 (G : Int), .int .i64 (N : Int)] :: eb g0 38 rs0 :: L)) (fun i _ => m - (intOf i).toNat)
  case atStart => exact ⟨0, 0, 0, none, [], M4, by omega, rfl, Mem.le.refl _, PasAt.nil _, by omega, rfl, H7⟩
  case round =>
    obtain ⟨k, nn, cc, An, ps, M', hk, rfl, hM, hpa, hnn, hrl, H8⟩ := hrel
    clear H7 H6
    have y1 := H8.cell 0 rfl 1
    simp only [List.getElem?_cons_succ, List.getElem?_cons_zero] at y1
    have hmb : m ≤ 1170 := by have := HO.out.2.2.2.2.2.2.2; have := HO.out.2.2.1; have := HLQ.out.1; omega
    by_cases hlt : k < m
    · have hkR : k < R.length := by have := HLQ.out.1; omega
      have hkq : k < qs.length := by have := HLQ.out.2; omega
      obtain ⟨b2, o2, rfl, hc⟩ := SrA.at ((HRA.out.1.2.2.2.2.le hM).now H8) k (by rw [List.length_map]; exact hkq)
      rw [List.getElem_map] at hc
      have hq := HRA.out.1.2.2.2.1.2 _ (List.getElem_mem hkq)
      have hql : R[k] = (qs[k]).l := by
        have h1 := HRA.out.1.2.2.2.1.1
        have h2 : R[k]? = some (qs[k]).l := by rw [← h1, List.getElem?_map, List.getElem?_eq_getElem hkq]; rfl
        rw [List.getElem?_eq_getElem hkR] at h2
        injection h2
      have hlong := HO.out.2.2.2.2.2.2.1 _ (List.getElem_mem hkR)
      have hno := Kv.rload_none (D := ps.map Pa.pr) hkR
      have hst := fun l => Kv.rload_step (D := ps.map Pa.pr) (l := l) hkR
      rw [hql] at hlong hno
      simp only [hql] at hst
      obtain ⟨p, hp⟩ : ∃ p, p = qs[k] := ⟨_, rfl⟩
      rw [← hp] at hc hq hlong hno
      simp only [← hp] at hst
      obtain ⟨PA, PN, PC, PL⟩ := p
      unfold Pc.v at hc
      obtain ⟨⟨hPN, hPA, hPC⟩, hpr⟩ := hq
      simp only at hc hPN hPA hPC hpr hlong hno hst
      have hde := rdecode_any H8 (A := PA) (c := PC) (n := PN) (r := PL) hPN (hpr.le hM) hPC (by omega)
      have HDE := Lib.hid hde
      have HK := Lib.hid (And.intro hlt (And.intro hM (And.intro hpa (And.intro hnn (And.intro hrl (And.intro hno hst))))))
      have q1 : (k : Int) < (m : Int) := by omega
      clear hde hp hql hlong hno hst hPN hPA hPC hpr hkR hkq hlt hM hpa hnn hrl hk
      go_wp2_with fail
      refine HDE.out.mono ?_
      rintro e w5 (⟨hdn, rfl, H9⟩ | ⟨acts, v5, M5, hds, rfl, hM5, hac, H9⟩)
      · have HD := Lib.hid hdn
        clear hdn HDE y1 hc H8
        go_upto_region 10 with fail
        refine wp_region_lit ?_
        (refine wpList_ex (v := ?_) (by rfl) ?_ ?_; rotate_left; (focus (go_simp; with_reducible rfl)); simp only [Act.put, List.setIfInBounds_toArray, List.set_cons_zero, List.set_cons_succ])
        refine wpList_store_st H9.f1 (by rfl) 38 (.tmp 2) (.tmp 45) (by rfl) 0 rs0 (by rfl) (by rfl) (by simp [rs0]) (by exact Tryz.sizeState) (by simp [rs0, Value.oneCell']) ?_
        intro w6 H10
        rw [ins_all rs0 rs0 rfl] at H10
        simp only [Act.put, List.setIfInBounds_toArray, List.set_cons_zero, List.set_cons_succ]
        (refine wpList_ex (v := ?_) (by rfl) ?_ ?_; rotate_left; (focus (go_simp; with_reducible rfl)); simp only [Act.put, List.setIfInBounds_toArray, List.set_cons_zero, List.set_cons_succ])
        refine wpList_nil ?_
        go_wp2
        refine ret_row_tmp H10 (by rfl) (by rfl) Tryz.underlying38 (by rfl) (by exact Tryz.sizeState) rfl ?_
        exact ⟨M', HRA.out.2.trans HK.out.2.1, H10.d0.d0, .inl ⟨HO.out.2.2.2.2.1 (by rw [HK.out.2.2.2.2.1]; exact HK.out.2.2.2.2.2.1 HD.out), rfl⟩⟩
      · obtain ⟨A5, c5, rfl, -⟩ := H9.shape 0 rfl
        obtain ⟨M6, hM6, H10, hin6, -⟩ := H9.lendRowA
        obtain ⟨hck, -⟩ := Kv.decode_check hds
        have hcz := (Kv.check_zero hck).2.1
        rw [List.length_map] at hcz
        have hz : ∀ a ∈ acts, a.p.l.length ≤ 1000000 := fun a ha => by
          have := (Kv.check_fine hck a.act (List.mem_map.2 ⟨a, ha, rfl⟩)).2.1
          have h2 : a.act.data = a.p.l := rfl
          rw [h2] at this
          omega
        have hM56 := hM5.trans hM6
        have ht := rturn_any H10 (HK.out.2.2.1.le hM56) (B := A5) (d := c5) (m := acts.length) (acts := acts) rfl (SrA.of_in hin6) (hac.le hM6) (by have := HK.out.2.2.2.1; omega) (by omega) hz
        have HT := Lib.hid ht
        have HA := Lib.hid (And.intro hds (And.intro hM56 hcz))
        have y0 := H10.cell 0 rfl 0
        simp only [List.getElem?_cons_succ, List.getElem?_cons_zero] at y0
        clear ht hds hM56 hcz hz hck hin6 hM5 hM6 hac H9 HDE y1 hc H8
        go_wp2_with fail
        refine HT.out.mono ?_
        rintro e w6 ⟨A7, n7, c7, ps7, M7, rfl, hM7, hpa7, hpe7, H11⟩
        have z0 := H11.frozen 0 rfl 0
        have y0 := H11.cell 0 rfl 0
        simp only [List.getElem?_cons_succ, List.getElem?_cons_zero] at y0
        have H12 := H11.set 0 (.slice A7 n7 c7)
        simp only [List.set_cons_succ, List.set_cons_zero] at H12
        have HB := Lib.hid (And.intro hM7 (And.intro hpa7 hpe7))
        clear hM7 hpa7 hpe7 HT H10 H11
        go_wp2
        refine ⟨⟨k + 1, n7, c7, A7, ps7, M7, by have := HK.out.1; omega, by go_num, HK.out.2.1.trans (HA.out.2.1.trans HB.out.1), HB.out.2.1, ?_, ?_, H12⟩, by have := HK.out.1; simp [intOf]; omega⟩
        · have h1 := Kv.turn_len (acts.map Ac.act) (ps.map Pa.pr)
          rw [← HB.out.2.2, List.length_map, List.length_map, List.length_map, ← HB.out.2.1.1, ← HK.out.2.2.1.1] at h1
          have := HA.out.2.2
          have := HK.out.2.2.2.1
          omega
        · rw [HB.out.2.2, HK.out.2.2.2.2.1]
          exact HK.out.2.2.2.2.2.2 _ HA.out.1
    · obtain rfl : k = m := by omega
      have hdr : R.drop k = [] := List.drop_eq_nil_of_le (by have := HLQ.out.1; omega)
      rw [hdr] at hrl
      have hof := HO.out.2.2.2.2.2.1 (ps.map Pa.pr) hrl
      have HH := Lib.hid (And.intro hM (And.intro hpa hof))
      clear hM hpa hnn hrl hdr hof hlt hk
      go_upto_region 12 with fail
      refine wp_region_lit ?_
      refine wpList_load_mid (by rfl) 38 (.tmp 4) (by rfl) gs 0 (by rfl) [.slice An nn cc, .slice B k d, .int .u64 (G : Int), .int .i64 (N : Int)] _ ((H8.blk 0 rfl).range 0 4 _ rfl) Tryz.underlying38 rfl (by exact Tryz.sizeState) ?_
      simp only [Act.put, List.setIfInBounds_toArray, List.set_cons_zero, List.set_cons_succ]
      refine wpList_store_st H8.f1 (by rfl) 38 (.tmp 2) (.tmp 51) (by rfl) 0 [.slice An nn cc, .slice B k d, .int .u64 (G : Int), .int .i64 (N : Int)] (by rfl) (by rfl) (by simp [rs0]) (by exact Tryz.sizeState) (by simp [Value.oneCell']) ?_
      intro w6 H10
      rw [ins_all rs0 [.slice An nn cc, .slice B k d, .int .u64 (G : Int), .int .i64 (N : Int)] rfl] at H10
      simp only [Act.put, List.setIfInBounds_toArray, List.set_cons_zero, List.set_cons_succ]
      (refine wpList_ex (v := ?_) (by rfl) ?_ ?_; rotate_left; (focus (go_simp; with_reducible rfl)); simp only [Act.put, List.setIfInBounds_toArray, List.set_cons_zero, List.set_cons_succ])
      refine wpList_nil ?_
      go_wp2
      refine ret_row_tmp H10 (by rfl) (by rfl) Tryz.underlying38 (by rfl) (by exact Tryz.sizeState) rfl ?_
      refine ⟨M', HRA.out.2.trans HH.out.1, H10.d0.d0, .inr ⟨_, _, HH.out.2.2, rfl, An, nn, cc, ps, B, k, d, qs, ?_, HH.out.2.1, rfl, HRA.out.1.le HH.out.1⟩⟩
      rw [HO.out.1]
end
end Go.Proofs.YtepgmebklhemgaaGreatDoor
