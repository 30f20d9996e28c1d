/- The reference's one. -/
import Derived.Test.YtepgmebklhemgaaGreatDoorJ3
import Derived.Test.YtepgmebklhemgaaGreatDoorA4
import Derived.Laws.StructEq
set_option linter.unusedVariables false
set_option linter.unusedSimpArgs false
set_option maxRecDepth 100000
namespace Go.Proofs.YtepgmebklhemgaaGreatDoor.Tp
open Go.RowKit Wd
theorem Tu.esc_take (l : List UInt8) (k : Nat) (h : k < l.length) : Tu.esc (l.take (k + 1)) = Tu.esc (l.take k) ++ (if l[k] = 0 then [0, 255] else [l[k]]) := by
  rw [List.take_succ_eq_append_getElem h, Tu.esc_append]
  simp [Tu.esc]
theorem _root_.Go.Proofs.YtepgmebklhemgaaGreatDoor.Wd.St.litg {w0 w : World} {M : Mem} {L : List Ent} (h : St w0 w M L) (cs : List Value) (t : TypeId) (hm : cs.length ≤ maxLen) {g : Nat} (hg : g = w.heap.size) : St w0 (w.alloc (.cells cs.toArray t)) M (er t 1 (.slice (some ⟨g, 0, none⟩) cs.length cs.length) cs.length cs :: L) := by subst hg; exact h.lit cs t hm
section
variable {w0 w : World} {M : Mem} {L : List Ent}
set_option maxRecDepth 100000 in
set_option maxHeartbeats 1000000 in
theorem rone_text (H : St w0 w M L) (s : List UInt8) (n : Nat) (hs : s.length ≤ 1000000) :
    Calls Tryz.prog 62 #[.agg #[.string (str s), .int .u64 (n : Int), .bool true]] w fun e w' => ∃ v, e = .returned v ∧ St w0 w' M (er 5 1 v (Tu.one ⟨s, n, true⟩).length (bv (Tu.one ⟨s, n, true⟩)) :: L) := by
  obtain ⟨O, hO⟩ : ∃ O, O = Tu.one ⟨s, n, true⟩ := ⟨_, rfl⟩
  have hO2 : O = 32 :: (Tu.esc s ++ [0, 1]) := by rw [hO]; rfl
  rw [← hO]
  have HO := Lib.hid hO2
  have hel := Tu.esc_len s
  clear hO hO2
  have HN := H.new [.string (str s), .int .u64 (n : Int), .bool true] 79
  have HN2 := HN.litg [.int .u8 32] 5 (by simp [maxLen]) (g := w.heap.size + 1) (by simp)
  obtain ⟨G, hG⟩ : ∃ G, G = w.heap.size := ⟨_, rfl⟩
  rw [← hG] at HN2
  have HG := Lib.hid hG
  clear hG HN
  go_enter Tryz.func62, Tryz.ntmps62
  go_wp2
  simp only [← HG.out]
  go_loopw [3, 4] (fun v i wr => ∃ (k : Nat) (X : List UInt8), k ≤ s.length ∧ i = .int .i64 k ∧ X = 32 :: Tu.esc (s.take k) ∧ St w0 wr M (er 5 1 v X.length (bv X) :: eb G 79 [.string (str s), .int .u64 (n : Int), .bool true] :: L)) (fun _ i _ => s.length - (intOf i).toNat)
  case atStart => exact ⟨0, [32], by omega, rfl, rfl, HN2⟩
  case round =>
    obtain ⟨k, X, hk, rfl, hX, H1⟩ := hrel
    clear HN2 H
    have c0 := H1.cell 1 rfl 0
    obtain ⟨A1, c1, rfl, hc1⟩ := H1.shape 0 rfl
    have hl1 := Tu.esc_len (s.take k)
    rw [List.length_take] at hl1
    by_cases hlt : k < s.length
    · have ix := fun w => str_index (P := Tryz.prog) (k := .i64) (i := (k : Int)) Tryz.underlying9 s k hlt rfl w
      have ht := Tu.esc_take s k hlt
      obtain ⟨v, hv⟩ : ∃ v, v = s[k] := ⟨_, rfl⟩
      rw [← hv] at ht
      simp only [← hv] at ix
      have hXl : X.length ≤ 4000000 := by rw [hX, List.length_cons]; omega
      have ht2 : 32 :: Tu.esc (s.take (k + 1)) = X ++ (if v = 0 then [0, 255] else [v]) := by rw [ht, hX]; rfl
      have HT := Lib.hid ht2
      have HLT := Lib.hid hlt
      have q1 : (k : Int) < (s.length : Int) := by omega
      have q1n : k < s.length := hlt
      clear ht ht2 hX hv hlt hl1
      go_wp2_with (at_builtin; refine wpList_append1_st H1 (by rfl) (.tmp 17) (.tmp 22) 30 (by rfl) Tryz.info5 (by rfl) Tryz.underlying30 (by rfl) (by rfl) (by rfl) (by omega) (by omega) ?_)
      intro v2 w2 H2
      have c0 := H2.cell 1 rfl 0
      obtain ⟨A2, c2, rfl, hc2⟩ := H2.shape 0 rfl
      by_cases hv0 : v = 0
      · subst hv0
        rw [show ((0 : UInt8).toNat : Int) = 0 from rfl] at ix
        go_wp2_with (at_builtin; refine wpList_append1_st H2 (by rfl) (.tmp 29) (.tmp 30) 30 (by rfl) Tryz.info5 (by rfl) Tryz.underlying30 (by rfl) (by rfl) (by rfl) (by omega) (by omega) ?_)
        intro v3 w3 H3
        go_wp2
        refine ⟨⟨k + 1, _, by have := HLT.out; omega, by go_num, HT.out.symm, ?_⟩, by have := HLT.out; simp [intOf]; omega⟩
        simp only [if_true]
        rw [List.length_append, bv_append]
        exact H3
      · have p1 : ((v.toNat : Int) == 0) = false := by
          simp only [beq_eq_false_iff_ne]
          intro h
          exact hv0 (UInt8.toNat_inj.1 (by show v.toNat = 0; omega))
        go_wp2
        refine ⟨⟨k + 1, _, by have := HLT.out; omega, by go_num, HT.out.symm, ?_⟩, by have := HLT.out; simp [intOf]; omega⟩
        rw [if_neg hv0, List.length_append, bv_append]
        exact H2
    · obtain rfl : k = s.length := by omega
      rw [List.take_length] at hX
      have hXl : X.length ≤ 4000000 := by rw [hX, List.length_cons]; omega
      have hXO : X ++ [0, 1] = O := by rw [hX, HO.out]; rfl
      have HXO := Lib.hid hXO
      clear hX hXO hlt hl1
      have H2 := H1.new [.int .u8 0, .int .u8 1] 5
      have ra := (H2.blk 0 rfl).RB (l := [0, 1]) (o := 0) rfl
      go_wp2_with (at_builtin; refine wpList_append_st H2.f1 (by rfl) (.tmp 32) (.tmp 33) 30 (by rfl) Tryz.info5 Tryz.underlying30 (by rfl) (some ⟨wr.heap.size, 0, none⟩) 2 2 [0, 1] (by rfl) (by rfl) (by rintro ⟨⟩) ra (by omega) ?_)
      intro v3 w3 H3
      go_wp2
      go_ret
      refine ⟨_, rfl, ?_⟩
      rw [← HXO.out, List.length_append, bv_append]
      exact H3.d1.d1
set_option maxRecDepth 100000 in
set_option maxHeartbeats 1000000 in
theorem rone_num (H : St w0 w M L) (s : List UInt8) (n : Nat) (hn : n < 18446744073709551616) :
    Calls Tryz.prog 62 #[.agg #[.string (str s), .int .u64 (n : Int), .bool false]] w fun e w' => ∃ v, e = .returned v ∧ St w0 w' M (er 5 1 v (Tu.one ⟨s, n, false⟩).length (bv (Tu.one ⟨s, n, false⟩)) :: L) := by
  obtain ⟨O, hO⟩ : ∃ O, O = Tu.one ⟨s, n, false⟩ := ⟨_, rfl⟩
  have hO2 : O = UInt8.ofNat (16 + (Tu.digs n).length) :: Tu.digs n := by rw [hO]; rfl
  have h8 := Tu.digs_len8 hn
  obtain ⟨D, hD⟩ : ∃ D, D = Tu.digs n := ⟨_, rfl⟩
  rw [← hD] at hO2 h8
  rw [← hO]
  have HO := Lib.hid hO2
  have HD := Lib.hid hD
  clear hO hO2 hD
  have HN := H.new [.string (str s), .int .u64 (n : Int), .bool false] 79
  have HN2 := HN.litg [] 5 (by simp [maxLen]) (g := w.heap.size + 1) (by simp)
  obtain ⟨G, hG⟩ : ∃ G, G = w.heap.size := ⟨_, rfl⟩
  rw [← hG] at HN2
  have HG := Lib.hid hG
  clear hG HN
  go_enter Tryz.func62, Tryz.ntmps62
  go_wp2
  simp only [← HG.out]
  go_loopw [5, 6] (fun v x wr => ∃ (m : Nat) (X : List UInt8), m ≤ n ∧ x = .int .u64 m ∧ Tu.digs m ++ X = D ∧ X.length ≤ 8 ∧ St w0 wr M (er 5 1 v X.length (bv X) :: eb G 79 [.string (str s), .int .u64 (n : Int), .bool false] :: L)) (fun _ x _ => (intOf x).toNat)
  case atStart => exact ⟨n, [], Nat.le_refl _, rfl, by rw [List.append_nil, HD.out], by simp, HN2⟩
  case round =>
    obtain ⟨m, X, hm, rfl, hX, hX8, H1⟩ := hrel
    clear HN2 H
    obtain ⟨A1, c1, rfl, hc1, hA1⟩ := H1.shape' 0 rfl
    have HX := Lib.hid hX
    clear hX
    by_cases h0 : 0 < m
    · obtain ⟨q, hq⟩ : ∃ q, q = m / 256 := ⟨_, rfl⟩
      obtain ⟨b, hb⟩ : ∃ b : UInt8, b = UInt8.ofNat m := ⟨_, rfl⟩
      have hbm : b.toNat = m % 256 := by rw [hb]; simp
      have e1 : (m : Int) % 256 = (b.toNat : Int) := by omega
      have e1' : (m : Int).tmod 256 = (b.toNat : Int) := by rw [Int.tmod_eq_emod_of_nonneg (by omega)]; exact e1
      have e2 : (m : Int) / 256 = (q : Int) := by omega
      have e2' : (m : Int).tdiv 256 = (q : Int) := by rw [Int.tdiv_eq_ediv_of_nonneg (by omega)]; exact e2
      have hbl := b.toNat_lt
      have e3 : (b.toNat : Int) % 256 = (b.toNat : Int) := by omega
      have hdd : Tu.digs q ++ (b :: X) = D := by
        have h1 := HX.out
        rw [Tu.digs_pos (by omega : m ≠ 0), ← hq, ← hb] at h1
        rw [← h1]
        simp
      have hqm : q < m := by omega
      have hbX : (b :: X).length ≤ 8 := by
        have := congrArg List.length hdd
        rw [List.length_append] at this
        omega
      have q1 : (0 : Int) < (m : Int) := by omega
      have HDD := Lib.hid hdd
      have HBX := Lib.hid hbX
      have HQM := Lib.hid hqm
      have H2 := H1.lit [.int .u8 (b.toNat : Int)] 5 (by simp [maxLen])
      have r2 := er_RB (H2.get 1 rfl)
      clear hdd hbX hq hb hbm hqm
      go_wp2_with (at_builtin; refine wpList_append_st H2 (by rfl) (.tmp 45) (.tmp 46) 30 (by rfl) Tryz.info5 Tryz.underlying30 (by rfl) A1 X.length c1 X (by rfl) (by rfl) hA1 r2 (by simp; omega) ?_)
      intro v3 w3 H3
      have H4 : St w0 w3 M (er 5 1 v3 (b :: X).length (bv (b :: X)) :: eb G 79 [.string (str s), .int .u64 (n : Int), .bool false] :: L) := by
        have h := H3.d1
        rw [show (b :: X).length = [Value.int .u8 (b.toNat : Int)].length + X.length from by simp; omega]
        exact h
      clear H1 H2 H3 r2
      go_wp2
      refine ⟨⟨q, b :: X, by have := HQM.out; omega, rfl, HDD.out, HBX.out, H4⟩, ?_⟩
      have := HQM.out
      simp [intOf]
      omega
    · obtain rfl : m = 0 := by omega
      have hXD : X = D := by have := HX.out; rwa [Tu.digs_zero, List.nil_append] at this
      subst hXD
      obtain ⟨T, hT⟩ : ∃ T : UInt8, T = UInt8.ofNat (16 + X.length) := ⟨_, rfl⟩
      have hTn : T.toNat = 16 + X.length := by rw [hT]; simp; omega
      have e3 : (16 : Int) + (X.length : Int) = (T.toNat : Int) := by omega
      have hTl := T.toNat_lt
      have e4 : (T.toNat : Int) % 256 = (T.toNat : Int) := by omega
      have hO3 : O = T :: X := by rw [hT]; exact HO.out
      have H2 := H1.lit [.int .u8 (T.toNat : Int)] 5 (by simp [maxLen])
      have r2 := er_RB (H2.get 1 rfl)
      have HO3 := Lib.hid hO3
      clear hO3 hT hTn h0
      go_wp2_with (at_builtin; refine wpList_append_st H2 (by rfl) (.tmp 52) (.tmp 53) 30 (by rfl) Tryz.info5 Tryz.underlying30 (by rfl) A1 X.length c1 X (by rfl) (by rfl) hA1 r2 (by simp; omega) ?_)
      intro v3 w3 H3
      go_wp2
      go_ret
      refine ⟨_, rfl, ?_⟩
      rw [HO3.out, show (T :: X).length = [Value.int .u8 (T.toNat : Int)].length + X.length from by simp; omega]
      exact H3.d1.d1
theorem rone_any (H : St w0 w M L) (p : Tu.Part) (hp : p.num < 18446744073709551616) (ht : p.text.length ≤ 1000000) :
    Calls Tryz.prog 62 #[pv p] w fun e w' => ∃ v, e = .returned v ∧ St w0 w' M (er 5 1 v (Tu.one p).length (bv (Tu.one p)) :: L) := by
  obtain ⟨s, n, b⟩ := p
  cases b with
  | true => exact rone_text H s n ht
  | false => exact rone_num H s n hp
end
end Go.Proofs.YtepgmebklhemgaaGreatDoor.Tp
/- The reference's Same, Check, Encode (layer 19). -/
set_option linter.unusedVariables false
set_option linter.unusedSimpArgs false
set_option maxRecDepth 100000
namespace Go.Proofs.YtepgmebklhemgaaGreatDoor.Tp
open Go.RowKit Wd
theorem neqPart (p q : Tu.Part) (w : World) : (binOp .neq 79 (.agg #[.string (str p.text), .int .u64 (p.num : Int), .bool p.isText]) (.agg #[.string (str q.text), .int .u64 (q.num : Int), .bool q.isText])).run Tryz.prog w = .ok (.bool (!decide (p = q))) w := by
  have hS : Tryz.prog.underlying 79 = some (.struct (Tryz.prog.fieldsOf 79)) := by kernel_rfl
  have hp : Tryz.prog.stoodInHeld 79 = false := by kernel_rfl
  rw [run_neq_struct, show (10000 : Nat) = 9999 + 1 from rfl, run_equalIn_agg w 9999 79 _ _ hS hp]
  simp only [Program.fieldsOf, Tryz.underlying79]
  go_simp
  have hb : ∀ a b : List UInt8, ((str a).toList == (str b).toList) = decide (a = b) := by
    intro a b
    rw [Lib.toList_data, Lib.toList_data]
    show (a == b) = _
    rw [Bool.eq_iff_iff]
    simp
  have e : decide (p = q) = (decide (p.text = q.text) && decide (p.num = q.num) && decide (p.isText = q.isText)) := by
    rw [Bool.eq_iff_iff]
    simp only [decide_eq_true_eq, Bool.and_eq_true]
    exact ⟨fun h => by subst h; exact ⟨⟨rfl, rfl⟩, rfl⟩, fun h => Tu.Part.ext' h.1.1 h.1.2 h.2⟩
  rw [e]
  by_cases h1 : p.text = q.text <;> by_cases h2 : p.num = q.num <;> by_cases h3 : p.isText = q.isText <;> simp [h1, h2, h3] <;> omega
theorem neqGuard (x y : Operand) (a b : Array Value) (w : World) : (eqGuard .neq 79 x y (.agg a) (.agg b)).run Tryz.prog w = .ok () w := run_eqGuard_agg w .neq 79 x y a b (by kernel_rfl)
section
variable {w0 w : World} {M : Mem} {L : List Ent}
end
end Go.Proofs.YtepgmebklhemgaaGreatDoor.Tp
/- The reference's Check and Encode (layer 19). -/
set_option linter.unusedVariables false
set_option linter.unusedSimpArgs false
set_option maxRecDepth 100000
namespace Go.Proofs.YtepgmebklhemgaaGreatDoor.Tp
open Go.RowKit Wd
section
variable {w0 w : World} {M : Mem} {L : List Ent}
theorem Tu.enc_pre (l : List Tu.Part) (k : Nat) : (Tu.enc (l.take k)).length ≤ (Tu.enc l).length := by
  have h : Tu.enc l = Tu.enc (l.take k) ++ Tu.enc (l.drop k) := by rw [← Tu.enc_append, List.take_append_drop]
  rw [h, List.length_append]
  omega
theorem Tame.enc {l : List Tu.Part} (h : Tame l) : (Tu.enc l).length ≤ 100000000000 := by
  have h1 := Tu.enc_len l 100000 h.2
  have h2 : l.length * (2 * 100000 + 9) ≤ 100000 * (2 * 100000 + 9) := Nat.mul_le_mul_right _ h.1
  omega
set_option maxRecDepth 100000 in
set_option maxHeartbeats 1000000 in
theorem rencode_any (H : St w0 w M L) {A : Option Addr} {c n : Nat} {l : List Tu.Part} (hn : n = l.length) (hl : SrA w0 M L A (pcs l)) (ht : Tame l) :
    Calls Tryz.prog 36 #[.slice A n c] w fun e w' => e = .returned (.string (str (Tu.enc l))) ∧ St w0 w' M L := by
  have hn2 : n ≤ 100000 := by rw [hn]; exact ht.1
  have HE := Lib.hid ht.enc
  have HN := Lib.hid hn
  have HT := Lib.hid ht
  have H0 := H.lit0 5
  clear hn ht
  go_enter Tryz.func36, Tryz.ntmps36
  go_wp2
  go_loopw [3, 4] (fun v i wr => ∃ (k : Nat) (X : List UInt8), k ≤ n ∧ i = .int .i64 k ∧ X = Tu.enc (l.take k) ∧ St w0 wr M (er 5 1 v X.length (bv X) :: L)) (fun _ i _ => n - (intOf i).toNat)
  case atStart => exact ⟨0, [], by omega, rfl, rfl, H0⟩
  case round =>
    obtain ⟨k, X, hk, rfl, hX, H1⟩ := hrel
    clear H0 H
    have hXl : X.length ≤ 100000000000 := by rw [hX]; exact Nat.le_trans (Tu.enc_pre l k) HE.out
    have HX := Lib.hid hX
    clear hX
    obtain ⟨A1, c1, rfl, hc1⟩ := H1.shape 0 rfl
    by_cases hlt : k < n
    · have hk1 : k < l.length := by have := HN.out; omega
      obtain ⟨b, o, rfl, hrg⟩ := RA.at3 (hl.now H1.d0) k hk1
      have hta := Tu.enc_take l k hk1
      have hpt := HT.out.2 l[k] (List.getElem_mem hk1)
      obtain ⟨p, hp⟩ : ∃ p, p = l[k] := ⟨_, rfl⟩
      rw [← hp] at hrg hta hpt
      rw [← HX.out] at hta
      have hone := rone_any H1 p hpt.2 (by omega)
      have hol := Tu.one_len p hpt.2
      obtain ⟨Y, hY⟩ : ∃ Y, Y = Tu.one p := ⟨_, rfl⟩
      rw [← hY] at hone hta hol
      have hol2 : Y.length ≤ 300000 := by omega
      have HONE := Lib.hid hone
      have HTA := Lib.hid hta
      have HRG := Lib.hid hrg
      have HLT := Lib.hid hlt
      have q1 : (k : Int) < (n : Int) := by omega
      have q1n : k < n := hlt
      unfold pv at HONE
      clear hone hta hpt hrg hp hk1 hlt hY hol
      go_wp2_with (refine wpList_load_mid (by rfl) 79 (.tmp 15) (by rfl) b (o + k * 3) (by rfl) [.string (str p.text), .int .u64 (p.num : Int), .bool p.isText] _ HRG.out Tryz.underlying79 rfl (by exact Tryz.sizePart) ?_)
      go_wp2_with fail
      refine HONE.out.mono ?_
      rintro e w2 ⟨v2, rfl, H2⟩
      obtain ⟨A2, c2, rfl, hc2, hA2⟩ := H2.shape' 0 rfl
      have r2 := er_RB (H2.get 0 rfl)
      go_wp2_with (at_builtin; refine wpList_append_st H2.f1 (by rfl) (.tmp 12) (.tmp 17) 30 (by rfl) Tryz.info5 Tryz.underlying30 (by rfl) A2 Y.length c2 Y (by rfl) (by rfl) hA2 r2 (by omega) ?_)
      intro v3 w3 H3
      go_wp2
      refine ⟨⟨k + 1, X ++ Y, by have := HLT.out; omega, by go_num, HTA.out.symm, ?_⟩, by have := HLT.out; simp [intOf]; omega⟩
      rw [List.length_append, bv_append]
      exact H3.d1
    · obtain rfl : k = n := by omega
      have hXe : X = Tu.enc l := by rw [HX.out, HN.out, List.take_length]
      have HXE := Lib.hid hXe
      have cv := conv_RB (P := Tryz.prog) (src := 30) (dst := 9) (n := X.length) (c := c1) Tryz.underlying30 Tryz.underlying5 Tryz.underlying9 (er_RB (H1.get 0 rfl)) rfl
      clear hXe hlt
      go_wp2
      go_ret
      refine ⟨?_, H1.d0⟩
      rw [← HXE.out]
      rfl
set_option maxRecDepth 100000 in
set_option maxHeartbeats 2000000 in
theorem rcheck_any (H : St w0 w M L) {A : Option Addr} {c n : Nat} {l : List Tu.Part} (hn : n = l.length) (hl : SrA w0 M L A (pcs l)) (ht : Tame l) :
    Calls Tryz.prog 34 #[.slice A n c] w fun e w' => e = .returned (.int .i64 (Tu.check l : Int)) ∧ St w0 w' M L := by
  have hn2 : n ≤ 100000 := by rw [hn]; exact ht.1
  obtain ⟨C, hC⟩ : ∃ C, C = Tu.check l := ⟨_, rfl⟩
  have hC2 : C = if l.all Tu.may then (if 8 < l.length ∨ 1024 < (Tu.enc l).length then 3 else 0) else 1 := hC
  rw [← hC]
  have HC := Lib.hid hC2
  have HE := Lib.hid ht.enc
  have HN := Lib.hid hn
  have HT := Lib.hid ht
  clear hn ht hC hC2
  go_enter Tryz.func34, Tryz.ntmps34
  go_wp2
  go_loopw [3, 4] (fun x i wr => ∃ (k X : Nat), k ≤ n ∧ i = .int .i64 k ∧ x = .int .i64 X ∧ X = (Tu.enc (l.take k)).length ∧ (l.take k).all Tu.may = true ∧ St w0 wr M L) (fun _ i _ => n - (intOf i).toNat)
  case atStart => exact ⟨0, 0, by omega, rfl, rfl, rfl, rfl, H⟩
  case round =>
    obtain ⟨k, X, hk, rfl, rfl, hX, hall, H1⟩ := hrel
    clear H
    have hXl : X ≤ 100000000000 := by rw [hX]; exact Nat.le_trans (Tu.enc_pre l k) HE.out
    have HX := Lib.hid hX
    have HALL := Lib.hid hall
    clear hX hall
    by_cases hlt : k < n
    · have hk1 : k < l.length := by have := HN.out; omega
      obtain ⟨b, o, rfl, hrg⟩ := RA.at3 (hl.now H1) k hk1
      have hta := Tu.enc_take l k hk1
      have hta2 : l.take (k + 1) = l.take k ++ [l[k]] := List.take_succ_eq_append_getElem hk1
      have hpt := HT.out.2 l[k] (List.getElem_mem hk1)
      have hra : l.all Tu.may = true → Tu.may l[k] = true := fun h => List.all_eq_true.1 h _ (List.getElem_mem hk1)
      obtain ⟨p, hp⟩ : ∃ p, p = l[k] := ⟨_, rfl⟩
      rw [← hp] at hrg hta hta2 hpt hra
      have hone := rone_any H1 p hpt.2 (by omega)
      have hol := Tu.one_len p hpt.2
      have hXY : (Tu.enc (l.take (k + 1))).length = X + (Tu.one p).length := by rw [hta, List.length_append, HX.out]
      have c0 := hrg 0 (.string (str p.text)) rfl
      have c1 := hrg 1 (.int .u64 (p.num : Int)) rfl
      have c2 := hrg 2 (.bool p.isText) rfl
      rw [Nat.add_zero] at c0
      obtain ⟨s, m, t⟩ := p
      simp only at c0 c1 c2 hpt
      obtain ⟨Y, hY⟩ : ∃ Y, Y = (Tu.one ⟨s, m, t⟩).length := ⟨_, rfl⟩
      rw [← hY] at hone hXY hol
      have hol2 : Y ≤ 300000 := by have := hpt.1; simp only at hol; omega
      have hbad : Tu.may ⟨s, m, t⟩ = false → C = 1 := fun h => by
        rw [HC.out]
        cases h4 : l.all Tu.may with
        | false => rfl
        | true => have := hra h4; rw [h] at this; cases this
      have hgood : Tu.may ⟨s, m, t⟩ = true → (l.take (k + 1)).all Tu.may = true := fun h => by rw [hta2, List.all_append, HALL.out]; simp [h]
      unfold pv at hone
      have HONE := Lib.hid hone
      have HXY := Lib.hid hXY
      have HRG := Lib.hid hrg
      have HLT := Lib.hid hlt
      have HB := Lib.hid hbad
      have HG := Lib.hid hgood
      have q1 : (k : Int) < (n : Int) := by omega
      have q1n : k < n := hlt
      clear hone hta hta2 hpt hrg hp hk1 hlt hY hol hra hbad hgood hXY
      have good : Tu.may ⟨s, m, t⟩ = true → True := fun _ => trivial
      clear good
      cases t with
      | true =>
        by_cases hm : m = 0
        · have h3 := HG.out (by simp [Tu.may, hm])
          have H3 := Lib.hid h3
          subst hm
          clear h3
          go_wp2_with (refine wpList_load_mid (by rfl) 79 (.tmp 43) (by rfl) b (o + k * 3) (by rfl) [.string (str s), .int .u64 0, .bool true] _ HRG.out Tryz.underlying79 rfl (by exact Tryz.sizePart) ?_)
          go_wp2_with fail
          refine HONE.out.mono ?_
          rintro e w2 ⟨v2, rfl, H2⟩
          obtain ⟨A2, c2', rfl, hc2, hA2⟩ := H2.shape' 0 rfl
          go_wp2
          exact ⟨⟨k + 1, X + Y, by have := HLT.out; omega, by go_num, by go_num, HXY.out.symm, H3.out, H2.d0⟩, by have := HLT.out; simp [intOf]; omega⟩
        · have h3 := HB.out (by simp [Tu.may, hm])
          have q : ((m : Int) != 0) = true := by simpa using hm
          subst h3
          clear hm
          go_wp2
          go_ret
          exact ⟨rfl, H1⟩
      | false =>
        cases s with
        | nil =>
          have h3 := HG.out (by simp [Tu.may])
          have H3 := Lib.hid h3
          clear h3
          go_wp2_with (refine wpList_load_mid (by rfl) 79 (.tmp 43) (by rfl) b (o + k * 3) (by rfl) [.string (str []), .int .u64 (m : Int), .bool false] _ HRG.out Tryz.underlying79 rfl (by exact Tryz.sizePart) ?_)
          go_wp2_with fail
          refine HONE.out.mono ?_
          rintro e w2 ⟨v2, rfl, H2⟩
          obtain ⟨A2, c2', rfl, hc2, hA2⟩ := H2.shape' 0 rfl
          go_wp2
          exact ⟨⟨k + 1, X + Y, by have := HLT.out; omega, by go_num, by go_num, HXY.out.symm, H3.out, H2.d0⟩, by have := HLT.out; simp [intOf]; omega⟩
        | cons x r =>
          have h3 := HB.out (by simp [Tu.may])
          subst h3
          go_wp2
          go_ret
          exact ⟨rfl, H1⟩
    · obtain rfl : k = n := by omega
      have htl : l.take k = l := by rw [HN.out, List.take_length]
      have h1 := HC.out
      have hX2 := HX.out
      have ha := HALL.out
      rw [htl] at hX2 ha
      rw [ha, ← hX2, ← HN.out] at h1
      simp only [if_true] at h1
      have hcase : ((8 < (k : Int)) ∧ C = 3) ∨ (¬ 8 < (k : Int) ∧ 1024 < (X : Int) ∧ C = 3) ∨ (¬ 8 < (k : Int) ∧ ¬ 1024 < (X : Int) ∧ C = 0) := by
        by_cases h8 : 8 < k
        · rw [if_pos (.inl h8)] at h1; exact .inl ⟨by omega, h1⟩
        · by_cases h10 : 1024 < X
          · rw [if_pos (.inr h10)] at h1; exact .inr (.inl ⟨by omega, by omega, h1⟩)
          · rw [if_neg (by omega)] at h1; exact .inr (.inr ⟨by omega, by omega, h1⟩)
      clear h1 hX2 ha htl hlt
      rcases hcase with ⟨h1, h2⟩ | ⟨h1, h2, h3⟩ | ⟨h1, h2, h3⟩
      · subst h2
        go_wp2
        go_ret
        exact ⟨rfl, H1⟩
      · subst h3
        go_wp2
        go_ret
        exact ⟨rfl, H1⟩
      · subst h3
        go_wp2
        go_ret
        exact ⟨rfl, H1⟩
end
end Go.Proofs.YtepgmebklhemgaaGreatDoor.Tp
/- The reference's Decode (layer 19). -/
set_option linter.unusedVariables false
set_option linter.unusedSimpArgs false
set_option maxRecDepth 100000
namespace Go.Proofs.YtepgmebklhemgaaGreatDoor
open Go.RowKit Wd
namespace Tu
/-- A text read loosely, up to its end or the whole's; what follows. -/
def loose : List UInt8 → List UInt8 × List UInt8
  | [] => ([], [])
  | [_] => ([], [])
  | c :: d :: r => if c = 0 then (if d = 1 then ([], r) else (0 :: (loose r).1, (loose r).2)) else (c :: (loose (d :: r)).1, (loose (d :: r)).2)
theorem loose_esc (t r : List UInt8) : loose (esc t ++ 0 :: 1 :: r) = (t, r) := by
  induction t with
  | nil => simp [esc, loose]
  | cons c t ih =>
    rw [esc_cons]
    by_cases hc : c = 0
    · subst hc
      simp only [if_true, List.cons_append, List.nil_append]
      rw [loose, if_pos rfl, if_neg (by decide), ih]
    · rw [if_neg hc]
      simp only [List.cons_append, List.nil_append]
      cases he : esc t ++ 0 :: 1 :: r with
      | nil => simp at he
      | cons x y => rw [loose, if_neg hc, ← he, ih]
theorem loose_short {l : List UInt8} (h : l.length ≤ 1) : loose l = ([], []) := by
  cases l with
  | nil => rfl
  | cons c l => cases l with
    | nil => rfl
    | cons d r => simp at h
/-- What has been read: so many parts, up to a place; if it is a key, those are its first. -/
def Read (s : List UInt8) (l : List Part) (at_ : Nat) : Prop := (∀ p ∈ l, ok p ∧ p.text.length ≤ 2000) ∧ ∀ m, Key s m → ∃ k, l = m.take k ∧ s.drop at_ = enc (m.drop k)
theorem Read.start (s : List UInt8) : Read s [] 0 := ⟨by simp, fun m hm => ⟨0, rfl, hm.2.2.symm⟩⟩
theorem Read.next {s : List UInt8} {l : List Part} {at_ : Nat} (h : Read s l at_) {m : List Part} (hm : Key s m) (hne : s.drop at_ ≠ []) : ∃ k q, l = m.take k ∧ m.take (k + 1) = l ++ [q] ∧ ok q ∧ s.drop at_ = one q ++ enc (m.drop (k + 1)) := by
  obtain ⟨k, h1, h2⟩ := h.2 m hm
  rcases Nat.lt_or_ge k m.length with hk | hk
  · refine ⟨k, m[k], h1, by rw [List.take_succ_eq_append_getElem hk, h1], hm.1 _ (List.getElem_mem hk), ?_⟩
    rw [h2, List.drop_eq_getElem_cons hk, enc_cons]
  · rw [List.drop_eq_nil_of_le hk] at h2
    exact absurd h2 hne
theorem Read.text {s : List UInt8} {l : List Part} {at_ at' : Nat} {r : List UInt8} {t : List UInt8} (h : Read s l at_) (hs : s.length ≤ 1100) (hd : s.drop at_ = 32 :: r) (ht : t.length ≤ 2000) (hl : loose r = (t, s.drop at')) : Read s (l ++ [⟨t, 0, true⟩]) at' := by
  refine ⟨fun p hp => ?_, fun m hm => ?_⟩
  · rcases List.mem_append.1 hp with hp | hp
    · exact h.1 p hp
    · simp only [List.mem_singleton] at hp; subst hp; exact ⟨⟨by simp [may], by simp⟩, ht⟩
  · obtain ⟨k, q, h1, h2, h3, h4⟩ := h.next hm (by rw [hd]; simp)
    refine ⟨k + 1, ?_, ?_⟩
    · rw [h2]
      congr 2
      rw [hd] at h4
      unfold one at h4
      cases hq : q.isText with
      | true =>
        rw [hq, if_pos rfl] at h4
        simp only [List.cons_append, List.cons.injEq, true_and, List.append_assoc, List.nil_append] at h4
        rw [h4, loose_esc] at hl
        injection hl with h5 h6
        exact Part.ext' h5.symm (ok_text h3 hq).symm hq.symm
      | false =>
        rw [hq] at h4
        simp only [Bool.false_eq_true, if_false, List.cons_append, List.cons.injEq] at h4
        have h8 := digs_len8 h3.2
        have h9 := congrArg UInt8.toNat h4.1
        simp at h9
        omega
    · rw [hd] at h4
      unfold one at h4
      cases hq : q.isText with
      | true =>
        rw [hq, if_pos rfl] at h4
        simp only [List.cons_append, List.cons.injEq, true_and, List.append_assoc, List.nil_append] at h4
        rw [h4, loose_esc] at hl
        injection hl with h5 h6
        exact h6.symm
      | false =>
        rw [hq] at h4
        simp only [Bool.false_eq_true, if_false, List.cons_append, List.cons.injEq] at h4
        have h8 := digs_len8 h3.2
        have h9 := congrArg UInt8.toNat h4.1
        simp at h9
        omega
theorem Read.num_shape {s : List UInt8} {l : List Part} {at_ : Nat} {c : UInt8} {r : List UInt8} (h : Read s l at_) (hd : s.drop at_ = c :: r) (hc : c ≠ 32) {m : List Part} (hm : Key s m) : ∃ k q, m.take (k + 1) = l ++ [q] ∧ q = ⟨[], q.num, false⟩ ∧ c.toNat = 16 + (digs q.num).length ∧ (digs q.num).length ≤ 8 ∧ r = digs q.num ++ enc (m.drop (k + 1)) := by
  obtain ⟨k, q, h1, h2, h3, h4⟩ := h.next hm (by rw [hd]; simp)
  rw [hd] at h4
  unfold one at h4
  cases hq : q.isText with
  | true =>
    rw [hq, if_pos rfl] at h4
    simp only [List.cons_append, List.cons.injEq] at h4
    exact absurd h4.1 hc
  | false =>
    rw [hq] at h4
    simp only [Bool.false_eq_true, if_false, List.cons_append, List.cons.injEq] at h4
    have h8 := digs_len8 h3.2
    have h9 := congrArg UInt8.toNat h4.1
    simp at h9
    exact ⟨k, q, h2, Part.ext' (ok_num h3 hq) rfl hq, by omega, h8, h4.2⟩
theorem Read.num {s : List UInt8} {l : List Part} {at_ : Nat} {c : UInt8} {r : List UInt8} (h : Read s l at_) (hd : s.drop at_ = c :: r) (hc : c ≠ 32) {n : Nat} (hn : c.toNat = 16 + n) (h8 : n ≤ 8) (hr : n ≤ r.length) : Read s (l ++ [⟨[], val (r.take n), false⟩]) (at_ + 1 + n) := by
  refine ⟨fun p hp => ?_, fun m hm => ?_⟩
  · rcases List.mem_append.1 hp with hp | hp
    · exact h.1 p hp
    · simp only [List.mem_singleton] at hp; subst hp
      exact ⟨⟨by simp [may], val_lt8 (by rw [List.length_take]; omega)⟩, by simp⟩
  · obtain ⟨k, q, h1, h2, h3, h4, h5⟩ := h.num_shape hd hc hm
    have e : (digs q.num).length = n := by omega
    have hrt : r.take n = digs q.num := by rw [h5, ← e]; simp
    refine ⟨k + 1, ?_, ?_⟩
    · rw [h1, hrt, val_digs, ← h2]
    · have hdd : s.drop (at_ + 1 + n) = r.drop n := by
        rw [← List.drop_drop, ← List.drop_drop, hd]
        rfl
      rw [hdd, h5, ← e]
      simp
theorem Read.no_num {s : List UInt8} {l : List Part} {at_ : Nat} {c : UInt8} {r : List UInt8} (h : Read s l at_) (hd : s.drop at_ = c :: r) (hc : c ≠ 32) (hb : c.toNat < 16 ∨ 24 < c.toNat ∨ r.length < c.toNat - 16) : ∀ m, ¬ Key s m := by
  intro m hm
  obtain ⟨k, q, h1, h2, h3, h4, h5⟩ := h.num_shape hd hc hm
  have := congrArg List.length h5
  rw [List.length_append] at this
  omega
theorem Read.done {s : List UInt8} {l : List Part} {at_ : Nat} (h : Read s l at_) (hd : s.length ≤ at_) : (∃ m, Key s m) → Key s l := by
  rintro ⟨m, hm⟩
  obtain ⟨k, h1, h2⟩ := h.2 m hm
  rw [List.drop_eq_nil_of_le hd] at h2
  rcases Nat.lt_or_ge k m.length with hk | hk
  · rw [List.drop_eq_getElem_cons hk, enc_cons] at h2
    have := congrArg List.length h2
    rw [List.length_append] at this
    have h3 : 0 < (one m[k]).length := List.length_pos_iff.2 (one_ne _)
    simp at this
    omega
  · rw [List.take_of_length_le hk] at h1
    rw [h1]
    exact hm
end Tu
end Go.Proofs.YtepgmebklhemgaaGreatDoor
/- The reference's Decode walked (layer 19). -/
set_option linter.unusedVariables false
set_option linter.unusedSimpArgs false
set_option maxRecDepth 100000
namespace Go.Proofs.YtepgmebklhemgaaGreatDoor.Tp
open Go.RowKit Wd
/-- What the reference's Decode gives. -/
def RetRDec (w0 : World) (M : Mem) (L : List Ent) (s : List UInt8) (e : Ending) (w' : World) : Prop :=
  (∃ l v, Tu.Key s l ∧ e = .returned (.tuple #[v, .bool true]) ∧ St w0 w' M (er 79 3 v l.length (pcs l) :: L)) ∨ ((∀ l, ¬ Tu.Key s l) ∧ e = .returned (.tuple #[.slice none 0 0, .bool false]) ∧ St w0 w' M L)
section
variable {w0 w : World} {M : Mem} {L : List Ent}
set_option maxRecDepth 100000 in
set_option maxHeartbeats 2000000 in
theorem rdecode_any (H : St w0 w M L) (s : List UInt8) (hs : s.length ≤ 1024) :
    Calls Tryz.prog 26 #[.string (str s)] w (RetRDec w0 M L s) := by
  have H0 := H.lit00 79 3
  obtain ⟨n, hn⟩ : ∃ n, n = s.length := ⟨_, rfl⟩
  have hn2 : n ≤ 1024 := by omega
  have HN := Lib.hid hn
  go_enter Tryz.func26, Tryz.ntmps26
  go_wp2
  go_loopw [4, 5] (fun v i wr => ∃ (a : Nat) (l : List Tu.Part), i = .int .i64 a ∧ a ≤ s.length + 2 ∧ l.length ≤ a ∧ Tu.Read s l a ∧ St w0 wr M (er 79 3 v l.length (pcs l) :: L)) (fun _ i _ => s.length + 2 - (intOf i).toNat)
  case atStart => exact ⟨0, [], rfl, by omega, by simp, Tu.Read.start s, H0⟩
  case round =>
    obtain ⟨a, l, rfl, ha, hla, hrd, H1⟩ := hrel
    clear H0 H hn
    have HRD := Lib.hid hrd
    clear hrd
    obtain ⟨A1, c1, rfl, hc1⟩ := H1.shape 0 rfl
    by_cases hlt : a < s.length
    · have ix := fun w => str_index (P := Tryz.prog) (k := .i64) (i := (a : Int)) Tryz.underlying9 s a hlt rfl w
      have hd : s.drop a = s[a] :: s.drop (a + 1) := List.drop_eq_getElem_cons hlt
      obtain ⟨c, hc⟩ : ∃ c, c = s[a] := ⟨_, rfl⟩
      simp only [← hc] at ix
      rw [← hc] at hd
      have q1 : (a : Int) < (s.length : Int) := by omega
      have q1n : a < s.length := hlt
      have HD := Lib.hid hd
      obtain ⟨a1, ha1⟩ : ∃ a1, a1 = a + 1 := ⟨_, rfl⟩
      have e1 : (a : Int) + 1 = (a1 : Int) := by omega
      have ha1b : a1 ≤ 1025 := by omega
      have HA1 := Lib.hid ha1
      obtain ⟨G, hG⟩ : ∃ G, G = wr.heap.size := ⟨_, rfl⟩
      clear hd hc hlt ha1
      by_cases hc32 : c = 32
      · subst hc32
        rw [show ((32 : UInt8).toNat : Int) = 32 from rfl] at ix
        have H2 := H1.newg [.string ⟨#[]⟩, .int .u64 0, .bool true] 79 hG
        have H3 := H2.litg [] 5 (by simp [maxLen]) (g := wr.heap.size + 1) (by simp)
        have HG := Lib.hid hG
        clear hG H2
        go_wp2
        simp only [← HG.out]
        rw [← HG.out] at H3
        go_loopw [7, 8] (fun v i wx => ∃ (k : Nat) (b : List UInt8), i = .int .i64 k ∧ k ≤ s.length ∧ a1 ≤ k ∧ b.length ≤ k ∧ Tu.loose (s.drop a1) = (b ++ (Tu.loose (s.drop k)).1, (Tu.loose (s.drop k)).2) ∧ St w0 wx M (er 5 1 v b.length (bv b) :: eb G 79 [.string ⟨#[]⟩, .int .u64 0, .bool true] :: er 79 3 (.slice A1 l.length c1) l.length (pcs l) :: L)) (fun _ i _ => s.length - (intOf i).toNat)
        case atStart => exact ⟨a1, [], rfl, by have := HA1.out; omega, by omega, by simp, rfl, H3⟩
        case round =>
          obtain ⟨k, b, rfl, hk, hk1, hbk, hlo, H4⟩ := hrel
          clear H3 ix
          have HLO := Lib.hid hlo
          clear hlo
          obtain ⟨A2, cc, rfl, hc2⟩ := H4.shape 0 rfl
          have hkb : k ≤ 1024 := by omega
          have HAK := Lib.hid hk1
          have HBK := Lib.hid hbk
          clear hk1 hbk
          by_cases hgo : ∃ (h : k + 1 < s.length), ¬ (s[k] = 0 ∧ s[k + 1] = 1)
          · obtain ⟨hkl, hno⟩ := hgo
            have i1 := fun w => str_index (P := Tryz.prog) (k := .i64) (i := (k : Int)) Tryz.underlying9 s k (by omega) rfl w
            obtain ⟨k1, hk1e⟩ : ∃ k1, k1 = k + 1 := ⟨_, rfl⟩
            have i2 := fun w => str_index (P := Tryz.prog) (k := .i64) (i := (k1 : Int)) Tryz.underlying9 s k1 (by omega) rfl w
            have e2 : (k : Int) + 1 = (k1 : Int) := by omega
            have hd1 : s.drop k = s[k] :: s[k + 1] :: s.drop (k + 2) := by
              rw [List.drop_eq_getElem_cons (by omega : k < s.length), List.drop_eq_getElem_cons (by omega : k + 1 < s.length)]
            have hd2 : s.drop (k + 1) = s[k + 1] :: s.drop (k + 2) := List.drop_eq_getElem_cons hkl
            obtain ⟨x, hx⟩ : ∃ x, x = s[k] := ⟨_, rfl⟩
            obtain ⟨y, hy⟩ : ∃ y, y = s[k + 1] := ⟨_, rfl⟩
            simp only [hk1e, ← hx, ← hy] at i1 i2
            rw [← hk1e] at i2
            rw [← hx, ← hy] at hno hd1
            rw [← hy] at hd2
            have q2 : (k1 : Int) < (s.length : Int) := by omega
            have q2n : k1 < s.length := by omega
            have HK1 := Lib.hid hk1e
            have hkb1 : k1 ≤ 1025 := by omega
            by_cases hx0 : x = 0
            · have hy1 : ¬ y = 1 := fun h => hno ⟨hx0, h⟩
              have p2 : ((y.toNat : Int) == 1) = false := by
                simp only [beq_eq_false_iff_ne]
                intro h
                exact hy1 (UInt8.toNat_inj.1 (by show y.toNat = 1; omega))
              have hl2 : Tu.loose (s.drop a1) = (b ++ [0] ++ (Tu.loose (s.drop (k + 2))).1, (Tu.loose (s.drop (k + 2))).2) := by
                rw [HLO.out, hd1, Tu.loose, if_pos hx0, if_neg hy1]
                simp
              subst hx0
              rw [show ((0 : UInt8).toNat : Int) = 0 from rfl] at i1
              have HL2 := Lib.hid hl2
              have HKL := Lib.hid hkl
              clear hno hd1 hd2 hx hy hl2 hy1 hkl hk1e
              go_wp2_with (at_builtin; refine wpList_append1_st H4 (by rfl) (.tmp 44) (.tmp 48) 30 (by rfl) Tryz.info5 (by rfl) Tryz.underlying30 (by rfl) (by rfl) (by rfl) (by have := HBK.out; omega) (by have := HBK.out; omega) ?_)
              intro v5 w5 H5
              go_wp2
              refine ⟨⟨k + 2, b ++ [0], ?_, by have := HKL.out; omega, by have := HAK.out; omega, by have := HBK.out; simp; omega, HL2.out, ?_⟩, by have := HKL.out; have := HK1.out; simp [intOf]; omega⟩
              · have := HK1.out
                exact congrArg (Value.int .i64) (by omega)
              · rw [List.length_append, bv_append]
                exact H5
            · have p1 : ((x.toNat : Int) == 0) = false := by
                simp only [beq_eq_false_iff_ne]
                intro h
                exact hx0 (UInt8.toNat_inj.1 (by show x.toNat = 0; omega))
              have hl2 : Tu.loose (s.drop a1) = (b ++ [x] ++ (Tu.loose (s.drop (k + 1))).1, (Tu.loose (s.drop (k + 1))).2) := by
                rw [HLO.out, hd1, Tu.loose, if_neg hx0, ← hd2]
                simp
              have HL2 := Lib.hid hl2
              have HKL := Lib.hid hkl
              clear hno hd1 hd2 hx hy hl2 hkl hk1e hx0
              go_wp2_with (at_builtin; refine wpList_append1_st H4 (by rfl) (.tmp 44) (.tmp 48) 30 (by rfl) Tryz.info5 (by rfl) Tryz.underlying30 (by rfl) (by rfl) (by rfl) (by have := HBK.out; omega) (by have := HBK.out; omega) ?_)
              intro v5 w5 H5
              go_wp2
              refine ⟨⟨k + 1, b ++ [x], ?_, by have := HKL.out; omega, by have := HAK.out; omega, by have := HBK.out; simp; omega, HL2.out, ?_⟩, by have := HKL.out; have := HK1.out; simp [intOf]; omega⟩
              · have := HK1.out
                exact congrArg (Value.int .i64) (by omega)
              · rw [List.length_append, bv_append]
                exact H5
          · obtain ⟨k1, hk1e⟩ : ∃ k1, k1 = k + 1 := ⟨_, rfl⟩
            have e2 : (k : Int) + 1 = (k1 : Int) := by omega
            have hend : Tu.loose (s.drop a1) = (b, s.drop (k + 2)) := by
              rw [HLO.out]
              by_cases hkl : k + 1 < s.length
              · have hd1 : s.drop k = s[k] :: s[k + 1] :: s.drop (k + 2) := by
                  rw [List.drop_eq_getElem_cons (by omega : k < s.length), List.drop_eq_getElem_cons (by omega : k + 1 < s.length)]
                have h3 : s[k] = 0 ∧ s[k + 1] = 1 := by
                  rcases Classical.em (s[k] = 0 ∧ s[k + 1] = 1) with h | h
                  · exact h
                  · exact absurd ⟨hkl, h⟩ hgo
                rw [hd1, Tu.loose, if_pos h3.1, if_pos h3.2]
                simp
              · rw [Tu.loose_short (by rw [List.length_drop]; omega), List.drop_eq_nil_of_le (by omega)]
                simp
            have hcase : (¬ (k1 : Int) < (s.length : Int) ∧ ¬ k1 < s.length) ∨ ((k1 : Int) < (s.length : Int) ∧ k1 < s.length ∧ (∀ w, (Instr.index 9 (.string (str s)) (.int .i64 (k : Int))).run Tryz.prog w = .ok (.int .u8 0) w) ∧ (∀ w, (Instr.index 9 (.string (str s)) (.int .i64 (k1 : Int))).run Tryz.prog w = .ok (.int .u8 1) w)) := by
              by_cases hkl : k + 1 < s.length
              · have h3 : s[k] = 0 ∧ s[k + 1] = 1 := by
                  rcases Classical.em (s[k] = 0 ∧ s[k + 1] = 1) with h | h
                  · exact h
                  · exact absurd ⟨hkl, h⟩ hgo
                refine .inr ⟨by omega, by omega, fun w => ?_, fun w => ?_⟩
                · have := str_index (P := Tryz.prog) (k := .i64) (i := (k : Int)) Tryz.underlying9 s k (by omega) rfl w
                  rw [h3.1] at this
                  exact this
                · have := str_index (P := Tryz.prog) (k := .i64) (i := (k1 : Int)) Tryz.underlying9 s (k + 1) (by omega) (by omega) w
                  rw [h3.2] at this
                  exact this
              · exact .inl ⟨by omega, by omega⟩
            have hrd2 := HRD.out.text (at' := k + 2) (by omega) (by have := HD.out; rwa [← HA1.out] at this) (by have := HBK.out; omega) hend
            have HRD2 := Lib.hid hrd2
            have HK1 := Lib.hid hk1e
            have hkb1 : k1 ≤ 1025 := by omega
            have g0 := H4.cell 1 rfl 0
            have g1 := H4.cell 1 rfl 1
            have g2 := H4.cell 1 rfl 2
            have f0 := H4.frozen 1 rfl 0
            have cv := conv_RB (P := Tryz.prog) (src := 30) (dst := 9) (n := b.length) (c := cc) Tryz.underlying30 Tryz.underlying5 Tryz.underlying9 (er_RB (H4.get 0 rfl)) rfl
            have H5 := H4.f1.set 0 (.string (str b))
            have H6 := H5.newg [.string (str b), .int .u64 0, .bool true] 79 (g := wr.heap.size) (by simp [World.setCell])
            have ra := (H6.blk 0 rfl).ra 0 3 [.string (str b), .int .u64 0, .bool true] rfl
            have e3 : (k : Int) + 2 = ((k + 2 : Nat) : Int) := by omega
            obtain ⟨k2, hk2⟩ : ∃ k2, k2 = k + 2 := ⟨_, rfl⟩
            rw [← hk2] at e3 HRD2
            have hk2b : k2 ≤ 1026 := by omega
            have HK2 := Lib.hid hk2
            clear hrd2 hend hgo hk1e hk2
            rcases hcase with ⟨z1, z2⟩ | ⟨z1, z2, z3, z4⟩
            all_goals
              go_wp2_with (at_builtin; refine wpList_append_any_st H6.f3 (by rfl) (.tmp 104) (.tmp 106) 24 (by rfl) Tryz.infoPart (by rfl) (by decide) Tryz.underlying24 (by rfl) (some ⟨wr.heap.size, 0, none⟩) 1 1 [.string (str b), .int .u64 0, .bool true] (by rfl) (by rfl) (by rintro ⟨⟩) ra (by simp [Value.oneCell']) (by omega) (by omega) ?_)
              intro v7 w7 H7
              have H8 : St w0 w7 M (er 79 3 v7 (l ++ [(⟨b, 0, true⟩ : Tu.Part)]).length (pcs (l ++ [⟨b, 0, true⟩])) :: L) := by
                rw [List.length_append, pcs_append]
                exact H7.d1.d1.d1
              clear H5 H6 H7 ra
              go_wp2
              refine ⟨⟨k2, l ++ [⟨b, 0, true⟩], rfl, by have := HK2.out; omega, ?_, HRD2.out, H8⟩, ?_⟩
              · rw [List.length_append, List.length_singleton]; have := HK2.out; have := HAK.out; have := HA1.out; omega
              · have := HK2.out; have := HAK.out; have := HA1.out; simp [intOf]; omega
      · have p0 : ((c.toNat : Int) == 32) = false := by
          simp only [beq_eq_false_iff_ne]
          intro h
          exact hc32 (UInt8.toNat_inj.1 (by show c.toNat = 32; omega))
        have hcl := c.toNat_lt
        obtain ⟨x, hx⟩ : ∃ x : Int, x = (c.toNat : Int) - 16 := ⟨_, rfl⟩
        have ex : (c.toNat : Int) - 16 = x := hx.symm
        have hx1 : -16 ≤ x := by omega
        have hx2 : x ≤ 239 := by omega
        have hr : (s.drop (a + 1)).length = s.length - (a + 1) := List.length_drop
        have H2 := H1.newg [.string ⟨#[]⟩, .int .u64 0, .bool false] 79 hG
        have HG := Lib.hid hG
        clear hG
        by_cases hbad : c.toNat < 16 ∨ 24 < c.toNat ∨ (s.drop (a + 1)).length < c.toNat - 16
        · have hno := HRD.out.no_num HD.out hc32 hbad
          have hcase : x < 0 ∨ (¬ x < 0 ∧ 8 < x) ∨ (¬ x < 0 ∧ ¬ 8 < x ∧ (s.length : Int) < (a1 : Int) + x) := by
            have := HA1.out
            rcases hbad with h | h | h
            · exact .inl (by omega)
            · exact .inr (.inl (by omega))
            · rcases Nat.lt_or_ge c.toNat 16 with h1 | h1
              · exact .inl (by omega)
              · rcases Nat.lt_or_ge 24 c.toNat with h2 | h2
                · exact .inr (.inl (by omega))
                · exact .inr (.inr ⟨by omega, by omega, by omega⟩)
          have HNO := Lib.hid hno
          clear hno hbad hx hr hc32
          rcases hcase with z1 | ⟨z1, z2⟩ | ⟨z1, z2, z3⟩
          all_goals
            go_wp2
            go_ret2
            exact .inr ⟨HNO.out, rfl, H2.d0.d0⟩
        · obtain ⟨N, hNe⟩ : ∃ N, N = c.toNat - 16 := ⟨_, rfl⟩
          have hcN : c.toNat = 16 + N := by omega
          have hN8 : N ≤ 8 := by omega
          have hNr : N ≤ (s.drop (a + 1)).length := by omega
          have exN : x = (N : Int) := by omega
          subst exN
          obtain ⟨aN, haN⟩ : ∃ aN, aN = a + 1 + N := ⟨_, rfl⟩
          have e2 : (a1 : Int) + (N : Int) = (aN : Int) := by have := HA1.out; omega
          have z1 : ¬ (N : Int) < 0 := by omega
          have z2 : ¬ 8 < (N : Int) := by omega
          have z3 : ¬ (s.length : Int) < (aN : Int) := by have := HA1.out; omega
          have z3n : ¬ s.length < aN := by have := HA1.out; omega
          have hrd2 := HRD.out.num HD.out hc32 hcN hN8 hNr
          rw [← haN] at hrd2
          obtain ⟨r, hrr⟩ : ∃ r, r = s.drop (a + 1) := ⟨_, rfl⟩
          rw [← hrr] at hrd2 hNr hr
          have HRD2 := Lib.hid hrd2
          have HR := Lib.hid hrr
          have HAN := Lib.hid haN
          have HNR := Lib.hid hNr
          have HRL := Lib.hid hr
          have haNb : aN ≤ 1034 := by have := HA1.out; omega
          clear hrd2 hrr haN hNr hbad hx hcN hNe hr hc32
          go_wp2
          simp only [← HG.out]
          go_loopw [10] (fun i wx => ∃ k : Nat, k ≤ N ∧ i = .int .i64 k ∧ St w0 wx M (eb G 79 [.string ⟨#[]⟩, .int .u64 (Tu.val (r.take k) : Int), .bool false] :: er 79 3 (.slice A1 l.length c1) l.length (pcs l) :: L)) (fun i _ => N - (intOf i).toNat)
          case atStart => exact ⟨0, by omega, rfl, H2⟩
          case round =>
            obtain ⟨k, hk, rfl, H3⟩ := hrel
            clear H2 ix
            by_cases hlt : k < N
            · have hks : k < r.length := by have := HNR.out; omega
              have hrv := Tu.val_take r k hks
              have hlim := Tu.val_lt8 (l := r.take (k + 1)) (by rw [List.length_take]; omega)
              rw [hrv] at hlim
              obtain ⟨ak, hak⟩ : ∃ ak, ak = a1 + k := ⟨_, rfl⟩
              have hakl : ak < s.length := by have := HRL.out; have := HA1.out; omega
              have ik := fun w => str_index (P := Tryz.prog) (k := .i64) (i := (ak : Int)) Tryz.underlying9 s ak hakl rfl w
              have hvv : s[ak] = r[k] := by
                have h1 : r[k]? = s[ak]? := by rw [HR.out, List.getElem?_drop, hak, HA1.out]
                rw [List.getElem?_eq_getElem hks, List.getElem?_eq_getElem hakl] at h1
                injection h1 with h1
                exact h1.symm
              obtain ⟨Y, hY⟩ : ∃ Y, Y = Tu.val (r.take k) := ⟨_, rfl⟩
              obtain ⟨v, hv⟩ : ∃ v, v = r[k] := ⟨_, rfl⟩
              rw [← hY, ← hv] at hrv hlim
              simp only [hvv, ← hv] at ik
              rw [← hY] at H3
              obtain ⟨m, f1, f3, _⟩ := Tu.val_run Y v hlim
              obtain ⟨T, hT⟩ : ∃ T, T = Y * 256 + v.toNat := ⟨_, rfl⟩
              have hmy : m = Y * 256 := by
                have h1 : Y * 256 < 18446744073709551616 := Nat.lt_of_le_of_lt (Nat.le_add_right _ _) hlim
                have h2 : IntKind.u64.wrap ((Y * 256 : Nat) : Int) = ((Y * 256 : Nat) : Int) := by
                  rw [IntKind.wrap_u64]
                  exact Int.emod_eq_of_lt (Int.natCast_nonneg _) (Int.ofNat_lt.2 h1)
                push_cast at h2
                rw [h2] at f1
                omega
              have f4 : IntKind.u64.wrap ((m : Int) + (v.toNat : Int)) = (T : Int) := by
                have h2 : IntKind.u64.wrap ((Y * 256 + v.toNat : Nat) : Int) = ((Y * 256 + v.toNat : Nat) : Int) := by
                  rw [IntKind.wrap_u64]
                  exact Int.emod_eq_of_lt (Int.natCast_nonneg _) (Int.ofNat_lt.2 hlim)
                rw [hmy, hT]
                push_cast at h2 ⊢
                exact h2
              rw [← hT] at hrv
              have HRV := Lib.hid hrv
              have HLT := Lib.hid hlt
              have q5 : (k : Int) < (N : Int) := by omega
              have e5 : (a1 : Int) + (k : Int) = (ak : Int) := by omega
              have w5 : IntKind.i64.wrap (ak : Int) = (ak : Int) := by rw [IntKind.wrap_i64]; omega
              have w1 : IntKind.i64.wrap (a1 : Int) = (a1 : Int) := by rw [IntKind.wrap_i64]; omega
              clear hrv hY hv hT hlt hlim hks hakl hak hvv hmy
              go_wp2
              refine Pt.wp_plan (fun w' => St w0 w' M (eb G 79 [.string ⟨#[]⟩, .int .u64 (Y : Int), .bool false] :: er 79 3 (.slice A1 l.length c1) l.length (pcs l) :: L)) (Pt.prs [0, 3, 4, 5, 6, 7, 8] (Pt.rds [1] (Pt.prs [2] (Pt.rds [9] (Pt.prs [10, 11] (.st 12 .fin)))))) [12] Tryz.mixed (by kernel_rfl) (fun _ _ d _ _ h => by cases d <;> exact h) H3.drew ?_
              have H4 := H3.drew
              simp only [Pt.toL, Pt.rds, Pt.prs, Pt.at_, List.drop_succ_cons, List.drop_zero]
              iterate 7 (refine Pt.pr_run (v := ?_) (by rfl) ?_ ?_; rotate_left; (focus (intro w'; go_simp; with_reducible rfl)); simp only [Act.put, List.setIfInBounds_toArray, List.set_cons_zero, List.set_cons_succ])
              (refine Pt.rd_run (v := ?_) (by rfl) ?_ ?_; rotate_left; (focus (intro w' hS; have g1 := hS.cell 0 rfl 1; go_simp; with_reducible rfl)); simp only [Act.put, List.setIfInBounds_toArray, List.set_cons_zero, List.set_cons_succ])
              (refine Pt.pr_run (v := ?_) (by rfl) ?_ ?_; rotate_left; (focus (intro w'; go_simp; with_reducible rfl)); simp only [Act.put, List.setIfInBounds_toArray, List.set_cons_zero, List.set_cons_succ])
              (refine Pt.rd_run (v := ?_) (by rfl) ?_ ?_; rotate_left; (focus (intro w' hS; obtain s0 := hS; go_simp; with_reducible rfl)); simp only [Act.put, List.setIfInBounds_toArray, List.set_cons_zero, List.set_cons_succ])
              iterate 2 (refine Pt.pr_run (v := ?_) (by rfl) ?_ ?_; rotate_left; (focus (intro w'; go_simp; with_reducible rfl)); simp only [Act.put, List.setIfInBounds_toArray, List.set_cons_zero, List.set_cons_succ])
              generalize hxx : wr.drew = wy at *
              clear hxx H3
              have f1' := H4.frozen 0 rfl 1
              have c1' := H4.cell 0 rfl 1
              have H5 := H4.set 1 (.int .u64 (T : Int))
              clear f1 f3 f4 e5 w5 w1 ik
              have t1 : (storeVar 23 ⟨G, 1, none⟩ (.int .u64 (T : Int))).run Tryz.prog wy = .ok () (wy.setCell ⟨G, 1, none⟩ (.int .u64 (T : Int))) := by go_simp
              refine Pt.run_st ?_
              refine wpList_store_run (by rfl) 23 (.tmp 99) (.tmp 98) (by rfl) ⟨G, 1, none⟩ (.int .u64 (T : Int)) (by rfl) (by rfl) _ t1 ?_
              refine wpList_nil ?_
              clear t1
              simp only [Pl.Then]
              simp only [Act.put, List.setIfInBounds_toArray, List.set_cons_zero, List.set_cons_succ]
              refine Pt.run_fin ?_
              go_wp2
              refine ⟨⟨k + 1, by have := HLT.out; omega, by go_num, by rw [HRV.out]; exact H5⟩, by have := HLT.out; simp [intOf]; omega⟩
            · obtain rfl : k = N := by omega
              obtain ⟨V, hV⟩ : ∃ V, V = Tu.val (r.take k) := ⟨_, rfl⟩
              have hrd3 := HRD2.out
              rw [← hV] at H3 hrd3
              have HRD3 := Lib.hid hrd3
              have g0 := H3.cell 0 rfl 0
              have g1 := H3.cell 0 rfl 1
              have g2 := H3.cell 0 rfl 2
              have H6 := H3.newg [.string ⟨#[]⟩, .int .u64 (V : Int), .bool false] 79 (g := wr.heap.size) rfl
              have ra := (H6.blk 0 rfl).ra 0 3 [.string ⟨#[]⟩, .int .u64 (V : Int), .bool false] rfl
              clear hlt hV hrd3
              go_wp2_with (at_builtin; refine wpList_append_any_st H6.f2 (by rfl) (.tmp 104) (.tmp 106) 24 (by rfl) Tryz.infoPart (by rfl) (by decide) Tryz.underlying24 (by rfl) (some ⟨wr.heap.size, 0, none⟩) 1 1 [.string ⟨#[]⟩, .int .u64 (V : Int), .bool false] (by rfl) (by rfl) (by rintro ⟨⟩) ra (by simp [Value.oneCell']) (by omega) (by omega) ?_)
              intro v7 w7 H7
              have H8 : St w0 w7 M (er 79 3 v7 (l ++ [(⟨[], V, false⟩ : Tu.Part)]).length (pcs (l ++ [⟨[], V, false⟩])) :: L) := by
                rw [List.length_append, pcs_append]
                exact H7.d1.d1
              clear H6 H7 ra
              go_wp2
              refine ⟨⟨aN, l ++ [⟨[], V, false⟩], rfl, by have := HAN.out; omega, ?_, HRD3.out, H8⟩, ?_⟩
              · rw [List.length_append, List.length_singleton]; have := HAN.out; omega
              · have := HAN.out; simp [intOf]; omega
    · have hdone := HRD.out.done (by omega)
      have q1 : ¬ (a : Int) < (s.length : Int) := by omega
      have q1n : ¬ a < s.length := hlt
      by_cases h8 : 8 < l.length
      · have hno : ∀ m, ¬ Tu.Key s m := fun m hm => by
          have := (hdone ⟨m, hm⟩).2.1
          omega
        have HNO := Lib.hid hno
        have q8 : 8 < (l.length : Int) := by omega
        clear hno hdone h8 hlt
        go_wp2
        go_ret2
        exact .inr ⟨HNO.out, rfl, H1.d0⟩
      · have htame : Tame l := ⟨by omega, fun p hp => ⟨by have := (HRD.out.1 p hp).2; omega, (HRD.out.1 p hp).1.2⟩⟩
        have henc := rencode_any (c := c1) H1 rfl (SrA.row 0 rfl) htame
        obtain ⟨E, hE⟩ : ∃ E, E = Tu.enc l := ⟨_, rfl⟩
        rw [← hE] at henc
        obtain ⟨t, ht⟩ : ∃ t, t = decide (E = s) := ⟨_, rfl⟩
        have hse : (E == s) = t := by rw [ht, Bool.eq_iff_iff]; simp
        have hres : (t = true → Tu.Key s l) ∧ (t = false → ∀ m, ¬ Tu.Key s m) := by
          refine ⟨fun h => ⟨fun p hp => (HRD.out.1 p hp).1, by omega, ?_⟩, fun h m hm => ?_⟩
          · rw [h] at ht
            rw [← hE]
            simpa using ht
          · have h2 := (hdone ⟨m, hm⟩).2.2
            rw [← hE] at h2
            rw [h2] at ht
            simp [h] at ht
        have HENC := Lib.hid henc
        have HRES := Lib.hid hres
        have q8 : ¬ 8 < (l.length : Int) := by omega
        clear henc hE ht hres hdone h8 hlt htame
        cases t with
        | true =>
          go_wp2_with fail
          refine HENC.out.mono ?_
          rintro e w5 ⟨rfl, H5⟩
          go_wp2
          go_ret2
          exact .inl ⟨l, _, HRES.out.1 trivial, rfl, H5⟩
        | false =>
          go_wp2_with fail
          refine HENC.out.mono ?_
          rintro e w5 ⟨rfl, H5⟩
          go_wp2
          go_ret2
          exact .inr ⟨HRES.out.2 trivial, rfl, H5.d0⟩
end
end Go.Proofs.YtepgmebklhemgaaGreatDoor.Tp
