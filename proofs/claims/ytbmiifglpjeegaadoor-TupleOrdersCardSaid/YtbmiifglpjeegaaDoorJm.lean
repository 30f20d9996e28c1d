/- The reference's one. -/
import Derived.Test.YtbmiifglpjeegaaDoorJl
set_option linter.unusedVariables false
set_option linter.unusedSimpArgs false
namespace Go.Proofs.YtbmiifglpjeegaaDoor
open Go.RowKit Wd
theorem Tu.esc_take (l : List UInt8) (k : Nat) (h : k < l.length) : Tu.esc (l.take (k + 1)) = Tu.esc (l.take k) ++ (if l[k] = 0 then [0, 255] else [l[k]]) := by
  rw [List.take_succ_eq_append_getElem h, Tu.esc_append]
  simp [Tu.esc]
theorem Wd.St.litg {w0 w : World} {M : Mem} {L : List Ent} (h : St w0 w M L) (cs : List Value) (t : TypeId) (hm : cs.length ≤ maxLen) {g : Nat} (hg : g = w.heap.size) : St w0 (w.alloc (.cells cs.toArray t)) M (er t 1 (.slice (some ⟨g, 0, none⟩) cs.length cs.length) cs.length cs :: L) := by subst hg; exact h.lit cs t hm
section
variable {w0 w : World} {M : Mem} {L : List Ent}
set_option maxRecDepth 100000 in
set_option maxHeartbeats 1000000 in
theorem rone_text (H : St w0 w M L) (s : List UInt8) (n : Nat) (hs : s.length ≤ 1000000) :
    Calls Tryd.prog 28 #[.agg #[.string (str s), .int .u64 (n : Int), .bool true]] w fun e w' => ∃ v, e = .returned v ∧ St w0 w' M (er 5 1 v (Tu.one ⟨s, n, true⟩).length (bv (Tu.one ⟨s, n, true⟩)) :: L) := by
  obtain ⟨O, hO⟩ : ∃ O, O = Tu.one ⟨s, n, true⟩ := ⟨_, rfl⟩
  have hO2 : O = 32 :: (Tu.esc s ++ [0, 1]) := by rw [hO]; rfl
  rw [← hO]
  have HO := Lib.hid hO2
  have hel := Tu.esc_len s
  clear hO hO2
  have HN := H.new [.string (str s), .int .u64 (n : Int), .bool true] 42
  have HN2 := HN.litg [.int .u8 32] 5 (by simp [maxLen]) (g := w.heap.size + 1) (by simp)
  obtain ⟨G, hG⟩ : ∃ G, G = w.heap.size := ⟨_, rfl⟩
  rw [← hG] at HN2
  have HG := Lib.hid hG
  clear hG HN
  go_enter Tryd.func28, Tryd.ntmps28
  go_wp2
  simp only [← HG.out]
  go_loopw [3, 4] (fun v i wr => ∃ (k : Nat) (X : List UInt8), k ≤ s.length ∧ i = .int .i64 k ∧ X = 32 :: Tu.esc (s.take k) ∧ St w0 wr M (er 5 1 v X.length (bv X) :: eb G 42 [.string (str s), .int .u64 (n : Int), .bool true] :: L)) (fun _ i _ => s.length - (intOf i).toNat)
  case atStart => exact ⟨0, [32], by omega, rfl, rfl, HN2⟩
  case round =>
    obtain ⟨k, X, hk, rfl, hX, H1⟩ := hrel
    clear HN2 H
    have c0 := H1.cell 1 rfl 0
    obtain ⟨A1, c1, rfl, hc1⟩ := H1.shape 0 rfl
    have hl1 := Tu.esc_len (s.take k)
    rw [List.length_take] at hl1
    by_cases hlt : k < s.length
    · have ix := fun w => str_index (P := Tryd.prog) (k := .i64) (i := (k : Int)) Tryd.underlying9 s k hlt rfl w
      have ht := Tu.esc_take s k hlt
      obtain ⟨v, hv⟩ : ∃ v, v = s[k] := ⟨_, rfl⟩
      rw [← hv] at ht
      simp only [← hv] at ix
      have hXl : X.length ≤ 4000000 := by rw [hX, List.length_cons]; omega
      have ht2 : 32 :: Tu.esc (s.take (k + 1)) = X ++ (if v = 0 then [0, 255] else [v]) := by rw [ht, hX]; rfl
      have HT := Lib.hid ht2
      have HLT := Lib.hid hlt
      have q1 : (k : Int) < (s.length : Int) := by omega
      have q1n : k < s.length := hlt
      clear ht ht2 hX hv hlt hl1
      go_wp2_with (at_builtin; refine wpList_append1_st H1 (by rfl) (.tmp 17) (.tmp 22) 47 (by rfl) Tryd.info5 (by rfl) Tryd.underlying47 (by rfl) (by rfl) (by rfl) (by omega) (by omega) ?_)
      intro v2 w2 H2
      have c0 := H2.cell 1 rfl 0
      obtain ⟨A2, c2, rfl, hc2⟩ := H2.shape 0 rfl
      by_cases hv0 : v = 0
      · subst hv0
        rw [show ((0 : UInt8).toNat : Int) = 0 from rfl] at ix
        go_wp2_with (at_builtin; refine wpList_append1_st H2 (by rfl) (.tmp 29) (.tmp 30) 47 (by rfl) Tryd.info5 (by rfl) Tryd.underlying47 (by rfl) (by rfl) (by rfl) (by omega) (by omega) ?_)
        intro v3 w3 H3
        go_wp2
        refine ⟨⟨k + 1, _, by have := HLT.out; omega, by go_num, HT.out.symm, ?_⟩, by have := HLT.out; simp [intOf]; omega⟩
        simp only [if_true]
        rw [List.length_append, bv_append]
        exact H3
      · have p1 : ((v.toNat : Int) == 0) = false := by
          simp only [beq_eq_false_iff_ne]
          intro h
          exact hv0 (UInt8.toNat_inj.1 (by show v.toNat = 0; omega))
        go_wp2
        refine ⟨⟨k + 1, _, by have := HLT.out; omega, by go_num, HT.out.symm, ?_⟩, by have := HLT.out; simp [intOf]; omega⟩
        rw [if_neg hv0, List.length_append, bv_append]
        exact H2
    · obtain rfl : k = s.length := by omega
      rw [List.take_length] at hX
      have hXl : X.length ≤ 4000000 := by rw [hX, List.length_cons]; omega
      have hXO : X ++ [0, 1] = O := by rw [hX, HO.out]; rfl
      have HXO := Lib.hid hXO
      clear hX hXO hlt hl1
      have H2 := H1.new [.int .u8 0, .int .u8 1] 5
      have ra := (H2.blk 0 rfl).RB (l := [0, 1]) (o := 0) rfl
      go_wp2_with (at_builtin; refine wpList_append_st H2.f1 (by rfl) (.tmp 32) (.tmp 33) 47 (by rfl) Tryd.info5 Tryd.underlying47 (by rfl) (some ⟨wr.heap.size, 0, none⟩) 2 2 [0, 1] (by rfl) (by rfl) (by rintro ⟨⟩) ra (by omega) ?_)
      intro v3 w3 H3
      go_wp2
      go_ret
      refine ⟨_, rfl, ?_⟩
      rw [← HXO.out, List.length_append, bv_append]
      exact H3.d1.d1
set_option maxRecDepth 100000 in
set_option maxHeartbeats 1000000 in
theorem rone_num (H : St w0 w M L) (s : List UInt8) (n : Nat) (hn : n < 18446744073709551616) :
    Calls Tryd.prog 28 #[.agg #[.string (str s), .int .u64 (n : Int), .bool false]] w fun e w' => ∃ v, e = .returned v ∧ St w0 w' M (er 5 1 v (Tu.one ⟨s, n, false⟩).length (bv (Tu.one ⟨s, n, false⟩)) :: L) := by
  obtain ⟨O, hO⟩ : ∃ O, O = Tu.one ⟨s, n, false⟩ := ⟨_, rfl⟩
  have hO2 : O = UInt8.ofNat (16 + (Tu.digs n).length) :: Tu.digs n := by rw [hO]; rfl
  have h8 := Tu.digs_len8 hn
  obtain ⟨D, hD⟩ : ∃ D, D = Tu.digs n := ⟨_, rfl⟩
  rw [← hD] at hO2 h8
  rw [← hO]
  have HO := Lib.hid hO2
  have HD := Lib.hid hD
  clear hO hO2 hD
  have HN := H.new [.string (str s), .int .u64 (n : Int), .bool false] 42
  have HN2 := HN.litg [] 5 (by simp [maxLen]) (g := w.heap.size + 1) (by simp)
  obtain ⟨G, hG⟩ : ∃ G, G = w.heap.size := ⟨_, rfl⟩
  rw [← hG] at HN2
  have HG := Lib.hid hG
  clear hG HN
  go_enter Tryd.func28, Tryd.ntmps28
  go_wp2
  simp only [← HG.out]
  go_loopw [5, 6] (fun v x wr => ∃ (m : Nat) (X : List UInt8), m ≤ n ∧ x = .int .u64 m ∧ Tu.digs m ++ X = D ∧ X.length ≤ 8 ∧ St w0 wr M (er 5 1 v X.length (bv X) :: eb G 42 [.string (str s), .int .u64 (n : Int), .bool false] :: L)) (fun _ x _ => (intOf x).toNat)
  case atStart => exact ⟨n, [], Nat.le_refl _, rfl, by rw [List.append_nil, HD.out], by simp, HN2⟩
  case round =>
    obtain ⟨m, X, hm, rfl, hX, hX8, H1⟩ := hrel
    clear HN2 H
    obtain ⟨A1, c1, rfl, hc1, hA1⟩ := H1.shape' 0 rfl
    have HX := Lib.hid hX
    clear hX
    by_cases h0 : 0 < m
    · obtain ⟨q, hq⟩ : ∃ q, q = m / 256 := ⟨_, rfl⟩
      obtain ⟨b, hb⟩ : ∃ b : UInt8, b = UInt8.ofNat m := ⟨_, rfl⟩
      have hbm : b.toNat = m % 256 := by rw [hb]; simp
      have e1 : (m : Int) % 256 = (b.toNat : Int) := by omega
      have e1' : (m : Int).tmod 256 = (b.toNat : Int) := by rw [Int.tmod_eq_emod_of_nonneg (by omega)]; exact e1
      have e2 : (m : Int) / 256 = (q : Int) := by omega
      have e2' : (m : Int).tdiv 256 = (q : Int) := by rw [Int.tdiv_eq_ediv_of_nonneg (by omega)]; exact e2
      have hbl := b.toNat_lt
      have e3 : (b.toNat : Int) % 256 = (b.toNat : Int) := by omega
      have hdd : Tu.digs q ++ (b :: X) = D := by
        have h1 := HX.out
        rw [Tu.digs_pos (by omega : m ≠ 0), ← hq, ← hb] at h1
        rw [← h1]
        simp
      have hqm : q < m := by omega
      have hbX : (b :: X).length ≤ 8 := by
        have := congrArg List.length hdd
        rw [List.length_append] at this
        omega
      have q1 : (0 : Int) < (m : Int) := by omega
      have HDD := Lib.hid hdd
      have HBX := Lib.hid hbX
      have HQM := Lib.hid hqm
      have H2 := H1.lit [.int .u8 (b.toNat : Int)] 5 (by simp [maxLen])
      have r2 := er_RB (H2.get 1 rfl)
      clear hdd hbX hq hb hbm hqm
      go_wp2_with (at_builtin; refine wpList_append_st H2 (by rfl) (.tmp 45) (.tmp 46) 47 (by rfl) Tryd.info5 Tryd.underlying47 (by rfl) A1 X.length c1 X (by rfl) (by rfl) hA1 r2 (by simp; omega) ?_)
      intro v3 w3 H3
      have H4 : St w0 w3 M (er 5 1 v3 (b :: X).length (bv (b :: X)) :: eb G 42 [.string (str s), .int .u64 (n : Int), .bool false] :: L) := by
        have h := H3.d1
        rw [show (b :: X).length = [Value.int .u8 (b.toNat : Int)].length + X.length from by simp; omega]
        exact h
      clear H1 H2 H3 r2
      go_wp2
      refine ⟨⟨q, b :: X, by have := HQM.out; omega, rfl, HDD.out, HBX.out, H4⟩, ?_⟩
      have := HQM.out
      simp [intOf]
      omega
    · obtain rfl : m = 0 := by omega
      have hXD : X = D := by have := HX.out; rwa [Tu.digs_zero, List.nil_append] at this
      subst hXD
      obtain ⟨T, hT⟩ : ∃ T : UInt8, T = UInt8.ofNat (16 + X.length) := ⟨_, rfl⟩
      have hTn : T.toNat = 16 + X.length := by rw [hT]; simp; omega
      have e3 : (16 : Int) + (X.length : Int) = (T.toNat : Int) := by omega
      have hTl := T.toNat_lt
      have e4 : (T.toNat : Int) % 256 = (T.toNat : Int) := by omega
      have hO3 : O = T :: X := by rw [hT]; exact HO.out
      have H2 := H1.lit [.int .u8 (T.toNat : Int)] 5 (by simp [maxLen])
      have r2 := er_RB (H2.get 1 rfl)
      have HO3 := Lib.hid hO3
      clear hO3 hT hTn h0
      go_wp2_with (at_builtin; refine wpList_append_st H2 (by rfl) (.tmp 52) (.tmp 53) 47 (by rfl) Tryd.info5 Tryd.underlying47 (by rfl) A1 X.length c1 X (by rfl) (by rfl) hA1 r2 (by simp; omega) ?_)
      intro v3 w3 H3
      go_wp2
      go_ret
      refine ⟨_, rfl, ?_⟩
      rw [HO3.out, show (T :: X).length = [Value.int .u8 (T.toNat : Int)].length + X.length from by simp; omega]
      exact H3.d1.d1
theorem rone_any (H : St w0 w M L) (p : Tu.Part) (hp : p.num < 18446744073709551616) (ht : p.text.length ≤ 1000000) :
    Calls Tryd.prog 28 #[pv p] w fun e w' => ∃ v, e = .returned v ∧ St w0 w' M (er 5 1 v (Tu.one p).length (bv (Tu.one p)) :: L) := by
  obtain ⟨s, n, b⟩ := p
  cases b with
  | true => exact rone_text H s n ht
  | false => exact rone_num H s n hp
end
end Go.Proofs.YtbmiifglpjeegaaDoor
