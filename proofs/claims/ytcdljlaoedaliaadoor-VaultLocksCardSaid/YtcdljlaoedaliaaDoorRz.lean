/- The contract of the reference's Of. -/
import Derived.Test.YtcdljlaoedaliaaDoorCo
import Derived.Test.YtcdljlaoedaliaaDoorHu
import Derived.Test.YtcdljlaoedaliaaDoorPt
import Derived.Deep.Cut
set_option linter.unusedVariables false
set_option linter.unusedSimpArgs false
namespace Go.Proofs.YtcdljlaoedaliaaDoor
open Go.RowKit Wd
/-- The digest's first bytes, the rest not yet written. -/
def digb (V : Sha.V8) (n : Nat) : List UInt8 := (Sha.digest V).take n ++ List.replicate (32 - n) 0
theorem digb_length (V : Sha.V8) (n : Nat) (h : n ≤ 32) : (digb V n).length = 32 := by
  unfold digb
  rw [List.length_append, List.length_take, digest_len, List.length_replicate]
  omega
theorem digest_at (V : Sha.V8) (j r : Nat) (hj : j < 8) (hr : r < 4) : (Sha.digest V)[4 * j + r]? = some (UInt8.ofNat ((V.list.getD j 0).toNat / 2 ^ (24 - 8 * r))) := by
  have h1 : j = 0 ∨ j = 1 ∨ j = 2 ∨ j = 3 ∨ j = 4 ∨ j = 5 ∨ j = 6 ∨ j = 7 := by omega
  have h2 : r = 0 ∨ r = 1 ∨ r = 2 ∨ r = 3 := by omega
  have e0 : ∀ n : Nat, n / 1 = n := Nat.div_one
  rcases h1 with rfl | rfl | rfl | rfl | rfl | rfl | rfl | rfl <;> rcases h2 with rfl | rfl | rfl | rfl <;> first | rfl | (simp [Sha.digest, Sha.V8.list])
theorem digb_set (V : Sha.V8) (n j r : Nat) (hn : n < 32) (hnj : n = 4 * j + r) (hj : j < 8 ∧ r < 4) (y : UInt32) (b : UInt8) (hy : y = V.list.getD j 0) (hb : b = UInt8.ofNat (y.toNat / 2 ^ (24 - 8 * r))) : (bv (digb V n)).set n (.int .u8 (b.toNat : Int)) = bv (digb V (n + 1)) := by
  have hd : (Sha.digest V)[n]? = some b := by rw [hnj, digest_at V j r hj.1 hj.2, hb, hy]
  have hl : n < (Sha.digest V).length := by rw [digest_len]; exact hn
  have e1 : (Sha.digest V).take (n + 1) = (Sha.digest V).take n ++ [b] := by
    rw [List.take_succ_eq_append_getElem hl]
    rw [List.getElem?_eq_getElem hl] at hd
    injection hd with hd
    rw [hd]
  have e2 : List.replicate (32 - n) (0 : UInt8) = 0 :: List.replicate (32 - (n + 1)) 0 := by rw [show 32 - n = (32 - (n + 1)) + 1 from by omega]; rfl
  have hlt : ((Sha.digest V).take n).length = n := by rw [List.length_take, digest_len]; omega
  unfold digb
  rw [e1, e2]
  unfold bv
  rw [List.map_append, List.map_append, List.map_append, List.map_cons, List.set_append_right _ _ (by rw [List.length_map, hlt]; exact Nat.le_refl _), List.length_map, hlt, Nat.sub_self, List.set_cons_zero, List.append_assoc]
  rfl
theorem Tryd.builtO : Tryd.prog.built 40 [] = some (bv (List.replicate 32 0)).toArray := by kernel_rfl
theorem wv8 (v : Sha.V8) : (Sha.wv v.list).length = 8 := rfl
section
variable {w0 w : World} {M : Mem} {L : List Ent}
set_option maxRecDepth 100000 in
set_option maxHeartbeats 4000000 in
theorem rof_any (H : St w0 w M L) {A : Option Addr} {c : Nat} {l : List UInt8} (hA : A = none → c = 0) (hl : Sr w0 M L A l) (hn : l.length < 1000000000000) :
    Calls Tryd.prog 42 #[.slice A l.length c] w fun e w' => e = .returned (.agg (bv (Sha.sha l)).toArray) ∧ St w0 w' M L := by
  obtain ⟨D, hD⟩ : ∃ D, D = Sha.sha l := ⟨_, rfl⟩
  rw [← hD]
  have HD := Lib.hid hD
  clear hD
  go_enter Tryd.func42, Tryd.ntmps42
  go_upto_region 1 with fail
  have H1 := H.new (bv (List.replicate 32 0)) 40
  rw [show (Obj.cells #[.int .u8 0, .int .u8 0, .int .u8 0, .int .u8 0, .int .u8 0, .int .u8 0, .int .u8 0, .int .u8 0, .int .u8 0, .int .u8 0, .int .u8 0, .int .u8 0, .int .u8 0, .int .u8 0, .int .u8 0, .int .u8 0, .int .u8 0, .int .u8 0, .int .u8 0, .int .u8 0, .int .u8 0, .int .u8 0, .int .u8 0, .int .u8 0, .int .u8 0, .int .u8 0, .int .u8 0, .int .u8 0, .int .u8 0, .int .u8 0, .int .u8 0, .int .u8 0] 40 (0, 0)) = .cells (bv (List.replicate 32 0)).toArray 40 from rfl]
  generalize hw1 : w.alloc (.cells (bv (List.replicate 32 0)).toArray 40) = w1 at *
  generalize hob : w.heap.size = rb at *
  obtain ⟨zs, hzs⟩ : ∃ zs, zs = bv (List.replicate 32 0) := ⟨_, rfl⟩
  rw [← hzs] at H1
  have hzl : zs.length = 32 := by rw [hzs, bv_length, List.length_replicate]
  have HZS := Lib.hid hzl
  clear hw1 hob hzs hzl
  have H2 := H1.lit0 5
  have r2 := hl.now H2.d0.d0
  go_wp2_with (at_builtin; refine wpList_append_st H2 (by rfl) (.tmp 12) (.tmp 13) 42 (by rfl) Tryd.info5 Tryd.underlying42 (by rfl) A l.length c l (by rfl) rfl hA r2 (by omega) ?_)
  intro v1 w2 H3
  try simp only [Nat.zero_add, List.nil_append] at H3
  clear H2 r2
  have H4 := H3.lit (bv [128]) 5 (by show 1 ≤ maxLen; decide)
  go_wp2_with (at_builtin; refine wpList_append_st H4.f1 (by rfl) (.tmp 15) (.tmp 16) 42 (by rfl) Tryd.info5 Tryd.underlying42 (by rfl) (some ⟨w2.heap.size, 0, none⟩) 1 1 [128] (by rfl) rfl (by rintro ⟨⟩) (er_RB (H4.get 0 rfl)) (by omega) ?_)
  intro v2 w3 H5
  have H5 := H5.d1
  rw [← bv_append] at H5
  clear H4 H3
  obtain ⟨Z, hZ⟩ : ∃ z, z = (119 - l.length % 64) % 64 := ⟨_, rfl⟩
  have HZ := Lib.hid hZ
  have hz64 : Z < 64 := by omega
  clear hZ
  go_wp2
  go_loopw [3, 4] (fun v i wr => ∃ z : Nat, z ≤ Z ∧ i = .int .i64 z ∧ St w0 wr M (er 5 1 v (l.length + 1 + z) (bv (l ++ [128] ++ List.replicate z 0)) :: eb rb 40 zs :: L)) (fun _ i _ => Z - (intOf i).toNat)
  case atStart => exact ⟨0, by omega, rfl, by rw [List.replicate_zero, List.append_nil]; exact H5⟩
  case round =>
    obtain ⟨z, hz, rfl, H6⟩ := hrel
    clear H5 H1
    obtain ⟨L1, hL⟩ : ∃ x, x = l.length + 1 + z := ⟨_, rfl⟩
    obtain ⟨T0, hT0⟩ : ∃ x, x = l ++ [128] ++ List.replicate z (0 : UInt8) := ⟨_, rfl⟩
    rw [← hL, ← hT0] at H6
    have HT0 := Lib.hid hT0
    clear hT0
    obtain ⟨A1, c1, rfl, hc1⟩ := H6.shape 0 rfl
    have hzz := HZ.out
    have zl : (z : Int) < 64 := by omega
    have l0 : (0 : Int) ≤ (L1 : Int) := by omega
    have l1 : L1 < 1000000000100 := by omega
    by_cases hlt : z < Z
    · have hd : (((L1 : Int) % 64) != 56) = true := by
        have : L1 % 64 ≠ 56 := by omega
        simp; omega
      have HL := Lib.hid hL
      have HLT := Lib.hid hlt
      clear hL hlt hzz hz
      have H7 := H6.lit (bv [0]) 5 (by show 1 ≤ maxLen; decide)
      go_wp2_with (at_builtin; refine wpList_append_st H7.f1 (by rfl) (.tmp 28) (.tmp 29) 42 (by rfl) Tryd.info5 Tryd.underlying42 (by rfl) (some ⟨wr.heap.size, 0, none⟩) 1 1 [0] (by rfl) rfl (by rintro ⟨⟩) (er_RB (H7.get 0 rfl)) (by omega) ?_)
      intro v3 w4 H8
      have H8 := H8.d1
      rw [← bv_append, show T0 ++ [0] = l ++ [128] ++ List.replicate (z + 1) 0 from by rw [HT0.out, List.append_assoc, ← List.replicate_succ'], show L1 + 1 = l.length + 1 + (z + 1) from by rw [HL.out]; omega] at H8
      clear H7 H6
      go_wp2
      exact ⟨⟨z + 1, by have := HLT.out; omega, by go_num, H8⟩, by have := HLT.out; simp [intOf]; omega⟩
    · obtain rfl : z = Z := by omega
      have hd : (((L1 : Int) % 64) != 56) = false := by
        have : L1 % 64 = 56 := by omega
        simp; omega
      have e1 : (l.length : Int) % 18446744073709551616 = (l.length : Int) := by omega
      obtain ⟨N8, hN8⟩ : ∃ x, x = 8 * l.length := ⟨_, rfl⟩
      have e2 : (l.length : Int) * 8 % 18446744073709551616 = (N8 : Int) := by omega
      have HN8 := Lib.hid hN8
      have HL := Lib.hid hL
      have e3 : (l.length : Int) * 8 = (N8 : Int) := by omega
      have hNb : (N8 : Int) < 18446744073709551616 := by omega
      clear hlt hzz hz hN8 hL e1 e2
      go_wp2
      clear e3
      go_loopw [3, 6] (fun v j wr => ∃ q : Nat, q ≤ 8 ∧ j = .int .i64 (7 - (q : Int)) ∧ St w0 wr M (er 5 1 v (L1 + q) (bv (T0 ++ (Sha.be64 N8).take q)) :: eb rb 40 zs :: L))
        (fun _ j _ => (intOf j + 1).toNat)
      case atStart => exact ⟨0, by omega, rfl, by rw [List.take_zero, List.append_nil]; exact H6⟩
      case round =>
        obtain ⟨q, hq, rfl, H8⟩ := hrel
        clear H6
        obtain ⟨A2, c2, rfl, hc2⟩ := H8.shape 0 rfl
        have h8 : q = 0 ∨ q = 1 ∨ q = 2 ∨ q = 3 ∨ q = 4 ∨ q = 5 ∨ q = 6 ∨ q = 7 ∨ q = 8 := by omega
        clear hq
        obtain ⟨T2, hT2⟩ : ∃ x, x = T0 ++ (Sha.be64 N8).take q := ⟨_, rfl⟩
        rw [← hT2] at H8
        have HT2 := Lib.hid hT2
        clear hT2
        rcases h8 with rfl | rfl | rfl | rfl | rfl | rfl | rfl | rfl | rfl
        · have ej : (7 - (((0 : Nat)) : Int)) = 7 := rfl
          rw [ej]
          obtain ⟨Bq, hB⟩ : ∃ x : UInt8, x = UInt8.ofNat (N8 / 72057594037927936) := ⟨_, rfl⟩
          have eB : (N8 : Int) / 72057594037927936 % 256 = (Bq.toNat : Int) := by rw [hB]; simp; try omega
          have eB2 : (N8 : Int) / 72057594037927936 = (Bq.toNat : Int) := by omega
          have H9 := H8.lit (bv [Bq]) 5 (by show 1 ≤ maxLen; decide)
          have HB := Lib.hid hB
          clear hB hNb
          go_wp2_with (at_builtin; refine wpList_append_st H9.f1 (by rfl) (.tmp 39) (.tmp 46) 42 (by rfl) Tryd.info5 Tryd.underlying42 (by rfl) (some ⟨wr.heap.size, 0, none⟩) 1 1 [Bq] (by rfl) rfl (by rintro ⟨⟩) (er_RB (H9.get 0 rfl)) (by omega) ?_)
          intro v3 w3 HA
          have HA := HA.d1
          rw [← bv_append, show T2 ++ [Bq] = T0 ++ (Sha.be64 N8).take (0 + 1) from by rw [HT2.out, List.append_assoc, HB.out]; rfl] at HA
          clear H9 H8
          go_wp2
          exact ⟨⟨0 + 1, by omega, by rfl, HA⟩, by simp [intOf]⟩
        · have ej : (7 - (((1 : Nat)) : Int)) = 6 := rfl
          rw [ej]
          obtain ⟨Bq, hB⟩ : ∃ x : UInt8, x = UInt8.ofNat (N8 / 281474976710656) := ⟨_, rfl⟩
          have eB : (N8 : Int) / 281474976710656 % 256 = (Bq.toNat : Int) := by rw [hB]; simp; try omega
          skip
          have H9 := H8.lit (bv [Bq]) 5 (by show 1 ≤ maxLen; decide)
          have HB := Lib.hid hB
          clear hB hNb
          go_wp2_with (at_builtin; refine wpList_append_st H9.f1 (by rfl) (.tmp 39) (.tmp 46) 42 (by rfl) Tryd.info5 Tryd.underlying42 (by rfl) (some ⟨wr.heap.size, 0, none⟩) 1 1 [Bq] (by rfl) rfl (by rintro ⟨⟩) (er_RB (H9.get 0 rfl)) (by omega) ?_)
          intro v3 w3 HA
          have HA := HA.d1
          rw [← bv_append, show T2 ++ [Bq] = T0 ++ (Sha.be64 N8).take (1 + 1) from by rw [HT2.out, List.append_assoc, HB.out]; rfl] at HA
          clear H9 H8
          go_wp2
          exact ⟨⟨1 + 1, by omega, by rfl, HA⟩, by simp [intOf]⟩
        · have ej : (7 - (((2 : Nat)) : Int)) = 5 := rfl
          rw [ej]
          obtain ⟨Bq, hB⟩ : ∃ x : UInt8, x = UInt8.ofNat (N8 / 1099511627776) := ⟨_, rfl⟩
          have eB : (N8 : Int) / 1099511627776 % 256 = (Bq.toNat : Int) := by rw [hB]; simp; try omega
          skip
          have H9 := H8.lit (bv [Bq]) 5 (by show 1 ≤ maxLen; decide)
          have HB := Lib.hid hB
          clear hB hNb
          go_wp2_with (at_builtin; refine wpList_append_st H9.f1 (by rfl) (.tmp 39) (.tmp 46) 42 (by rfl) Tryd.info5 Tryd.underlying42 (by rfl) (some ⟨wr.heap.size, 0, none⟩) 1 1 [Bq] (by rfl) rfl (by rintro ⟨⟩) (er_RB (H9.get 0 rfl)) (by omega) ?_)
          intro v3 w3 HA
          have HA := HA.d1
          rw [← bv_append, show T2 ++ [Bq] = T0 ++ (Sha.be64 N8).take (2 + 1) from by rw [HT2.out, List.append_assoc, HB.out]; rfl] at HA
          clear H9 H8
          go_wp2
          exact ⟨⟨2 + 1, by omega, by rfl, HA⟩, by simp [intOf]⟩
        · have ej : (7 - (((3 : Nat)) : Int)) = 4 := rfl
          rw [ej]
          obtain ⟨Bq, hB⟩ : ∃ x : UInt8, x = UInt8.ofNat (N8 / 4294967296) := ⟨_, rfl⟩
          have eB : (N8 : Int) / 4294967296 % 256 = (Bq.toNat : Int) := by rw [hB]; simp; try omega
          skip
          have H9 := H8.lit (bv [Bq]) 5 (by show 1 ≤ maxLen; decide)
          have HB := Lib.hid hB
          clear hB hNb
          go_wp2_with (at_builtin; refine wpList_append_st H9.f1 (by rfl) (.tmp 39) (.tmp 46) 42 (by rfl) Tryd.info5 Tryd.underlying42 (by rfl) (some ⟨wr.heap.size, 0, none⟩) 1 1 [Bq] (by rfl) rfl (by rintro ⟨⟩) (er_RB (H9.get 0 rfl)) (by omega) ?_)
          intro v3 w3 HA
          have HA := HA.d1
          rw [← bv_append, show T2 ++ [Bq] = T0 ++ (Sha.be64 N8).take (3 + 1) from by rw [HT2.out, List.append_assoc, HB.out]; rfl] at HA
          clear H9 H8
          go_wp2
          exact ⟨⟨3 + 1, by omega, by rfl, HA⟩, by simp [intOf]⟩
        · have ej : (7 - (((4 : Nat)) : Int)) = 3 := rfl
          rw [ej]
          obtain ⟨Bq, hB⟩ : ∃ x : UInt8, x = UInt8.ofNat (N8 / 16777216) := ⟨_, rfl⟩
          have eB : (N8 : Int) / 16777216 % 256 = (Bq.toNat : Int) := by rw [hB]; simp; try omega
          skip
          have H9 := H8.lit (bv [Bq]) 5 (by show 1 ≤ maxLen; decide)
          have HB := Lib.hid hB
          clear hB hNb
          go_wp2_with (at_builtin; refine wpList_append_st H9.f1 (by rfl) (.tmp 39) (.tmp 46) 42 (by rfl) Tryd.info5 Tryd.underlying42 (by rfl) (some ⟨wr.heap.size, 0, none⟩) 1 1 [Bq] (by rfl) rfl (by rintro ⟨⟩) (er_RB (H9.get 0 rfl)) (by omega) ?_)
          intro v3 w3 HA
          have HA := HA.d1
          rw [← bv_append, show T2 ++ [Bq] = T0 ++ (Sha.be64 N8).take (4 + 1) from by rw [HT2.out, List.append_assoc, HB.out]; rfl] at HA
          clear H9 H8
          go_wp2
          exact ⟨⟨4 + 1, by omega, by rfl, HA⟩, by simp [intOf]⟩
        · have ej : (7 - (((5 : Nat)) : Int)) = 2 := rfl
          rw [ej]
          obtain ⟨Bq, hB⟩ : ∃ x : UInt8, x = UInt8.ofNat (N8 / 65536) := ⟨_, rfl⟩
          have eB : (N8 : Int) / 65536 % 256 = (Bq.toNat : Int) := by rw [hB]; simp; try omega
          skip
          have H9 := H8.lit (bv [Bq]) 5 (by show 1 ≤ maxLen; decide)
          have HB := Lib.hid hB
          clear hB hNb
          go_wp2_with (at_builtin; refine wpList_append_st H9.f1 (by rfl) (.tmp 39) (.tmp 46) 42 (by rfl) Tryd.info5 Tryd.underlying42 (by rfl) (some ⟨wr.heap.size, 0, none⟩) 1 1 [Bq] (by rfl) rfl (by rintro ⟨⟩) (er_RB (H9.get 0 rfl)) (by omega) ?_)
          intro v3 w3 HA
          have HA := HA.d1
          rw [← bv_append, show T2 ++ [Bq] = T0 ++ (Sha.be64 N8).take (5 + 1) from by rw [HT2.out, List.append_assoc, HB.out]; rfl] at HA
          clear H9 H8
          go_wp2
          exact ⟨⟨5 + 1, by omega, by rfl, HA⟩, by simp [intOf]⟩
        · have ej : (7 - (((6 : Nat)) : Int)) = 1 := rfl
          rw [ej]
          obtain ⟨Bq, hB⟩ : ∃ x : UInt8, x = UInt8.ofNat (N8 / 256) := ⟨_, rfl⟩
          have eB : (N8 : Int) / 256 % 256 = (Bq.toNat : Int) := by rw [hB]; simp; try omega
          skip
          have H9 := H8.lit (bv [Bq]) 5 (by show 1 ≤ maxLen; decide)
          have HB := Lib.hid hB
          clear hB hNb
          go_wp2_with (at_builtin; refine wpList_append_st H9.f1 (by rfl) (.tmp 39) (.tmp 46) 42 (by rfl) Tryd.info5 Tryd.underlying42 (by rfl) (some ⟨wr.heap.size, 0, none⟩) 1 1 [Bq] (by rfl) rfl (by rintro ⟨⟩) (er_RB (H9.get 0 rfl)) (by omega) ?_)
          intro v3 w3 HA
          have HA := HA.d1
          rw [← bv_append, show T2 ++ [Bq] = T0 ++ (Sha.be64 N8).take (6 + 1) from by rw [HT2.out, List.append_assoc, HB.out]; rfl] at HA
          clear H9 H8
          go_wp2
          exact ⟨⟨6 + 1, by omega, by rfl, HA⟩, by simp [intOf]⟩
        · have ej : (7 - (((7 : Nat)) : Int)) = 0 := rfl
          rw [ej]
          obtain ⟨Bq, hB⟩ : ∃ x : UInt8, x = UInt8.ofNat (N8 / 1) := ⟨_, rfl⟩
          have eB : (N8 : Int) % 256 = (Bq.toNat : Int) := by rw [hB]; simp; try omega
          skip
          have H9 := H8.lit (bv [Bq]) 5 (by show 1 ≤ maxLen; decide)
          have HB := Lib.hid hB
          clear hB hNb
          go_wp2_with (at_builtin; refine wpList_append_st H9.f1 (by rfl) (.tmp 39) (.tmp 46) 42 (by rfl) Tryd.info5 Tryd.underlying42 (by rfl) (some ⟨wr.heap.size, 0, none⟩) 1 1 [Bq] (by rfl) rfl (by rintro ⟨⟩) (er_RB (H9.get 0 rfl)) (by omega) ?_)
          intro v3 w3 HA
          have HA := HA.d1
          rw [← bv_append, show T2 ++ [Bq] = T0 ++ (Sha.be64 N8).take (7 + 1) from by rw [HT2.out, List.append_assoc, HB.out]; rfl] at HA
          clear H9 H8
          go_wp2
          exact ⟨⟨7 + 1, by omega, by rfl, HA⟩, by simp [intOf]⟩
        · have hTT : T2 = Sha.tail l l.length := by
            rw [HT2.out, HT0.out, List.take_of_length_le (Nat.le_refl 8)]
            unfold Sha.tail
            rw [← HZ.out, show 8 * l.length % 2 ^ 64 = N8 from by rw [HN8.out]; have := hNb; omega]
          obtain ⟨m, hm⟩ : ∃ m, L1 + 8 = 64 * m := ⟨(L1 + 8) / 64, by have := HL.out; have := HZ.out; omega⟩
          rw [hm] at H8 hc2 ⊢
          have hTl : T2.length = 64 * m := by have := H8.len 0 rfl; rw [bv_length] at this; omega
          have hm2 : m < 20000000000 := by omega
          have hm1 : 0 < m := by omega
          obtain ⟨T, hT⟩ : ∃ T, T = T2 := ⟨_, rfl⟩
          rw [← hT] at H8 hTT hTl
          obtain ⟨tb, rfl, _, _⟩ := H8.at_ 0 (by omega)
          have hsum : D = Sha.digest (Sha.many m Sha.first T) := by
            rw [HD.out, Sha.sha_whole, ← hTT, hTl, Nat.mul_div_cancel_left _ (by decide)]
          have HSUM := Lib.hid hsum
          have HTL := Lib.hid hTl
          clear hT hTT hTl hm hNb hsum HL HN8 HT0 HT2 HZ hl hA
          go_wp2_with fail
          refine (consts_any H8).mono ?_
          rintro e w4 ⟨rfl, H9⟩
          clear H8
          have HA := (H9.new (Sha.wv (List.replicate 8 0)) 96).newg (Sha.wv (List.replicate 64 0)) 97 (g := w4.heap.size + 1) (by simp)
          have e8 : (Sha.wv Sha.first.list).length = 8 := by rw [Sha.wv_length]; rfl
          have e64 : (Sha.wv Sha.known).length = 64 := by rw [Sha.wv_length]; rfl
          obtain ⟨w5, hst1, HB⟩ := run_store_st (P := Tryd.prog) HA.f1 (cs := Sha.wv Sha.first.list) (by rw [e8, Sha.wv_length, List.length_replicate]) (Sha.wv_one _)
          obtain ⟨w6, hst2, HC⟩ := run_store_st (P := Tryd.prog) HB.f1 (cs := Sha.wv Sha.known) (by rw [e64, Sha.wv_length, List.length_replicate]) (Sha.wv_one _)
          rw [show (Obj.cells (Sha.wv (List.replicate 8 0)).toArray 96 (0, 0)) = .cells #[.int .u32 0, .int .u32 0, .int .u32 0, .int .u32 0, .int .u32 0, .int .u32 0, .int .u32 0, .int .u32 0] 96 from rfl, show (Obj.cells (Sha.wv (List.replicate 64 0)).toArray 97 (0, 0)) = .cells #[.int .u32 0, .int .u32 0, .int .u32 0, .int .u32 0, .int .u32 0, .int .u32 0, .int .u32 0, .int .u32 0, .int .u32 0, .int .u32 0, .int .u32 0, .int .u32 0, .int .u32 0, .int .u32 0, .int .u32 0, .int .u32 0, .int .u32 0, .int .u32 0, .int .u32 0, .int .u32 0, .int .u32 0, .int .u32 0, .int .u32 0, .int .u32 0, .int .u32 0, .int .u32 0, .int .u32 0, .int .u32 0, .int .u32 0, .int .u32 0, .int .u32 0, .int .u32 0, .int .u32 0, .int .u32 0, .int .u32 0, .int .u32 0, .int .u32 0, .int .u32 0, .int .u32 0, .int .u32 0, .int .u32 0, .int .u32 0, .int .u32 0, .int .u32 0, .int .u32 0, .int .u32 0, .int .u32 0, .int .u32 0, .int .u32 0, .int .u32 0, .int .u32 0, .int .u32 0, .int .u32 0, .int .u32 0, .int .u32 0, .int .u32 0, .int .u32 0, .int .u32 0, .int .u32 0, .int .u32 0, .int .u32 0, .int .u32 0, .int .u32 0, .int .u32 0] 97 from rfl] at hst1
          clear HA HB H9
          obtain ⟨ks, hks⟩ : ∃ ks, ks = Sha.known := ⟨_, rfl⟩
          have HKS := Lib.hid hks
          have hkl : (Sha.wv ks).length = 64 := by rw [hks]; exact e64
          have HKL := Lib.hid hkl
          clear hkl
          clear e8 e64
          go_upto_region 13 with fail
          generalize w4.heap.size = g at *
          rw [← hks] at HC
          clear hst1 hst2 hks
          go_wp2
          go_loopw [9] (fun i wr => ∃ k : Nat, k ≤ m ∧ i = .int .i64 ((64 * k : Nat) : Int) ∧ St w0 wr M (eb (g + 1) 97 (Sha.wv ks) :: eb g 96 (Sha.wv (Sha.many k Sha.first T).list) :: er 5 1 (.slice (some ⟨tb, 0, none⟩) (64 * m) c2) (64 * m) (bv T) :: eb rb 40 zs :: L)) (fun i _ => 64 * m - (intOf i).toNat)
          case atStart => exact ⟨0, by omega, rfl, HC⟩
          case round =>
            obtain ⟨k, hk, rfl, HD4⟩ := hrel
            clear HC
            by_cases hkm : k < m
            · obtain ⟨C, hC⟩ : ∃ x, x = (T.drop (64 * k)).take 64 := ⟨_, rfl⟩
              obtain ⟨V, hV⟩ : ∃ x, x = Sha.many k Sha.first T := ⟨_, rfl⟩
              obtain ⟨K, hK⟩ : ∃ x, x = 64 * k := ⟨_, rfl⟩
              have hCl : C.length = 64 := by rw [hC, List.length_take, List.length_drop, HTL.out]; omega
              have hV1 : Sha.many (k + 1) Sha.first T = Sha.block V C := by rw [hV, hC]; rfl
              rw [← hV] at HD4
              rw [← hK] at hC ⊢
              obtain ⟨LN, hLN⟩ : ∃ x, x = 64 * m := ⟨_, rfl⟩
              rw [← hLN] at HD4 hc2 ⊢
              have q0 : (K : Int) < (LN : Int) := by omega
              have q1 : (K : Int) + 64 ≤ (LN : Int) := by omega
              have q2 : (K : Int) + 64 ≤ (c2 : Int) := by omega
              have q3 : (0 : Int) ≤ (K : Int) := by omega
              have q4 : (K : Int) < 9000000000000 := by omega
              obtain ⟨KE, hKE⟩ : ∃ x, x = K + 64 := ⟨_, rfl⟩
              have r1 : IntKind.i64.wrap ((K : Int) + 64) = (KE : Int) := by rw [IntKind.wrap_i64]; omega
              have r2 : (KE : Int) ≤ (c2 : Int) := by omega
              have r3 : K ≤ KE := by omega
              have r4 : ¬ c2 = K := by omega
              have r5 : KE - K = 64 := by omega
              have r6 : (0 : Int) ≤ (KE : Int) := by omega
              have HKE := Lib.hid hKE
              clear hKE
              have HC2 := Lib.hid hC
              have HV1 := Lib.hid hV1
              have HCL := Lib.hid hCl
              have HKM := Lib.hid hkm
              have HK := Lib.hid hK
              have HLN := Lib.hid hLN
              clear hC hV hV1 hCl hkm hK hLN hk
              go_wp2
              refine Pt.wp_plan (fun w' => Blk w' g 96 (Sha.wv V.list) ∧ Blk w' (g + 1) 97 (Sha.wv ks)) (Pt.prs [2, 3, 4, 5, 6] (Pt.rds [0, 1] (.go 7 (.st 8 .fin)))) [8] Tryd.mixed (by kernel_rfl) (fun _ _ d _ _ h => by cases d <;> exact h) ⟨HD4.drew.blk 1 rfl, HD4.drew.blk 0 rfl⟩ ?_
              simp only [Pt.toL, Pt.rds, Pt.prs, Pt.at_, List.drop_succ_cons, List.drop_zero]
              iterate 5 (refine Pt.pr_run (v := ?_) (by rfl) ?_ ?_; rotate_left; (focus (intro w'; go_simp; with_reducible rfl)); simp only [Act.put, List.setIfInBounds_toArray, List.set_cons_zero, List.set_cons_succ])
              (refine Pt.rd_load (by rfl) 96 (.tmp 7) (by rfl) g 0 (by rfl) (Sha.wv V.list) _ (fun _ h => h.1.range 0 8 _ rfl) Tryd.underlying96 rfl (by exact Tryd.sizeH) ?_; simp only [Act.put, List.setIfInBounds_toArray, List.set_cons_zero, List.set_cons_succ])
              (refine Pt.rd_load (by rfl) 97 (.tmp 8) (by rfl) (g + 1) 0 (by rfl) (Sha.wv ks) _ (fun _ h => h.2.range 0 64 _ (by rw [List.drop_zero, List.take_of_length_le (Nat.le_of_eq HKL.out)])) Tryd.underlying97 rfl (by rw [HKL.out]; exact Tryd.sizeW) ?_; simp only [Act.put, List.setIfInBounds_toArray, List.set_cons_zero, List.set_cons_succ])
              have hrb := (er_RB (HD4.drew.get 2 rfl)).sub (k := K) (m := 64)
              rw [← HC2.out, Nat.zero_add] at hrb
              obtain ⟨b', o', he, hblt, hrr⟩ := hrb (by intro h0; have := HCL.out; rw [h0] at this; simp at this)
              injection he with he
              injection he with e1 e2
              subst e1 e2
              have hstep := step_any V C tb K (c2 - K) wr.drew HCL.out hrr hblt
              rw [← HKS.out] at hstep
              have HSTEP := Lib.hid hstep
              clear hstep hrr hblt
              refine Pt.run_go ?_
              go_wp2_with fail
              refine HSTEP.out.mono ?_
              rintro e w7 ⟨rfl, hb7⟩
              have HE := HD4.drew.belowK hb7
              clear HSTEP hb7
              go_wp2_with fail
              refine Pt.same ⟨HE.blk 1 rfl, HE.blk 0 rfl⟩ ?_
              refine Pt.run_st ?_
              refine wpList_store_st HE.f1 (by rfl) 96 (.tmp 7) (.tmp 65) (by rfl) 0 (Sha.wv (Sha.block V C).list) (by rfl) (by rfl) (by rw [wv8, wv8]; exact Nat.le_refl _) (by rw [wv8]; exact Tryd.sizeH) (Sha.wv_one _) ?_
              intro w8 HF
              rw [ins_all (Sha.wv V.list) (Sha.wv (Sha.block V C).list) (by rw [wv8, wv8])] at HF
              have HF := HF.f1
              clear HE HD4
              refine wpList_nil ?_
              simp only [Pl.Then, Act.put]
              refine Pt.run_fin ?_
              go_wp2
              exact ⟨⟨k + 1, by have := HKM.out; omega, by have := HK.out; congr 1; omega, by rw [HV1.out]; exact HF⟩, by have := HK.out; have := HKM.out; have := HLN.out; simp [intOf]; omega⟩
            · obtain rfl : k = m := by omega
              obtain ⟨V, hV⟩ : ∃ x, x = Sha.many k Sha.first T := ⟨_, rfl⟩
              rw [← hV] at HD4
              have HV := Lib.hid hV
              clear hV hkm hk
              go_upto_region 17 with fail
              refine wp_region_lit ?_
              refine wpList_build_none (by rfl) 40 (by rfl) Tryd.builtO ?_
              simp only [Act.put, List.setIfInBounds_toArray, List.set_cons_zero, List.set_cons_succ]
              refine wpList_alloc_st HD4 (by rfl) 40 (by rfl) Tryd.zero24 ?_
              intro ob w7 HE
              simp only [Act.put, List.setIfInBounds_toArray, List.set_cons_zero, List.set_cons_succ]
              refine wpList_store_st HE (by rfl) 40 (.tmp 10) (.tmp 66) (by rfl) 0 (bv (List.replicate 32 0)) (by rfl) (by rfl) (by exact Nat.le_refl 32) (by exact Tryd.size24) (bv_one _) ?_
              intro w8 HF
              have HG : St w0 w8 M (eb ob 40 (bv (digb V 0)) :: eb (g + 1) 97 (Sha.wv ks) :: eb g 96 (Sha.wv V.list) :: er 5 1 (.slice (some ⟨tb, 0, none⟩) (64 * k) c2) (64 * k) (bv T) :: eb rb 40 zs :: L) := HF
              clear HF HE HD4
              refine wpList_nil ?_
              simp only [Act.put]
              go_wp2
              go_loopw [11] (fun i wr => ∃ n : Nat, n ≤ 32 ∧ i = .int .i64 n ∧ St w0 wr M (eb ob 40 (bv (digb V n)) :: eb (g + 1) 97 (Sha.wv ks) :: eb g 96 (Sha.wv V.list) :: er 5 1 (.slice (some ⟨tb, 0, none⟩) (64 * k) c2) (64 * k) (bv T) :: eb rb 40 zs :: L)) (fun i _ => 32 - (intOf i).toNat)
              case atStart => exact ⟨0, by omega, rfl, HG⟩
              case round =>
                obtain ⟨n, hn3, rfl, HE⟩ := hrel
                clear HG
                by_cases hn32 : n < 32
                · obtain ⟨j, hj0⟩ : ∃ j, j = n / 4 := ⟨_, rfl⟩
                  obtain ⟨y, hy⟩ : ∃ y : UInt32, y = V.list.getD j 0 := ⟨_, rfl⟩
                  have d1 : (n : Int) / 4 = (j : Int) := by omega
                  have d2 : (j : Int) ≤ 7 := by omega
                  have d3 : (0 : Int) ≤ (j : Int) := by omega
                  have cy : wr.cell? ⟨g, j, none⟩ = some (.int .u32 (y.toNat : Int)) := by rw [HE.cell 2 rfl, hy]; exact Sha.wv_at _ _ (by rw [Sha.V8.list_length]; omega)
                  have co : wr.cell? ⟨ob, n, none⟩ = some (.int .u8 (((digb V n).getD n 0).toNat : Int)) := by
                    rw [HE.cell 0 rfl, bv_get, List.getD_eq_getElem?_getD, List.getElem?_eq_getElem (by rw [digb_length V n hn3]; exact hn32)]
                    rfl
                  obtain ⟨oldb, hob⟩ : ∃ x, x = (digb V n).getD n 0 := ⟨_, rfl⟩
                  rw [← hob] at co
                  have fo := HE.frozen 0 rfl n
                  have n0 : (0 : Int) ≤ (n : Int) := by omega
                  have n1 : (n : Int) < 32 := by omega
                  clear hob
                  have h4 : n % 4 = 0 ∨ n % 4 = 1 ∨ n % 4 = 2 ∨ n % 4 = 3 := by omega
                  rcases h4 with h4 | h4 | h4 | h4
                  · have d4 : (n : Int) % 4 = 0 := by omega
                    obtain ⟨b, hb⟩ : ∃ x : UInt8, x = UInt8.ofNat (y.toNat / 16777216) := ⟨_, rfl⟩
                    have eb1 : (y.toNat : Int) / 16777216 % 256 = (b.toNat : Int) := by rw [hb]; simp; try omega
                    have eb2 : (y.toNat : Int) / 16777216 = (b.toNat : Int) := by have := y.toNat_lt; omega
                    have hset := digb_set V n j 0 hn32 (by omega) ⟨by omega, by omega⟩ y b hy (by rw [hb])
                    have HSET := Lib.hid hset
                    have HNL := Lib.hid hn32
                    clear hset hb hy hj0 hn32 hn3 h4
                    go_wp2
                    have HF := HE.set n (.int .u8 (b.toNat : Int))
                    rw [HSET.out] at HF
                    exact ⟨⟨n + 1, by have := HNL.out; omega, by go_num, HF⟩, by have := HNL.out; simp [intOf]; omega⟩
                  · have d4 : (n : Int) % 4 = 1 := by omega
                    obtain ⟨b, hb⟩ : ∃ x : UInt8, x = UInt8.ofNat (y.toNat / 65536) := ⟨_, rfl⟩
                    have eb1 : (y.toNat : Int) / 65536 % 256 = (b.toNat : Int) := by rw [hb]; simp; try omega
                    skip
                    have hset := digb_set V n j 1 hn32 (by omega) ⟨by omega, by omega⟩ y b hy (by rw [hb])
                    have HSET := Lib.hid hset
                    have HNL := Lib.hid hn32
                    clear hset hb hy hj0 hn32 hn3 h4
                    go_wp2
                    have HF := HE.set n (.int .u8 (b.toNat : Int))
                    rw [HSET.out] at HF
                    exact ⟨⟨n + 1, by have := HNL.out; omega, by go_num, HF⟩, by have := HNL.out; simp [intOf]; omega⟩
                  · have d4 : (n : Int) % 4 = 2 := by omega
                    obtain ⟨b, hb⟩ : ∃ x : UInt8, x = UInt8.ofNat (y.toNat / 256) := ⟨_, rfl⟩
                    have eb1 : (y.toNat : Int) / 256 % 256 = (b.toNat : Int) := by rw [hb]; simp; try omega
                    skip
                    have hset := digb_set V n j 2 hn32 (by omega) ⟨by omega, by omega⟩ y b hy (by rw [hb])
                    have HSET := Lib.hid hset
                    have HNL := Lib.hid hn32
                    clear hset hb hy hj0 hn32 hn3 h4
                    go_wp2
                    have HF := HE.set n (.int .u8 (b.toNat : Int))
                    rw [HSET.out] at HF
                    exact ⟨⟨n + 1, by have := HNL.out; omega, by go_num, HF⟩, by have := HNL.out; simp [intOf]; omega⟩
                  · have d4 : (n : Int) % 4 = 3 := by omega
                    obtain ⟨b, hb⟩ : ∃ x : UInt8, x = UInt8.ofNat (y.toNat / 1) := ⟨_, rfl⟩
                    have eb1 : (y.toNat : Int) % 256 = (b.toNat : Int) := by rw [hb]; simp; try omega
                    skip
                    have hset := digb_set V n j 3 hn32 (by omega) ⟨by omega, by omega⟩ y b hy (by rw [hb])
                    have HSET := Lib.hid hset
                    have HNL := Lib.hid hn32
                    clear hset hb hy hj0 hn32 hn3 h4
                    go_wp2
                    have HF := HE.set n (.int .u8 (b.toNat : Int))
                    rw [HSET.out] at HF
                    exact ⟨⟨n + 1, by have := HNL.out; omega, by go_num, HF⟩, by have := HNL.out; simp [intOf]; omega⟩
                · obtain rfl : n = 32 := by omega
                  have hdd : digb V 32 = Sha.digest V := by
                    unfold digb
                    rw [Nat.sub_self, List.replicate_zero, List.append_nil, List.take_of_length_le (by rw [digest_len]; exact Nat.le_refl _)]
                  rw [hdd, HV.out, ← HSUM.out] at HE
                  have hdl : (bv D).length = 32 := by rw [bv_length, HD.out, sha_len]
                  have hr := (HE.blk 0 rfl).range 0 32 (bv D) (by rw [List.drop_zero, List.take_of_length_le (Nat.le_of_eq hdl)])
                  have HR := Lib.hid hr
                  have HDL := Lib.hid hdl
                  clear hdd hr hdl
                  go_upto_region 22 with fail
                  refine wp_region_lit ?_
                  refine wpList_load_mid (by rfl) 40 (.tmp 10) (by rfl) ob 0 (by rfl) (bv D) _ HR.out Tryd.underlying40 rfl (by rw [HDL.out]; exact Tryd.size24) ?_
                  refine wpList_store_st HE.f4 (by rfl) 40 (.tmp 2) (.tmp 84) (by rfl) 0 (bv D) (by rfl) (by rfl) (by rw [HDL.out, HZS.out]; exact Nat.le_refl _) (by rw [HDL.out]; exact Tryd.size24) (bv_one _) ?_
                  intro w9 HF
                  rw [ins_all zs (bv D) (by rw [HDL.out, HZS.out])] at HF
                  refine wpList_nil ?_
                  simp only [Act.put]
                  go_wp2
                  refine ret_row HF (by rfl) (by rfl) Tryd.underlying40 (by rfl) (by rw [HDL.out]; exact Tryd.size24) rfl ?_
                  exact ⟨rfl, HF.d0.d0.d0.d0.d0⟩
end
end Go.Proofs.YtcdljlaoedaliaaDoor
