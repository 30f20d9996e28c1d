/- The contract of sha's Hash.Sum. -/
import Derived.Test.YtcdljlaoedaliaaDoorT8
import Derived.Test.YtcdljlaoedaliaaDoorHw
set_option linter.unusedVariables false
set_option linter.unusedSimpArgs false
namespace Go.Proofs.YtcdljlaoedaliaaDoor
open Go.RowKit Wd

theorem own_src {w : World} {base n c : Nat} {e : TypeId} {A : Option Addr} {l : List UInt8} (h : w.ownsRow base e 1 (.slice A n c) n (bv l)) : RB w A l ∧ (A = none → c = 0) ∧ n = l.length := by
  have hn : n = l.length := by have := h.1; rw [bv_length] at this; omega
  refine ⟨fun hl => ?_, fun hA => ?_, hn⟩
  · obtain ⟨g, rfl, hr⟩ := own_rangeA h (by cases l with | nil => exact absurd rfl hl | cons _ _ => simp [hn])
    exact ⟨g, 0, rfl, (h.lt g rfl).2, hr⟩
  · subst hA
    rcases h.2 with ⟨h0, _⟩ | ⟨g, cap, cur, h0, _⟩
    · injection h0
    · injection h0 with h0; cases h0
theorem Wd.RB.alloc_ {w : World} {A : Option Addr} {l : List UInt8} (h : RB w A l) (o : Obj) : RB (w.alloc o) A l := h.below ((Below.refl _ _).alloc (Nat.le_refl _) o)
/-- A slice's length. -/
def slen : Value → Nat
  | .slice _ n _ => n
  | _ => 0
theorem rb_one (w : World) (x : UInt8) : RB (w.alloc (.cells #[.int .u8 (x.toNat : Int)] 5)) (some ⟨w.heap.size, 0, none⟩) [x] := fun _ =>
  ⟨w.heap.size, 0, rfl, (Blk.new w 5 (bv [x])).lt, (Blk.new w 5 (bv [x])).range 0 1 _ rfl⟩
theorem own_alloc_ {w : World} {base n : Nat} {e : TypeId} {size : Nat} {v : Value} {xs : List Value} (h : w.ownsRow base e size v n xs) (o : Obj) : (w.alloc o).ownsRow base e size v n xs :=
  ((Keeps.refl w (fun _ => False)).alloc o).own h (fun _ _ => id)
theorem alloc_le (w : World) (o : Obj) : w.heap.size ≤ (w.alloc o).heap.size := Nat.le_trans (Nat.le_succ _) (Nat.le_of_eq (Array.size_push _).symm)
/-- The digest's first words as bytes, the rest not yet written. -/
def Sha.digs (v : Sha.V8) (n : Nat) : List UInt8 := (Sha.digest v).take (4 * n) ++ List.replicate (32 - 4 * n) 0
theorem Sha.four (y : UInt32) : ∃ b0 b1 b2 b3 : UInt8, (y.toNat : Int) / 16777216 % 256 = (b0.toNat : Int) ∧ (y.toNat : Int) / 65536 % 256 = (b1.toNat : Int) ∧ (y.toNat : Int) / 256 % 256 = (b2.toNat : Int) ∧ (y.toNat : Int) % 256 = (b3.toNat : Int) ∧
    b0 = UInt8.ofNat (y.toNat / 16777216) ∧ b1 = UInt8.ofNat (y.toNat / 65536) ∧ b2 = UInt8.ofNat (y.toNat / 256) ∧ b3 = UInt8.ofNat y.toNat :=
  ⟨_, _, _, _, by simp; try omega, by simp; try omega, by simp; try omega, by simp; try omega, rfl, rfl, rfl, rfl⟩
theorem Tryd.zero24 : (Tryd.prog.info? 40).map (fun i => (i.zero, i.size)) = some (some (.agg (Array.replicate 32 (.int .u8 0))), 32) := by kernel_rfl
theorem Tryd.size24 : (Tryd.prog.info? 40).map (·.size) = some 32 := by kernel_rfl
set_option maxRecDepth 100000 in
set_option maxHeartbeats 4000000 in
theorem hash_sum {w : World} {base g : Nat} {H : Sha.HM} {rv : Value} (hH : IsH w base g H rv) (ht : Tabs w) (hn : H.n < 140737488355328) (hrl : H.rest.length < 64) :
    Calls Tryd.prog 79 #[.pointer (some ⟨g, 0, none⟩)] w fun e w' => e = .returned (.agg (bv H.sum).toArray) ∧ Below w.heap.size w w' := by
  have hgl := hH.blk.lt
  obtain ⟨A, cap, hrv, hcap⟩ := own_slice hH.own
  subst hrv
  obtain ⟨h0, r0, n0⟩ := H
  go_enter Tryd.func79, Tryd.ntmps79
  go_upto_region 1 with fail
  obtain ⟨w0, hw0⟩ : ∃ w0, w0 = w.alloc (.cells (bv (List.replicate 32 0)).toArray 40) := ⟨_, rfl⟩
  have hw1 : w.alloc (.cells #[.int .u8 0, .int .u8 0, .int .u8 0, .int .u8 0, .int .u8 0, .int .u8 0, .int .u8 0, .int .u8 0, .int .u8 0, .int .u8 0, .int .u8 0, .int .u8 0, .int .u8 0, .int .u8 0, .int .u8 0, .int .u8 0, .int .u8 0, .int .u8 0, .int .u8 0, .int .u8 0, .int .u8 0, .int .u8 0, .int .u8 0, .int .u8 0, .int .u8 0, .int .u8 0, .int .u8 0, .int .u8 0, .int .u8 0, .int .u8 0, .int .u8 0, .int .u8 0] 40) = w0 := hw0.symm
  rw [hw1]
  have bR : Blk w0 w.heap.size 40 (bv (List.replicate 32 0)) := by rw [hw0]; exact Blk.new _ _ _
  have hbe0 : Below w.heap.size w w0 := by rw [hw0]; exact (Below.refl _ _).alloc (Nat.le_refl _) _
  have hs0 : w0.heap.size = w.heap.size + 1 := by rw [hw0]; exact Array.size_push _
  have hH0 := hH.below hbe0
  have t0 := ht.below hbe0 ht.lt
  obtain ⟨hrb0', hA0, -⟩ := own_src (l := r0) (n := r0.length) hH0.own
  have hrb0 : RB w0 A r0 := hrb0'
  clear hw0 hw1 hH
  have c0 : w0.cell? ⟨g, 0, none⟩ = some (.bool true) := hH0.blk.cell 0
  have c9 : (w0.alloc (.cells #[] 5)).cell? ⟨g, 9, none⟩ = some (.slice A r0.length cap) := (hH0.blk.alloc _).cell 9
  have O1 : Hid ((w0.alloc (.cells #[] 5)).ownsRow w0.heap.size 5 1 (.slice (some ⟨w0.heap.size, 0, none⟩) 0 0) 0 []) := World.ownsRow_lit (size := 1) w0 #[] 0 (by omega) (by decide) rfl
  have S1 : Hid (w0.heap.size ≤ (w0.alloc (.cells #[] 5)).heap.size) := (Nat.le_trans (Nat.le_succ _) (Nat.le_of_eq (Array.size_push _).symm))
  have R1 := hrb0.alloc_ (.cells #[] 5)
  have hrl' : r0.length < 64 := hrl
  have HS0 := Lib.hid hs0
  clear hs0
  go_wp2_with (at_builtin; refine wpList_append_rb (by rfl) (.tmp 20) (.tmp 24) 42 5 (by rfl) Tryd.info5 Tryd.underlying42 w0.heap.size (.slice (some ⟨w0.heap.size, 0, none⟩) 0 0) 0 [] (by rfl) O1.out A r0.length cap r0 (by rfl) rfl hA0 R1 (by omega) S1.out ?_)
  intro v1 w1 o1 hg1 hob1
  have be1 : Below w0.heap.size w0 w1 := ((Below.refl w0.heap.size w0).alloc (Nat.le_refl _) _).grown hg1 S1.out (fun k hk => by have h2 : some w0.heap.size = some k := hk; injection h2 with h2; omega)
  have o2 := own_alloc_ o1 (.cells #[.int .u8 (128 : UInt8).toNat] 5)
  have O2 : Hid _ := Lib.hid o2
  have S2 := Lib.hid (Nat.le_trans be1.size (alloc_le w1 (.cells #[.int .u8 (128 : UInt8).toNat] 5)))
  have B1 := Lib.hid be1
  clear o1 o2 be1 hg1 hob1 c0 c9 O1 S1 R1
  go_wp2_with (at_builtin; refine wpList_append_rb (by rfl) (.tmp 25) (.tmp 26) 42 5 (by rfl) Tryd.info5 Tryd.underlying42 w0.heap.size v1 r0.length (bv r0) (by rfl) O2.out (some ⟨w1.heap.size, 0, none⟩) 1 1 [128] (by rfl) rfl (by rintro ⟨⟩) (rb_one w1 128) (by omega) S2.out ?_)
  intro v2 w2 o2 hg2 hob2
  have be2 : Below w0.heap.size w0 w2 := (B1.out.alloc B1.out.size _).grown hg2 S2.out (fun k hk => (O2.out.lt k hk).1)
  obtain ⟨Z, hZ⟩ : ∃ z, z = (119 - r0.length % 64) % 64 := ⟨_, rfl⟩
  have HZ := Lib.hid hZ
  have hz64 : Z < 64 := by omega
  clear O2 S2 B1 hg2 hob2 hZ
  go_wp2
  go_loopw [3] (fun v wr => ∃ z : Nat, z ≤ Z ∧ wr.ownsRow w0.heap.size 5 1 v (r0.length + 1 + z) (bv (r0 ++ [128] ++ List.replicate z 0)) ∧ Below w0.heap.size w0 wr)
    (fun v _ => match v with | .slice _ n _ => r0.length + 1 + Z - n | _ => 0)
  case atStart => exact ⟨0, by omega, by rw [List.replicate_zero, List.append_nil, bv_append]; exact o2, be2⟩
  case round =>
    obtain ⟨z, hz, hown, hbe⟩ := hrel
    clear o2 be2
    obtain ⟨L, hL⟩ : ∃ x, x = r0.length + 1 + z := ⟨_, rfl⟩
    rw [← hL] at hown
    obtain ⟨A1, c1, hv, -⟩ := own_slice hown
    subst hv
    have hzz := HZ.out
    by_cases hlt : z < Z
    · have hd : (((L : Int) % 64) != 56) = true := by
        have : L % 64 ≠ 56 := by omega
        simp; omega
      have l0 : (0 : Int) ≤ (L : Int) := by omega
      have O2 := Lib.hid (own_alloc_ hown (.cells #[.int .u8 (0 : UInt8).toNat] 5))
      have S2 := Lib.hid (Nat.le_trans hbe.size (alloc_le wr (.cells #[.int .u8 (0 : UInt8).toNat] 5)))
      have B1 := Lib.hid hbe
      have HL := Lib.hid hL
      have HLT := Lib.hid hlt
      have hLs : L < 200 := by omega
      clear hown hbe hL hlt hzz hz
      go_wp2_with (at_builtin; refine wpList_append_rb (by rfl) (.tmp 32) (.tmp 33) 42 5 (by rfl) Tryd.info5 Tryd.underlying42 w0.heap.size (.slice A1 L c1) L _ (by rfl) O2.out (some ⟨wr.heap.size, 0, none⟩) 1 1 [0] (by rfl) rfl (by rintro ⟨⟩) (rb_one wr 0) (by omega) S2.out ?_)
      intro v3 w3 o3 hg3 hob3
      obtain ⟨A3, c3, hv3, -⟩ := own_slice o3
      subst hv3
      have be3 : Below w0.heap.size w0 w3 := (B1.out.alloc B1.out.size _).grown hg3 S2.out (fun k hk => (O2.out.lt k hk).1)
      have O3 := Lib.hid o3
      clear o3 hg3 hob3
      go_wp2
      refine ⟨⟨z + 1, by have := HLT.out; omega, ?_, be3⟩, ?_⟩
      · have h3 := O3.out
        have e : (r0 ++ 128 :: List.replicate z (0 : UInt8)) ++ [0] = r0 ++ [128] ++ List.replicate (z + 1) 0 := by simp [List.replicate_succ']
        rw [← bv_append, e] at h3
        rw [show r0.length + 1 + (z + 1) = L + 1 from by rw [HL.out]; omega]
        exact h3
      · show r0.length + 1 + Z - (L + 1) < r0.length + 1 + Z - L
        have := HL.out; have := HLT.out; omega
    · obtain rfl : z = Z := by omega
      have hd : (((L : Int) % 64) != 56) = false := by
        have : L % 64 = 56 := by omega
        simp; omega
      have l0 : (0 : Int) ≤ (L : Int) := by omega
      have hHr := hH0.below hbe
      have c10 : wr.cell? ⟨g, 10, none⟩ = some (.int .i64 (n0 : Int)) := hHr.blk.cell 10
      have e1 : (n0 : Int) % 18446744073709551616 = (n0 : Int) := by omega
      obtain ⟨N8, hN8⟩ : ∃ x, x = 8 * n0 := ⟨_, rfl⟩
      have e2 : (n0 : Int) * 8 % 18446744073709551616 = (N8 : Int) := by omega
      have HN8 := Lib.hid hN8
      have HL := Lib.hid hL
      have e3 : (n0 : Int) * 8 = (N8 : Int) := by omega
      have hNb : (N8 : Int) < 18446744073709551616 := by omega
      have hLb : L < 200 := by omega
      clear hlt hzz hz hN8 hL e1 e2
      go_wp2
      clear e3 c10
      obtain ⟨T0, hT0⟩ : ∃ x, x = r0 ++ [128] ++ List.replicate z (0 : UInt8) := ⟨_, rfl⟩
      rw [← hT0] at hown
      have HT0 := Lib.hid hT0
      clear hT0
      go_loopw [3, 5] (fun v j wr => ∃ q : Nat, q ≤ 8 ∧ j = .int .i64 (7 - (q : Int)) ∧ wr.ownsRow w0.heap.size 5 1 v (L + q) (bv (T0 ++ (Sha.be64 N8).take q)) ∧ Below w0.heap.size w0 wr)
        (fun _ j _ => (intOf j + 1).toNat)
      case atStart => exact ⟨0, by omega, rfl, by rw [List.take_zero, List.append_nil]; exact hown, hbe⟩
      case round =>
        obtain ⟨q, hq, rfl, hown2, hbe2⟩ := hrel
        clear hown hbe hHr
        have h8 : q = 0 ∨ q = 1 ∨ q = 2 ∨ q = 3 ∨ q = 4 ∨ q = 5 ∨ q = 6 ∨ q = 7 ∨ q = 8 := by omega
        obtain ⟨L1, hL1⟩ : ∃ x, x = L + q := ⟨_, rfl⟩
        rw [← hL1] at hown2
        obtain ⟨A1', c1', hv1, -⟩ := own_slice hown2
        subst hv1
        rcases h8 with rfl | rfl | rfl | rfl | rfl | rfl | rfl | rfl | h8
        · have ej : (7 - (((0 : Nat)) : Int)) = 7 := rfl
          rw [ej]
          obtain ⟨Bq, hB⟩ : ∃ x : UInt8, x = UInt8.ofNat (N8 / 72057594037927936) := ⟨_, rfl⟩
          have eB : (N8 : Int) / 72057594037927936 % 256 = (Bq.toNat : Int) := by rw [hB]; simp; try omega
          have eB2 : (N8 : Int) / 72057594037927936 = (Bq.toNat : Int) := by omega
          clear hNb
          have O2 := Lib.hid (own_alloc_ hown2 (.cells #[.int .u8 (Bq.toNat : Int)] 5))
          have S2 := Lib.hid (Nat.le_trans hbe2.size (alloc_le wr (.cells #[.int .u8 (Bq.toNat : Int)] 5)))
          have B1 := Lib.hid hbe2
          have HB := Lib.hid hB
          have HL1 := Lib.hid hL1
          have hL1b : L1 < 300 := by omega
          clear hown2 hbe2 hB hL1 hq
          go_wp2_with (at_builtin; refine wpList_append_rb (by rfl) (.tmp 45) (.tmp 51) 42 5 (by rfl) Tryd.info5 Tryd.underlying42 w0.heap.size (.slice A1' L1 c1') L1 _ (by rfl) O2.out (some ⟨wr.heap.size, 0, none⟩) 1 1 [Bq] (by rfl) rfl (by rintro ⟨⟩) (rb_one wr Bq) (by omega) S2.out ?_)
          intro v3 w3 o3 hg3 hob3
          have be3 : Below w0.heap.size w0 w3 := (B1.out.alloc B1.out.size _).grown hg3 S2.out (fun k hk => (O2.out.lt k hk).1)
          have O3 := Lib.hid o3
          clear o3 hg3 hob3
          go_wp2
          refine ⟨⟨0 + 1, by omega, by rfl, ?_, be3⟩, by simp [intOf]⟩
          have h3 := O3.out
          rw [HL1.out, ← bv_append] at h3
          have eT : [Bq] = (Sha.be64 N8).take (0 + 1) := by rw [HB.out]; rfl
          rw [eT] at h3
          exact h3
        · have ej : (7 - (((1 : Nat)) : Int)) = 6 := rfl
          rw [ej]
          obtain ⟨Bq, hB⟩ : ∃ x : UInt8, x = UInt8.ofNat (N8 / 281474976710656) := ⟨_, rfl⟩
          have eB : (N8 : Int) / 281474976710656 % 256 = (Bq.toNat : Int) := by rw [hB]; simp; try omega
          skip
          clear hNb
          have O2 := Lib.hid (own_alloc_ hown2 (.cells #[.int .u8 (Bq.toNat : Int)] 5))
          have S2 := Lib.hid (Nat.le_trans hbe2.size (alloc_le wr (.cells #[.int .u8 (Bq.toNat : Int)] 5)))
          have B1 := Lib.hid hbe2
          have HB := Lib.hid hB
          have HL1 := Lib.hid hL1
          have hL1b : L1 < 300 := by omega
          clear hown2 hbe2 hB hL1 hq
          go_wp2_with (at_builtin; refine wpList_append_rb (by rfl) (.tmp 45) (.tmp 51) 42 5 (by rfl) Tryd.info5 Tryd.underlying42 w0.heap.size (.slice A1' L1 c1') L1 _ (by rfl) O2.out (some ⟨wr.heap.size, 0, none⟩) 1 1 [Bq] (by rfl) rfl (by rintro ⟨⟩) (rb_one wr Bq) (by omega) S2.out ?_)
          intro v3 w3 o3 hg3 hob3
          have be3 : Below w0.heap.size w0 w3 := (B1.out.alloc B1.out.size _).grown hg3 S2.out (fun k hk => (O2.out.lt k hk).1)
          have O3 := Lib.hid o3
          clear o3 hg3 hob3
          go_wp2
          refine ⟨⟨1 + 1, by omega, by rfl, ?_, be3⟩, by simp [intOf]⟩
          have h3 := O3.out
          rw [HL1.out, ← bv_append, List.append_assoc] at h3
          have eT : (Sha.be64 N8).take 1 ++ [Bq] = (Sha.be64 N8).take (1 + 1) := by rw [HB.out]; rfl
          rw [eT] at h3
          exact h3
        · have ej : (7 - (((2 : Nat)) : Int)) = 5 := rfl
          rw [ej]
          obtain ⟨Bq, hB⟩ : ∃ x : UInt8, x = UInt8.ofNat (N8 / 1099511627776) := ⟨_, rfl⟩
          have eB : (N8 : Int) / 1099511627776 % 256 = (Bq.toNat : Int) := by rw [hB]; simp; try omega
          skip
          clear hNb
          have O2 := Lib.hid (own_alloc_ hown2 (.cells #[.int .u8 (Bq.toNat : Int)] 5))
          have S2 := Lib.hid (Nat.le_trans hbe2.size (alloc_le wr (.cells #[.int .u8 (Bq.toNat : Int)] 5)))
          have B1 := Lib.hid hbe2
          have HB := Lib.hid hB
          have HL1 := Lib.hid hL1
          have hL1b : L1 < 300 := by omega
          clear hown2 hbe2 hB hL1 hq
          go_wp2_with (at_builtin; refine wpList_append_rb (by rfl) (.tmp 45) (.tmp 51) 42 5 (by rfl) Tryd.info5 Tryd.underlying42 w0.heap.size (.slice A1' L1 c1') L1 _ (by rfl) O2.out (some ⟨wr.heap.size, 0, none⟩) 1 1 [Bq] (by rfl) rfl (by rintro ⟨⟩) (rb_one wr Bq) (by omega) S2.out ?_)
          intro v3 w3 o3 hg3 hob3
          have be3 : Below w0.heap.size w0 w3 := (B1.out.alloc B1.out.size _).grown hg3 S2.out (fun k hk => (O2.out.lt k hk).1)
          have O3 := Lib.hid o3
          clear o3 hg3 hob3
          go_wp2
          refine ⟨⟨2 + 1, by omega, by rfl, ?_, be3⟩, by simp [intOf]⟩
          have h3 := O3.out
          rw [HL1.out, ← bv_append, List.append_assoc] at h3
          have eT : (Sha.be64 N8).take 2 ++ [Bq] = (Sha.be64 N8).take (2 + 1) := by rw [HB.out]; rfl
          rw [eT] at h3
          exact h3
        · have ej : (7 - (((3 : Nat)) : Int)) = 4 := rfl
          rw [ej]
          obtain ⟨Bq, hB⟩ : ∃ x : UInt8, x = UInt8.ofNat (N8 / 4294967296) := ⟨_, rfl⟩
          have eB : (N8 : Int) / 4294967296 % 256 = (Bq.toNat : Int) := by rw [hB]; simp; try omega
          skip
          clear hNb
          have O2 := Lib.hid (own_alloc_ hown2 (.cells #[.int .u8 (Bq.toNat : Int)] 5))
          have S2 := Lib.hid (Nat.le_trans hbe2.size (alloc_le wr (.cells #[.int .u8 (Bq.toNat : Int)] 5)))
          have B1 := Lib.hid hbe2
          have HB := Lib.hid hB
          have HL1 := Lib.hid hL1
          have hL1b : L1 < 300 := by omega
          clear hown2 hbe2 hB hL1 hq
          go_wp2_with (at_builtin; refine wpList_append_rb (by rfl) (.tmp 45) (.tmp 51) 42 5 (by rfl) Tryd.info5 Tryd.underlying42 w0.heap.size (.slice A1' L1 c1') L1 _ (by rfl) O2.out (some ⟨wr.heap.size, 0, none⟩) 1 1 [Bq] (by rfl) rfl (by rintro ⟨⟩) (rb_one wr Bq) (by omega) S2.out ?_)
          intro v3 w3 o3 hg3 hob3
          have be3 : Below w0.heap.size w0 w3 := (B1.out.alloc B1.out.size _).grown hg3 S2.out (fun k hk => (O2.out.lt k hk).1)
          have O3 := Lib.hid o3
          clear o3 hg3 hob3
          go_wp2
          refine ⟨⟨3 + 1, by omega, by rfl, ?_, be3⟩, by simp [intOf]⟩
          have h3 := O3.out
          rw [HL1.out, ← bv_append, List.append_assoc] at h3
          have eT : (Sha.be64 N8).take 3 ++ [Bq] = (Sha.be64 N8).take (3 + 1) := by rw [HB.out]; rfl
          rw [eT] at h3
          exact h3
        · have ej : (7 - (((4 : Nat)) : Int)) = 3 := rfl
          rw [ej]
          obtain ⟨Bq, hB⟩ : ∃ x : UInt8, x = UInt8.ofNat (N8 / 16777216) := ⟨_, rfl⟩
          have eB : (N8 : Int) / 16777216 % 256 = (Bq.toNat : Int) := by rw [hB]; simp; try omega
          skip
          clear hNb
          have O2 := Lib.hid (own_alloc_ hown2 (.cells #[.int .u8 (Bq.toNat : Int)] 5))
          have S2 := Lib.hid (Nat.le_trans hbe2.size (alloc_le wr (.cells #[.int .u8 (Bq.toNat : Int)] 5)))
          have B1 := Lib.hid hbe2
          have HB := Lib.hid hB
          have HL1 := Lib.hid hL1
          have hL1b : L1 < 300 := by omega
          clear hown2 hbe2 hB hL1 hq
          go_wp2_with (at_builtin; refine wpList_append_rb (by rfl) (.tmp 45) (.tmp 51) 42 5 (by rfl) Tryd.info5 Tryd.underlying42 w0.heap.size (.slice A1' L1 c1') L1 _ (by rfl) O2.out (some ⟨wr.heap.size, 0, none⟩) 1 1 [Bq] (by rfl) rfl (by rintro ⟨⟩) (rb_one wr Bq) (by omega) S2.out ?_)
          intro v3 w3 o3 hg3 hob3
          have be3 : Below w0.heap.size w0 w3 := (B1.out.alloc B1.out.size _).grown hg3 S2.out (fun k hk => (O2.out.lt k hk).1)
          have O3 := Lib.hid o3
          clear o3 hg3 hob3
          go_wp2
          refine ⟨⟨4 + 1, by omega, by rfl, ?_, be3⟩, by simp [intOf]⟩
          have h3 := O3.out
          rw [HL1.out, ← bv_append, List.append_assoc] at h3
          have eT : (Sha.be64 N8).take 4 ++ [Bq] = (Sha.be64 N8).take (4 + 1) := by rw [HB.out]; rfl
          rw [eT] at h3
          exact h3
        · have ej : (7 - (((5 : Nat)) : Int)) = 2 := rfl
          rw [ej]
          obtain ⟨Bq, hB⟩ : ∃ x : UInt8, x = UInt8.ofNat (N8 / 65536) := ⟨_, rfl⟩
          have eB : (N8 : Int) / 65536 % 256 = (Bq.toNat : Int) := by rw [hB]; simp; try omega
          skip
          clear hNb
          have O2 := Lib.hid (own_alloc_ hown2 (.cells #[.int .u8 (Bq.toNat : Int)] 5))
          have S2 := Lib.hid (Nat.le_trans hbe2.size (alloc_le wr (.cells #[.int .u8 (Bq.toNat : Int)] 5)))
          have B1 := Lib.hid hbe2
          have HB := Lib.hid hB
          have HL1 := Lib.hid hL1
          have hL1b : L1 < 300 := by omega
          clear hown2 hbe2 hB hL1 hq
          go_wp2_with (at_builtin; refine wpList_append_rb (by rfl) (.tmp 45) (.tmp 51) 42 5 (by rfl) Tryd.info5 Tryd.underlying42 w0.heap.size (.slice A1' L1 c1') L1 _ (by rfl) O2.out (some ⟨wr.heap.size, 0, none⟩) 1 1 [Bq] (by rfl) rfl (by rintro ⟨⟩) (rb_one wr Bq) (by omega) S2.out ?_)
          intro v3 w3 o3 hg3 hob3
          have be3 : Below w0.heap.size w0 w3 := (B1.out.alloc B1.out.size _).grown hg3 S2.out (fun k hk => (O2.out.lt k hk).1)
          have O3 := Lib.hid o3
          clear o3 hg3 hob3
          go_wp2
          refine ⟨⟨5 + 1, by omega, by rfl, ?_, be3⟩, by simp [intOf]⟩
          have h3 := O3.out
          rw [HL1.out, ← bv_append, List.append_assoc] at h3
          have eT : (Sha.be64 N8).take 5 ++ [Bq] = (Sha.be64 N8).take (5 + 1) := by rw [HB.out]; rfl
          rw [eT] at h3
          exact h3
        · have ej : (7 - (((6 : Nat)) : Int)) = 1 := rfl
          rw [ej]
          obtain ⟨Bq, hB⟩ : ∃ x : UInt8, x = UInt8.ofNat (N8 / 256) := ⟨_, rfl⟩
          have eB : (N8 : Int) / 256 % 256 = (Bq.toNat : Int) := by rw [hB]; simp; try omega
          skip
          clear hNb
          have O2 := Lib.hid (own_alloc_ hown2 (.cells #[.int .u8 (Bq.toNat : Int)] 5))
          have S2 := Lib.hid (Nat.le_trans hbe2.size (alloc_le wr (.cells #[.int .u8 (Bq.toNat : Int)] 5)))
          have B1 := Lib.hid hbe2
          have HB := Lib.hid hB
          have HL1 := Lib.hid hL1
          have hL1b : L1 < 300 := by omega
          clear hown2 hbe2 hB hL1 hq
          go_wp2_with (at_builtin; refine wpList_append_rb (by rfl) (.tmp 45) (.tmp 51) 42 5 (by rfl) Tryd.info5 Tryd.underlying42 w0.heap.size (.slice A1' L1 c1') L1 _ (by rfl) O2.out (some ⟨wr.heap.size, 0, none⟩) 1 1 [Bq] (by rfl) rfl (by rintro ⟨⟩) (rb_one wr Bq) (by omega) S2.out ?_)
          intro v3 w3 o3 hg3 hob3
          have be3 : Below w0.heap.size w0 w3 := (B1.out.alloc B1.out.size _).grown hg3 S2.out (fun k hk => (O2.out.lt k hk).1)
          have O3 := Lib.hid o3
          clear o3 hg3 hob3
          go_wp2
          refine ⟨⟨6 + 1, by omega, by rfl, ?_, be3⟩, by simp [intOf]⟩
          have h3 := O3.out
          rw [HL1.out, ← bv_append, List.append_assoc] at h3
          have eT : (Sha.be64 N8).take 6 ++ [Bq] = (Sha.be64 N8).take (6 + 1) := by rw [HB.out]; rfl
          rw [eT] at h3
          exact h3
        · have ej : (7 - (((7 : Nat)) : Int)) = 0 := rfl
          rw [ej]
          obtain ⟨Bq, hB⟩ : ∃ x : UInt8, x = UInt8.ofNat (N8 / 1) := ⟨_, rfl⟩
          have eB : (N8 : Int) % 256 = (Bq.toNat : Int) := by rw [hB]; simp; try omega
          skip
          clear hNb
          have O2 := Lib.hid (own_alloc_ hown2 (.cells #[.int .u8 (Bq.toNat : Int)] 5))
          have S2 := Lib.hid (Nat.le_trans hbe2.size (alloc_le wr (.cells #[.int .u8 (Bq.toNat : Int)] 5)))
          have B1 := Lib.hid hbe2
          have HB := Lib.hid hB
          have HL1 := Lib.hid hL1
          have hL1b : L1 < 300 := by omega
          clear hown2 hbe2 hB hL1 hq
          go_wp2_with (at_builtin; refine wpList_append_rb (by rfl) (.tmp 45) (.tmp 51) 42 5 (by rfl) Tryd.info5 Tryd.underlying42 w0.heap.size (.slice A1' L1 c1') L1 _ (by rfl) O2.out (some ⟨wr.heap.size, 0, none⟩) 1 1 [Bq] (by rfl) rfl (by rintro ⟨⟩) (rb_one wr Bq) (by omega) S2.out ?_)
          intro v3 w3 o3 hg3 hob3
          have be3 : Below w0.heap.size w0 w3 := (B1.out.alloc B1.out.size _).grown hg3 S2.out (fun k hk => (O2.out.lt k hk).1)
          have O3 := Lib.hid o3
          clear o3 hg3 hob3
          go_wp2
          refine ⟨⟨7 + 1, by omega, by rfl, ?_, be3⟩, by simp [intOf]⟩
          have h3 := O3.out
          rw [HL1.out, ← bv_append, List.append_assoc] at h3
          have eT : (Sha.be64 N8).take 7 ++ [Bq] = (Sha.be64 N8).take (7 + 1) := by rw [HB.out]; rfl
          rw [eT] at h3
          exact h3
        · obtain rfl : q = 8 := by omega
          clear hq h8
          have hbl : (Sha.be64 N8).length = 8 := rfl
          rw [List.take_of_length_le (by omega)] at hown2
          obtain ⟨T, hT⟩ : ∃ x, x = T0 ++ Sha.be64 N8 := ⟨_, rfl⟩
          rw [← hT] at hown2
          have hTl : T.length = L1 := by have := hown2.1; rw [bv_length] at this; omega
          have hTT : T = Sha.tail r0 n0 := by
            rw [hT, HT0.out]
            unfold Sha.tail
            rw [← HZ.out]
            have : 8 * n0 % 2 ^ 64 = N8 := by rw [HN8.out]; have := hNb; omega
            rw [this]
          obtain ⟨m, hm⟩ : ∃ m, L1 = 64 * m := ⟨L1 / 64, by have := HL.out; have := HZ.out; omega⟩
          obtain ⟨tb, htb, hrt⟩ := own_rangeA hown2 (by omega)
          subst htb
          have hHr := hH0.below hbe2
          have tr := t0.below hbe2 (by have := t0.lt; exact this)
          obtain ⟨a0, a1, a2, a3, a4, a5, a6, a7⟩ := h0
          have e0 : wr.cell? ⟨g, 1, none⟩ = some (.int .u32 (a0.toNat : Int)) := hHr.blk.cell 1
          have e1 : wr.cell? ⟨g, 2, none⟩ = some (.int .u32 (a1.toNat : Int)) := hHr.blk.cell 2
          have e2 : wr.cell? ⟨g, 3, none⟩ = some (.int .u32 (a2.toNat : Int)) := hHr.blk.cell 3
          have e3 : wr.cell? ⟨g, 4, none⟩ = some (.int .u32 (a3.toNat : Int)) := hHr.blk.cell 4
          have e4 : wr.cell? ⟨g, 5, none⟩ = some (.int .u32 (a4.toNat : Int)) := hHr.blk.cell 5
          have e5 : wr.cell? ⟨g, 6, none⟩ = some (.int .u32 (a5.toNat : Int)) := hHr.blk.cell 6
          have e6 : wr.cell? ⟨g, 7, none⟩ = some (.int .u32 (a6.toNat : Int)) := hHr.blk.cell 7
          have e7 : wr.cell? ⟨g, 8, none⟩ = some (.int .u32 (a7.toNat : Int)) := hHr.blk.cell 8
          go_wp2
          have bx : Blk (wr.alloc (.cells (Sha.wv (Sha.V8.mk a0 a1 a2 a3 a4 a5 a6 a7).list).toArray 96)) wr.heap.size 96 (Sha.wv (Sha.V8.mk a0 a1 a2 a3 a4 a5 a6 a7).list) := Blk.new _ _ _
          have tlt := (hown2.lt tb rfl).2
          have hLc1 : L1 ≤ c1' := by obtain ⟨_, _, hvv, hc⟩ := own_slice hown2; injection hvv with _ _ h3; omega
          have hrt4 := World.rangeAt_alloc hrt (.cells (Sha.wv (Sha.V8.mk a0 a1 a2 a3 a4 a5 a6 a7).list).toArray 96)
          have be4 := hbe2.alloc hbe2.size (.cells (Sha.wv (Sha.V8.mk a0 a1 a2 a3 a4 a5 a6 a7).list).toArray 96)
          have hl : (Sha.wv (Sha.V8.mk a0 a1 a2 a3 a4 a5 a6 a7).list) = [.int .u32 (a0.toNat : Int), .int .u32 (a1.toNat : Int), .int .u32 (a2.toNat : Int), .int .u32 (a3.toNat : Int), .int .u32 (a4.toNat : Int), .int .u32 (a5.toNat : Int), .int .u32 (a6.toNat : Int), .int .u32 (a7.toNat : Int)] := rfl
          have txb : tb ≠ wr.heap.size := by omega
          have tlt4 : tb < (wr.alloc (.cells (Sha.wv (Sha.V8.mk a0 a1 a2 a3 a4 a5 a6 a7).list).toArray 96)).heap.size := Nat.lt_of_lt_of_le tlt (alloc_le _ _)
          have hBx := hbe2.size
          generalize hw4 : wr.alloc (.cells (Sha.wv (Sha.V8.mk a0 a1 a2 a3 a4 a5 a6 a7).list).toArray 96) = w4 at bx hrt4 be4 tlt4
          rw [hl] at hw4
          rw [hw4]
          have hm1 : m ≤ 100 := by omega
          clear hw4 hl e0 e1 e2 e3 e4 e5 e6 e7 hown2 hrt hbe2 hHr tr
          generalize hxb : wr.heap.size = xb at bx txb hBx ⊢
          clear hxb
          obtain ⟨hh, hhh⟩ : ∃ x, x = Sha.V8.mk a0 a1 a2 a3 a4 a5 a6 a7 := ⟨_, rfl⟩
          rw [← hhh] at bx
          have HHH := Lib.hid hhh
          have HTT := Lib.hid hTT
          have HTL := Lib.hid hTl
          have HM := Lib.hid hm
          clear hhh hTT hTl hm hT hbl hNb
          go_loopw [3] (fun v wr => ∃ (k : Nat) (A' : Option Addr) (LN c' : Nat), k ≤ m ∧ LN = 64 * (m - k) ∧ v = .slice A' LN c' ∧ LN ≤ c' ∧ (k < m → A' = some ⟨tb, 64 * k, none⟩) ∧ wr.rangeAt tb 0 (bv T) ∧ tb < wr.heap.size ∧ Blk wr xb 96 (Sha.wv (Sha.many k hh T).list) ∧ Below w0.heap.size w0 wr)
            (fun v _ => slen v)
          case atStart => exact ⟨0, some ⟨tb, 0, none⟩, L1, c1', by omega, by rw [HM.out]; omega, rfl, by omega, fun _ => rfl, hrt4, tlt4, bx, be4⟩
          case round =>
            obtain ⟨k, A', LN, c', hk, hLN, rfl, hLc, hA', hrT, htl, hbx, hbe5⟩ := hrel
            clear hrt4 tlt4 bx be4
            by_cases hkm : k < m
            · obtain rfl := hA' hkm
              have q0 : (0 : Int) < (LN : Int) := by omega
              have q1 : (64 : Int) ≤ (LN : Int) := by omega
              have q2 : (64 : Int) ≤ (c' : Int) := by omega
              have q3 : (LN : Int) ≤ (c' : Int) := by omega
              obtain ⟨C, hC⟩ : ∃ x, x = (T.drop (64 * k)).take 64 := ⟨_, rfl⟩
              obtain ⟨V, hV⟩ : ∃ x, x = Sha.many k hh T := ⟨_, rfl⟩
              have hCl : C.length = 64 := by rw [hC, List.length_take, List.length_drop, HTL.out, HM.out]; omega
              have hrC : wr.rangeAt tb (64 * k) (bv C) := range_partA hrT (64 * k) 64 _ (by rw [hC, bv_drop, bv_take])
              rw [← hV] at hbx
              have HC := Lib.hid hC
              have HV := Lib.hid hV
              have HCL := Lib.hid hCl
              have HKM := Lib.hid hkm
              have HLN := Lib.hid hLN
              have HRT := Lib.hid hrT
              have HBE := Lib.hid hbe5
              have T5 := Lib.hid (t0.below hbe5 (by have := t0.lt; exact this))
              clear hC hV hCl hkm hLN hrT hA' hk hbe5
              go_wp2
              refine Pl.wp_plan (fun w' => Blk w' xb 96 (Sha.wv V.list) ∧ w'.rangeAt tb (64 * k) (bv C)) [0, 1, 2] [3] [4] Tryd.mixed (by kernel_rfl) (fun _ _ d _ _ h => by cases d <;> exact h) ⟨hbx.drew, by simpa using hrC⟩ ?_
              simp only [Pl.pick, List.drop_succ_cons, List.drop_zero]
              (refine Pl.head_load_mid (by rfl) 96 (.tmp 6) (by rfl) xb 0 (by rfl) (Sha.wv V.list) _ (fun w' hS => hS.1.range 0 8 _ rfl) Tryd.underlying96 rfl (by exact Tryd.size28) ?_; simp only [Act.put, List.setIfInBounds_toArray, List.set_cons_zero, List.set_cons_succ])
              iterate 2 (refine Pl.head_run (v := ?_) (by rfl) ?_ ?_; rotate_left; (focus (intro w' hS; go_simp; with_reducible rfl)); simp only [Act.put, List.setIfInBounds_toArray, List.set_cons_zero, List.set_cons_succ])
              refine Pl.head_nil ?_
              simp only [Pl.Mid]
              go_wp2_with fail
              refine (block_any V C tb (64 * k) c' _ HCL.out (by simpa using hrC) (by exact htl) ⟨T5.out.first.drew, T5.out.known.drew⟩).mono ?_
              rintro e w6 ⟨rfl, hb6⟩
              have hbx6 := (hbx.drew).below hb6 (by exact hbx.lt)
              have hrC6 := rangeAt_below (w := wr.drew) (by simpa using hrC) hb6 (by exact htl)
              have hrT6 := rangeAt_below (w := wr.drew) (by simpa using HRT.out) hb6 (by exact htl)
              have be6 : Below w0.heap.size w0 w6 := (hb6.mono (B' := w0.heap.size) (by exact HBE.out.size)).trans_of HBE.out.drew
              have htl6 : tb < w6.heap.size := Nat.lt_of_lt_of_le htl hb6.size
              clear hbx hrC hb6 htl
              go_wp2_with fail
              refine (⟨⟨hbx6, hrC6⟩, ?_⟩ : (_ ∧ _) ∧ _)
              go_wp2_with (refine wpList_store_blk (by rfl) 96 (.tmp 6) (.tmp 65) (by rfl) xb 0 (Sha.wv (Sha.block V C).list) (by rfl) (by rfl) 96 _ hbx6 (by simp [Sha.wv, Sha.V8.list]) (by exact Tryd.size28) (Sha.wv_one _) ?_)
              intro w7 hn7 hk7 hsz7
              rw [ins_all _ _ (by simp [Sha.wv, Sha.V8.list])] at hn7
              have be7 : Below w0.heap.size w0 w7 := (hk7.below (B := w0.heap.size) be6.size (fun j hj => by omega)).trans_of be6
              have htl7 : tb < w7.heap.size := by omega
              have hrT7 : w7.rangeAt tb 0 (bv T) := fun j v hj => by
                rw [← hrT6 j v hj]
                exact World.cell?_of_block (hk7.block tb htl6 txb)
              clear hbx6 hrC6 hrT6 be6 htl6 hk7 hsz7
              by_cases hc64 : c' = 64
              · go_wp2
                refine ⟨⟨_, _, _, _, _, _, _, _, _, _, ?rel, rfl⟩, ?measure⟩
                case rel =>
                  refine ⟨k + 1, _, LN - 64, _, by have := HKM.out; omega, by have := HLN.out; omega, rfl, by omega, ?_, hrT7, htl7, ?_, be7⟩
                  · exact fun h => absurd h (by have := HLN.out; omega)
                  · have e1 : Sha.many (k + 1) hh T = Sha.block V C := by rw [HV.out, HC.out]; rfl
                    rw [e1]; exact hn7
                case measure =>
                  show LN - 64 < LN
                  omega
              · go_wp2
                refine ⟨⟨_, _, _, _, _, _, _, _, _, _, ?rel, rfl⟩, ?measure⟩
                case rel =>
                  refine ⟨k + 1, _, LN - 64, _, by have := HKM.out; omega, by have := HLN.out; omega, rfl, by omega, ?_, hrT7, htl7, ?_, be7⟩
                  · exact fun _ => by rw [Nat.mul_add]
                  · have e1 : Sha.many (k + 1) hh T = Sha.block V C := by rw [HV.out, HC.out]; rfl
                    rw [e1]; exact hn7
                case measure =>
                  show LN - 64 < LN
                  omega
            · obtain rfl : k = m := by omega
              obtain rfl : LN = 0 := by omega
              have hsum : Sha.HM.sum ⟨hh, r0, n0⟩ = Sha.digest (Sha.many k hh T) := by
                show Sha.digest (Sha.many ((Sha.tail r0 n0).length / 64) hh (Sha.tail r0 n0)) = _
                rw [← HTT.out, HTL.out, HM.out]
                congr 2
                omega
              have HSUM := Lib.hid hsum
              clear hsum hkm hA' hrT hLN hLc hk
              obtain ⟨rr, hrr⟩ : ∃ x, x = Sha.many k hh T := ⟨_, rfl⟩
              rw [← hrr] at hbx
              have HRR := Lib.hid hrr
              clear hrr
              obtain ⟨y0, y1, y2, y3, y4, y5, y6, y7⟩ := rr
              go_upto_region 16 with fail
              have hob : wr.heap.size ≥ w0.heap.size := hbe5.size
              have be8 := hbe5.alloc hbe5.size (.cells (bv (List.replicate 32 0)).toArray 40)
              have bO := Blk.new wr 40 (bv (List.replicate 32 0))
              have hx8 := hbx.alloc (.cells (bv (List.replicate 32 0)).toArray 40)
              rw [show (Obj.cells #[.int .u8 0, .int .u8 0, .int .u8 0, .int .u8 0, .int .u8 0, .int .u8 0, .int .u8 0, .int .u8 0, .int .u8 0, .int .u8 0, .int .u8 0, .int .u8 0, .int .u8 0, .int .u8 0, .int .u8 0, .int .u8 0, .int .u8 0, .int .u8 0, .int .u8 0, .int .u8 0, .int .u8 0, .int .u8 0, .int .u8 0, .int .u8 0, .int .u8 0, .int .u8 0, .int .u8 0, .int .u8 0, .int .u8 0, .int .u8 0, .int .u8 0, .int .u8 0] 40 (0, 0)) = .cells (bv (List.replicate 32 0)).toArray 40 from rfl]
              generalize hw8 : wr.alloc (.cells (bv (List.replicate 32 0)).toArray 40) = w8 at *
              generalize hob2 : wr.heap.size = ob at *
              clear hw8 hob2 hbx hbe5 htl
              have e0 : w8.cell? ⟨xb, 0, none⟩ = some (.int .u32 (y0.toNat : Int)) := by rw [hx8.cell]; rfl
              have e1 : w8.cell? ⟨xb, 1, none⟩ = some (.int .u32 (y1.toNat : Int)) := by rw [hx8.cell]; rfl
              have e2 : w8.cell? ⟨xb, 2, none⟩ = some (.int .u32 (y2.toNat : Int)) := by rw [hx8.cell]; rfl
              have e3 : w8.cell? ⟨xb, 3, none⟩ = some (.int .u32 (y3.toNat : Int)) := by rw [hx8.cell]; rfl
              have e4 : w8.cell? ⟨xb, 4, none⟩ = some (.int .u32 (y4.toNat : Int)) := by rw [hx8.cell]; rfl
              have e5 : w8.cell? ⟨xb, 5, none⟩ = some (.int .u32 (y5.toNat : Int)) := by rw [hx8.cell]; rfl
              have e6 : w8.cell? ⟨xb, 6, none⟩ = some (.int .u32 (y6.toNat : Int)) := by rw [hx8.cell]; rfl
              have e7 : w8.cell? ⟨xb, 7, none⟩ = some (.int .u32 (y7.toNat : Int)) := by rw [hx8.cell]; rfl
              go_wp2
              go_loopw [67] (fun qi wr => ∃ n : Nat, n ≤ 8 ∧ qi = .int .i64 n ∧ Blk wr ob 40 (bv (Sha.digs ⟨y0, y1, y2, y3, y4, y5, y6, y7⟩ n)) ∧ Below w0.heap.size w0 wr) (fun qi _ => 8 - (intOf qi).toNat)
              case atStart => exact ⟨0, by omega, rfl, bO, be8⟩
              case round =>
                obtain ⟨n, hn8, rfl, hbo, hbe9⟩ := hrel
                clear bO be8 hx8 e0 e1 e2 e3 e4 e5 e6 e7
                have h9 : n = 0 ∨ n = 1 ∨ n = 2 ∨ n = 3 ∨ n = 4 ∨ n = 5 ∨ n = 6 ∨ n = 7 ∨ n = 8 := by omega
                clear hn8
                rcases h9 with rfl | rfl | rfl | rfl | rfl | rfl | rfl | rfl | rfl
                · obtain ⟨b0, b1, b2, b3, h0, h1, h2, h3, k0, k1, k2, k3⟩ := Sha.four y0
                  have c0 : wr.cell? ⟨ob, 0, none⟩ = some (.int .u8 0) := hbo.cell 0
                  have f0 := hbo.frozen 0
                  have c1 : wr.cell? ⟨ob, 1, none⟩ = some (.int .u8 0) := hbo.cell 1
                  have f1 := hbo.frozen 1
                  have c2 : wr.cell? ⟨ob, 2, none⟩ = some (.int .u8 0) := hbo.cell 2
                  have f2 := hbo.frozen 2
                  have c3 : wr.cell? ⟨ob, 3, none⟩ = some (.int .u8 0) := hbo.cell 3
                  have f3 := hbo.frozen 3
                  have HK := Lib.hid (And.intro k0 (And.intro k1 (And.intro k2 k3)))
                  clear k0 k1 k2 k3
                  go_wp2
                  refine ⟨⟨0 + 1, by omega, by rfl, ?_, ?_⟩, by simp [intOf]⟩
                  · obtain ⟨k0, k1, k2, k3⟩ := HK.out
                    have hh := (((hbo.set_ 0 (.int .u8 (b0.toNat : Int))).set_ 1 (.int .u8 (b1.toNat : Int))).set_ 2 (.int .u8 (b2.toNat : Int))).set_ 3 (.int .u8 (b3.toNat : Int))
                    subst k0 k1 k2 k3
                    exact hh
                  · exact (((hbe9.setCell (p := ⟨ob, 0, none⟩) hob _).setCell (p := ⟨ob, 1, none⟩) hob _).setCell (p := ⟨ob, 2, none⟩) hob _).setCell (p := ⟨ob, 3, none⟩) hob _
                · obtain ⟨b0, b1, b2, b3, h0, h1, h2, h3, k0, k1, k2, k3⟩ := Sha.four y1
                  have c0 : wr.cell? ⟨ob, 4, none⟩ = some (.int .u8 0) := hbo.cell 4
                  have f0 := hbo.frozen 4
                  have c1 : wr.cell? ⟨ob, 5, none⟩ = some (.int .u8 0) := hbo.cell 5
                  have f1 := hbo.frozen 5
                  have c2 : wr.cell? ⟨ob, 6, none⟩ = some (.int .u8 0) := hbo.cell 6
                  have f2 := hbo.frozen 6
                  have c3 : wr.cell? ⟨ob, 7, none⟩ = some (.int .u8 0) := hbo.cell 7
                  have f3 := hbo.frozen 7
                  have HK := Lib.hid (And.intro k0 (And.intro k1 (And.intro k2 k3)))
                  clear k0 k1 k2 k3
                  go_wp2
                  refine ⟨⟨1 + 1, by omega, by rfl, ?_, ?_⟩, by simp [intOf]⟩
                  · obtain ⟨k0, k1, k2, k3⟩ := HK.out
                    have hh := (((hbo.set_ 4 (.int .u8 (b0.toNat : Int))).set_ 5 (.int .u8 (b1.toNat : Int))).set_ 6 (.int .u8 (b2.toNat : Int))).set_ 7 (.int .u8 (b3.toNat : Int))
                    subst k0 k1 k2 k3
                    exact hh
                  · exact (((hbe9.setCell (p := ⟨ob, 4, none⟩) hob _).setCell (p := ⟨ob, 5, none⟩) hob _).setCell (p := ⟨ob, 6, none⟩) hob _).setCell (p := ⟨ob, 7, none⟩) hob _
                · obtain ⟨b0, b1, b2, b3, h0, h1, h2, h3, k0, k1, k2, k3⟩ := Sha.four y2
                  have c0 : wr.cell? ⟨ob, 8, none⟩ = some (.int .u8 0) := hbo.cell 8
                  have f0 := hbo.frozen 8
                  have c1 : wr.cell? ⟨ob, 9, none⟩ = some (.int .u8 0) := hbo.cell 9
                  have f1 := hbo.frozen 9
                  have c2 : wr.cell? ⟨ob, 10, none⟩ = some (.int .u8 0) := hbo.cell 10
                  have f2 := hbo.frozen 10
                  have c3 : wr.cell? ⟨ob, 11, none⟩ = some (.int .u8 0) := hbo.cell 11
                  have f3 := hbo.frozen 11
                  have HK := Lib.hid (And.intro k0 (And.intro k1 (And.intro k2 k3)))
                  clear k0 k1 k2 k3
                  go_wp2
                  refine ⟨⟨2 + 1, by omega, by rfl, ?_, ?_⟩, by simp [intOf]⟩
                  · obtain ⟨k0, k1, k2, k3⟩ := HK.out
                    have hh := (((hbo.set_ 8 (.int .u8 (b0.toNat : Int))).set_ 9 (.int .u8 (b1.toNat : Int))).set_ 10 (.int .u8 (b2.toNat : Int))).set_ 11 (.int .u8 (b3.toNat : Int))
                    subst k0 k1 k2 k3
                    exact hh
                  · exact (((hbe9.setCell (p := ⟨ob, 8, none⟩) hob _).setCell (p := ⟨ob, 9, none⟩) hob _).setCell (p := ⟨ob, 10, none⟩) hob _).setCell (p := ⟨ob, 11, none⟩) hob _
                · obtain ⟨b0, b1, b2, b3, h0, h1, h2, h3, k0, k1, k2, k3⟩ := Sha.four y3
                  have c0 : wr.cell? ⟨ob, 12, none⟩ = some (.int .u8 0) := hbo.cell 12
                  have f0 := hbo.frozen 12
                  have c1 : wr.cell? ⟨ob, 13, none⟩ = some (.int .u8 0) := hbo.cell 13
                  have f1 := hbo.frozen 13
                  have c2 : wr.cell? ⟨ob, 14, none⟩ = some (.int .u8 0) := hbo.cell 14
                  have f2 := hbo.frozen 14
                  have c3 : wr.cell? ⟨ob, 15, none⟩ = some (.int .u8 0) := hbo.cell 15
                  have f3 := hbo.frozen 15
                  have HK := Lib.hid (And.intro k0 (And.intro k1 (And.intro k2 k3)))
                  clear k0 k1 k2 k3
                  go_wp2
                  refine ⟨⟨3 + 1, by omega, by rfl, ?_, ?_⟩, by simp [intOf]⟩
                  · obtain ⟨k0, k1, k2, k3⟩ := HK.out
                    have hh := (((hbo.set_ 12 (.int .u8 (b0.toNat : Int))).set_ 13 (.int .u8 (b1.toNat : Int))).set_ 14 (.int .u8 (b2.toNat : Int))).set_ 15 (.int .u8 (b3.toNat : Int))
                    subst k0 k1 k2 k3
                    exact hh
                  · exact (((hbe9.setCell (p := ⟨ob, 12, none⟩) hob _).setCell (p := ⟨ob, 13, none⟩) hob _).setCell (p := ⟨ob, 14, none⟩) hob _).setCell (p := ⟨ob, 15, none⟩) hob _
                · obtain ⟨b0, b1, b2, b3, h0, h1, h2, h3, k0, k1, k2, k3⟩ := Sha.four y4
                  have c0 : wr.cell? ⟨ob, 16, none⟩ = some (.int .u8 0) := hbo.cell 16
                  have f0 := hbo.frozen 16
                  have c1 : wr.cell? ⟨ob, 17, none⟩ = some (.int .u8 0) := hbo.cell 17
                  have f1 := hbo.frozen 17
                  have c2 : wr.cell? ⟨ob, 18, none⟩ = some (.int .u8 0) := hbo.cell 18
                  have f2 := hbo.frozen 18
                  have c3 : wr.cell? ⟨ob, 19, none⟩ = some (.int .u8 0) := hbo.cell 19
                  have f3 := hbo.frozen 19
                  have HK := Lib.hid (And.intro k0 (And.intro k1 (And.intro k2 k3)))
                  clear k0 k1 k2 k3
                  go_wp2
                  refine ⟨⟨4 + 1, by omega, by rfl, ?_, ?_⟩, by simp [intOf]⟩
                  · obtain ⟨k0, k1, k2, k3⟩ := HK.out
                    have hh := (((hbo.set_ 16 (.int .u8 (b0.toNat : Int))).set_ 17 (.int .u8 (b1.toNat : Int))).set_ 18 (.int .u8 (b2.toNat : Int))).set_ 19 (.int .u8 (b3.toNat : Int))
                    subst k0 k1 k2 k3
                    exact hh
                  · exact (((hbe9.setCell (p := ⟨ob, 16, none⟩) hob _).setCell (p := ⟨ob, 17, none⟩) hob _).setCell (p := ⟨ob, 18, none⟩) hob _).setCell (p := ⟨ob, 19, none⟩) hob _
                · obtain ⟨b0, b1, b2, b3, h0, h1, h2, h3, k0, k1, k2, k3⟩ := Sha.four y5
                  have c0 : wr.cell? ⟨ob, 20, none⟩ = some (.int .u8 0) := hbo.cell 20
                  have f0 := hbo.frozen 20
                  have c1 : wr.cell? ⟨ob, 21, none⟩ = some (.int .u8 0) := hbo.cell 21
                  have f1 := hbo.frozen 21
                  have c2 : wr.cell? ⟨ob, 22, none⟩ = some (.int .u8 0) := hbo.cell 22
                  have f2 := hbo.frozen 22
                  have c3 : wr.cell? ⟨ob, 23, none⟩ = some (.int .u8 0) := hbo.cell 23
                  have f3 := hbo.frozen 23
                  have HK := Lib.hid (And.intro k0 (And.intro k1 (And.intro k2 k3)))
                  clear k0 k1 k2 k3
                  go_wp2
                  refine ⟨⟨5 + 1, by omega, by rfl, ?_, ?_⟩, by simp [intOf]⟩
                  · obtain ⟨k0, k1, k2, k3⟩ := HK.out
                    have hh := (((hbo.set_ 20 (.int .u8 (b0.toNat : Int))).set_ 21 (.int .u8 (b1.toNat : Int))).set_ 22 (.int .u8 (b2.toNat : Int))).set_ 23 (.int .u8 (b3.toNat : Int))
                    subst k0 k1 k2 k3
                    exact hh
                  · exact (((hbe9.setCell (p := ⟨ob, 20, none⟩) hob _).setCell (p := ⟨ob, 21, none⟩) hob _).setCell (p := ⟨ob, 22, none⟩) hob _).setCell (p := ⟨ob, 23, none⟩) hob _
                · obtain ⟨b0, b1, b2, b3, h0, h1, h2, h3, k0, k1, k2, k3⟩ := Sha.four y6
                  have c0 : wr.cell? ⟨ob, 24, none⟩ = some (.int .u8 0) := hbo.cell 24
                  have f0 := hbo.frozen 24
                  have c1 : wr.cell? ⟨ob, 25, none⟩ = some (.int .u8 0) := hbo.cell 25
                  have f1 := hbo.frozen 25
                  have c2 : wr.cell? ⟨ob, 26, none⟩ = some (.int .u8 0) := hbo.cell 26
                  have f2 := hbo.frozen 26
                  have c3 : wr.cell? ⟨ob, 27, none⟩ = some (.int .u8 0) := hbo.cell 27
                  have f3 := hbo.frozen 27
                  have HK := Lib.hid (And.intro k0 (And.intro k1 (And.intro k2 k3)))
                  clear k0 k1 k2 k3
                  go_wp2
                  refine ⟨⟨6 + 1, by omega, by rfl, ?_, ?_⟩, by simp [intOf]⟩
                  · obtain ⟨k0, k1, k2, k3⟩ := HK.out
                    have hh := (((hbo.set_ 24 (.int .u8 (b0.toNat : Int))).set_ 25 (.int .u8 (b1.toNat : Int))).set_ 26 (.int .u8 (b2.toNat : Int))).set_ 27 (.int .u8 (b3.toNat : Int))
                    subst k0 k1 k2 k3
                    exact hh
                  · exact (((hbe9.setCell (p := ⟨ob, 24, none⟩) hob _).setCell (p := ⟨ob, 25, none⟩) hob _).setCell (p := ⟨ob, 26, none⟩) hob _).setCell (p := ⟨ob, 27, none⟩) hob _
                · obtain ⟨b0, b1, b2, b3, h0, h1, h2, h3, k0, k1, k2, k3⟩ := Sha.four y7
                  have c0 : wr.cell? ⟨ob, 28, none⟩ = some (.int .u8 0) := hbo.cell 28
                  have f0 := hbo.frozen 28
                  have c1 : wr.cell? ⟨ob, 29, none⟩ = some (.int .u8 0) := hbo.cell 29
                  have f1 := hbo.frozen 29
                  have c2 : wr.cell? ⟨ob, 30, none⟩ = some (.int .u8 0) := hbo.cell 30
                  have f2 := hbo.frozen 30
                  have c3 : wr.cell? ⟨ob, 31, none⟩ = some (.int .u8 0) := hbo.cell 31
                  have f3 := hbo.frozen 31
                  have HK := Lib.hid (And.intro k0 (And.intro k1 (And.intro k2 k3)))
                  clear k0 k1 k2 k3
                  go_wp2
                  refine ⟨⟨7 + 1, by omega, by rfl, ?_, ?_⟩, by simp [intOf]⟩
                  · obtain ⟨k0, k1, k2, k3⟩ := HK.out
                    have hh := (((hbo.set_ 28 (.int .u8 (b0.toNat : Int))).set_ 29 (.int .u8 (b1.toNat : Int))).set_ 30 (.int .u8 (b2.toNat : Int))).set_ 31 (.int .u8 (b3.toNat : Int))
                    subst k0 k1 k2 k3
                    exact hh
                  · exact (((hbe9.setCell (p := ⟨ob, 28, none⟩) hob _).setCell (p := ⟨ob, 29, none⟩) hob _).setCell (p := ⟨ob, 30, none⟩) hob _).setCell (p := ⟨ob, 31, none⟩) hob _
                · have hbR := bR.below hbe9 (by have := HS0.out; omega)
                  have hro : wr.rangeAt ob 0 (bv (Sha.digest ⟨y0, y1, y2, y3, y4, y5, y6, y7⟩)) := hbo.range 0 32 _ rfl
                  go_upto_region 21 with fail
                  refine wp_region_lit ?_
                  refine wpList_load_mid (by rfl) 40 (.tmp 7) (by rfl) ob 0 (by rfl) (bv (Sha.digest ⟨y0, y1, y2, y3, y4, y5, y6, y7⟩)) _ hro Tryd.underlying40 rfl (by exact Tryd.size24) ?_
                  refine wpList_store_blk (by rfl) 40 (.tmp 2) (.tmp 98) (by rfl) w.heap.size 0 (bv (Sha.digest ⟨y0, y1, y2, y3, y4, y5, y6, y7⟩)) (by rfl) (by rfl) 40 _ hbR (by exact Nat.le_refl 32) (by exact Tryd.size24) (bv_one _) ?_
                  intro w9 hn9 hk9 hsz9
                  rw [ins_all (bv (List.replicate 32 0)) (bv (Sha.digest ⟨y0, y1, y2, y3, y4, y5, y6, y7⟩)) rfl] at hn9
                  have hb9 : Below w.heap.size w w9 := (hk9.below (B := w.heap.size) (by have := hbe9.size; have := HS0.out; omega) (fun j hj => by omega)).trans_of ((hbe9.mono (B' := w.heap.size) (by have := HS0.out; omega)).trans_of hbe0)
                  clear hbR hro
                  refine wpList_nil ?_
                  simp only [Act.put]
                  go_wp2
                  refine bodyPost_ret (results_row rfl _ _ _ rfl (hn9.range 0 32 _ rfl) Tryd.underlying40 rfl (by exact Tryd.size24)) rfl ?_
                  rw [HRR.out, ← HSUM.out, HHH.out]
                  exact ⟨rfl, hb9⟩
end Go.Proofs.YtcdljlaoedaliaaDoor
