/- The contract of mac.Derive. -/
import Derived.Test.YtcdljlaoedaliaaDoorMo
import Derived.Test.YtcdljlaoedaliaaDoorSg
set_option linter.unusedVariables false
set_option linter.unusedSimpArgs false
namespace Go.Proofs.YtcdljlaoedaliaaDoor
open Go.RowKit Wd
namespace Mac
/-- The i-th piece that comes of a key. -/
def piece (k lb : List UInt8) (i : Nat) : List UInt8 := mac k (lb ++ [0, UInt8.ofNat (i + 1)])
def stream (k lb : List UInt8) (m : Nat) : List UInt8 := (List.range m).flatMap (piece k lb)
/-- BYTES FROM A KEY. -/
def derive (k lb : List UInt8) (n : Nat) : List UInt8 := (stream k lb ((n + 31) / 32)).take n
theorem stream_succ (k lb : List UInt8) (m : Nat) : stream k lb (m + 1) = stream k lb m ++ piece k lb m := by simp [stream, List.range_succ]
theorem stream_len (k lb : List UInt8) (m : Nat) : (stream k lb m).length = 32 * m := by
  induction m with
  | zero => rfl
  | succ m ih =>
    rw [stream_succ, List.length_append, ih]
    unfold piece
    rw [mac_len]
    omega
theorem derive_len (k lb : List UInt8) (n : Nat) : (derive k lb n).length = n := by
  unfold derive
  rw [List.length_take, stream_len]
  omega
theorem stream_pre (k lb : List UInt8) (m d : Nat) : (stream k lb (m + d)).take (32 * m) = stream k lb m := by
  induction d with
  | zero => rw [Nat.add_zero, ← stream_len k lb m, List.take_length]
  | succ d ih => rw [← Nat.add_assoc, stream_succ, List.take_append_of_le_length (by rw [stream_len]; omega), ih]
theorem derive_pre (k lb : List UInt8) (n m : Nat) (h : n ≤ m) : (derive k lb m).take n = derive k lb n := by
  obtain ⟨d, hd⟩ : ∃ d, (m + 31) / 32 = (n + 31) / 32 + d := ⟨(m + 31) / 32 - (n + 31) / 32, by omega⟩
  unfold derive
  rw [List.take_take, hd, ← stream_pre k lb ((n + 31) / 32) d, List.take_take]
  congr 1
  omega
end Mac
section
variable {w0 w : World} {M : Mem} {L : List Ent}
/-- What Derive answers. -/
def Derived_ (w0 : World) (M : Mem) (L : List Ent) (k lb : List UInt8) (n : Int) (e : Ending) (w' : World) : Prop :=
  ((n < 0 ∨ 1024 < n) ∧ e = .returned (.tuple #[.slice none 0 0, .int .i64 1]) ∧ St w0 w' M L) ∨
  (0 ≤ n ∧ n ≤ 1024 ∧ ∃ A M', e = .returned (.tuple #[.slice A n.toNat n.toNat, .int .i64 0]) ∧ (A = none → n = 0) ∧ M.le M' ∧ In M' (RB · A (Mac.derive k lb n.toNat)) ∧ St w0 w' M' L)
set_option maxRecDepth 100000 in
set_option maxHeartbeats 2000000 in
theorem derive_any (ht : Tabs w0) (H : St w0 w M L) {A : Option Addr} {c : Nat} {k lb : List UInt8} (hA : A = none → c = 0) (hc : k.length ≤ c) (hk : Sr w0 M L A k) (hn : k.length < 140737488355000) (hbn : lb.length < 140737488354000) (n : Int) :
    Calls Tryd.prog 84 #[.slice A k.length c, .string ⟨lb.toArray⟩, .int .i64 n] w (Derived_ w0 M L k lb n) := by
  have hsz : (ByteArray.mk lb.toArray).size = lb.length := by show lb.toArray.size = _; simp
  by_cases hneg : n < 0
  · have HB := Lib.hid (show n < 0 ∨ 1024 < n from .inl hneg)
    go_enter Tryd.func84, Tryd.ntmps84
    go_wp2
    go_ret2
    exact .inl ⟨HB.out, rfl, H⟩
  · by_cases hbig : 1024 < n
    · have HB := Lib.hid (show n < 0 ∨ 1024 < n from .inr hbig)
      go_enter Tryd.func84, Tryd.ntmps84
      go_wp2
      go_ret2
      exact .inl ⟨HB.out, rfl, H⟩
    · obtain ⟨N, rfl⟩ := Int.eq_ofNat_of_zero_le (show 0 ≤ n by omega)
      have hN : N ≤ 1024 := by omega
      have HN := Lib.hid hN
      have H1 := H.addNil 5 1
      go_enter Tryd.func84, Tryd.ntmps84
      go_wp2
      go_loopw [8, 9] (fun v i wr => ∃ (m q : Nat), 32 * m < N + 32 ∧ q = m + 1 ∧ i = .int .i64 q ∧ St w0 wr M (er 5 1 v (32 * m) (bv (Mac.stream k lb m)) :: L)) (fun _ i _ => 34 - (intOf i).toNat)
      case atStart => exact ⟨0, 1, by omega, rfl, rfl, H1⟩
      case round =>
        obtain ⟨m, q, hm, hq, rfl, H2⟩ := hrel
        clear H1
        obtain ⟨A1, c1, rfl, hc1, hA1⟩ := H2.shape' 0 rfl
        obtain ⟨m32, hm32⟩ : ∃ x, x = 32 * m := ⟨_, rfl⟩
        rw [← hm32] at H2 hc1 hm ⊢
        by_cases hlt : m32 < N
        · have hltI : (m32 : Int) < (N : Int) := by omega
          obtain ⟨x, hx⟩ : ∃ x : UInt8, x = UInt8.ofNat (m + 1) := ⟨_, rfl⟩
          have hxq : x.toNat = q := by rw [hx, UInt8.toNat_ofNat']; omega
          obtain ⟨g2, c2, w2, hcv, hlc, hcm, H3⟩ := conv_st (P := Tryd.prog) (src := 9) (dst := 42) H2 Tryd.underlying9 Tryd.underlying42 Tryd.underlying5 lb (by omega)
          have H4 := H3.lit (bv [0, x]) 5 (by show 2 ≤ maxLen; decide)
          subst hxq
          have hq33 : (x.toNat : Int) ≤ 33 := by omega
          have HC := Lib.hid (show m32 < N ∧ x.toNat = m + 1 ∧ m32 = 32 * m ∧ x = UInt8.ofNat (m + 1) ∧ lb.length ≤ c2 from ⟨hlt, hq, hm32, hx, hlc⟩)
          clear hlt hq hm32 hx hm hlc
          go_wp2_with (at_builtin; refine wpList_append_conv_st H4.f1 (by rfl) (.tmp 25) (.tmp 28) 42 (by rfl) Tryd.info5 Tryd.underlying42 (by rfl) rfl HC.out.2.2.2.2 ⟨w2.heap.size, 0, none⟩ 2 2 [0, x] (by rfl) rfl (er_RB (H4.get 0 rfl)) (by omega) ?_)
          intro A3 c3 w3 M3 hM3 hin hc3 H5
          have hmc := mac_any ht H5 hA hc (((hk.le hM3).cons _).cons _) hn (B := some A3) (d := c3) (b := lb ++ [0, x]) (by rintro ⟨⟩) (Sr.of_in hin) (by simp; omega)
          rw [show (lb ++ [0, x]).length = lb.length + 2 from by simp] at hmc
          obtain ⟨D, hD⟩ : ∃ D, D = Mac.mac k (lb ++ [0, x]) := ⟨_, rfl⟩
          rw [← hD] at hmc
          have hdl : (bv D).length = 32 := by rw [bv_length, hD, Mac.mac_len]
          have hdl' : D.length = 32 := by rw [hD, Mac.mac_len]
          have HD := Lib.hid hD
          have HMC := Lib.hid hmc
          have HDL := Lib.hid hdl'
          clear hD hmc hdl' H3 H4
          go_wp2_with fail
          refine HMC.out.mono ?_
          rintro e w4 ⟨rfl, H6⟩
          have H7 := (H6.d0.weak H2 hM3).new (bv (List.replicate 32 0)) 40
          obtain ⟨w5, hst, H8⟩ := run_store_st (P := Tryd.prog) H7 (cs := bv D) (by rw [hdl, bv_length, List.length_replicate]) (bv_one _)
          rw [← obj32] at hst
          clear H5 H6 H7 HMC
          go_wp2_with (at_builtin; refine wpList_append_st H8.f1 (by rfl) (.tmp 31) (.tmp 32) 42 (by rfl) Tryd.info5 Tryd.underlying42 (by rfl) (some ⟨w4.heap.size, 0, none⟩) 32 32 D (by rfl) HDL.out.symm (by rintro ⟨⟩) ((H8.blk 0 rfl).RB (by rw [List.drop_zero, List.take_of_length_le (by rw [bv_length]; exact Nat.le_refl _)])) (by omega) ?_)
          intro v6 w6 H9
          obtain ⟨k1, k2, k3, k4, _⟩ := HC.out
          have H10 := H9.d1
          rw [← bv_append, show Mac.stream k lb m ++ D = Mac.stream k lb (m + 1) from by rw [Mac.stream_succ, HD.out, k4]; rfl, show m32 + 32 = 32 * (m + 1) from by omega] at H10
          clear H9 H8 hst k4
          go_wp2
          exact ⟨⟨m + 1, x.toNat + 1, by omega, by omega, by go_num, H10⟩, by simp [intOf]; omega⟩
        · have hge : (N : Int) ≤ (m32 : Int) := by omega
          have hcN : (N : Int) ≤ (c1 : Int) := by omega
          have hm2 : m = (N + 31) / 32 := by omega
          have HM2 := Lib.hid hm2
          obtain ⟨M', hM', H3, hin⟩ := H2.keepRow
          have hnil : A1 = none → N = 0 := fun h => by have := hA1 h; omega
          have HNIL := Lib.hid hnil
          clear hm hm32 hm2 hlt hA1 H2 hnil hq
          go_wp2
          go_ret2
          refine .inr ⟨by omega, by have := HN.out; omega, A1, M', rfl, fun h => by have := HNIL.out h; omega, hM', ?_, H3⟩
          refine hin.imp fun W hW => ?_
          unfold Mac.derive
          rw [Int.toNat_natCast, ← HM2.out]
          exact hW.take N
end
end Go.Proofs.YtcdljlaoedaliaaDoor
