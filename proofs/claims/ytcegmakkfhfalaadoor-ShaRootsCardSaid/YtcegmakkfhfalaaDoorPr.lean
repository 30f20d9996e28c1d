/- The reference's parts. -/
import Derived.Test.YtcegmakkfhfalaaDoorMu
import Derived.Test.YtcegmakkfhfalaaDoorHs
import Derived.Test.YtcegmakkfhfalaaDoorSl
import Derived.Deep.Cut
set_option linter.unusedVariables false
set_option linter.unusedSimpArgs false
namespace Go.Proofs.YtcegmakkfhfalaaDoor
open Go.RowKit Wd
theorem Tryd.info64 : (Tryd.prog.info? 51).map (fun i => (i.zero, i.size, i.bytes)) = some (some (.int .u64 0), 1, 8) := by kernel_rfl
theorem make_u64 (m : Nat) (hm : m ≤ 1000) (X : Int) (hX : X = (m : Int)) : ∀ W : World, (Instr.makeSlice 58 (.int .i64 X) (.int .i64 X)).run Tryd.prog W = .ok (.slice (some ⟨W.heap.size, 0, none⟩) m m) (W.alloc (.cells (uv (List.replicate m 0)).toArray 51)) := fun W => by
  obtain ⟨i0, hi, hz0, hz1, hz2⟩ := info_parts Tryd.info64
  subst hX
  have := run_make W 58 51 i0 _ Tryd.underlying58 hi hz0 .i64 .i64 m m (by omega) (by omega) (by rw [hz2]; omega) (by omega)
  rw [this, hz1]
  simp only [Value.cells, Int.toNat_natCast]
  rw [made_same #[.int .u64 0] (.int .u64 0) 1 rfl (by omega), Nat.mul_one]
  simp [uv]
def partsL (x k : Nat) : List Nat := ((List.range k).map fun j => x / 65536 ^ j % 65536) ++ List.replicate (12 - k) 0
theorem partsL_val (x : Nat) (h : x < 18446744073709551616) : val (partsL x 4) = x := by
  show x / 65536 ^ 0 % 65536 + 65536 * (x / 65536 ^ 1 % 65536 + 65536 * (x / 65536 ^ 2 % 65536 + 65536 * (x / 65536 ^ 3 % 65536 + 65536 * val (List.replicate 8 0)))) = x
  rw [show val (List.replicate 8 0) = 0 from rfl]
  omega
theorem partsL_lt (x : Nat) : ∀ d ∈ partsL x 4, d < 65536 := by
  intro d hd
  unfold partsL at hd
  rcases List.mem_append.1 hd with h | h
  · obtain ⟨j, _, rfl⟩ := List.mem_map.1 h
    exact Nat.mod_lt _ (by decide)
  · rw [(List.mem_replicate.1 h).2]
    decide
section
variable {w0 w : World} {M : Mem} {L : List Ent}
set_option maxRecDepth 100000 in
set_option maxHeartbeats 1000000 in
theorem parts_any (H : St w0 w M L) (x : Nat) (hx : x < 18446744073709551616) : Calls Tryd.prog 29 #[.int .u64 (x : Int)] w fun e w' => ∃ g, e = .returned (.slice (some ⟨g, 0, none⟩) 12 12) ∧ St w0 w' M (er 51 1 (.slice (some ⟨g, 0, none⟩) 12 12) 12 (uv (partsL x 4)) :: L) := by
  have hmk := make_u64 12 (by omega) 12 rfl
  have H1 := H.lit (uv (List.replicate 12 0)) 51 (by rw [uv_length, List.length_replicate]; show 12 ≤ maxLen; decide)
  obtain ⟨zs, hzs⟩ : ∃ zs, zs = uv (List.replicate 12 0) := ⟨_, rfl⟩
  rw [← hzs] at hmk
  have hzl : zs.length = 12 := by rw [hzs, uv_length, List.length_replicate]
  have H2 : St w0 (w.alloc (.cells zs.toArray 51)) M (er 51 1 (.slice (some ⟨w.heap.size, 0, none⟩) 12 12) 12 (uv (partsL x 0)) :: L) := by rw [hzs]; exact H1
  clear hzs hzl H1
  go_enter Tryd.func29, Tryd.ntmps29
  go_upto_region 2 with fail
  generalize hw1 : w.alloc (.cells zs.toArray 51) = w1 at *
  generalize hg : w.heap.size = g at *
  clear hw1 hg hmk
  go_wp2
  go_loopw [0, 4] (fun a i wr => ∃ k : Nat, k ≤ 4 ∧ i = .int .i64 k ∧ a = .int .u64 ((x / 65536 ^ k : Nat) : Int) ∧ St w0 wr M (er 51 1 (.slice (some ⟨g, 0, none⟩) 12 12) 12 (uv (partsL x k)) :: L)) (fun _ i _ => 4 - (intOf i).toNat)
  case atStart => exact ⟨0, by omega, rfl, by rw [Nat.pow_zero, Nat.div_one], H2⟩
  case round =>
    obtain ⟨k, hk, rfl, rfl, H3⟩ := hrel
    clear H2
    have h5 : k = 0 ∨ k = 1 ∨ k = 2 ∨ k = 3 ∨ k = 4 := by omega
    clear hk
    rcases h5 with rfl | rfl | rfl | rfl | rfl
    · have hcell : wr.cell? ⟨g, 0, none⟩ = some (.int .u64 0) := by
        obtain ⟨g', he, hc, _⟩ := H3.at_ 0 (by decide)
        injection he with he; injection he with he
        subst he
        exact hc
      have hfr : wr.frozen? ⟨g, 0, none⟩ = false := by
        obtain ⟨g', he, _, hf⟩ := H3.at_ 0 (by decide)
        injection he with he; injection he with he
        subst he
        exact hf
      obtain ⟨y, hy⟩ : ∃ y, y = x / 65536 ^ 0 := ⟨_, rfl⟩
      obtain ⟨d, hd⟩ : ∃ d, d = y % 65536 := ⟨_, rfl⟩
      obtain ⟨y2, hy2⟩ : ∃ y2, y2 = x / 65536 ^ 1 := ⟨_, rfl⟩
      have e1 : (y : Int) % 65536 = (d : Int) := by omega
      have e2 : (y : Int) / 65536 = (y2 : Int) := by
        have : y2 = y / 65536 := by rw [hy2, hy, Nat.pow_succ, Nat.div_div_eq_div_mul]
        omega
      have e3 : IntKind.u64.wrap (y2 : Int) = (y2 : Int) := by
        have : y2 ≤ x := by rw [hy2]; exact Nat.div_le_self _ _
        rw [IntKind.wrap_u64]
        omega
      have hset : (uv (partsL x 0)).set 0 (.int .u64 (d : Int)) = uv (partsL x (0 + 1)) := by
        rw [uv_set, hd, hy]
        rfl
      have HSET := Lib.hid hset
      have HY2 := Lib.hid hy2
      rw [← hy]
      clear hset hy2 hd hy
      go_wp2
      have HB := H3.store 0 (.int .u64 (d : Int))
      rw [HSET.out] at HB
      exact ⟨⟨0 + 1, by omega, by rfl, by rw [HY2.out], HB⟩, by simp [intOf]⟩
    · have hcell : wr.cell? ⟨g, 1, none⟩ = some (.int .u64 0) := by
        obtain ⟨g', he, hc, _⟩ := H3.at_ 1 (by decide)
        injection he with he; injection he with he
        subst he
        exact hc
      have hfr : wr.frozen? ⟨g, 1, none⟩ = false := by
        obtain ⟨g', he, _, hf⟩ := H3.at_ 1 (by decide)
        injection he with he; injection he with he
        subst he
        exact hf
      obtain ⟨y, hy⟩ : ∃ y, y = x / 65536 ^ 1 := ⟨_, rfl⟩
      obtain ⟨d, hd⟩ : ∃ d, d = y % 65536 := ⟨_, rfl⟩
      obtain ⟨y2, hy2⟩ : ∃ y2, y2 = x / 65536 ^ 2 := ⟨_, rfl⟩
      have e1 : (y : Int) % 65536 = (d : Int) := by omega
      have e2 : (y : Int) / 65536 = (y2 : Int) := by
        have : y2 = y / 65536 := by rw [hy2, hy, Nat.pow_succ, Nat.div_div_eq_div_mul]
        omega
      have e3 : IntKind.u64.wrap (y2 : Int) = (y2 : Int) := by
        have : y2 ≤ x := by rw [hy2]; exact Nat.div_le_self _ _
        rw [IntKind.wrap_u64]
        omega
      have hset : (uv (partsL x 1)).set 1 (.int .u64 (d : Int)) = uv (partsL x (1 + 1)) := by
        rw [uv_set, hd, hy]
        rfl
      have HSET := Lib.hid hset
      have HY2 := Lib.hid hy2
      rw [← hy]
      clear hset hy2 hd hy
      go_wp2
      have HB := H3.store 1 (.int .u64 (d : Int))
      rw [HSET.out] at HB
      exact ⟨⟨1 + 1, by omega, by rfl, by rw [HY2.out], HB⟩, by simp [intOf]⟩
    · have hcell : wr.cell? ⟨g, 2, none⟩ = some (.int .u64 0) := by
        obtain ⟨g', he, hc, _⟩ := H3.at_ 2 (by decide)
        injection he with he; injection he with he
        subst he
        exact hc
      have hfr : wr.frozen? ⟨g, 2, none⟩ = false := by
        obtain ⟨g', he, _, hf⟩ := H3.at_ 2 (by decide)
        injection he with he; injection he with he
        subst he
        exact hf
      obtain ⟨y, hy⟩ : ∃ y, y = x / 65536 ^ 2 := ⟨_, rfl⟩
      obtain ⟨d, hd⟩ : ∃ d, d = y % 65536 := ⟨_, rfl⟩
      obtain ⟨y2, hy2⟩ : ∃ y2, y2 = x / 65536 ^ 3 := ⟨_, rfl⟩
      have e1 : (y : Int) % 65536 = (d : Int) := by omega
      have e2 : (y : Int) / 65536 = (y2 : Int) := by
        have : y2 = y / 65536 := by rw [hy2, hy, Nat.pow_succ, Nat.div_div_eq_div_mul]
        omega
      have e3 : IntKind.u64.wrap (y2 : Int) = (y2 : Int) := by
        have : y2 ≤ x := by rw [hy2]; exact Nat.div_le_self _ _
        rw [IntKind.wrap_u64]
        omega
      have hset : (uv (partsL x 2)).set 2 (.int .u64 (d : Int)) = uv (partsL x (2 + 1)) := by
        rw [uv_set, hd, hy]
        rfl
      have HSET := Lib.hid hset
      have HY2 := Lib.hid hy2
      rw [← hy]
      clear hset hy2 hd hy
      go_wp2
      have HB := H3.store 2 (.int .u64 (d : Int))
      rw [HSET.out] at HB
      exact ⟨⟨2 + 1, by omega, by rfl, by rw [HY2.out], HB⟩, by simp [intOf]⟩
    · have hcell : wr.cell? ⟨g, 3, none⟩ = some (.int .u64 0) := by
        obtain ⟨g', he, hc, _⟩ := H3.at_ 3 (by decide)
        injection he with he; injection he with he
        subst he
        exact hc
      have hfr : wr.frozen? ⟨g, 3, none⟩ = false := by
        obtain ⟨g', he, _, hf⟩ := H3.at_ 3 (by decide)
        injection he with he; injection he with he
        subst he
        exact hf
      obtain ⟨y, hy⟩ : ∃ y, y = x / 65536 ^ 3 := ⟨_, rfl⟩
      obtain ⟨d, hd⟩ : ∃ d, d = y % 65536 := ⟨_, rfl⟩
      obtain ⟨y2, hy2⟩ : ∃ y2, y2 = x / 65536 ^ 4 := ⟨_, rfl⟩
      have e1 : (y : Int) % 65536 = (d : Int) := by omega
      have e2 : (y : Int) / 65536 = (y2 : Int) := by
        have : y2 = y / 65536 := by rw [hy2, hy, Nat.pow_succ, Nat.div_div_eq_div_mul]
        omega
      have e3 : IntKind.u64.wrap (y2 : Int) = (y2 : Int) := by
        have : y2 ≤ x := by rw [hy2]; exact Nat.div_le_self _ _
        rw [IntKind.wrap_u64]
        omega
      have hset : (uv (partsL x 3)).set 3 (.int .u64 (d : Int)) = uv (partsL x (3 + 1)) := by
        rw [uv_set, hd, hy]
        rfl
      have HSET := Lib.hid hset
      have HY2 := Lib.hid hy2
      rw [← hy]
      clear hset hy2 hd hy
      go_wp2
      have HB := H3.store 3 (.int .u64 (d : Int))
      rw [HSET.out] at HB
      exact ⟨⟨3 + 1, by omega, by rfl, by rw [HY2.out], HB⟩, by simp [intOf]⟩
    · go_wp2
      go_ret
      exact ⟨g, rfl, H3⟩
end
end Go.Proofs.YtcegmakkfhfalaaDoor
