/- The contract of sha.Of. -/
import Derived.Test.YtcdljlaoedaliaaDoorHt
import Derived.Test.YtcdljlaoedaliaaDoorRt
import Derived.Test.YtcdljlaoedaliaaDoorSo
set_option linter.unusedVariables false
set_option linter.unusedSimpArgs false
namespace Go.Proofs.YtcdljlaoedaliaaDoor
open Go.RowKit Wd
section
variable {w0 w : World} {M : Mem} {L : List Ent}
theorem HS.out0 {g : Nat} {all : List UInt8} (H : HS w0 w M g all L) : ∃ Z : List Ent, St w0 w M (Z ++ L) ∧ Z.length = 2 ∧ ∀ w' M' L', St w0 w' M' (Z ++ L') → HS w0 w' M' g all L' := by
  obtain ⟨rv, H⟩ := H
  exact ⟨[_, _], H, rfl, fun w' M' L' h => ⟨rv, h⟩⟩
theorem digest_len (v : Sha.V8) : (Sha.digest v).length = 32 := rfl
theorem sha_len (l : List UInt8) : (Sha.sha l).length = 32 := by unfold Sha.sha Sha.HM.sum; exact digest_len _
theorem sr_now {g : Nat} {all : List UInt8} {A : Option Addr} {l : List UInt8} (hl : Sr w0 M L A l) (H : HS w0 w M g all L) : RB w A l := hl.now H.rest
set_option maxRecDepth 100000 in
set_option maxHeartbeats 1000000 in
theorem of_any (ht : Tabs w0) (H : St w0 w M L) {A : Option Addr} {c : Nat} {l : List UInt8} (hA : A = none → c = 0) (hc : l.length ≤ c) (hl : Sr w0 M L A l) (hn : l.length < 140737488355328) :
    Calls Tryd.prog 76 #[.slice A l.length c] w fun e w' => e = .returned (.agg (bv (Sha.sha l)).toArray) ∧ St w0 w' M L := by
  obtain ⟨D, hD⟩ : ∃ D, D = Sha.sha l := ⟨_, rfl⟩
  rw [← hD]
  have HD := Lib.hid hD
  clear hD
  go_enter Tryd.func76, Tryd.ntmps76
  go_upto_region 1 with fail
  have H1 := H.new (bv (List.replicate 32 0)) 40
  rw [show (Obj.cells #[.int .u8 0, .int .u8 0, .int .u8 0, .int .u8 0, .int .u8 0, .int .u8 0, .int .u8 0, .int .u8 0, .int .u8 0, .int .u8 0, .int .u8 0, .int .u8 0, .int .u8 0, .int .u8 0, .int .u8 0, .int .u8 0, .int .u8 0, .int .u8 0, .int .u8 0, .int .u8 0, .int .u8 0, .int .u8 0, .int .u8 0, .int .u8 0, .int .u8 0, .int .u8 0, .int .u8 0, .int .u8 0, .int .u8 0, .int .u8 0, .int .u8 0, .int .u8 0] 40 (0, 0)) = .cells (bv (List.replicate 32 0)).toArray 40 from rfl]
  generalize hw1 : w.alloc (.cells (bv (List.replicate 32 0)).toArray 40) = w1 at *
  generalize hob : w.heap.size = ob at *
  clear hw1
  go_wp2_with fail
  refine (hs_new ht H1).mono ?_
  rintro e w2 ⟨g, rfl, H2⟩
  go_wp2
  go_loopw [0] (fun v wr => ∃ (k : Nat) (A' : Option Addr) (m c' : Nat), m = l.length - 4096 * k ∧ 4096 * k ≤ l.length ∧ v = .slice A' m c' ∧ m ≤ c' ∧ (A' = none → c' = 0) ∧ Sr w0 M L A' (l.drop (4096 * k)) ∧ HS w0 wr M g (l.take (4096 * k)) (eb ob 40 (bv (List.replicate 32 0)) :: L)) (fun v _ => slen v)
  case atStart => exact ⟨0, A, l.length, c, rfl, by omega, rfl, hc, hA, hl, H2⟩
  case round =>
    obtain ⟨k, A', m, c', hm, hk, rfl, hmc, hA', hl', H3⟩ := hrel
    clear H1 H2
    have hdl : (l.drop (4096 * k)).length = m := by rw [List.length_drop, hm]
    by_cases hlt : 4096 < m
    · obtain ⟨b, o, rfl⟩ : ∃ b o, A' = some ⟨b, o, none⟩ := by
        obtain ⟨b, o, h, _⟩ := (hl'.now H3.rest.d0) (by intro h0; rw [h0] at hdl; simp at hdl; omega)
        exact ⟨b, o, h⟩
      have q1 : (4096 : Int) < (m : Int) := by omega
      have q2 : (m : Int) ≤ (c' : Int) := by omega
      have q3 : (4096 : Int) ≤ (c' : Int) := by omega
      have HM := Lib.hid hm
      have HDL := Lib.hid hdl
      clear hm hdl
      have hw := hs_write ht H3 (A := some ⟨b, o, none⟩) (c := c') (l := (l.drop (4096 * k)).take 4096) (by rintro ⟨⟩) ((hl'.now H3.rest.d0).take 4096) (by have := HDL.out; have := HM.out; rw [List.length_take, List.length_take, HDL.out]; omega)
      rw [show ((l.drop (4096 * k)).take 4096).length = 4096 from by rw [List.length_take, HDL.out]; omega, show l.take (4096 * k) ++ (l.drop (4096 * k)).take 4096 = l.take (4096 * (k + 1)) from by rw [← List.take_add]; rfl] at hw
      have HW := Lib.hid hw
      clear hw
      go_wp2_with fail
      refine HW.out.mono ?_
      rintro e w4 ⟨rfl, H4⟩
      have hsr : Sr w0 M L (some ⟨b, o + 4096, none⟩) (l.drop (4096 * (k + 1))) := fun w' M' hM hS => by
        have h1 := hl' w' M' hM hS
        have h2 := h1.sub (k := 4096) (m := m)
        rw [List.drop_drop, List.take_of_length_le (by have := HM.out; rw [List.length_drop]; omega)] at h2
        rw [show 4096 * (k + 1) = 4096 * k + 4096 from by omega]
        exact h2
      clear H3
      go_wp2
      exact ⟨⟨k + 1, _, m - 4096, c' - 4096, by have := HM.out; omega, by have := HM.out; omega, rfl, by omega, (by rintro ⟨⟩), hsr, H4⟩, by show m - 4096 < m; omega⟩
    · have hw := hs_write ht H3 hA' (hl'.now H3.rest.d0) (by rw [List.length_take, hdl]; omega)
      rw [hdl, List.take_append_drop] at hw
      have HW := Lib.hid hw
      clear hw hm hdl
      go_wp2_with fail
      refine HW.out.mono ?_
      rintro e w4 ⟨rfl, H4⟩
      have hsm := hs_sum ht H4 hn
      rw [← HD.out] at hsm
      have hsl : (bv D).length = 32 := by rw [bv_length, HD.out, sha_len]
      have HSL := Lib.hid hsl
      have HSM := Lib.hid hsm
      clear hsm hsl HW
      go_wp2_with fail
      refine HSM.out.mono ?_
      rintro e w5 ⟨rfl, H5⟩
      have H6 := H5.rest
      obtain ⟨w6, hst, H7⟩ := run_store_st (P := Tryd.prog) H6 (cs := bv D) (by rw [HSL.out, bv_length, List.length_replicate]) (bv_one _)
      go_wp2_with fail
      refine ret_row H7 (by rfl) (by rfl) Tryd.underlying40 (by rfl) (by rw [HSL.out]; exact Tryd.size24) rfl ?_
      exact ⟨rfl, H7.d0⟩
end
end Go.Proofs.YtcdljlaoedaliaaDoor
