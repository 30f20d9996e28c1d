/- The well known tag is known: 'awake' of chapter 3 walked. -/
import Derived.Test.YthlbenbkgkahoaaDoorMo
import Derived.Test.YthlbenbkgkahoaaDoorMs
import Derived.Test.YthlbenbkgkahoaaDoorSg
import Derived.Test.YthlbenbkgkahoaaDoorHr
import Derived.Test.YthlbenbkgkahoaaDoorMv
import Derived.Lib.SlBytesConst
set_option linter.unusedVariables false
set_option linter.unusedSimpArgs false
namespace Go.Proofs.YthlbenbkgkahoaaDoor
open Go.RowKit Wd
section
variable {w0 w : World} {M : Mem} {L : List Ent}
set_option maxRecDepth 100000 in
set_option maxHeartbeats 1000000 in
theorem awake_any (ht : Tabs w0) (H : St w0 w M L) : Calls Tryd.prog 8 #[] w fun e w' => e = .returned (.bool true) ∧ St w0 w' M L := by
  have kc := fun (w : World) (C : Array Value) (n c : Nat) => Lib.run_convert_bytes_const (P := Tryd.prog) w 22 5 C n c Tryd.underlying22 Tryd.underlying5
  have kc2 : ∀ (o : Obj) (C : Array Value) (n c : Nat), (convert 22 22 (.slice (some ⟨w.heap.size + 1, 0, none⟩) n c)).run Tryd.prog ((w.alloc o).alloc (.cells C 5)) = .ok (.slice (some ⟨w.heap.size + 1, 0, none⟩) n c) ((w.alloc o).alloc (.cells C 5 (C.size, C.size + 1))) := fun o C n c => by
    have h := Lib.run_convert_bytes_const (P := Tryd.prog) (w.alloc o) 22 5 C n c Tryd.underlying22 Tryd.underlying5
    rwa [show (w.alloc o).heap.size = w.heap.size + 1 from by simp] at h
  obtain ⟨M1, hM1, H1, in1⟩ := H.constBytes [74, 101, 102, 101] 5 (4, 5)
  obtain ⟨M2, hM2, H2, in2⟩ := H1.constBytes [119, 104, 97, 116, 32, 100, 111, 32, 121, 97, 32, 119, 97, 110, 116, 32, 102, 111, 114, 32, 110, 111, 116, 104, 105, 110, 103, 63] 5 (28, 29)
  rw [show (w.alloc (.cells (bv [74, 101, 102, 101]).toArray 5 (4, 5))).heap.size = w.heap.size + 1 from by simp] at in2
  obtain ⟨D, hD⟩ : ∃ D, D = Mac.mac [74, 101, 102, 101] [119, 104, 97, 116, 32, 100, 111, 32, 121, 97, 32, 119, 97, 110, 116, 32, 102, 111, 114, 32, 110, 111, 116, 104, 105, 110, 103, 63] := ⟨_, rfl⟩
  have hO := mac_any ht H2 (A := some ⟨w.heap.size, 0, none⟩) (c := 4) (k := [74, 101, 102, 101]) (by rintro ⟨⟩) (by decide) (Sr.of_in (in1.le hM2)) (by decide) (B := some ⟨w.heap.size + 1, 0, none⟩) (d := 28) (b := [119, 104, 97, 116, 32, 100, 111, 32, 121, 97, 32, 119, 97, 110, 116, 32, 102, 111, 114, 32, 110, 111, 116, 104, 105, 110, 103, 63]) (by rintro ⟨⟩) (Sr.of_in in2) (by decide)
  have hx := mac_jefe
  rw [← hD] at hO hx
  have hdl : D.length = 32 := by rw [hD, Mac.mac_len]
  have hsl : (bv D).length = 32 := by rw [bv_length, hdl]
  have HO := Lib.hid hO
  have HX := Lib.hid hx
  have HDL := Lib.hid hdl
  clear hD hO hx hdl
  go_enter Tryd.func8, Tryd.ntmps8
  go_wp2_with fail
  refine HO.out.mono ?_
  rintro e w1 ⟨rfl, H3⟩
  have H4 := (H3.weak H (hM1.trans hM2)).new (bv (List.replicate 32 0)) 24
  obtain ⟨w2, hst, H5⟩ := run_store_st (P := Tryd.prog) H4 (cs := bv D) (by rw [hsl, bv_length, List.length_replicate]) (bv_one _)
  rw [← obj32] at hst
  clear H1 H2 H3 H4 HO in1 in2
  go_wp2_with fail
  have h4l : (D.take 4).length = 4 := by rw [List.length_take, HDL.out]; rfl
  have hh := rhex_any H5 (A := some ⟨w1.heap.size, 0, none⟩) (c := 32) (l := D.take 4) (Sr.blk 0 rfl (by rw [List.drop_zero, h4l, bv_take])) (by rw [h4l]; decide) (by rw [h4l]; decide)
  rw [HX.out, h4l] at hh
  have HH := Lib.hid hh
  clear hh hst
  refine HH.out.mono ?_
  rintro e w3 ⟨rfl, H6⟩
  have H7 := (H6.d0.lit (bv [1]) 5 (by show 1 ≤ maxLen; decide)).lit (bv [1]) 5 (by show 1 ≤ maxLen; decide)
  rw [show (w3.alloc (.cells (bv [1]).toArray 5)).heap.size = w3.heap.size + 1 from by simp] at H7
  have hsm := same_any (a := [1]) (b := [1]) (c := 1) (d := 1) (er_RB (H7.get 1 rfl)) (er_RB (H7.get 0 rfl)) (Nat.le_refl _) (Nat.le_refl _) (by decide)
  have HSM := Lib.hid hsm
  clear hsm
  go_wp2_with fail
  refine HSM.out.mono ?_
  rintro e w4 ⟨rfl, rfl⟩
  go_wp2_with fail
  refine (check_any _).mono ?_
  rintro e w5 ⟨rfl, rfl⟩
  go_wp2
  go_ret
  exact ⟨rfl, H7.d0.d0⟩
end
end Go.Proofs.YthlbenbkgkahoaaDoor
