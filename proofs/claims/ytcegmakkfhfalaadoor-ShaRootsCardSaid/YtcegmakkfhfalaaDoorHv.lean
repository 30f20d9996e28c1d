/- The well known digest is known: 'awake' walked. -/
import Derived.Test.YtcegmakkfhfalaaDoorHu
import Derived.Test.YtcegmakkfhfalaaDoorHr
import Derived.Test.YtcegmakkfhfalaaDoorHq
import Derived.Test.YtcegmakkfhfalaaDoorEv
import Derived.Test.YtcegmakkfhfalaaDoorWk
import Derived.Lib.SlBytesConst
set_option linter.unusedVariables false
set_option linter.unusedSimpArgs false
namespace Go.Proofs.YtcegmakkfhfalaaDoor
open Go.RowKit Wd
theorem abc_hex : hexL (Sha.sha [97, 98, 99]) = [98, 97, 55, 56, 49, 54, 98, 102, 56, 102, 48, 49, 99, 102, 101, 97, 52, 49, 52, 49, 52, 48, 100, 101, 53, 100, 97, 101, 50, 50, 50, 51, 98, 48, 48, 51, 54, 49, 97, 51, 57, 54, 49, 55, 55, 97, 57, 99, 98, 52, 49, 48, 102, 102, 54, 49, 102, 50, 48, 48, 49, 53, 97, 100] := by
  rw [Sha.sha_abc]
  kernel_rfl
section
variable {w0 w : World} {M : Mem} {L : List Ent}
set_option maxRecDepth 100000 in
set_option maxHeartbeats 1000000 in
theorem awake_any (ht : Tabs w0) (H : St w0 w M L) : Calls Tryd.prog 9 #[] w fun e w' => e = .returned (.bool true) ∧ St w0 w' M L := by
  have kc := fun (w : World) (C : Array Value) (n c : Nat) => Lib.run_convert_bytes_const (P := Tryd.prog) w 22 5 C n c Tryd.underlying22 Tryd.underlying5
  have H0 := H.alloc (.cells (bv [97, 98, 99]).toArray 5 (3, 4))
  have hg : (w.alloc (.cells (bv [97, 98, 99]).toArray 5 (3, 4))).heap[w.heap.size]? = some (.cells (bv [97, 98, 99]).toArray 5 (3, 4)) := by
    show (w.heap.push _)[w.heap.size]? = _
    simp
  obtain ⟨H1, hm1⟩ := H0.with_ (g := w.heap.size) (H.fresh (Nat.le_refl _)) (by show _ < (w.heap.push _).size; simp) (fun e he hf => by have := (Ent.holds_lt (H.holds e he) hf).2; omega)
  have hIn : In (M.with w.heap.size (w.alloc (.cells (bv [97, 98, 99]).toArray 5 (3, 4)))) (RB · (some ⟨w.heap.size, 0, none⟩) [97, 98, 99]) := fun W hW _ => by
    have h1 : W.heap[w.heap.size]? = some (.cells (bv [97, 98, 99]).toArray 5 (3, 4)) := hW _ _ (by unfold Mem.with; rw [if_pos rfl]; exact hg)
    refine ⟨_, 0, rfl, (Array.getElem?_eq_some_iff.1 h1).1, fun j u hj => ?_⟩
    unfold World.cell?
    simp only [h1]
    rw [Nat.zero_add]
    simpa using hj
  obtain ⟨D, hD⟩ : ∃ D, D = Sha.sha [97, 98, 99] := ⟨_, rfl⟩
  have hO := of_any ht H1 (A := some ⟨w.heap.size, 0, none⟩) (c := 3) (l := [97, 98, 99]) (by rintro ⟨⟩) (by decide) (Sr.of_in hIn) (by decide)
  have hx := abc_hex
  rw [← hD] at hO hx
  have hsl : (bv D).length = 32 := by rw [bv_length, hD, sha_len]
  have hdl : D.length = 32 := by rw [hD, sha_len]
  have HO := Lib.hid hO
  have HX := Lib.hid hx
  have HSL := Lib.hid hsl
  have HDL := Lib.hid hdl
  clear hD hO hx hsl hdl
  go_enter Tryd.func9, Tryd.ntmps9
  go_wp2_with fail
  refine HO.out.mono ?_
  rintro e w1 ⟨rfl, H2⟩
  have H3 := (H2.weak H hm1).new (bv (List.replicate 32 0)) 24
  obtain ⟨w2, hst, H4⟩ := run_store_st (P := Tryd.prog) H3 (cs := bv D) (by rw [HSL.out, bv_length, List.length_replicate]) (bv_one _)
  rw [show (Obj.cells (bv (List.replicate 32 0)).toArray 24 (0, 0)) = .cells #[.int .u8 0, .int .u8 0, .int .u8 0, .int .u8 0, .int .u8 0, .int .u8 0, .int .u8 0, .int .u8 0, .int .u8 0, .int .u8 0, .int .u8 0, .int .u8 0, .int .u8 0, .int .u8 0, .int .u8 0, .int .u8 0, .int .u8 0, .int .u8 0, .int .u8 0, .int .u8 0, .int .u8 0, .int .u8 0, .int .u8 0, .int .u8 0, .int .u8 0, .int .u8 0, .int .u8 0, .int .u8 0, .int .u8 0, .int .u8 0, .int .u8 0, .int .u8 0] 24 from rfl] at hst
  clear H3 H2 H1 HO
  go_wp2_with fail
  have hh := hex_any H4 (A := some ⟨w1.heap.size, 0, none⟩) (c := 32) (l := D) (Sr.blk 0 rfl (by rw [List.drop_zero, HDL.out, List.take_of_length_le (Nat.le_of_eq HSL.out)])) (by rw [HDL.out]; decide)
  rw [HDL.out, HX.out] at hh
  have HH := Lib.hid hh
  clear hh
  refine HH.out.mono ?_
  rintro e w3 ⟨rfl, H5⟩
  go_wp2
  go_ret
  exact ⟨rfl, H5.d0⟩
end
end Go.Proofs.YtcegmakkfhfalaaDoor
