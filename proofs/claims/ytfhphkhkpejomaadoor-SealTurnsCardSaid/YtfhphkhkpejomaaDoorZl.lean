/- What 'awake' of chapter 4 asks, reckoned. No program is in sight. -/
import Derived.Test.YtfhphkhkpejomaaDoorZa
import Derived.KernelRfl
import Derived.Test.YtfhphkhkpejomaaDoorZi
import Derived.Test.YtfhphkhkpejomaaDoorCs
import Derived.Lib.SlBytesConst
set_option linter.unusedVariables false
namespace Go.Proofs.YtfhphkhkpejomaaDoor
namespace Seal
def aNon : List UInt8 := [1, 0, 0, 0, 0, 0, 0, 0, 0, 0, 0, 0, 0, 0, 0, 0]
theorem awake_bad : openR [107] [109] (sealed [107] aNon [108] [104, 101, 108, 108, 111]) = ([], 11) := by kernel_rfl
end Seal
end Go.Proofs.YtfhphkhkpejomaaDoor
/- 'awake' of chapter 4 walked. -/
set_option linter.unusedVariables false
set_option linter.unusedSimpArgs false
namespace Go.Proofs.YtfhphkhkpejomaaDoor
open Go.RowKit Wd
section
variable {w0 w : World} {M : Mem} {L : List Ent}
set_option maxRecDepth 100000 in
set_option maxHeartbeats 1000000 in
theorem awake_any (ht : Tabs w0) (H : St w0 w M L) : Calls Tryd.prog 7 #[] w fun e w' => e = .returned (.bool true) ∧ St w0 w' M L := by
  have kc := fun (w : World) (C : Array Value) (n c : Nat) => Lib.run_convert_bytes_const (P := Tryd.prog) w 22 5 C n c Tryd.underlying22 Tryd.underlying5
  have kc2 : ∀ (o : Obj) (C : Array Value) (n c : Nat), (convert 22 22 (.slice (some ⟨w.heap.size + 1, 0, none⟩) n c)).run Tryd.prog ((w.alloc o).alloc (.cells C 5)) = .ok (.slice (some ⟨w.heap.size + 1, 0, none⟩) n c) ((w.alloc o).alloc (.cells C 5 (C.size, C.size + 1))) := fun o C n c => by
    have h := Lib.run_convert_bytes_const (P := Tryd.prog) (w.alloc o) 22 5 C n c Tryd.underlying22 Tryd.underlying5
    rwa [show (w.alloc o).heap.size = w.heap.size + 1 from by simp] at h
  obtain ⟨M1, hM1, H1, in1⟩ := H.constBytes [107] 5 (1, 2)
  obtain ⟨M2, hM2, H2, in2⟩ := H1.constBytes [104, 101, 108, 108, 111] 5 (5, 6)
  rw [show (w.alloc (.cells (bv [107]).toArray 5 (1, 2))).heap.size = w.heap.size + 1 from by simp] at in2
  obtain ⟨S, hS⟩ : ∃ S, S = Seal.sealed [107] Seal.aNon [108] [104, 101, 108, 108, 111] := ⟨_, rfl⟩
  have hSl : S.length = 53 := by rw [hS, Seal.sealed_len _ _ _ _ rfl]; rfl
  have hO := seal_any ht H2 (A := some ⟨w.heap.size, 0, none⟩) (c := 1) (k := [107]) (by rintro ⟨⟩) (by decide) (Sr.of_in (in1.le hM2)) (by decide) Seal.aNon [108] rfl (by decide) (C := some ⟨w.heap.size + 1, 0, none⟩) (f := 5) (b := [104, 101, 108, 108, 111]) (by rintro ⟨⟩) (by decide) (Sr.of_in in2) (by decide)
  rw [show Seal.sealR [107] Seal.aNon [108] [104, 101, 108, 108, 111] = (S, 0) from by rw [hS]; exact if_neg (by decide)] at hO
  have hgood := Seal.open_sealed [107] Seal.aNon [108] [104, 101, 108, 108, 111] rfl (by decide) (by decide)
  have hbad := Seal.awake_bad
  rw [← hS] at hgood hbad
  have HO := Lib.hid hO
  have HG := Lib.hid hgood
  have HB := Lib.hid hbad
  have HSL := Lib.hid hSl
  clear hO hgood hbad hS hSl
  go_enter Tryd.func7, Tryd.ntmps7
  go_wp2_with fail
  refine HO.out.mono ?_
  rintro e w1 ⟨A1, c1, M3, rfl, hl1, hA1, hM3, hin3, H3⟩
  have HIN3 := Lib.hid hin3
  have hl1' := hl1
  rw [HSL.out] at hl1'
  rw [HSL.out]
  clear kc2 H1 H2 in1 in2 HO hin3 hl1
  obtain ⟨M4, hM4, H4, in4⟩ := H3.constBytes [107] 5 (1, 2)
  have hp := open_any ht H4 (A := some ⟨w1.heap.size, 0, none⟩) (c := 1) (k := [107]) (by rintro ⟨⟩) (by decide) (Sr.of_in in4) (by decide) [108] (by decide) (C := A1) (f := c1) (s := S) hA1 (by rw [HSL.out]; exact hl1') (Sr.of_in (HIN3.out.le hM4)) (by rw [HSL.out]; decide)
  rw [HG.out, HSL.out] at hp
  have HP := Lib.hid hp
  clear hp
  go_wp2_with fail
  refine HP.out.mono ?_
  rintro e w2 ⟨A5, c5, M5, rfl, hl5, hA5, hM5, hin5, H5⟩
  have HIN5 := Lib.hid hin5
  clear H4 H3 in4 HP hin5
  obtain ⟨M6, hM6, H6, in6⟩ := H5.constBytes [107] 5 (1, 2)
  have hp := open_any ht H6 (A := some ⟨w2.heap.size, 0, none⟩) (c := 1) (k := [107]) (by rintro ⟨⟩) (by decide) (Sr.of_in in6) (by decide) [109] (by decide) (C := A1) (f := c1) (s := S) hA1 (by rw [HSL.out]; exact hl1') (Sr.of_in (((HIN3.out.le hM4).le hM5).le hM6)) (by rw [HSL.out]; decide)
  rw [HB.out, HSL.out] at hp
  have HP := Lib.hid hp
  clear hp
  go_wp2_with fail
  refine HP.out.mono ?_
  rintro e w3 ⟨A7, c7, M7, rfl, hl7, hA7, hM7, hin7, H7⟩
  have cv := conv_RB (P := Tryd.prog) (src := 22) (dst := 9) (c := c5) (n := 5) Tryd.underlying22 Tryd.underlying5 Tryd.underlying9 (((HIN5.out.le hM6).le hM7).now H7) rfl
  clear H5 H6 in6 HP hin7
  go_wp2
  go_ret
  exact ⟨rfl, H7.weak H (((((hM1.trans hM2).trans hM3).trans hM4).trans hM5).trans (hM6.trans hM7))⟩
end
end Go.Proofs.YtfhphkhkpejomaaDoor
