/- tuple.Compare. -/
import Derived.Test.YtbmiifglpjeegaaDoorN6
set_option linter.unusedVariables false
set_option linter.unusedSimpArgs false
namespace Go.Proofs.YtbmiifglpjeegaaDoor
open Go.RowKit Wd
section
variable {w0 w : World} {M : Mem} {L : List Ent}
set_option maxRecDepth 100000 in
set_option maxHeartbeats 1000000 in
theorem compare_any (H : St w0 w M L) {A B : Option Addr} {c d n m : Nat} {ps qs : List Tu.Part} (hn : n = ps.length) (hm : m = qs.length) (hA : SrA w0 M L A (pcs ps)) (hB : SrA w0 M L B (pcs qs)) (hn2 : n ≤ 100000) (hm2 : m ≤ 100000)
    (oA : (A = none → c = 0) ∧ n ≤ c) (oB : (B = none → d = 0) ∧ m ≤ d) (hp : ps.all Tu.may = true) (hq : qs.all Tu.may = true) :
    Calls Tryd.prog 17 #[.slice A n c, .slice B m d] w fun e w' => e = .returned (.int .i64 (Tu.cmp ps qs)) ∧ St w0 w' M L := by
  have H1 := H.new [.slice A n c, .slice B m d] 23
  have hcc := concat_any (c := 2) (m := 2) (ps := [⟨A, n, c, ps⟩, ⟨B, m, d, qs⟩]) H1 rfl (fun w' M' hM H => (H.blk 0 rfl).ra 0 2 _ rfl) (by
    intro p hp
    simp only [List.mem_cons, List.not_mem_nil, or_false] at hp
    rcases hp with rfl | rfl
    · exact ⟨⟨hn, oA.1, oA.2⟩, hA.cons _⟩
    · exact ⟨⟨hm, oB.1, oB.2⟩, hB.cons _⟩) (by simp [flat]; omega) (by omega)
  have hfl : flat [⟨A, n, c, ps⟩, ⟨B, m, d, qs⟩] = ps ++ qs := by simp [flat]
  rw [hfl] at hcc
  have hall : (!(ps ++ qs).all Tu.may) = false := by rw [List.all_append, hp, hq]; rfl
  have hN : (ps ++ qs).length ≤ 1000000 := by rw [List.length_append]; omega
  have hct := fun (w' : World) (A' : Option Addr) (c' : Nat) (H : St w0 w' M (er 42 3 (.slice A' (ps ++ qs).length c') (ps ++ qs).length (pcs (ps ++ qs)) :: eb w.heap.size 23 [.slice A n c, .slice B m d] :: L)) =>
    contains_any 30 (enters_of Tryd.func30 (by kernel_rfl) rfl) (c := c') H rfl (SrA.row 0 rfl) hN (fun p w H => notMay2_any H p)
  rw [hall] at hct
  have hcf := fun w (H : St w0 w M L) => cmpFunc_any (c := c) (d := d) (enters_of Tryd.func32 (by kernel_rfl) rfl) H hn hm hA hB (by omega) (by omega)
  obtain ⟨R, hR⟩ : ∃ R, R = Tu.cmp ps qs := ⟨_, rfl⟩
  rw [← hR] at hcf ⊢
  obtain ⟨N, hNe⟩ : ∃ N, N = (ps ++ qs).length := ⟨_, rfl⟩
  rw [← hNe] at hcc hct
  have HCC := Lib.hid hcc
  have HCT := Lib.hid hct
  have HCF := Lib.hid hcf
  clear hcc hct hcf hR hNe hall hN hfl hn hm hA hB hp hq oA oB
  go_enter Tryd.func17, Tryd.ntmps17
  go_wp2_with fail
  refine HCC.out.mono ?_
  rintro e w1 ⟨v, rfl, H2⟩
  obtain ⟨A2, c2, rfl, hc2⟩ := H2.shape 0 rfl
  go_wp2_with fail
  refine (HCT.out _ _ _ H2).mono ?_
  rintro e w2 ⟨rfl, H3⟩
  go_wp2_with fail
  refine (HCF.out _ H3.d0.d0).mono ?_
  rintro e w3 ⟨rfl, H4⟩
  go_wp2
  go_ret
  exact ⟨rfl, H4⟩
end
end Go.Proofs.YtbmiifglpjeegaaDoor
