/- Nobody's sum: what the methods do at a nil and at an unmade one. -/
import Derived.Test.YtcegmakkfhfalaaDoorHu
import Derived.Test.YtcegmakkfhfalaaDoorEq
set_option linter.unusedVariables false
set_option linter.unusedSimpArgs false
namespace Go.Proofs.YtcegmakkfhfalaaDoor
open Go.RowKit Wd
/-- The cells of a sum that was never made. -/
def zcells : List Value := [.bool false, .int .u32 0, .int .u32 0, .int .u32 0, .int .u32 0, .int .u32 0, .int .u32 0, .int .u32 0, .int .u32 0, .slice none 0 0, .int .i64 0]
section
variable {w0 w : World} {M : Mem} {L : List Ent}
theorem nil_write (w : World) (v : Value) : Calls Tryd.prog 16 #[.pointer none, v] w fun e w' => e = .returned (.tuple #[]) ∧ w = w' := by
  go_enter Tryd.func16, Tryd.ntmps16
  go_wp2
  refine bodyPost_ret (results_none rfl _ _ _) rfl ?_
  exact ⟨rfl, rfl⟩
theorem nil_len (w : World) : Calls Tryd.prog 17 #[.pointer none] w fun e w' => e = .returned (.int .i64 0) ∧ w = w' := by
  go_enter Tryd.func17, Tryd.ntmps17
  go_wp2
  go_ret
  exact ⟨rfl, rfl⟩
theorem z_write (H : St w0 w M L) {g i : Nat} (hi : L[i]? = some (eb g 43 zcells)) (v : Value) : Calls Tryd.prog 16 #[.pointer (some ⟨g, 0, none⟩), v] w fun e w' => e = .returned (.tuple #[]) ∧ w = w' := by
  have c0 : w.cell? ⟨g, 0, none⟩ = some (.bool false) := H.cell i hi 0
  clear H hi
  go_enter Tryd.func16, Tryd.ntmps16
  go_wp2
  refine bodyPost_ret (results_none rfl _ _ _) rfl ?_
  exact ⟨rfl, rfl⟩
theorem z_len (H : St w0 w M L) {g i : Nat} (hi : L[i]? = some (eb g 43 zcells)) : Calls Tryd.prog 17 #[.pointer (some ⟨g, 0, none⟩)] w fun e w' => e = .returned (.int .i64 0) ∧ w = w' := by
  have c0 : w.cell? ⟨g, 10, none⟩ = some (.int .i64 0) := H.cell i hi 10
  clear H hi
  go_enter Tryd.func17, Tryd.ntmps17
  go_wp2
  go_ret
  exact ⟨rfl, rfl⟩
theorem of_nil (ht : Tabs w0) (H : St w0 w M L) : Calls Tryd.prog 10 #[.slice none 0 0] w fun e w' => e = .returned (.agg (bv (Sha.sha [])).toArray) ∧ St w0 w' M L :=
  of_any (A := none) (c := 0) (l := []) ht H (fun _ => rfl) (Nat.le_refl _) (Sr.of_in fun W _ h => absurd rfl h) (by decide)
set_option maxRecDepth 100000 in
set_option maxHeartbeats 1000000 in
theorem no_sum (ht : Tabs w0) (H : St w0 w M L) (A : Option Addr) (hA : A = none ∨ ∃ (g i : Nat), A = some ⟨g, 0, none⟩ ∧ L[i]? = some (eb g 43 zcells)) : Calls Tryd.prog 18 #[.pointer A] w fun e w' => e = .returned (.agg (bv (Sha.sha [])).toArray) ∧ St w0 w' M L := by
  obtain ⟨D, hD⟩ : ∃ D, D = Sha.sha [] := ⟨_, rfl⟩
  have hdl : D.length = 32 := by rw [hD, sha_len]
  have hof := fun (w1 : World) (H1 : St w0 w1 M (eb w.heap.size 24 (bv (List.replicate 32 0)) :: L)) => of_nil ht H1
  rw [← hD] at hof ⊢
  have HDL := Lib.hid hdl
  clear hD hdl
  have HOF := Lib.hid hof
  clear hof
  have H1 := H.new (bv (List.replicate 32 0)) 24
  rcases hA with rfl | ⟨g, i, rfl, hi⟩
  · go_enter Tryd.func18, Tryd.ntmps18
    go_wp2_with fail
    refine (HOF.out _ H1).mono ?_
    rintro e w2 ⟨rfl, H2⟩
    obtain ⟨w3, hst, H3⟩ := run_store_st (P := Tryd.prog) H2 (cs := bv D) (by rw [bv_length, HDL.out, bv_length, List.length_replicate]) (bv_one _)
    have hsl : (bv D).length = 32 := by rw [bv_length, HDL.out]
    go_wp2
    refine ret_row H3 (by rfl) (by rfl) Tryd.underlying24 (by rfl) (by rw [bv_length, HDL.out]; exact Tryd.size24) rfl ?_
    exact ⟨rfl, H3.d0⟩
  · have c0 : (w.alloc (.cells #[.int .u8 0, .int .u8 0, .int .u8 0, .int .u8 0, .int .u8 0, .int .u8 0, .int .u8 0, .int .u8 0, .int .u8 0, .int .u8 0, .int .u8 0, .int .u8 0, .int .u8 0, .int .u8 0, .int .u8 0, .int .u8 0, .int .u8 0, .int .u8 0, .int .u8 0, .int .u8 0, .int .u8 0, .int .u8 0, .int .u8 0, .int .u8 0, .int .u8 0, .int .u8 0, .int .u8 0, .int .u8 0, .int .u8 0, .int .u8 0, .int .u8 0, .int .u8 0] 24)).cell? ⟨g, 0, none⟩ = some (.bool false) := (H.alloc _).cell i hi 0
    clear hi
    go_enter Tryd.func18, Tryd.ntmps18
    go_wp2_with fail
    refine (HOF.out _ H1).mono ?_
    rintro e w2 ⟨rfl, H2⟩
    obtain ⟨w3, hst, H3⟩ := run_store_st (P := Tryd.prog) H2 (cs := bv D) (by rw [bv_length, HDL.out, bv_length, List.length_replicate]) (bv_one _)
    have hsl : (bv D).length = 32 := by rw [bv_length, HDL.out]
    go_wp2
    refine ret_row H3 (by rfl) (by rfl) Tryd.underlying24 (by rfl) (by rw [bv_length, HDL.out]; exact Tryd.size24) rfl ?_
    exact ⟨rfl, H3.d0⟩
end
end Go.Proofs.YtcegmakkfhfalaaDoor
