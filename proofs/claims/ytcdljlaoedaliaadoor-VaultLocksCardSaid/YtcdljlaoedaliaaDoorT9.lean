/- The shelf's structures at this program: which of its functions and types are those that the contracts speak of. -/
import Derived.Test.YtcdljlaoedaliaaDoorChecked
import Derived.Shelf.Strconv.Itoa1
import Derived.Shelf.Strconv.Itoa2
import Derived.Lib.ItoaMem
import Derived.Test.YtcdljlaoedaliaaDoorT5
import Derived.Test.YtcdljlaoedaliaaDoorT2
import Derived.Lib.AppendIntMem
import Derived.Test.YtcdljlaoedaliaaDoorT6
import Derived.Test.YtcdljlaoedaliaaDoorV1
import Derived.Deep.DeepCutAuto
import Derived.Test.YtcdljlaoedaliaaDoorTa
set_option linter.unusedVariables false
set_option linter.unusedSimpArgs false
namespace Go.Proofs.YtcdljlaoedaliaaDoor
open Go.Shelf Go.RowKit
def Tryd.small_ren : Go.Shelf.Ren := ⟨fun | 283 => 95 | n => n, fun | 3 => 3 | 9 => 9 | 4 => 4 | n => n, fun | n => n⟩
theorem Tryd.small : Go.Proofs.Lays.n283 Tryd.prog Tryd.small_ren where
  mixed := by kernel_rfl
  f283 := Tryd.func95.trans (congrArg some (by kernel_rfl))
  t3 := Tryd.underlying3
  a3 := Tryd.isAgg3
  z3 := Tryd.sizeOf3
  v3 := Tryd.zeroValue3
  t4 := Tryd.underlying4
  a4 := Tryd.isAgg4
  z4 := Tryd.sizeOf4
  v4 := Tryd.zeroValue4
  t9 := Tryd.underlying9
  a9 := Tryd.isAgg9
  z9 := Tryd.sizeOf9
  v9 := Tryd.zeroValue9
def Tryd.ndig_ren : Go.Shelf.Ren := ⟨fun | 284 => 96 | 129 => 103 | 317 => 102 | 318 => 104 | n => n, fun | 53 => 23 | 3 => 3 | 212 => 134 | 0 => 0 | 4 => 4 | 46 => 89 | 5 => 5 | 9 => 9 | n => n, fun | 17 => 3 | n => n⟩
theorem Tryd.ndig : Go.Proofs.LaysM.n284 Tryd.prog Tryd.ndig_ren where
  mixed := by kernel_rfl
  f129 := Tryd.func103.trans (congrArg some (by kernel_rfl))
  f284 := Tryd.func96.trans (congrArg some (by kernel_rfl))
  f317 := Tryd.func102.trans (congrArg some (by kernel_rfl))
  f318 := Tryd.func104.trans (congrArg some (by kernel_rfl))
  t0 := Tryd.underlying0
  a0 := Tryd.isAgg0
  z0 := Tryd.sizeOf0
  v0 := Tryd.zeroValue0
  t3 := Tryd.underlying3
  a3 := Tryd.isAgg3
  z3 := Tryd.sizeOf3
  v3 := Tryd.zeroValue3
  t4 := Tryd.underlying4
  a4 := Tryd.isAgg4
  z4 := Tryd.sizeOf4
  v4 := Tryd.zeroValue4
  t5 := Tryd.underlying5
  a5 := Tryd.isAgg5
  z5 := Tryd.sizeOf5
  v5 := Tryd.zeroValue5
  t9 := Tryd.underlying9
  a9 := Tryd.isAgg9
  z9 := Tryd.sizeOf9
  v9 := Tryd.zeroValue9
  t46 := Tryd.underlying89
  a46 := Tryd.isAgg89
  z46 := Tryd.sizeOf89
  v46 := Tryd.zeroValue89
  t53 := Tryd.underlying23
  a53 := Tryd.isAgg23
  z53 := Tryd.sizeOf23
  v53 := Tryd.zeroValue23
  t212 := Tryd.underlying134
  a212 := Tryd.isAgg134
  z212 := Tryd.sizeOf134
  v212 := Tryd.zeroValue134
  g17 := by kernel_rfl
  i0 := by kernel_rfl
  i3 := by kernel_rfl
  i4 := by kernel_rfl
  i5 := by kernel_rfl
  i9 := by kernel_rfl
  i46 := by kernel_rfl
  i53 := by kernel_rfl
  i212 := by kernel_rfl
  m17 := by kernel_rfl
def Tryd.fmt10_ren : Go.Shelf.Ren := ⟨fun | 285 => 97 | n => n, fun | 37 => 42 | 53 => 23 | 3 => 3 | 4 => 4 | 51 => 95 | 9 => 9 | 5 => 5 | 0 => 0 | n => n, fun | n => n⟩
theorem Tryd.fmt10 : Go.Proofs.Lays.n285 Tryd.prog Tryd.fmt10_ren where
  mixed := by kernel_rfl
  f285 := Tryd.func97.trans (congrArg some (by kernel_rfl))
  t0 := Tryd.underlying0
  a0 := Tryd.isAgg0
  z0 := Tryd.sizeOf0
  v0 := Tryd.zeroValue0
  t3 := Tryd.underlying3
  a3 := Tryd.isAgg3
  z3 := Tryd.sizeOf3
  v3 := Tryd.zeroValue3
  t4 := Tryd.underlying4
  a4 := Tryd.isAgg4
  z4 := Tryd.sizeOf4
  v4 := Tryd.zeroValue4
  t5 := Tryd.underlying5
  a5 := Tryd.isAgg5
  z5 := Tryd.sizeOf5
  v5 := Tryd.zeroValue5
  t9 := Tryd.underlying9
  a9 := Tryd.isAgg9
  z9 := Tryd.sizeOf9
  v9 := Tryd.zeroValue9
  t37 := Tryd.underlying42
  a37 := Tryd.isAgg42
  z37 := Tryd.sizeOf42
  v37 := Tryd.zeroValue42
  t51 := Tryd.underlying95
  a51 := Tryd.isAgg95
  z51 := Tryd.sizeOf95
  v51 := Tryd.zeroValue95
  t53 := Tryd.underlying23
  a53 := Tryd.isAgg23
  z53 := Tryd.sizeOf23
  v53 := Tryd.zeroValue23

end Go.Proofs.YtcdljlaoedaliaaDoor
/- Numerals: strconv.FormatUint at base 10, the document's Digits; labels. -/
set_option linter.unusedVariables false
set_option linter.unusedSimpArgs false
namespace Go.Proofs.YtcdljlaoedaliaaDoor
open Go.RowKit Wd
open Go.Lib (decDigits)
open Go.Sort (putRow cell?_putRow)
def P10 (w : World) : Prop := Lib.TabIs Tryd.prog w "internal/strconv.uint64pow10" .u64 Lib.pow10Tab
set_option maxRecDepth 100000 in
theorem fuint_small (i : Nat) (hi : i < 100) (w : World) :
    Calls Tryd.prog 86 #[.int .u64 (i : Int), .int .i64 10] w fun e w' => e = .returned (.string (str (decDigits i))) ∧ w' = w := by
  have hs := fun W => Any.internal_strconv_small Tryd.small i hi W
  have HS := Lib.hid hs
  have r1 : (i : Int) < 100 := by omega
  clear hs
  go_enter Tryd.func86, Tryd.ntmps86
  go_wp2_with fail
  refine (HS.out _).mono ?_
  rintro e w' ⟨rfl, rfl⟩
  go_wp2
  go_ret
  exact ⟨rfl, rfl⟩
set_option maxRecDepth 100000 in
set_option maxHeartbeats 2000000 in
theorem fuint_big (u : Nat) (hu : 100 ≤ u) (hu64 : u < 18446744073709551616) (w : World) (htab : P10 w) :
    Calls Tryd.prog 86 #[.int .u64 (u : Int), .int .i64 10] w fun e w' => e = .returned (.string (str (decDigits u))) ∧ Below w.heap.size w w' := by
  have hu1 : 1 ≤ u := by omega
  have hnd20 : Lib.nDigits u ≤ 20 := by have := Lib.numDigits_eq u hu1 hu64; split at this <;> omega
  have hal : Tryd.prog.arrayLen 125 = 24 := by simp [Program.arrayLen, Tryd.underlying125]
  have hsl : ∀ W, (Instr.sliceAt 125 (.pointer (some ⟨w.heap.size, 0, none⟩)) none (some (.int .i64 (Lib.nDigits u : Int))) none).run Tryd.prog W = .ok (.slice (some ⟨w.heap.size, 0, none⟩) (Lib.nDigits u) 24) W := fun W => by
    rw [run_sliceAt_array_h W 125 ⟨w.heap.size, 0, none⟩ (by simp [Program.arrayLen, Program.elem, Tryd.underlying125]) .i64 (Lib.nDigits u : Int) (by omega) (by rw [hal]; omega)]
    go_simp
  have hH0 := Lib.holds_zero0 w 125 (Lib.nDigits u) (by omega)
  have hfmt := Any.internal_strconv_formatBase10 Tryd.fmt10 w.heap.size 0 24 u (Array.replicate (Lib.nDigits u) 0) (w.alloc (.cells Lib.zeros24 125)) hH0 (by rw [Array.size_replicate]; exact Lib.lt_pow_nDigits u) hu64 (by rw [Array.size_replicate]; omega)
  rw [Array.size_replicate] at hfmt
  have hnd := fun W h => Any.internal_strconv_numDigits Tryd.ndig u hu1 hu64 W h
  have hta := Lib.tabIs_alloc htab (.cells Lib.zeros24 125)
  have iu : ¬ (u : Int) < 100 := by omega
  have HH0 := Lib.hid hH0
  have HF := Lib.hid hfmt
  have HND := Lib.hid hnd
  have HTA := Lib.hid hta
  clear hH0 hal hfmt hnd hta htab
  go_enter Tryd.func86, Tryd.ntmps86
  go_wp2_with fail
  refine (HND.out _ HTA.out).mono ?_
  rintro e w' ⟨rfl, rfl⟩
  go_wp2_with fail
  refine HF.out.mono ?_
  rintro e w' ⟨rfl, k, v', dk, rfl, hF⟩
  have hcv : (convert 42 9 (.slice (some ⟨w.heap.size, 0, none⟩) (Lib.nDigits u) 24)).run Tryd.prog ((putRow (fun (b : UInt8) => Value.int .u8 (b.toNat : Int)) (w.alloc (.cells Lib.zeros24 125)) w.heap.size 0 dk).drewN k) = .ok (.string ⟨(decDigits u).toArray⟩) ((putRow (fun (b : UInt8) => Value.int .u8 (b.toNat : Int)) (w.alloc (.cells Lib.zeros24 125)) w.heap.size 0 dk).drewN k) := by
    have h := run_convert_bytes_back (P := Tryd.prog) ((putRow (fun (b : UInt8) => Value.int .u8 (b.toNat : Int)) (w.alloc (.cells Lib.zeros24 125)) w.heap.size 0 dk).drewN k) 42 9 5 ⟨w.heap.size, 0, none⟩ 24 (decDigits u) Tryd.underlying42 Tryd.underlying5 Tryd.underlying9 (fun j hj => by
      rw [Lib.row_is_numeral hF j hj, Lib.add_plain, World.cell?_drewN]
      exact cell?_putRow (fun (b : UInt8) => Value.int .u8 (b.toNat : Int)) _ w.heap.size 0 _ dk HH0.out (by rw [hF.size, Array.size_replicate]) j (by rw [hF.size]; rw [Lib.decDigits_length] at hj; exact hj))
    rw [Lib.decDigits_length] at h
    exact h
  clear HF HND HTA
  go_wp2
  go_ret
  obtain ⟨os, eo⟩ := Lib.fin_at w (.cells Lib.zeros24 125) dk k 0
  refine ⟨rfl, ?_⟩
  rw [eo]
  exact Lib.below_grow w.heap.size w (Nat.le_refl _) k os
theorem fuint_any (u : Nat) (hu64 : u < 18446744073709551616) (w : World) (htab : P10 w) :
    Calls Tryd.prog 86 #[.int .u64 (u : Int), .int .i64 10] w fun e w' => e = .returned (.string (str (decDigits u))) ∧ Below w.heap.size w w' := by
  by_cases h : u < 100
  · exact (fuint_small u h w).mono fun e w' ⟨h1, h2⟩ => ⟨h1, by rw [h2]; exact Below.refl _ _⟩
  · exact fuint_big u (by omega) hu64 w htab
set_option maxRecDepth 100000 in
theorem sfuint_any (u : Nat) (hu64 : u < 18446744073709551616) (w : World) (htab : P10 w) :
    Calls Tryd.prog 71 #[.int .u64 (u : Int), .int .i64 10] w fun e w' => e = .returned (.string (str (decDigits u))) ∧ Below w.heap.size w w' := by
  have HH := Lib.hid (fuint_any u hu64 w htab)
  clear htab
  go_enter Tryd.func71, Tryd.ntmps71
  go_wp2_with fail
  refine HH.out.mono ?_
  rintro e w1 ⟨rfl, h1⟩
  go_wp2
  go_ret
  exact ⟨rfl, h1⟩
theorem dd_len (u : Nat) (h : u < 18446744073709551616) : (decDigits u).length ≤ 20 := by
  rw [Lib.decDigits_length]
  by_cases h1 : 1 ≤ u
  · have := Lib.numDigits_eq u h1 h
    split at this <;> omega
  · rw [Lib.nDigits_small (by omega)]
    omega
set_option maxRecDepth 100000 in
theorem digits_any : ∀ (u : Nat), u < 18446744073709551616 → ∀ w : World, Calls Tryd.prog 75 #[.int .u64 (u : Int)] w fun e w' => e = .returned (.string (str (decDigits u))) ∧ w' = w := by
  intro u
  induction u using Nat.strongRecOn with
  | _ u ih =>
    intro hu w
    by_cases h : u < 10
    · have r1 : (u : Int) < 10 := by omega
      obtain ⟨R, hR⟩ : ∃ R, R = decDigits u := ⟨_, rfl⟩
      rw [← hR]
      rw [Lib.decDigits_one h] at hR
      have hsm : ∀ W, (Instr.slice 9 (.string ⟨#[48, 49, 50, 51, 52, 53, 54, 55, 56, 57]⟩) (some (.int .u64 (u : Int))) (some (.int .u64 ((u : Int) + 1))) none).run Tryd.prog W = .ok (.string (str R)) W := fun W => by
        have hh := str_mid (P := Tryd.prog) (t := 9) (k := .u64) (k' := .u64) Tryd.underlying9 [48, 49, 50, 51, 52, 53, 54, 55, 56, 57] u (u + 1) (by omega) (by simp; omega) (i := (u : Int)) (j := (u : Int) + 1) rfl (by omega) W
        rw [show ((([48, 49, 50, 51, 52, 53, 54, 55, 56, 57] : List UInt8).take (u + 1)).drop u) = R from by
          rw [hR]
          match u, h with
          | 0, _ => rfl | 1, _ => rfl | 2, _ => rfl | 3, _ => rfl | 4, _ => rfl | 5, _ => rfl | 6, _ => rfl | 7, _ => rfl | 8, _ => rfl | 9, _ => rfl] at hh
        exact hh
      have wr : IntKind.u64.wrap ((u : Int) + 1) = (u : Int) + 1 := by rw [IntKind.wrap_u64]; omega
      have HSM := Lib.hid hsm
      have HWR := Lib.hid wr
      clear ih h hR hsm wr
      have hsm := HSM.out
      have wr := HWR.out
      go_enter Tryd.func75, Tryd.ntmps75
      go_wp2
      go_ret
      exact ⟨rfl, rfl⟩
    · have r1 : ¬ (u : Int) < 10 := by omega
      have h1 := ih (u / 10) (by omega) (by omega)
      have h2 := ih (u % 10) (by omega) (by omega)
      have e1 : (((u / 10 : Nat)) : Int) = (u : Int).tdiv 10 := by rw [Int.tdiv_eq_ediv_of_nonneg (by omega)]; omega
      have e2 : (((u % 10 : Nat)) : Int) = (u : Int).tmod 10 := by rw [Int.tmod_eq_emod_of_nonneg (by omega)]; omega
      obtain ⟨R, hR⟩ : ∃ R, R = decDigits u := ⟨_, rfl⟩
      rw [← hR]
      rw [Lib.decDigits, dif_neg h, ← Lib.decDigits_one (show u % 10 < 10 from by omega)] at hR
      obtain ⟨q, hq⟩ : ∃ q, q = u / 10 := ⟨_, rfl⟩
      obtain ⟨m, hm⟩ : ∃ m, m = u % 10 := ⟨_, rfl⟩
      rw [← hq] at h1 e1 hR
      rw [← hm] at h2 e2 hR
      have wq : IntKind.u64.wrap (q : Int) = (q : Int) := by rw [IntKind.wrap_u64]; omega
      have wm : IntKind.u64.wrap (m : Int) = (m : Int) := by rw [IntKind.wrap_u64]; omega
      have e1' := e1.symm
      have e2' := e2.symm
      have hadd : ∀ w, (Op.stringOp .add (str (decDigits q)) (str (decDigits m))).run Tryd.prog w = .ok (.string (str R)) w := fun w => by
        have l1 := dd_len q (by omega)
        have l2 := dd_len m (by omega)
        rw [hR]
        exact run_string_add_lists w _ _ (by omega) (by omega)
      have HADD := Lib.hid hadd
      have H1 := Lib.hid h1
      have H2 := Lib.hid h2
      have HR := Lib.hid hR
      have HE := Lib.hid (And.intro e1' (And.intro e2' (And.intro wq wm)))
      clear ih h h1 h2 e1 e2 e1' e2' hR hq hm wq wm hadd
      obtain ⟨e1, e2, wq, wm⟩ := HE.out
      go_enter Tryd.func75, Tryd.ntmps75
      go_wp2_with fail
      refine (H1.out _).mono ?_
      rintro e w1 ⟨rfl, rfl⟩
      go_wp2_with fail
      refine (H2.out _).mono ?_
      rintro e w2 ⟨rfl, rfl⟩
      clear e1 e2 wq wm
      have hadd := HADD.out
      go_wp2
      go_ret
      exact ⟨rfl, rfl⟩
end Go.Proofs.YtcdljlaoedaliaaDoor
/- Labels; the document's check of credentials. -/
set_option linter.unusedVariables false
set_option linter.unusedSimpArgs false
namespace Go.Proofs.YtcdljlaoedaliaaDoor
open Go.RowKit Wd
open Go.Lib (decDigits)
theorem P10.below {w w' : World} (h : P10 w) (hb : Below w.heap.size w w') : P10 w' := by
  unfold P10 Lib.TabIs World.var? at h ⊢
  rw [Tryd.ndig.m17] at h ⊢
  simp only [Option.bind_some] at h ⊢
  have hlt : Tryd.ndig_ren.g 17 < w.heap.size := by
    cases hg : w.heap[Tryd.ndig_ren.g 17]? with
    | none => rw [hg] at h; cases h
    | some o => exact (Array.getElem?_eq_some_iff.1 hg).1
  rw [hb.block _ hlt]
  exact h
/-- Credentials' label. -/
def lab (a b : Nat) : List UInt8 := ([99, 114, 101, 100, 47] ++ decDigits a) ++ [47] ++ decDigits b
theorem lab_len (a b : Nat) (ha : a < 18446744073709551616) (hb : b < 18446744073709551616) : (lab a b).length ≤ 46 := by
  have h1 := dd_len a ha
  have h2 := dd_len b hb
  unfold lab
  simp
  omega
section
variable {w0 w : World} {M : Mem} {L : List Ent}
set_option maxRecDepth 100000 in
theorem label_any (h10 : P10 w0) (H : St w0 w M L) (a b : Nat) (ha : a < 18446744073709551616) (hb : b < 18446744073709551616) :
    Calls Tryd.prog 49 #[.int .u64 (a : Int), .int .u64 (b : Int)] w fun e w' => e = .returned (.string (str (lab a b))) ∧ St w0 w' M L := by
  have h1 := sfuint_any a ha w (h10.below H.below)
  have h2 := fun W (hW : St w0 W M L) => sfuint_any b hb W (h10.below hW.below)
  have l1 := dd_len a ha
  have l2 := dd_len b hb
  unfold lab
  obtain ⟨X, hX⟩ : ∃ X, X = decDigits a := ⟨_, rfl⟩
  obtain ⟨Y, hY⟩ : ∃ Y, Y = decDigits b := ⟨_, rfl⟩
  rw [← hX] at h1 l1 ⊢
  simp only [← hY] at h2 l2 ⊢
  have a1 : ∀ w, (Op.stringOp .add ⟨#[99, 114, 101, 100, 47]⟩ (str X)).run Tryd.prog w = .ok (.string (str ([99, 114, 101, 100, 47] ++ X))) w := fun w => run_string_add_lists w [99, 114, 101, 100, 47] X (by decide) (by omega)
  obtain ⟨X1, hX1⟩ : ∃ X1, X1 = [99, 114, 101, 100, 47] ++ X := ⟨_, rfl⟩
  have l3 : X1.length ≤ 25 := by rw [hX1]; simp; omega
  simp only [← hX1] at a1 ⊢
  have a2 : ∀ w, (Op.stringOp .add (str X1) ⟨#[47]⟩).run Tryd.prog w = .ok (.string (str (X1 ++ [47]))) w := fun w => run_string_add_lists w X1 [47] (by omega) (by decide)
  obtain ⟨X2, hX2⟩ : ∃ X2, X2 = X1 ++ [47] := ⟨_, rfl⟩
  have l4 : X2.length ≤ 26 := by rw [hX2]; simp; omega
  simp only [← hX2] at a2 ⊢
  have a3 : ∀ w, (Op.stringOp .add (str X2) (str Y)).run Tryd.prog w = .ok (.string (str (X2 ++ Y))) w := fun w => run_string_add_lists w X2 Y (by omega) (by omega)
  have H1 := Lib.hid h1
  have H2 := Lib.hid h2
  have A1 := Lib.hid a1
  have A2 := Lib.hid a2
  have A3 := Lib.hid a3
  have HH := Lib.hid H
  clear h1 h2 l1 l2 l3 l4 hX hY hX1 hX2 a1 a2 a3 ha hb h10 H
  have a1 := A1.out
  have a2 := A2.out
  have a3 := A3.out
  go_enter Tryd.func49, Tryd.ntmps49
  go_wp2_with fail
  refine H1.out.mono ?_
  rintro e w1 ⟨rfl, hb1⟩
  have H3 := HH.out.belowK hb1
  clear H1 hb1
  go_wp2_with fail
  refine (H2.out _ H3).mono ?_
  rintro e w2 ⟨rfl, hb2⟩
  have H4 := H3.belowK hb2
  go_wp2
  go_ret
  exact ⟨rfl, H4⟩
set_option maxRecDepth 100000 in
theorem rlabel_any (a b : Nat) (ha : a < 18446744073709551616) (hb : b < 18446744073709551616) (w : World) :
    Calls Tryd.prog 52 #[.int .u64 (a : Int), .int .u64 (b : Int)] w fun e w' => e = .returned (.string (str (lab a b))) ∧ w' = w := by
  have h1 := digits_any a ha w
  have h2 := digits_any b hb w
  have l1 := dd_len a ha
  have l2 := dd_len b hb
  unfold lab
  obtain ⟨X, hX⟩ : ∃ X, X = decDigits a := ⟨_, rfl⟩
  obtain ⟨Y, hY⟩ : ∃ Y, Y = decDigits b := ⟨_, rfl⟩
  rw [← hX] at h1 l1 ⊢
  simp only [← hY] at h2 l2 ⊢
  have a1 : ∀ w, (Op.stringOp .add ⟨#[99, 114, 101, 100, 47]⟩ (str X)).run Tryd.prog w = .ok (.string (str ([99, 114, 101, 100, 47] ++ X))) w := fun w => run_string_add_lists w [99, 114, 101, 100, 47] X (by decide) (by omega)
  obtain ⟨X1, hX1⟩ : ∃ X1, X1 = [99, 114, 101, 100, 47] ++ X := ⟨_, rfl⟩
  have l3 : X1.length ≤ 25 := by rw [hX1]; simp; omega
  simp only [← hX1] at a1 ⊢
  have a2 : ∀ w, (Op.stringOp .add (str X1) ⟨#[47]⟩).run Tryd.prog w = .ok (.string (str (X1 ++ [47]))) w := fun w => run_string_add_lists w X1 [47] (by omega) (by decide)
  obtain ⟨X2, hX2⟩ : ∃ X2, X2 = X1 ++ [47] := ⟨_, rfl⟩
  have l4 : X2.length ≤ 26 := by rw [hX2]; simp; omega
  simp only [← hX2] at a2 ⊢
  have a3 : ∀ w, (Op.stringOp .add (str X2) (str Y)).run Tryd.prog w = .ok (.string (str (X2 ++ Y))) w := fun w => run_string_add_lists w X2 Y (by omega) (by omega)
  have H1 := Lib.hid h1
  have H2 := Lib.hid h2
  have A1 := Lib.hid a1
  have A2 := Lib.hid a2
  have A3 := Lib.hid a3
  clear h1 h2 l1 l2 l3 l4 hX hY hX1 hX2 a1 a2 a3 ha hb
  have a1 := A1.out
  have a2 := A2.out
  have a3 := A3.out
  go_enter Tryd.func52, Tryd.ntmps52
  go_wp2_with fail
  refine H1.out.mono ?_
  rintro e w1 ⟨rfl, rfl⟩
  go_wp2_with fail
  refine H2.out.mono ?_
  rintro e w2 ⟨rfl, rfl⟩
  go_wp2
  go_ret
  exact ⟨rfl, rfl⟩
end
set_option maxRecDepth 100000 in
theorem rvcheck_any (u p : List UInt8) (w : World) : Calls Tryd.prog 30 #[.string (str u), .string (str p)] w fun e w' => e = .returned (.int .i64 (Va.cerr u p)) ∧ w = w' := by
  obtain ⟨U, hU⟩ : ∃ U, U = str u := ⟨_, rfl⟩
  obtain ⟨V, hV⟩ : ∃ V, V = str p := ⟨_, rfl⟩
  have hu : U.size = u.length := by rw [hU, str_size]
  have hv : V.size = p.length := by rw [hV, str_size]
  have hix := fun (q : Nat) (hq : q < u.length) W => str_index (P := Tryd.prog) (t := 9) (k := .i64) Tryd.underlying9 u q hq (i := (q : Int)) rfl W
  rw [← hU] at hix
  rw [← hU, ← hV]
  obtain ⟨R, hR⟩ : ∃ R, R = Va.cerr u p := ⟨_, rfl⟩
  rw [← hR]
  unfold Va.cerr at hR
  have hcase : 128 < u.length ∨ (¬ 128 < u.length ∧ 128 < p.length) ∨ (¬ 128 < u.length ∧ ¬ 128 < p.length) := by omega
  rcases hcase with h1 | ⟨h1, h2⟩ | ⟨h1, h2⟩
  · rw [if_pos (.inl h1)] at hR
    have q1 : (128 : Int) < (u.length : Int) := by omega
    subst hR
    clear h1 hix hU hV
    go_enter Tryd.func30, Tryd.ntmps30
    go_wp2
    go_ret
    exact ⟨rfl, rfl⟩
  · rw [if_pos (.inr h2)] at hR
    have q1 : ¬ (128 : Int) < (u.length : Int) := by omega
    have q2 : (128 : Int) < (p.length : Int) := by omega
    subst hR
    clear h1 h2 hix hU hV
    go_enter Tryd.func30, Tryd.ntmps30
    go_wp2
    go_ret
    exact ⟨rfl, rfl⟩
  · rw [if_neg (by omega)] at hR
    have q1 : ¬ (128 : Int) < (u.length : Int) := by omega
    have q2 : ¬ (128 : Int) < (p.length : Int) := by omega
    obtain ⟨n, hn⟩ : ∃ n, n = u.length := ⟨_, rfl⟩
    rw [← hn] at hu q1
    have hn128 : n ≤ 128 := by omega
    have HIX := Lib.hid hix
    have HR := Lib.hid hR
    have HN := Lib.hid hn
    clear h1 h2 hix hU hV hR hn
    go_enter Tryd.func30, Tryd.ntmps30
    go_wp2
    go_loopw [5] (fun i wr => ∃ k : Nat, k ≤ n ∧ i = .int .i64 k ∧ (∀ x ∈ u.take k, x ≠ 58) ∧ wr = w) (fun i _ => n - (intOf i).toNat)
    case atStart => exact ⟨0, by omega, rfl, by simp, rfl⟩
    case round =>
      obtain ⟨k, hk, rfl, hs, rfl⟩ := hrel
      have HS := Lib.hid hs
      clear hs
      by_cases hlt : k < n
      · have hk1 : k < u.length := by have := HN.out; omega
        have hi := HIX.out k hk1
        have hyes : u[k] = 58 → R = 1 := fun h => by rw [HR.out, if_pos (by rw [← h]; exact List.getElem_mem hk1)]
        have hno : u[k] ≠ 58 → ∀ x ∈ u.take (k + 1), x ≠ 58 := fun h x hx => by
          rw [List.take_succ_eq_append_getElem hk1] at hx
          rcases List.mem_append.1 hx with hx | hx
          · exact HS.out x hx
          · obtain rfl := List.mem_singleton.1 hx
            exact h
        obtain ⟨y, hy⟩ : ∃ y, y = u[k] := ⟨_, rfl⟩
        simp only [← hy] at hi hyes hno
        have r1 : (k : Int) < (n : Int) := by omega
        have HLT := Lib.hid hlt
        have HYES := Lib.hid hyes
        have HNO := Lib.hid hno
        clear hyes hno hy hk1 hlt
        by_cases h58 : y = 58
        · have hr := HYES.out h58
          have q5 : ((y.toNat : Int) == 58) = true := by rw [h58]; rfl
          subst hr
          clear h58 HR
          go_wp2
          go_ret
          exact ⟨rfl, rfl⟩
        · have q5 : ((y.toNat : Int) == 58) = false := by
            rw [beq_eq_false_iff_ne]
            intro h
            exact h58 (UInt8.toNat_inj.1 (by show y.toNat = 58; omega))
          have hs2 := HNO.out h58
          have HS2 := Lib.hid hs2
          clear h58 hs2
          go_wp2
          exact ⟨⟨k + 1, by have := HLT.out; omega, by go_num, HS2.out, trivial⟩, by have := HLT.out; simp [intOf]; omega⟩
      · obtain rfl : k = n := by omega
        have hr : R = 0 := by
          have h := HS.out
          rw [HN.out, List.take_length] at h
          rw [HR.out, if_neg (fun hm => h 58 hm rfl)]
        subst hr
        clear hlt
        go_wp2
        go_ret
        exact ⟨rfl, rfl⟩
/-- What unlocking answers. -/
def unlockR (k lb s : List UInt8) : List UInt8 × List UInt8 × Int :=
  if (Seal.openR k lb s).2 ≠ 0 then ([], [], (Seal.openR k lb s).2)
  else match (Seal.openR k lb s).1 with
    | [] => ([], [], 5)
    | x :: b => if b.length < x.toNat then ([], [], 5) else if Va.cerr (b.take x.toNat) (b.drop x.toNat) ≠ 0 then ([], [], 5) else (b.take x.toNat, b.drop x.toNat, 0)
end Go.Proofs.YtcdljlaoedaliaaDoor
/- Credentials unlocked. -/
set_option linter.unusedVariables false
set_option linter.unusedSimpArgs false
namespace Go.Proofs.YtcdljlaoedaliaaDoor
open Go.RowKit Wd
def slA (b o cap lo : Nat) : Option Addr := some (if cap = lo then ⟨b, o, none⟩ else ⟨b, o + lo, none⟩)
theorem sl_lh {P : Program} (W : World) (t e : TypeId) (ht : P.underlying t = some (.slice e)) (hz : ∀ w, (Go.sizeOf e).run P w = .ok 1 w) (b o len cap lo hi : Nat) (h1 : lo ≤ hi) (h2 : hi ≤ cap) :
    (Instr.slice t (.slice (some ⟨b, o, none⟩) len cap) (some (.int .i64 (lo : Int))) (some (.int .i64 (hi : Int))) none).run P W = .ok (.slice (slA b o cap lo) (hi - lo) (cap - lo)) W := by
  have ht' : P.underlying t = some (.slice (P.elem t)) := by simp [Program.elem, ht]
  have he : P.elem t = e := by simp [Program.elem, ht]
  rw [run_slice_lh W t _ _ _ ht' .i64 .i64 _ _ (by omega) (by omega) (by omega), he, hz]
  unfold slA
  by_cases h0 : cap = lo
  · simp [Result.andThen, sliced, h0]
  · by_cases h3 : lo = 0
    · subst h3; simp [Result.andThen, sliced, Addr.add, h0]
    · simp [Result.andThen, sliced, Addr.add, h0, h3]
theorem sl_l {P : Program} (W : World) (t e : TypeId) (ht : P.underlying t = some (.slice e)) (hz : ∀ w, (Go.sizeOf e).run P w = .ok 1 w) (b o len cap lo : Nat) (h1 : lo ≤ len) :
    (Instr.slice t (.slice (some ⟨b, o, none⟩) len cap) (some (.int .i64 (lo : Int))) none none).run P W = .ok (.slice (slA b o cap lo) (len - lo) (cap - lo)) W := by
  have ht' : P.underlying t = some (.slice (P.elem t)) := by simp [Program.elem, ht]
  have he : P.elem t = e := by simp [Program.elem, ht]
  rw [run_slice_l W t _ _ _ ht' .i64 _ (by omega) (by omega), he, hz]
  unfold slA
  by_cases h0 : cap = lo
  · simp [Result.andThen, sliced, h0]
  · by_cases h3 : lo = 0
    · subst h3; simp [Result.andThen, sliced, Addr.add, h0]
    · simp [Result.andThen, sliced, Addr.add, h0, h3]
theorem slA_RB {w : World} {b o cap : Nat} {l : List UInt8} (h : RB w (some ⟨b, o, none⟩) l) (hc : l.length ≤ cap) (lo m : Nat) : RB w (slA b o cap lo) ((l.drop lo).take m) := by
  unfold slA
  split
  · rename_i h0
    intro hne
    exact absurd (by rw [List.drop_eq_nil_of_le (by omega), List.take_nil]) hne
  · exact h.sub
theorem Tryd.sz8 (w : World) : (Go.sizeOf 5).run Tryd.prog w = .ok 1 w := by go_simp
/-- What opening leaves, its length a letter. -/
def RetN (w0 : World) (M : Mem) (L : List Ent) (P : List UInt8) (N : Nat) (E : Int) (e : Ending) (w' : World) : Prop :=
  ∃ A c M', e = .returned (.tuple #[.slice A N c, .int .i64 E]) ∧ N ≤ c ∧ M.le M' ∧ In M' (RB · A P) ∧ St w0 w' M' L
theorem RetN.of {w0 w' : World} {M : Mem} {L : List Ent} {P : List UInt8} {N : Nat} {E : Int} {e : Ending} (hN : N = P.length) (h : RetBytes w0 M L P (fun v => .returned (.tuple #[v, .int .i64 E])) e w') : RetN w0 M L P N E e w' := by
  obtain ⟨A, c, M', h1, h2, h3, h4, h5, h6⟩ := h
  subst hN
  exact ⟨A, c, M', h1, h2, h4, h5, h6⟩
section
variable {w0 w : World} {M : Mem} {L : List Ent}
set_option maxRecDepth 100000 in
set_option maxHeartbeats 4000000 in
theorem unlock_any (ht : Tabs w0) (h10 : P10 w0) (H : St w0 w M L) {A : Option Addr} {c : Nat} {k : List UInt8} (hA : A = none → c = 0) (hc : k.length ≤ c) (hk : Sr w0 M L A k) (hn : k.length < 1000000)
    (a b : Nat) (ha : a < 18446744073709551616) (hb : b < 18446744073709551616)
    {C : Option Addr} {f : Nat} {s : List UInt8} (hC : C = none → f = 0) (hsf : s.length ≤ f) (hs : Sr w0 M L C s) (hsn : s.length ≤ 10000) :
    Calls Tryd.prog 26 #[.slice A k.length c, .int .u64 (a : Int), .int .u64 (b : Int), .slice C s.length f] w fun e w' => e = .returned (.tuple #[.string (str (unlockR k (lab a b) s).1), .string (str (unlockR k (lab a b) s).2.1), .int .i64 (unlockR k (lab a b) s).2.2]) ∧ St w0 w' M L := by
  have hlb : Calls Tryd.prog 49 #[.int .u64 (a : Int), .int .u64 (b : Int)] w fun e w' => e = .returned (.string (str (lab a b))) ∧ St w0 w' M L := label_any h10 H a b ha hb
  have hop := fun W (HW : St w0 W M L) => open_any (c := c) ht HW hA hc hk hn (lab a b) (by have := lab_len a b ha hb; omega) hC hsf hs hsn
  unfold unlockR
  obtain ⟨lb, hlbl⟩ : ∃ lb, lb = lab a b := ⟨_, rfl⟩
  rw [← hlbl] at hlb ⊢
  simp only [← hlbl] at hop
  obtain ⟨⟨P, E⟩, hO⟩ : ∃ O, O = Seal.openR k lb s := ⟨_, rfl⟩
  simp only [← hO] at hop ⊢
  obtain ⟨N, hN⟩ : ∃ N, N = P.length := ⟨_, rfl⟩
  have hop2 := fun W (HW : St w0 W M L) => (hop W HW).mono fun e w' h => RetN.of hN h
  have HLB := Lib.hid hlb
  have HOP := Lib.hid hop2
  clear hlb hop hop2 hlbl hO H hk hs hA hC hc hsf hn hsn
  by_cases hE : E = 0
  · subst hE
    rw [if_neg (by simp)]
    cases P with
    | nil =>
      have hN0 : N = 0 := hN
      subst hN0
      clear hN
      go_enter Tryd.func26, Tryd.ntmps26
      go_wp2_with fail
      refine HLB.out.mono ?_
      rintro e w1 ⟨rfl, H1⟩
      go_wp2_with fail
      refine (HOP.out _ H1).mono ?_
      rintro e w2 ⟨A2, c2, M2, rfl, hlc, hM, hin, H2⟩
      have HZ := H2.weak H1 hM
      clear hlc hin
      go_wp2
      go_ret3
      exact ⟨rfl, HZ⟩
    | cons x B =>
      simp only
      have hx := x.toNat_lt
      rw [List.length_cons] at hN
      obtain ⟨X, hX⟩ : ∃ X, X = x.toNat := ⟨_, rfl⟩
      rw [← hX] at hx ⊢
      have q0 : ((N : Int) == 0) = false := by rw [beq_eq_false_iff_ne]; omega
      have q00 : (0 : Int) < (N : Int) := by omega
      have q0n : 0 < N := by omega
      have wr : IntKind.i64.wrap (1 + (X : Int)) = 1 + (X : Int) := by rw [IntKind.wrap_i64]; omega
      have wx : IntKind.i64.wrap (X : Int) = (X : Int) := by rw [IntKind.wrap_i64]; omega
      by_cases hlt : B.length < X
      · rw [if_pos hlt]
        have q1 : (N : Int) ≤ (X : Int) := by omega
        have HX := Lib.hid hX
        clear hlt hX hN
        go_enter Tryd.func26, Tryd.ntmps26
        go_wp2_with fail
        refine HLB.out.mono ?_
        rintro e w1 ⟨rfl, H1⟩
        go_wp2_with fail
        refine (HOP.out _ H1).mono ?_
        rintro e w2 ⟨A2, c2, M2, rfl, hlc, hM, hin, H2⟩
        obtain ⟨bb, oo, rfl, c0⟩ := (hin.now H2).at 0 (by simp)
        simp only [List.getElem_cons_zero, Nat.add_zero] at c0
        rw [← HX.out] at c0
        have HZ := H2.weak H1 hM
        clear hlc hin
        go_wp2
        go_ret3
        exact ⟨rfl, HZ⟩
      · rw [if_neg hlt]
        have q1 : ¬ (N : Int) ≤ (X : Int) := by omega
        obtain ⟨U, hU⟩ : ∃ U, U = B.take X := ⟨_, rfl⟩
        obtain ⟨V, hV⟩ : ∃ V, V = B.drop X := ⟨_, rfl⟩
        rw [← hU, ← hV]
        have hck := fun W => vccheck_any U V W
        obtain ⟨Z, hZ⟩ : ∃ Z, Z = Va.cerr U V := ⟨_, rfl⟩
        simp only [← hZ] at hck ⊢
        obtain ⟨R, hR⟩ : ∃ R : List UInt8 × List UInt8 × Int, R = if Z ≠ 0 then ([], [], 5) else (U, V, 0) := ⟨_, rfl⟩
        rw [← hR]
        have HR := Lib.hid hR
        clear hR
        have hul : X = U.length := by rw [hU, List.length_take]; omega
        have hvl : N - (1 + X) = V.length := by rw [hV, List.length_drop]; omega
        have HCK := Lib.hid hck
        have HN := Lib.hid hN
        have HX := Lib.hid hX
        have HU := Lib.hid hU
        have HV := Lib.hid hV
        have HUL := Lib.hid hul
        have HVL := Lib.hid hvl
        have HLT := Lib.hid hlt
        have WR := Lib.hid (And.intro wr wx)
        clear hlt hX hN hU hV hck hZ hul hvl
        go_enter Tryd.func26, Tryd.ntmps26
        go_wp2_with fail
        refine HLB.out.mono ?_
        rintro e w1 ⟨rfl, H1⟩
        go_wp2_with fail
        refine (HOP.out _ H1).mono ?_
        rintro e w2 ⟨A2, c2, M2, rfl, hlc, hM, hin, H2⟩
        obtain ⟨bb, oo, rfl, c0⟩ := (hin.now H2).at 0 (by simp)
        simp only [List.getElem_cons_zero, Nat.add_zero] at c0
        rw [← HX.out] at c0
        have hcell : ∀ W, St w0 W M2 L → W.cell? ⟨bb, oo, none⟩ = some (.int .u8 (X : Int)) := fun W hW => by
          obtain ⟨b3, o3, he, c3⟩ := (hin.now hW).at 0 (by simp)
          injection he with he
          injection he with e1 e2
          subst e1 e2
          simp only [List.getElem_cons_zero, Nat.add_zero] at c3
          rw [← HX.out] at c3
          exact c3
        have hs1 : ∀ W, (Instr.slice 42 (.slice (some ⟨bb, oo, none⟩) N c2) (some (.int .i64 1)) (some (.int .i64 (1 + (X : Int)))) none).run Tryd.prog W = .ok (.slice (slA bb oo c2 1) X (c2 - 1)) W := fun W => by
          have h := sl_lh W 42 5 Tryd.underlying42 Tryd.sz8 bb oo N c2 1 (1 + X) (by omega) (by have := HLT.out; have := HN.out; omega)
          rw [show ((1 : Nat) : Int) = 1 from rfl, show ((1 + X : Nat) : Int) = 1 + (X : Int) from by omega, Nat.add_sub_cancel_left] at h
          exact h
        have hs2 : ∀ W, (Instr.slice 42 (.slice (some ⟨bb, oo, none⟩) N c2) (some (.int .i64 (1 + (X : Int)))) none none).run Tryd.prog W = .ok (.slice (slA bb oo c2 (1 + X)) (N - (1 + X)) (c2 - (1 + X))) W := fun W => by
          have h := sl_l W 42 5 Tryd.underlying42 Tryd.sz8 bb oo N c2 (1 + X) (by have := HLT.out; have := HN.out; omega)
          rw [show ((1 + X : Nat) : Int) = 1 + (X : Int) from by omega] at h
          exact h
        have hv1 : ∀ W, St w0 W M2 L → (convert 42 9 (.slice (slA bb oo c2 1) X (c2 - 1))).run Tryd.prog W = .ok (.string (str U)) W := fun W hW => by
          have hr := slA_RB (hin.now hW) (cap := c2) (by rw [List.length_cons]; have := HN.out; omega) 1 X
          rw [List.drop_succ_cons, List.drop_zero, ← HU.out] at hr
          exact conv_RB Tryd.underlying42 Tryd.underlying5 Tryd.underlying9 hr HUL.out
        have hv2 : ∀ W, St w0 W M2 L → (convert 42 9 (.slice (slA bb oo c2 (1 + X)) (N - (1 + X)) (c2 - (1 + X)))).run Tryd.prog W = .ok (.string (str V)) W := fun W hW => by
          have hr := slA_RB (hin.now hW) (cap := c2) (by rw [List.length_cons]; have := HN.out; omega) (1 + X) V.length
          rw [Nat.add_comm 1 X, List.drop_succ_cons, ← HV.out, List.take_length, Nat.add_comm X 1] at hr
          exact conv_RB Tryd.underlying42 Tryd.underlying5 Tryd.underlying9 hr HVL.out
        have HCE := Lib.hid hcell
        have HS1 := Lib.hid hs1
        have HS2 := Lib.hid hs2
        have HV1 := Lib.hid hv1
        have HV2 := Lib.hid hv2
        clear hcell hs1 hs2 hv1 hv2 hin hlc
        go_upto_region 7 with fail
        refine Pt.wp_plan (fun w' => St w0 w' M2 L) (Pt.prs [0, 1, 2, 4, 5, 6] (Pt.rds [3] (Pt.prs [8] (Pt.rds [7] (Pt.prs [9] .fin))))) [] Tryd.mixed (by kernel_rfl) (fun _ _ d _ _ h => by cases d <;> exact h) H2.drew ?_
        have H3 := H2.drew
        clear H2 c0
        obtain ⟨wr, wx⟩ := WR.out
        have hs1 := HS1.out
        have hs2 := HS2.out
        simp only [Pt.toL, Pt.rds, Pt.prs, Pt.at_, List.drop_succ_cons, List.drop_zero]
        iterate 6 (refine Pt.pr_run (v := ?_) (by rfl) ?_ ?_; rotate_left; (focus (intro w'; go_simp; with_reducible rfl)); simp only [Act.put, List.setIfInBounds_toArray, List.set_cons_zero, List.set_cons_succ])
        (refine Pt.rd_run (v := ?_) (by rfl) ?_ ?_; rotate_left; (focus (intro w' hS; have cv := HV1.out w' hS; go_simp; with_reducible rfl)); simp only [Act.put, List.setIfInBounds_toArray, List.set_cons_zero, List.set_cons_succ])
        (refine Pt.pr_run (v := ?_) (by rfl) ?_ ?_; rotate_left; (focus (intro w'; go_simp; with_reducible rfl)); simp only [Act.put, List.setIfInBounds_toArray, List.set_cons_zero, List.set_cons_succ])
        (refine Pt.rd_run (v := ?_) (by rfl) ?_ ?_; rotate_left; (focus (intro w' hS; have cv := HV2.out w' hS; go_simp; with_reducible rfl)); simp only [Act.put, List.setIfInBounds_toArray, List.set_cons_zero, List.set_cons_succ])
        (refine Pt.pr_run (v := ?_) (by rfl) ?_ ?_; rotate_left; (focus (intro w'; go_simp; with_reducible rfl)); simp only [Act.put, List.setIfInBounds_toArray, List.set_cons_zero, List.set_cons_succ])
        clear hs1 hs2
        refine Pt.run_fin ?_
        have HZ := H3.weak H1 hM
        clear H3
        by_cases hz : Z = 0
        · subst hz
          have hr := HR.out
          rw [if_neg (by simp)] at hr
          subst hr
          go_wp2_with fail
          refine (HCK.out _).mono ?_
          rintro e w5 ⟨rfl, rfl⟩
          go_wp2
          go_ret3
          exact ⟨rfl, HZ⟩
        · have hr := HR.out
          rw [if_pos hz] at hr
          subst hr
          have qz : (Z != 0) = true := by rw [bne, beq_eq_false_iff_ne.2 hz]; rfl
          clear hz
          go_wp2_with fail
          refine (HCK.out _).mono ?_
          rintro e w5 ⟨rfl, rfl⟩
          go_wp2
          go_ret3
          exact ⟨rfl, HZ⟩
  · rw [if_pos hE]
    have qE : (E != 0) = true := by rw [bne, beq_eq_false_iff_ne.2 hE]; rfl
    clear hE hN
    go_enter Tryd.func26, Tryd.ntmps26
    go_wp2_with fail
    refine HLB.out.mono ?_
    rintro e w1 ⟨rfl, H1⟩
    go_wp2_with fail
    refine (HOP.out _ H1).mono ?_
    rintro e w2 ⟨A2, c2, M2, rfl, hlc, hM, hin, H2⟩
    have HZ := H2.weak H1 hM
    clear hlc hin
    go_wp2
    go_ret3
    exact ⟨rfl, HZ⟩
set_option maxRecDepth 100000 in
set_option maxHeartbeats 4000000 in
theorem runlock_any (H : St w0 w M L) {A : Option Addr} {c : Nat} {k : List UInt8} (hA : A = none → c = 0) (hc : k.length ≤ c) (hk : Sr w0 M L A k) (hn : k.length < 1000000)
    (a b : Nat) (ha : a < 18446744073709551616) (hb : b < 18446744073709551616)
    {C : Option Addr} {f : Nat} {s : List UInt8} (hC : C = none → f = 0) (hsf : s.length ≤ f) (hs : Sr w0 M L C s) (hsn : s.length ≤ 10000) :
    Calls Tryd.prog 27 #[.slice A k.length c, .int .u64 (a : Int), .int .u64 (b : Int), .slice C s.length f] w fun e w' => e = .returned (.tuple #[.string (str (unlockR k (lab a b) s).1), .string (str (unlockR k (lab a b) s).2.1), .int .i64 (unlockR k (lab a b) s).2.2]) ∧ St w0 w' M L := by
  have hlb : Calls Tryd.prog 52 #[.int .u64 (a : Int), .int .u64 (b : Int)] w fun e w' => e = .returned (.string (str (lab a b))) ∧ St w0 w' M L := (rlabel_any a b ha hb w).mono fun e w' ⟨h1, h2⟩ => ⟨h1, by rw [h2]; exact H⟩
  have hop := fun W (HW : St w0 W M L) => ropen_any (c := c) HW hA hc hk hn (lab a b) (by have := lab_len a b ha hb; omega) hC hsf hs hsn
  unfold unlockR
  obtain ⟨lb, hlbl⟩ : ∃ lb, lb = lab a b := ⟨_, rfl⟩
  rw [← hlbl] at hlb ⊢
  simp only [← hlbl] at hop
  obtain ⟨⟨P, E⟩, hO⟩ : ∃ O, O = Seal.openR k lb s := ⟨_, rfl⟩
  simp only [← hO] at hop ⊢
  obtain ⟨N, hN⟩ : ∃ N, N = P.length := ⟨_, rfl⟩
  have hop2 := fun W (HW : St w0 W M L) => (hop W HW).mono fun e w' h => RetN.of hN h
  have HLB := Lib.hid hlb
  have HOP := Lib.hid hop2
  clear hlb hop hop2 hlbl hO H hk hs hA hC hc hsf hn hsn
  by_cases hE : E = 0
  · subst hE
    rw [if_neg (by simp)]
    cases P with
    | nil =>
      have hN0 : N = 0 := hN
      subst hN0
      clear hN
      go_enter Tryd.func27, Tryd.ntmps27
      go_wp2_with fail
      refine HLB.out.mono ?_
      rintro e w1 ⟨rfl, H1⟩
      go_wp2_with fail
      refine (HOP.out _ H1).mono ?_
      rintro e w2 ⟨A2, c2, M2, rfl, hlc, hM, hin, H2⟩
      have HZ := H2.weak H1 hM
      clear hlc hin
      go_wp2
      go_ret3
      exact ⟨rfl, HZ⟩
    | cons x B =>
      simp only
      have hx := x.toNat_lt
      rw [List.length_cons] at hN
      obtain ⟨X, hX⟩ : ∃ X, X = x.toNat := ⟨_, rfl⟩
      rw [← hX] at hx ⊢
      have q0 : ((N : Int) == 0) = false := by rw [beq_eq_false_iff_ne]; omega
      have q00 : (0 : Int) < (N : Int) := by omega
      have q0n : 0 < N := by omega
      have wr : IntKind.i64.wrap (1 + (X : Int)) = 1 + (X : Int) := by rw [IntKind.wrap_i64]; omega
      have wx : IntKind.i64.wrap (X : Int) = (X : Int) := by rw [IntKind.wrap_i64]; omega
      by_cases hlt : B.length < X
      · rw [if_pos hlt]
        have q1 : (N : Int) < 1 + (X : Int) := by omega
        have HX := Lib.hid hX
        clear hlt hX hN
        go_enter Tryd.func27, Tryd.ntmps27
        go_wp2_with fail
        refine HLB.out.mono ?_
        rintro e w1 ⟨rfl, H1⟩
        go_wp2_with fail
        refine (HOP.out _ H1).mono ?_
        rintro e w2 ⟨A2, c2, M2, rfl, hlc, hM, hin, H2⟩
        obtain ⟨bb, oo, rfl, c0⟩ := (hin.now H2).at 0 (by simp)
        simp only [List.getElem_cons_zero, Nat.add_zero] at c0
        rw [← HX.out] at c0
        have HZ := H2.weak H1 hM
        clear hlc hin
        go_wp2
        go_ret3
        exact ⟨rfl, HZ⟩
      · rw [if_neg hlt]
        have q1 : ¬ (N : Int) < 1 + (X : Int) := by omega
        obtain ⟨U, hU⟩ : ∃ U, U = B.take X := ⟨_, rfl⟩
        obtain ⟨V, hV⟩ : ∃ V, V = B.drop X := ⟨_, rfl⟩
        rw [← hU, ← hV]
        have hck := fun W => rvcheck_any U V W
        obtain ⟨Z, hZ⟩ : ∃ Z, Z = Va.cerr U V := ⟨_, rfl⟩
        simp only [← hZ] at hck ⊢
        obtain ⟨R, hR⟩ : ∃ R : List UInt8 × List UInt8 × Int, R = if Z ≠ 0 then ([], [], 5) else (U, V, 0) := ⟨_, rfl⟩
        rw [← hR]
        have HR := Lib.hid hR
        clear hR
        have hul : X = U.length := by rw [hU, List.length_take]; omega
        have hvl : N - (1 + X) = V.length := by rw [hV, List.length_drop]; omega
        have HCK := Lib.hid hck
        have HN := Lib.hid hN
        have HX := Lib.hid hX
        have HU := Lib.hid hU
        have HV := Lib.hid hV
        have HUL := Lib.hid hul
        have HVL := Lib.hid hvl
        have HLT := Lib.hid hlt
        have WR := Lib.hid (And.intro wr wx)
        clear hlt hX hN hU hV hck hZ hul hvl
        go_enter Tryd.func27, Tryd.ntmps27
        go_wp2_with fail
        refine HLB.out.mono ?_
        rintro e w1 ⟨rfl, H1⟩
        go_wp2_with fail
        refine (HOP.out _ H1).mono ?_
        rintro e w2 ⟨A2, c2, M2, rfl, hlc, hM, hin, H2⟩
        obtain ⟨bb, oo, rfl, c0⟩ := (hin.now H2).at 0 (by simp)
        simp only [List.getElem_cons_zero, Nat.add_zero] at c0
        rw [← HX.out] at c0
        have hcell : ∀ W, St w0 W M2 L → W.cell? ⟨bb, oo, none⟩ = some (.int .u8 (X : Int)) := fun W hW => by
          obtain ⟨b3, o3, he, c3⟩ := (hin.now hW).at 0 (by simp)
          injection he with he
          injection he with e1 e2
          subst e1 e2
          simp only [List.getElem_cons_zero, Nat.add_zero] at c3
          rw [← HX.out] at c3
          exact c3
        have hs1 : ∀ W, (Instr.slice 42 (.slice (some ⟨bb, oo, none⟩) N c2) (some (.int .i64 1)) (some (.int .i64 (1 + (X : Int)))) none).run Tryd.prog W = .ok (.slice (slA bb oo c2 1) X (c2 - 1)) W := fun W => by
          have h := sl_lh W 42 5 Tryd.underlying42 Tryd.sz8 bb oo N c2 1 (1 + X) (by omega) (by have := HLT.out; have := HN.out; omega)
          rw [show ((1 : Nat) : Int) = 1 from rfl, show ((1 + X : Nat) : Int) = 1 + (X : Int) from by omega, Nat.add_sub_cancel_left] at h
          exact h
        have hs2 : ∀ W, (Instr.slice 42 (.slice (some ⟨bb, oo, none⟩) N c2) (some (.int .i64 (1 + (X : Int)))) none none).run Tryd.prog W = .ok (.slice (slA bb oo c2 (1 + X)) (N - (1 + X)) (c2 - (1 + X))) W := fun W => by
          have h := sl_l W 42 5 Tryd.underlying42 Tryd.sz8 bb oo N c2 (1 + X) (by have := HLT.out; have := HN.out; omega)
          rw [show ((1 + X : Nat) : Int) = 1 + (X : Int) from by omega] at h
          exact h
        have hv1 : ∀ W, St w0 W M2 L → (convert 42 9 (.slice (slA bb oo c2 1) X (c2 - 1))).run Tryd.prog W = .ok (.string (str U)) W := fun W hW => by
          have hr := slA_RB (hin.now hW) (cap := c2) (by rw [List.length_cons]; have := HN.out; omega) 1 X
          rw [List.drop_succ_cons, List.drop_zero, ← HU.out] at hr
          exact conv_RB Tryd.underlying42 Tryd.underlying5 Tryd.underlying9 hr HUL.out
        have hv2 : ∀ W, St w0 W M2 L → (convert 42 9 (.slice (slA bb oo c2 (1 + X)) (N - (1 + X)) (c2 - (1 + X)))).run Tryd.prog W = .ok (.string (str V)) W := fun W hW => by
          have hr := slA_RB (hin.now hW) (cap := c2) (by rw [List.length_cons]; have := HN.out; omega) (1 + X) V.length
          rw [Nat.add_comm 1 X, List.drop_succ_cons, ← HV.out, List.take_length, Nat.add_comm X 1] at hr
          exact conv_RB Tryd.underlying42 Tryd.underlying5 Tryd.underlying9 hr HVL.out
        have HCE := Lib.hid hcell
        have HS1 := Lib.hid hs1
        have HS2 := Lib.hid hs2
        have HV1 := Lib.hid hv1
        have HV2 := Lib.hid hv2
        clear hcell hs1 hs2 hv1 hv2 hin hlc
        go_upto_region 6 with fail
        refine Pt.wp_plan (fun w' => St w0 w' M2 L) (Pt.prs [0, 1, 2, 8, 9, 10] (Pt.rds [3, 4] (Pt.prs [5, 6] (Pt.rds [7] (Pt.prs [16] (Pt.rds [11, 12] (Pt.prs [13, 14] (Pt.rds [15] (Pt.prs [17] .fin))))))))) [] Tryd.mixed (by kernel_rfl) (fun _ _ d _ _ h => by cases d <;> exact h) H2.drew ?_
        have H3 := H2.drew
        clear H2 c0
        obtain ⟨wr, wx⟩ := WR.out
        have hs1 := HS1.out
        have hs2 := HS2.out
        simp only [Pt.toL, Pt.rds, Pt.prs, Pt.at_, List.drop_succ_cons, List.drop_zero]
        iterate 6 (refine Pt.pr_run (v := ?_) (by rfl) ?_ ?_; rotate_left; (focus (intro w'; go_simp; with_reducible rfl)); simp only [Act.put, List.setIfInBounds_toArray, List.set_cons_zero, List.set_cons_succ])
        iterate 2 (refine Pt.rd_run (v := ?_) (by rfl) ?_ ?_; rotate_left; (focus (intro w' hS; have cc := HCE.out w' hS; go_simp; with_reducible rfl)); simp only [Act.put, List.setIfInBounds_toArray, List.set_cons_zero, List.set_cons_succ])
        iterate 2 (refine Pt.pr_run (v := ?_) (by rfl) ?_ ?_; rotate_left; (focus (intro w'; go_simp; with_reducible rfl)); simp only [Act.put, List.setIfInBounds_toArray, List.set_cons_zero, List.set_cons_succ])
        (refine Pt.rd_run (v := ?_) (by rfl) ?_ ?_; rotate_left; (focus (intro w' hS; have cv := HV1.out w' hS; go_simp; with_reducible rfl)); simp only [Act.put, List.setIfInBounds_toArray, List.set_cons_zero, List.set_cons_succ])
        (refine Pt.pr_run (v := ?_) (by rfl) ?_ ?_; rotate_left; (focus (intro w'; go_simp; with_reducible rfl)); simp only [Act.put, List.setIfInBounds_toArray, List.set_cons_zero, List.set_cons_succ])
        iterate 2 (refine Pt.rd_run (v := ?_) (by rfl) ?_ ?_; rotate_left; (focus (intro w' hS; have cc := HCE.out w' hS; go_simp; with_reducible rfl)); simp only [Act.put, List.setIfInBounds_toArray, List.set_cons_zero, List.set_cons_succ])
        iterate 2 (refine Pt.pr_run (v := ?_) (by rfl) ?_ ?_; rotate_left; (focus (intro w'; go_simp; with_reducible rfl)); simp only [Act.put, List.setIfInBounds_toArray, List.set_cons_zero, List.set_cons_succ])
        (refine Pt.rd_run (v := ?_) (by rfl) ?_ ?_; rotate_left; (focus (intro w' hS; have cv := HV2.out w' hS; go_simp; with_reducible rfl)); simp only [Act.put, List.setIfInBounds_toArray, List.set_cons_zero, List.set_cons_succ])
        (refine Pt.pr_run (v := ?_) (by rfl) ?_ ?_; rotate_left; (focus (intro w'; go_simp; with_reducible rfl)); simp only [Act.put, List.setIfInBounds_toArray, List.set_cons_zero, List.set_cons_succ])
        clear hs1 hs2
        refine Pt.run_fin ?_
        have HZ := H3.weak H1 hM
        clear H3
        by_cases hz : Z = 0
        · subst hz
          have hr := HR.out
          rw [if_neg (by simp)] at hr
          subst hr
          go_wp2_with fail
          refine (HCK.out _).mono ?_
          rintro e w5 ⟨rfl, rfl⟩
          go_wp2
          go_ret3
          exact ⟨rfl, HZ⟩
        · have hr := HR.out
          rw [if_pos hz] at hr
          subst hr
          have qz : (Z != 0) = true := by rw [bne, beq_eq_false_iff_ne.2 hz]; rfl
          clear hz
          go_wp2_with fail
          refine (HCK.out _).mono ?_
          rintro e w5 ⟨rfl, rfl⟩
          go_wp2
          go_ret3
          exact ⟨rfl, HZ⟩
  · rw [if_pos hE]
    have qE : (E != 0) = true := by rw [bne, beq_eq_false_iff_ne.2 hE]; rfl
    clear hE hN
    go_enter Tryd.func27, Tryd.ntmps27
    go_wp2_with fail
    refine HLB.out.mono ?_
    rintro e w1 ⟨rfl, H1⟩
    go_wp2_with fail
    refine (HOP.out _ H1).mono ?_
    rintro e w2 ⟨A2, c2, M2, rfl, hlc, hM, hin, H2⟩
    have HZ := H2.weak H1 hM
    clear hlc hin
    go_wp2
    go_ret3
    exact ⟨rfl, HZ⟩
end
end Go.Proofs.YtcdljlaoedaliaaDoor
/- VaultUnlocks walked. -/
set_option linter.unusedVariables false
set_option linter.unusedSimpArgs false
namespace Go.Proofs.YtcdljlaoedaliaaDoor
open Go.RowKit Wd
def credC (a b : Nat) (u p : List UInt8) : List Value := [.int .u64 (a : Int), .int .u64 (b : Int), .string (str u), .string (str p)]
set_option maxRecDepth 100000 in
set_option maxHeartbeats 4000000 in
theorem vaultUnlocks_any {w : World} (ht : Tabs w) (h10 : P10 w) {A : Option Addr} {c : Nat} {k : List UInt8} (hkr : RB w A k) (hA : A = none → c = 0) (hc : k.length ≤ c)
    (a b : Nat) (ha : a < 18446744073709551616) (hb : b < 18446744073709551616) (u p : List UInt8)
    {C : Option Addr} {f : Nat} {s : List UInt8} (hsr : RB w C s) (hC : C = none → f = 0) (hsf : s.length ≤ f) :
    Calls Tryd.prog 6 #[.slice A k.length c, .agg (credC a b u p).toArray, .slice C s.length f] w fun e w' => e = .returned (.bool true) ∧ Below w.heap.size w w' := by
  have H0 := St.start w
  have sK : ∀ F, Sr w (w.heap[·]?) F A k := fun F => Sr.of_in (In.oldRB H0 hkr)
  have sS : ∀ F, Sr w (w.heap[·]?) F C s := fun F => Sr.of_in (In.oldRB H0 hsr)
  have H1 := H0.new (credC a b u p) 52
  have aw : ∀ w' L', St w w' (w.heap[·]?) L' → Calls Tryd.prog 8 #[] w' fun e w' => e = .returned (.bool true) ∧ St w w' (w.heap[·]?) L' := fun w' L' H => awake22_any ht H
  have AW := Lib.hid aw
  have hX0 : (credC a b u p)[0]? = some (.int .u64 (a : Int)) := rfl
  have hX1 : (credC a b u p)[1]? = some (.int .u64 (b : Int)) := rfl
  have hXL : (credC a b u p).length = 4 := rfl
  obtain ⟨X, hX⟩ : ∃ X, X = credC a b u p := ⟨_, rfl⟩
  rw [← hX] at H1 hX0 hX1 hXL ⊢
  have hcel : ∀ W F, St w W (w.heap[·]?) (eb w.heap.size 52 X :: F) → W.cell? ⟨w.heap.size, 0, none⟩ = some (.int .u64 (a : Int)) ∧ W.cell? ⟨w.heap.size, 1, none⟩ = some (.int .u64 (b : Int)) := fun W F H => ⟨(H.cell 0 rfl 0).trans hX0, (H.cell 0 rfl 1).trans hX1⟩
  have HCE := Lib.hid hcel
  have HXL := Lib.hid hXL
  clear aw hX hX0 hX1 hXL hcel H0
  by_cases h500 : 500 < k.length
  · have q1 : (500 : Int) < (k.length : Int) := by omega
    clear h500 sK sS hA hC hc hsf
    go_enter Tryd.func6, Tryd.ntmps6
    go_wp2_with fail
    refine (AW.out _ _ H1).mono ?_
    rintro e w1 ⟨rfl, H2⟩
    go_wp2
    go_ret
    exact ⟨rfl, H2.below⟩
  · have q1 : ¬ (500 : Int) < (k.length : Int) := by omega
    by_cases h6000 : 6000 < s.length
    · have q2 : (6000 : Int) < (s.length : Int) := by omega
      clear h500 h6000 sK sS hA hC hc hsf
      go_enter Tryd.func6, Tryd.ntmps6
      go_wp2_with fail
      refine (AW.out _ _ H1).mono ?_
      rintro e w1 ⟨rfl, H2⟩
      go_wp2
      go_ret
      exact ⟨rfl, H2.below⟩
    · have q2 : ¬ (6000 : Int) < (s.length : Int) := by omega
      have hun := fun W F A' f' (H : St w W (w.heap[·]?) F) (hA' : A' = none → f' = 0) (hl : s.length ≤ f') (hs' : Sr w (w.heap[·]?) F A' s) => unlock_any ht h10 H hA hc (sK F) (by omega) a b ha hb hA' hl hs' (by omega)
      have hru := fun W F (H : St w W (w.heap[·]?) F) => runlock_any H hA hc (sK F) (by omega) a b ha hb hC hsf (sS F) (by omega)
      obtain ⟨⟨U, V, E⟩, hR⟩ : ∃ R, R = unlockR k (lab a b) s := ⟨_, rfl⟩
      simp only [← hR] at hun hru
      have HUN := Lib.hid hun
      have HRU := Lib.hid hru
      have HSS := Lib.hid sS
      have HC := Lib.hid hC
      have H6 := Lib.hid h6000
      clear hun hru hR h500 h6000 sK sS hA hC hc hsf
      go_enter Tryd.func6, Tryd.ntmps6
      go_upto_region 3 with fail
      refine Pt.wp_plan (fun w' => St w w' (w.heap[·]?) [eb w.heap.size 52 X]) (Pt.prs [0, 1, 3, 6] (Pt.rds [2, 4] (.go 5 (.go 7 (.go 8 (Pt.prs [9, 10, 11, 12, 13, 14, 15] .fin)))))) [] Tryd.mixed (by kernel_rfl) (fun _ _ d _ _ h => by cases d <;> exact h) H1.drew ?_
      have H2 := H1.drew
      clear H1
      simp only [Pt.toL, Pt.rds, Pt.prs, Pt.at_, List.drop_succ_cons, List.drop_zero]
      iterate 4 (refine Pt.pr_run (v := ?_) (by rfl) ?_ ?_; rotate_left; (focus (intro w'; go_simp; with_reducible rfl)); simp only [Act.put, List.setIfInBounds_toArray, List.set_cons_zero, List.set_cons_succ])
      iterate 2 (refine Pt.rd_run (v := ?_) (by rfl) ?_ ?_; rotate_left; (focus (intro w' hS; obtain ⟨c0, c1⟩ := HCE.out _ _ hS; go_simp; with_reducible rfl)); simp only [Act.put, List.setIfInBounds_toArray, List.set_cons_zero, List.set_cons_succ])
      refine Pt.run_go ?_
      have H3 := H2.lit00 5 1
      rw [show ((w.alloc (.cells X.toArray 52)).drew).heap.size = w.heap.size + 1 from Array.size_push _] at H3
      go_wp2_with fail
      refine Pt.same H3.d0 ?_
      refine Pt.run_go ?_
      refine wpList_append_st H3 (by rfl) (.tmp 28) (.tmp 29) 42 (by rfl) Tryd.info5 Tryd.underlying42 (by rfl) C s.length f s (by rfl) rfl HC.out ((HSS.out _).now H3) (by have := H6.out; omega) ?_
      intro v5 w5 H4
      rw [Nat.zero_add, List.nil_append] at H4
      obtain ⟨A5, c5, rfl, hle, hA5⟩ := H4.shape' 0 rfl
      refine wpList_nil ?_
      simp only [Pl.Then, Act.put, List.setIfInBounds_toArray, List.set_cons_zero, List.set_cons_succ]
      refine Pt.same H4.d0 ?_
      have hun := HUN.out _ _ A5 c5 H4 hA5 hle (Sr.row 0 rfl)
      have HU2 := Lib.hid hun
      clear hun hle hA5 H3
      refine Pt.run_go ?_
      go_wp2_with fail
      refine HU2.out.mono ?_
      rintro e w6 ⟨rfl, H5⟩
      go_wp2_with fail
      refine Pt.same H5.d0 ?_
      clear HU2 H4
      iterate 7 (refine Pt.pr_run (v := ?_) (by rfl) ?_ ?_; rotate_left; (focus (intro w'; go_simp; with_reducible rfl)); simp only [Act.put, List.setIfInBounds_toArray, List.set_cons_zero, List.set_cons_succ])
      refine Pt.run_fin ?_
      have H7 := H5.d0
      obtain ⟨c0, c1⟩ := HCE.out _ _ H7
      clear H5 H2
      go_wp2_with fail
      refine (HRU.out _ _ H7).mono ?_
      rintro e w7 ⟨rfl, H8⟩
      clear c0 c1 H7
      go_wp2_with fail
      refine (AW.out _ _ H8).mono ?_
      rintro e w8 ⟨rfl, H9⟩
      go_wp2
      go_ret
      exact ⟨rfl, H9.below⟩
end Go.Proofs.YtcdljlaoedaliaaDoor
/- Arguments: credentials; the five laid variables. -/
set_option linter.unusedVariables false
set_option linter.unusedSimpArgs false
set_option maxRecDepth 100000
namespace Go.Proofs.YtcdljlaoedaliaaDoor
open Go.ChangeShapes Go.WideShapes Go.ChangeAt Go.RowKit Wd
theorem Tryd.gPow : Tryd.prog.globalNamed "internal/strconv.uint64pow10" = some 3 := by kernel_rfl
theorem Tryd.gPowT : (Tryd.prog.globals[3]?).map (·.type) = some 134 := by kernel_rfl
theorem Tryd.cells_20 : Tryd.prog.cellsOf 134 = 20 := by kernel_rfl
theorem tabs_of5 {W : World} (h : laidMet Tryd.prog [("math/bits.deBruijn32tab", Rows.laid_math_bits_deBruijn32tab), ("math/bits.deBruijn64tab", Rows.laid_math_bits_deBruijn64tab), ("internal/strconv.uint64pow10", Rows.laid_internal_strconv_uint64pow10), ("lantern/sha.first", Rows.laid_lantern_sha_first), ("lantern/sha.known", Rows.laid_lantern_sha_known)] W) : Tabs W ∧ P10 W := by
  obtain ⟨ps, ⟨_, _, _, _, _, _, _, _, _, _, hr1, _⟩, _⟩ := h
  obtain ⟨_, _, _, _, _, _, _, _, _, _, hr2, _⟩ := hr1
  obtain ⟨g0, t0, cs0, fuel0, p0, q0, hg0, ht0, hvar0, hd0, hr3, _⟩ := hr2
  obtain ⟨g1, t1, cs1, fuel1, p1, q1, hg1, ht1, hvar1, hd1, hrest, _⟩ := hr3
  obtain ⟨g2, t2, cs2, fuel2, p2, q2, hg2, ht2, hvar2, hd2, _, _⟩ := hrest
  obtain rfl := Option.some.inj (Tryd.gPow.symm.trans hg0)
  obtain rfl := Option.some.inj (Tryd.gPowT.symm.trans ht0)
  obtain rfl := Option.some.inj (Tryd.gFirst.symm.trans hg1)
  obtain rfl := Option.some.inj (Tryd.gFirstT.symm.trans ht1)
  obtain rfl := Option.some.inj (Tryd.gKnown.symm.trans hg2)
  obtain rfl := Option.some.inj (Tryd.gKnownT.symm.trans ht2)
  rw [show Rows.laid_internal_strconv_uint64pow10 = Lib.tabData .u64 Lib.pow10Tab from by kernel_rfl] at hd0
  rw [show Rows.laid_lantern_sha_first = Lib.tabData .u32 (Sha.first.list.map fun x => (x.toNat : Int)) from by kernel_rfl] at hd1
  rw [show Rows.laid_lantern_sha_known = Lib.tabData .u32 (Sha.known.map fun x => (x.toNat : Int)) from by kernel_rfl] at hd2
  have e0 := Lib.cells_of_tab (k := .u64) (zs := Lib.pow10Tab) Tryd.underlying134 Tryd.underlying23 Tryd.cells_u64 Tryd.cells_20 hd0
  have e1 := Lib.cells_of_tab (k := .u32) (zs := Sha.first.list.map fun x => (x.toNat : Int)) Tryd.underlying96 Tryd.underlying95 Tryd.cells_u32 Tryd.cells_8 hd1
  have e2 := Lib.cells_of_tab (k := .u32) (zs := Sha.known.map fun x => (x.toNat : Int)) Tryd.underlying97 Tryd.underlying95 Tryd.cells_u32 Tryd.cells_64 hd2
  refine ⟨⟨tab_of_var Tryd.gFirst ?_, tab_of_var Tryd.gKnown ?_⟩, ?_⟩
  · rw [hvar1, show cs1 = (Sha.wv Sha.first.list).toArray from Array.ext' (by rw [e1, List.map_map]; rfl)]
  · rw [hvar2, show cs2 = (Sha.wv Sha.known).toArray from Array.ext' (by rw [e2, List.map_map]; rfl)]
  · unfold P10 Lib.TabIs
    rw [hvar0, ← e0]
theorem Tryd.cells_cred : Tryd.prog.cellsOf 52 = 4 := by kernel_rfl
theorem u64_lt {n : Int} (h : Lit.wf (.int .u64 n) = true) : n < 18446744073709551616 := by
  have g1 : IntKind.u64.max = 18446744073709551615 := rfl
  simp only [Lit.wf, Bool.and_eq_true, decide_eq_true_eq] at h
  omega
theorem cred_cells {H : Type} {enc : TypeId × Value → H} {W : World} {base : Nat} {sp : Nat → Bool} {held : Bool} {fuel : Nat} {cs : List Value} {x : DataW H × List MemPlace}
    (hl : cs.length = 4) (hf : DataW.trod enc Tryd.prog W base sp held fuel 52 cs = some x) :
    ∃ (a b : Nat) (u p : List UInt8), cs = credC a b u p ∧ a < 18446744073709551616 ∧ b < 18446744073709551616 := by
  obtain ⟨xs, n, _, _, _, hlen, hf⟩ := DataW.trod_struct Tryd.underlying52 hf
  match cs, hl with
  | [v0, v1, v2, v3], _ =>
  match xs, hlen with
  | [y0, y1, y2, y3], _ =>
    have h0 : DataW.trod enc Tryd.prog W base sp held n 23 (([v0, v1, v2, v3].drop 0).take (Tryd.prog.cellsOf 23)) = some y0 := hf 0 _ rfl
    have h1 : DataW.trod enc Tryd.prog W base sp held n 23 (([v0, v1, v2, v3].drop 1).take (Tryd.prog.cellsOf 23)) = some y1 := hf 1 _ rfl
    have h2 : DataW.trod enc Tryd.prog W base sp held n 9 (([v0, v1, v2, v3].drop 2).take (Tryd.prog.cellsOf 9)) = some y2 := hf 2 _ rfl
    have h3 : DataW.trod enc Tryd.prog W base sp held n 9 (([v0, v1, v2, v3].drop 3).take (Tryd.prog.cellsOf 9)) = some y3 := hf 3 _ rfl
    rw [Tryd.cells_u64] at h0 h1
    rw [Tryd.cells_str] at h2 h3
    obtain ⟨n0, e0, -, w0⟩ := DataW.trod_int Tryd.underlying23 h0
    obtain ⟨n1, e1, -, w1⟩ := DataW.trod_int Tryd.underlying23 h1
    obtain ⟨⟨⟨u⟩⟩, e2, -, _⟩ := DataW.trod_string Tryd.underlying9 h2
    obtain ⟨⟨⟨p⟩⟩, e3, -, _⟩ := DataW.trod_string Tryd.underlying9 h3
    have z0 := u64_lt w0
    have z1 := u64_lt w1
    obtain ⟨m0, rfl⟩ := Int.eq_ofNat_of_zero_le (u64_nat w0)
    obtain ⟨m1, rfl⟩ := Int.eq_ofNat_of_zero_le (u64_nat w1)
    refine ⟨m0, m1, u, p, ?_, by omega, by omega⟩
    simp only [List.drop_zero, List.drop_succ_cons, List.take_succ_cons, List.take_zero] at e0 e1 e2 e3
    injection e0 with e0 _
    injection e1 with e1 _
    injection e2 with e2 _
    injection e3 with e3 _
    rw [e0, e1, e2, e3]
    rfl
theorem arg_cred {H : Type} {enc : TypeId × Value → H} {W : World} {v : Value} {d : DataW H} {ps : List MemPlace} {r : Reach} {b0 : Nat}
    (hv : Value.okWide Tryd.prog W r b0 52 v) (h : DataW.Trod enc Tryd.prog W 0 (fun _ => true) true 52 v d ps) :
    ∃ (a b : Nat) (u p : List UInt8), v = .agg (credC a b u p).toArray ∧ a < 18446744073709551616 ∧ b < 18446744073709551616 := by
  have ht := Tryd.underlying52
  simp only [Value.okWide, ht] at hv
  obtain ⟨⟨cs⟩, rfl, hsz, _⟩ := hv
  obtain ⟨fuel, hf⟩ := h
  have hl : cs.length = 4 := by have := hsz; rw [Tryd.cells_cred] at this; simpa using this
  obtain ⟨a, b, u, p, e, h1, h2⟩ := cred_cells hl hf
  exact ⟨a, b, u, p, by rw [e], h1, h2⟩
end Go.Proofs.YtcdljlaoedaliaaDoor
