/- vault.with, Revoke and Rotate. -/
import Derived.Test.YtcdljlaoedaliaaDoorT1
import Derived.Test.YtcdljlaoedaliaaDoorT2
import Derived.Test.YtcdljlaoedaliaaDoorMt
set_option linter.unusedVariables false
set_option linter.unusedSimpArgs false
namespace Go.Proofs.YtcdljlaoedaliaaDoor
open Go.RowKit Wd
open Va (Acc)
/-- A token's account. -/
def Va.acct (t : Nat) (salt : List UInt8) (s : List UInt8) (hs : salt.length = 16) : Acc := ⟨t, salt, Mac.store salt s, false, hs, Mac.store_len salt s⟩
def Va.gone (t : Nat) : Acc := ⟨t, List.replicate 16 0, List.replicate 32 0, true, List.length_replicate, List.length_replicate⟩
def Va.with_ (l : List Acc) (a : Acc) : List Acc × Int := if Va.has a.t l then (Va.swap a l, 0) else ([], 4)
open Classical in
noncomputable def Va.revoke (l : List Acc) (t : Nat) : List Acc × Int := if Va.May l then Va.with_ l (Va.gone t) else ([], 1)
open Classical in
noncomputable def Va.rotate (l : List Acc) (t : Nat) (salt s : List UInt8) (hs : salt.length = 16) : List Acc × Int :=
  if Va.May l then if secretErr s.length = 0 then Va.with_ l (Va.acct t salt s hs) else ([], secretErr s.length) else ([], 1)
open Classical in
noncomputable def Va.enroll (l : List Acc) (t : Nat) (salt s : List UInt8) (hs : salt.length = 16) : List Acc × Int :=
  if Va.May l ∧ t ≠ 0 then if secretErr s.length = 0 then if Va.has t l then ([], 6) else if l.length = 64 then ([], 12) else (Va.put (Va.acct t salt s hs) l, 0) else ([], secretErr s.length) else ([], 1)
theorem acs_set (l : List Acc) (i : Nat) (hi : i < l.length) (a : Acc) : acs (l.set i a) = (acs l).take (i * 50) ++ ac a ++ (acs l).drop (i * 50 + 50) := by
  induction l generalizing i with
  | nil => simp at hi
  | cons d r ih =>
    have e1 : acs (d :: r) = ac d ++ acs r := rfl
    have hd := ac_length d
    cases i with
    | zero =>
      rw [List.set_cons_zero, e1, Nat.zero_mul, List.take_zero, Nat.zero_add, List.nil_append, List.drop_append, List.drop_eq_nil_of_le (by omega), hd, Nat.sub_self, List.drop_zero, List.nil_append]
      rfl
    | succ i =>
      rw [List.set_cons_succ, e1, show acs (d :: r.set i a) = ac d ++ acs (r.set i a) from rfl, ih i (by simpa using hi)]
      have h1 : (ac d ++ acs r).take ((i + 1) * 50) = ac d ++ (acs r).take (i * 50) := by
        rw [List.take_append, List.take_of_length_le (by omega), hd, show (i + 1) * 50 - 50 = i * 50 from by omega]
      have h2 : (ac d ++ acs r).drop ((i + 1) * 50 + 50) = (acs r).drop (i * 50 + 50) := by
        rw [List.drop_append, List.drop_eq_nil_of_le (by omega), List.nil_append, hd, show (i + 1) * 50 + 50 - 50 = i * 50 + 50 from by omega]
      rw [h1, h2, List.append_assoc, List.append_assoc, List.append_assoc]
/-- A list of accounts and an error. -/
def Ret2 (w0 : World) (M : Mem) (L : List Ent) (p : List Acc × Int) (e : Ending) (w' : World) : Prop :=
  ∃ v, e = .returned (.tuple #[v, .int .i64 p.2]) ∧ St w0 w' M (er 71 50 v p.1.length (acs p.1) :: L)
theorem list16 (l : List UInt8) (h : l.length = 16) : ∃ s0 s1 s2 s3 s4 s5 s6 s7 s8 s9 s10 s11 s12 s13 s14 s15 : UInt8, l = [s0, s1, s2, s3, s4, s5, s6, s7, s8, s9, s10, s11, s12, s13, s14, s15] := by
  match l, h with
  | [s0, s1, s2, s3, s4, s5, s6, s7, s8, s9, s10, s11, s12, s13, s14, s15], _ => exact ⟨s0, s1, s2, s3, s4, s5, s6, s7, s8, s9, s10, s11, s12, s13, s14, s15, rfl⟩
theorem list32 (l : List UInt8) (h : l.length = 32) : ∃ g0 g1 g2 g3 g4 g5 g6 g7 g8 g9 g10 g11 g12 g13 g14 g15 g16 g17 g18 g19 g20 g21 g22 g23 g24 g25 g26 g27 g28 g29 g30 g31 : UInt8, l = [g0, g1, g2, g3, g4, g5, g6, g7, g8, g9, g10, g11, g12, g13, g14, g15, g16, g17, g18, g19, g20, g21, g22, g23, g24, g25, g26, g27, g28, g29, g30, g31] := by
  match l, h with
  | [g0, g1, g2, g3, g4, g5, g6, g7, g8, g9, g10, g11, g12, g13, g14, g15, g16, g17, g18, g19, g20, g21, g22, g23, g24, g25, g26, g27, g28, g29, g30, g31], _ => exact ⟨g0, g1, g2, g3, g4, g5, g6, g7, g8, g9, g10, g11, g12, g13, g14, g15, g16, g17, g18, g19, g20, g21, g22, g23, g24, g25, g26, g27, g28, g29, g30, g31, rfl⟩
theorem Tryd.builtAcc (t : Int) (salt tag : List UInt8) (hs : salt.length = 16) (ht : tag.length = 32) : Tryd.prog.built 71 [(0, .int .u64 t), (1, .agg (bv salt).toArray), (2, .agg (bv tag).toArray)] = some (Value.int .u64 t :: (bv salt ++ (bv tag ++ [.bool false]))).toArray := by
  obtain ⟨s0, s1, s2, s3, s4, s5, s6, s7, s8, s9, s10, s11, s12, s13, s14, s15, rfl⟩ := list16 salt hs
  obtain ⟨g0, g1, g2, g3, g4, g5, g6, g7, g8, g9, g10, g11, g12, g13, g14, g15, g16, g17, g18, g19, g20, g21, g22, g23, g24, g25, g26, g27, g28, g29, g30, g31, rfl⟩ := list32 tag ht
  kernel_rfl
theorem Tryd.builtOff (t : Int) : Tryd.prog.built 71 [(0, .int .u64 t), (3, .bool true)] = some (Value.int .u64 t :: (bv (List.replicate 16 0) ++ (bv (List.replicate 32 0) ++ [.bool true]))).toArray := by kernel_rfl
def accArr (t : Int) (salt tag : List UInt8) : Array Value := (Value.int .u64 t :: (bv salt ++ (bv tag ++ [.bool false]))).toArray
theorem wpList_move {P : Program} {ops : Array Oper} {rest : List Oper} {o : Oper} {a : Act} {w : World} {Q : Exit → Act → World → Prop} (hg : o.guard = none) (x : Operand) (ho : o.op = .move x) (h : wpList P ops Q rest (a.put o.dst (a.eval x)) w) : wpList P ops Q (o :: rest) a w :=
  wpList_plain hg fun K hK => by
    unfold Oper.wp execOp
    simp only [ho, Sem.run_pure]
    exact hK _ _ h
/-- One operation whose run is known and that turns nothing. -/
theorem wpList_ex {P : Program} {ops : Array Oper} {rest : List Oper} {o : Oper} {a : Act} {w : World} {Q : Exit → Act → World → Prop} {v : Value} (hg : o.guard = none) (hr : (execOp a.eval o).run P w = .ok (.value v) w) (h : wpList P ops Q rest (a.put o.dst v) w) : wpList P ops Q (o :: rest) a w :=
  wpList_plain hg fun K hK => by
    unfold Oper.wp
    rw [hr]
    exact hK _ _ h
theorem wpList_build3 {P : Program} {ops : Array Oper} {rest : List Oper} {o : Oper} {a : Act} {w : World} {Q : Exit → Act → World → Prop} (hg : o.guard = none) (t : TypeId) (x y z : Operand) (ho : o.op = .build t #[(0, x), (1, y), (2, z)]) {vx vy vz : Value} (hx : a.eval x = vx) (hy : a.eval y = vy) (hz : a.eval z = vz)
    {cells : Array Value} (hb : P.built t [(0, vx), (1, vy), (2, vz)] = some cells) (h : wpList P ops Q rest (a.put o.dst (.agg cells)) w) : wpList P ops Q (o :: rest) a w := by
  refine wpList_build_is hg t _ ho ?_ h
  subst hx hy hz
  simpa using hb
section
variable {w0 w : World} {M : Mem} {L : List Ent}
set_option maxRecDepth 100000 in
set_option maxHeartbeats 1000000 in
theorem with_any (H : St w0 w M L) {A : Option Addr} {c n : Nat} {l : List Acc} (hn : n = l.length) (hn2 : n ≤ 900000) (hA : A = none → c = 0) (hl : SrA w0 M L A (acs l)) (hp : l.Pairwise fun a b => a.t < b.t) (a : Acc) :
    Calls Tryd.prog 39 #[.slice A n c, .agg (ac a).toArray] w (Ret2 w0 M L (Va.with_ l a)) := by
  have H1 := H.new (ac a) 71
  have hf := find_any (c := c) H1 hn (by omega) (hl.cons _) hp a.t
  have hcl := fun W L' (H : St w0 W M L') (h : SrA w0 M L' A (acs l)) => vclone_any (c := c) H hn (by omega) hA h
  have hX0 := ac_t a
  have hXl := ac_length a
  have hX1 := ac_one a
  have hsm : ∀ i, Va.Cut a.t l i → (hi : i < l.length) → l[i].t = a.t → acs (Va.swap a l) = (acs l).take (i * 50) ++ ac a ++ (acs l).drop (i * 50 + 50) := fun i h hi he => by rw [h.swap hp hi he, acs_set l i hi a]
  have hh : ∀ i, Va.Cut a.t l i → (Va.has a.t l = true ↔ ∃ h : i < l.length, l[i].t = a.t) := fun i h => h.has hp
  have hwl : (Va.swap a l).length = n := by unfold Va.swap; rw [List.length_map, hn]
  obtain ⟨R, hR⟩ : ∃ R, R = Va.with_ l a := ⟨_, rfl⟩
  rw [← hR]
  unfold Va.with_ at hR
  obtain ⟨S, hS⟩ : ∃ S, S = Va.swap a l := ⟨_, rfl⟩
  rw [← hS] at hR hwl
  simp only [← hS] at hsm
  obtain ⟨t, htt⟩ : ∃ t, t = a.t := ⟨_, rfl⟩
  simp only [← htt] at hf hX0 hh hR hsm
  obtain ⟨X, hX⟩ : ∃ X, X = ac a := ⟨_, rfl⟩
  simp only [← hX] at hf hX0 hXl hX1 H1 hsm ⊢
  have c0 := H1.cell 0 rfl 0
  rw [hX0] at c0
  have HN := Lib.hid hn
  have HF := Lib.hid hf
  have HCLN := Lib.hid hcl
  have HR := Lib.hid hR
  have HSM := Lib.hid hsm
  have HHS := Lib.hid hh
  have HWL := Lib.hid hwl
  have HX1 := Lib.hid hX1
  clear hX htt hn hf hcl hX0 hR hsm hh hwl hX1 H hS
  go_enter Tryd.func39, Tryd.ntmps39
  go_wp2_with fail
  refine HF.out.mono ?_
  rintro e w2 ⟨i, f, rfl, hc, hf, H2⟩
  have hhas := HHS.out i hc
  cases f with
  | false =>
    have hno : ¬ Va.has t l = true := fun h => by have := hf.2 (hhas.1 h); cases this
    have hR2 : R = ([], 4) := by rw [HR.out, if_neg hno]
    subst hR2
    have H3 := H2.d0.addNil 71 50
    clear hf hhas hc hno HCLN HF H1
    go_wp2
    go_ret2
    exact ⟨_, rfl, H3⟩
  | true =>
    obtain ⟨hi, he⟩ := hf.1 rfl
    have hyes := hhas.2 ⟨hi, he⟩
    have hR2 : R = (S, 0) := by rw [HR.out, if_pos hyes]
    have hse := HSM.out i hc hi he
    have hin : i < n := by have := HN.out; omega
    subst hR2
    have HSE := Lib.hid hse
    have HIN := Lib.hid hin
    clear hf hhas hc hi he hyes hse hin HF H1 c0
    go_wp2_with fail
    refine (HCLN.out _ _ H2 (hl.cons _)).mono ?_
    rintro e w3 ⟨v3, rfl, H3⟩
    obtain ⟨_, hr⟩ := er_bind (H3.get 0 rfl)
    rcases hr with ⟨rfl, h0⟩ | ⟨g, cap, cur, rfl, ho, hnc, hcm, hcs, htk⟩
    · exact absurd HIN.out (by omega)
    · obtain ⟨cs, HO, hcl, hct, -, -⟩ := H3.openRow
      have hrX := (HO.blk 1 rfl).range 0 50 X (by rw [List.drop_zero, List.take_of_length_le (by omega)])
      have hfit : i * 50 + X.length ≤ cs.length := by rw [hXl, hcl]; have := HIN.out; omega
      have r1 : (i : Int) < (n : Int) := by have := HIN.out; omega
      have HRX := Lib.hid hrX
      have HFIT := Lib.hid hfit
      have HCL := Lib.hid hcl
      have HCT := Lib.hid hct
      have HNC := Lib.hid hnc
      have HCM := Lib.hid hcm
      clear hrX hfit hcl hct hnc hcm ho hcs htk H2 H3 HCLN
      go_wp2_with first
        | (refine wpList_load_mid (by rfl) 71 (.tmp 3) (by rfl) w.heap.size 0 (by rfl) X _ HRX.out Tryd.underlying71 rfl (by rw [hXl]; exact Tryd.sizeAcc) ?_)
        | (refine wpList_store_st HO (by rfl) 71 (.tmp 22) (.tmp 21) (by rfl) (i * 50) X (by rfl) (by rfl) HFIT.out (by rw [hXl]; exact Tryd.sizeAcc) HX1.out ?_)
      intro w4 H4
      have hlen : (ins cs (i * 50) X).length = cap * 50 := by
        have := HFIT.out
        have := HCL.out
        unfold ins
        simp only [List.length_append, List.length_take, List.length_drop]
        omega
      have hval : (ins cs (i * 50) X).take (n * 50) = acs S := by
        rw [HSE.out, ← HCT.out, hXl.symm]
        have hf := HFIT.out
        have hi := HIN.out
        unfold ins
        rw [hXl] at hf ⊢
        have h1 : (cs.take (i * 50)).length = i * 50 := by rw [List.length_take]; omega
        rw [List.take_append, List.take_of_length_le (by rw [List.length_append, h1, hXl]; omega), List.length_append, h1, hXl, List.take_take, Nat.min_eq_left (by omega), List.drop_take]
      have H5 := H4.shutRow (n := n) (cap := cap) hlen HNC.out HCM.out
      rw [hval] at H5
      have hwl := HWL.out
      rw [← hwl] at H5
      have H6 := H5.d1
      have e6 : Value.slice (some ⟨g, 0, none⟩) n cap = Value.slice (some ⟨g, 0, none⟩) S.length cap := by rw [hwl]
      rw [← e6] at H6
      have H7 := Lib.hid H6
      clear H4 H5 hlen hval hwl e6 HO H6
      go_wp2
      go_ret2
      exact ⟨_, rfl, H7.out⟩
set_option maxRecDepth 100000 in
set_option maxHeartbeats 1000000 in
theorem revoke_any (H : St w0 w M L) {A : Option Addr} {c n : Nat} {l : List Acc} (hn : n = l.length) (hn2 : n ≤ 900000) (hA : A = none → c = 0) (hl : SrA w0 M L A (acs l)) (t : Nat) :
    Calls Tryd.prog 16 #[.slice A n c, .int .u64 (t : Int)] w (Ret2 w0 M L (Va.revoke l t)) := by
  have hck := vcheck_any (c := c) H hn (by omega) hl
  have hwi := fun W (H : St w0 W M L) (hm : Va.May l) => with_any (c := c) H hn hn2 hA hl hm.pair (Va.gone t)
  have HCK := Lib.hid hck
  have HWI := Lib.hid hwi
  have hlit : (ac (Va.gone t)).toArray = #[.int .u64 (t : Int), .int .u8 0, .int .u8 0, .int .u8 0, .int .u8 0, .int .u8 0, .int .u8 0, .int .u8 0, .int .u8 0, .int .u8 0, .int .u8 0, .int .u8 0, .int .u8 0, .int .u8 0, .int .u8 0, .int .u8 0, .int .u8 0, .int .u8 0, .int .u8 0, .int .u8 0, .int .u8 0, .int .u8 0, .int .u8 0, .int .u8 0, .int .u8 0, .int .u8 0, .int .u8 0, .int .u8 0, .int .u8 0, .int .u8 0, .int .u8 0, .int .u8 0, .int .u8 0, .int .u8 0, .int .u8 0, .int .u8 0, .int .u8 0, .int .u8 0, .int .u8 0, .int .u8 0, .int .u8 0, .int .u8 0, .int .u8 0, .int .u8 0, .int .u8 0, .int .u8 0, .int .u8 0, .int .u8 0, .int .u8 0, .bool true] := rfl
  simp only [hlit] at HWI
  obtain ⟨R, hR⟩ : ∃ R, R = Va.revoke l t := ⟨_, rfl⟩
  rw [← hR]
  unfold Va.revoke at hR
  have HR := Lib.hid hR
  clear hck hwi hlit hR hn hl H
  go_enter Tryd.func16, Tryd.ntmps16
  go_wp2_with fail
  refine HCK.out.mono ?_
  rintro e w1 ⟨⟨hm, rfl⟩ | ⟨hm, rfl⟩, H1⟩
  · have hw := HWI.out w1 H1 hm
    have hR2 : R = Va.with_ l (Va.gone t) := by rw [HR.out, if_pos hm]
    have HW := Lib.hid hw
    have HR2 := Lib.hid hR2
    clear hw hm hR2 HWI HCK HR
    go_wp2_with fail
    refine HW.out.mono ?_
    rintro e w2 ⟨v, rfl, H2⟩
    rw [← HR2.out] at H2 ⊢
    go_wp2
    go_ret2
    exact ⟨_, rfl, H2⟩
  · have hR2 : R = ([], 1) := by rw [HR.out, if_neg hm]
    subst hR2
    have H2 := H1.addNil 71 50
    clear hm HWI HCK HR
    go_wp2
    go_ret2
    exact ⟨_, rfl, H2⟩
set_option maxRecDepth 100000 in
set_option maxHeartbeats 1000000 in
theorem rotate_any (ht : Tabs w0) (H : St w0 w M L) {A : Option Addr} {c n : Nat} {l : List Acc} (hn : n = l.length) (hn2 : n ≤ 900000) (hA : A = none → c = 0) (hl : SrA w0 M L A (acs l)) (t : Nat) (salt s : List UInt8) (hs : salt.length = 16) (hsn : s.length < 140737488355000) :
    Calls Tryd.prog 14 #[.slice A n c, .int .u64 (t : Int), .agg (bv salt).toArray, .string ⟨s.toArray⟩] w (Ret2 w0 M L (Va.rotate l t salt s hs)) := by
  have H1 := H.new (bv salt) 24
  have hck := vcheck_any (c := c) H1 hn (by omega) (hl.cons _)
  have hwi := fun W L' (H : St w0 W M L') (h : SrA w0 M L' A (acs l)) (hm : Va.May l) => with_any (c := c) H hn hn2 hA h hm.pair (Va.acct t salt s hs)
  have hst := fun W L' (H : St w0 W M L') => store_any ht H salt s hs hsn
  have hsl : (bv salt).length = 16 := by rw [bv_length, hs]
  have hDl : (bv (Mac.store salt s)).length = 32 := by rw [bv_length, Mac.store_len]
  have HCK := Lib.hid hck
  have HWI := Lib.hid hwi
  have HST := Lib.hid hst
  have hlit : (ac (Va.acct t salt s hs)).toArray = accArr t salt (Mac.store salt s) := rfl
  simp only [hlit] at HWI
  have hdn := Mac.store_len salt s
  obtain ⟨R, hR⟩ : ∃ R, R = Va.rotate l t salt s hs := ⟨_, rfl⟩
  rw [← hR]
  unfold Va.rotate at hR
  obtain ⟨D, hD⟩ : ∃ D, D = Mac.store salt s := ⟨_, rfl⟩
  simp only [← hD] at HST hDl HWI hdn
  obtain ⟨E, hE⟩ : ∃ E, E = secretErr s.length := ⟨_, rfl⟩
  rw [← hE] at hR
  simp only [← hE] at HST
  have HR := Lib.hid hR
  have HSL := Lib.hid hsl
  have HDL := Lib.hid hDl
  clear hck hwi hlit hR hn H hst hD hE hsl hDl
  go_enter Tryd.func14, Tryd.ntmps14
  go_wp2_with fail
  refine HCK.out.mono ?_
  rintro e w1 ⟨⟨hm, rfl⟩ | ⟨hm, rfl⟩, H2⟩
  · have HM := Lib.hid hm
    have hrs := (H2.blk 0 rfl).range 0 16 (bv salt) (by rw [List.drop_zero, List.take_of_length_le (by rw [HSL.out]; exact Nat.le_refl _)])
    have HRS := Lib.hid hrs
    clear hm hrs HCK H1
    go_wp2_with (refine wpList_load_mid (by rfl) 24 (.tmp 6) (by rfl) w.heap.size 0 (by rfl) (bv salt) _ HRS.out Tryd.underlying24 rfl (by rw [HSL.out]; exact Tryd.size16) ?_)
    go_wp2_with fail
    refine (HST.out _ _ H2).mono ?_
    rintro e w2 ⟨rfl, H3⟩
    have H4 := H3.new (bv (List.replicate 32 0)) 40
    obtain ⟨w3, hst3, H5⟩ := run_store_st (P := Tryd.prog) H4 (cs := bv D) (by rw [HDL.out, bv_length, List.length_replicate]) (bv_one _)
    rw [← obj32] at hst3
    have hdl := HDL.out
    clear H2 HRS HST H4 H3
    by_cases hE : E = 0
    · have hw := HWI.out w3 _ H5 ((hl.cons _).cons _) HM.out
      have hR2 : R = Va.with_ l (Va.acct t salt s hs) := by rw [HR.out, if_pos HM.out, if_pos hE]
      have hrs := (H5.blk 1 rfl).range 0 16 (bv salt) (by rw [List.drop_zero, List.take_of_length_le (by rw [HSL.out]; exact Nat.le_refl _)])
      have hrd := (H5.blk 0 rfl).range 0 32 (bv D) (by rw [List.drop_zero, List.take_of_length_le (by rw [hdl]; exact Nat.le_refl _)])
      have HRS := Lib.hid hrs
      have HRD := Lib.hid hrd
      have HW := Lib.hid hw
      have HR2 := Lib.hid hR2
      subst hE
      clear hw hR2 HWI HR hrs hrd H5
      go_upto_region 6 with fail
      generalize w2.heap.size = g2 at *
      clear hst3
      refine wp_region_lit ?_
      refine wpList_move (by rfl) (.tmp 0) (by rfl) ?_
      refine wpList_move (by rfl) (.tmp 1) (by rfl) ?_
      refine wpList_load_mid (by rfl) 24 (.tmp 6) (by rfl) w.heap.size 0 (by rfl) (bv salt) _ HRS.out Tryd.underlying24 rfl (by rw [HSL.out]; exact Tryd.size16) ?_
      refine wpList_load_mid (by rfl) 40 (.tmp 10) (by rfl) g2 0 (by rfl) (bv D) _ HRD.out Tryd.underlying40 rfl (by rw [HDL.out]; exact Tryd.size24) ?_
      refine wpList_build3 (by rfl) 71 (.tmp 25) (.tmp 26) (.tmp 27) (by rfl) (by rfl) (by rfl) (by rfl) (cells := accArr (t : Int) salt D) (Tryd.builtAcc t salt D hs hdn) ?_
      simp only [Act.put, List.setIfInBounds_toArray, List.set_cons_zero, List.set_cons_succ]
      go_wp2_with fail
      refine HW.out.mono ?_
      rintro e w4 ⟨v, rfl, H6⟩
      rw [← HR2.out] at H6 ⊢
      go_wp2
      go_ret2
      exact ⟨_, rfl, H6.f2.d0.f1.d0⟩
    · have hR2 : R = ([], E) := by rw [HR.out, if_pos HM.out, if_neg hE]
      subst hR2
      have e1 : (E == 0) = false := by simpa using hE
      have e2 : (E != 0) = true := by simpa using hE
      have H6 := H5.d0.d0.addNil 71 50
      clear hE HWI HR H5
      go_wp2
      go_ret2
      exact ⟨_, rfl, H6⟩
  · have hR2 : R = ([], 1) := by rw [HR.out, if_neg hm]
    subst hR2
    have H3 := H2.d0.addNil 71 50
    clear hm HWI HCK HR H1
    go_wp2
    go_ret2
    exact ⟨_, rfl, H3⟩
end
end Go.Proofs.YtcdljlaoedaliaaDoor
/- vault.Enroll. -/
set_option linter.unusedVariables false
set_option linter.unusedSimpArgs false
namespace Go.Proofs.YtcdljlaoedaliaaDoor
open Go.RowKit Wd
open Va (Acc)
theorem exec_build3 {P : Program} {o : Oper} {ev : Operand → Value} (t : TypeId) (x y z : Operand) (ho : o.op = .build t #[(0, x), (1, y), (2, z)]) {vx vy vz : Value} (hx : ev x = vx) (hy : ev y = vy) (hz : ev z = vz)
    {cells : Array Value} (hb : P.built t [(0, vx), (1, vy), (2, vz)] = some cells) (w : World) : (execOp ev o).run P w = .ok (.value (.agg cells)) w := by
  have h := run_build (P := P) w t #[(0, vx), (1, vy), (2, vz)] cells hb
  subst hx hy hz
  unfold execOp
  simp only [ho, List.map_toArray, List.map_cons, List.map_nil, Sem.run_bind, h, Result.andThen_ok, Sem.run_pure]
theorem wpList_bs1 {P : Program} {ops : Array Oper} {rest : List Oper} {o : Oper} {a : Act} {w w' : World} {Q : Exit → Act → World → Prop} (hg : o.guard = none) (t : TypeId) (x : Operand) (ho : o.op = .buildSlice t 1 #[(0, x)]) {v u : Value} (hx : a.eval x = v)
    (hr : (Instr.buildSlice t 1 #[(0, v)]).run P w = .ok u w') (h : wpList P ops Q rest (a.put o.dst u) w') : wpList P ops Q (o :: rest) a w :=
  wpList_plain hg fun K hK => by
    subst hx
    unfold Oper.wp execOp
    simp only [ho, List.map_toArray, List.map_cons, List.map_nil, Sem.run_bind, hr, Result.andThen_ok, Sem.run_pure]
    exact hK _ _ h
theorem acs_put (l : List Acc) (i : Nat) (a : Acc) : acs (l.take i ++ a :: l.drop i) = (acs l).take (i * 50) ++ (ac a ++ (acs l).drop (i * 50)) := by
  have h1 : (acs l).take (i * 50) = acs (l.take i) := by
    rcases Nat.lt_or_ge i l.length with h | h
    · conv => lhs; rw [← List.take_append_drop i l, acs_append]
      rw [List.take_append_of_le_length (by rw [acs_length, List.length_take]; omega), List.take_of_length_le (by rw [acs_length, List.length_take]; omega)]
    · rw [List.take_of_length_le h, List.take_of_length_le (by rw [acs_length]; omega)]
  have h2 : (acs l).drop (i * 50) = acs (l.drop i) := by
    rcases Nat.lt_or_ge i l.length with h | h
    · conv => lhs; rw [← List.take_append_drop i l, acs_append]
      rw [List.drop_append, List.drop_eq_nil_of_le (by rw [acs_length, List.length_take]; omega), acs_length, List.length_take, Nat.min_eq_left (by omega), Nat.sub_self, List.drop_zero, List.nil_append]
    · rw [List.drop_eq_nil_of_le h, List.drop_eq_nil_of_le (by rw [acs_length]; omega)]
      rfl
  rw [acs_append, h1, h2]
  rfl
section
variable {w0 w : World} {M : Mem} {L : List Ent}
set_option maxRecDepth 100000 in
set_option maxHeartbeats 2000000 in
theorem enroll_any (ht : Tabs w0) (H : St w0 w M L) {A : Option Addr} {c n : Nat} {l : List Acc} (hn : n = l.length) (hn2 : n ≤ 900000) (hA : A = none → c = 0) (hl : SrA w0 M L A (acs l)) (t : Nat) (salt s : List UInt8) (hs : salt.length = 16) (hsn : s.length < 140737488355000) :
    Calls Tryd.prog 9 #[.slice A n c, .int .u64 (t : Int), .agg (bv salt).toArray, .string ⟨s.toArray⟩] w (Ret2 w0 M L (Va.enroll l t salt s hs)) := by
  have H1 := H.new (bv salt) 24
  have hck := vcheck_any (c := c) H1 hn (by omega) (hl.cons _)
  have hfi := fun W L' (H : St w0 W M L') (h : SrA w0 M L' A (acs l)) (hm : Va.May l) => find_any (c := c) H hn (by omega) h hm.pair t
  have hcl := fun W L' (H : St w0 W M L') (h : SrA w0 M L' A (acs l)) => vclone_any (c := c) H hn (by omega) hA h
  have hst := fun W L' (H : St w0 W M L') => store_any ht H salt s hs hsn
  have hsl : (bv salt).length = 16 := by rw [bv_length, hs]
  have hDl : (bv (Mac.store salt s)).length = 32 := by rw [bv_length, Mac.store_len]
  have hb : Tryd.prog.built 71 [(0, .int .u64 (t : Int)), (1, .agg (bv salt).toArray), (2, .agg (bv (Mac.store salt s)).toArray)] = some (ac (Va.acct t salt s hs)).toArray := Tryd.builtAcc t salt _ hs (Mac.store_len salt s)
  have hone := acs_one l
  have hXl := ac_length (Va.acct t salt s hs)
  have hX1 := ac_one (Va.acct t salt s hs)
  have hput : ∀ i, Va.Cut t l i → acs (Va.put (Va.acct t salt s hs) l) = (acs l).take (i * 50) ++ (ac (Va.acct t salt s hs) ++ (acs l).drop (i * 50)) ∧ (Va.put (Va.acct t salt s hs) l).length = n + 1 := fun i hc => by
    have e := Va.Cut.put (a := Va.acct t salt s hs) hc
    rw [e]
    refine ⟨acs_put l i _, ?_⟩
    have := hc.1
    rw [List.length_append, List.length_cons, List.length_take, List.length_drop, hn]
    omega
  have hh : ∀ i, Va.May l → Va.Cut t l i → (Va.has t l = true ↔ ∃ h : i < l.length, l[i].t = t) := fun i hm h => h.has hm.pair
  have HCK := Lib.hid hck
  obtain ⟨R, hR⟩ : ∃ R, R = Va.enroll l t salt s hs := ⟨_, rfl⟩
  rw [← hR]
  unfold Va.enroll at hR
  obtain ⟨S, hS⟩ : ∃ S, S = Va.put (Va.acct t salt s hs) l := ⟨_, rfl⟩
  rw [← hS] at hR
  simp only [← hS] at hput
  obtain ⟨X, hX⟩ : ∃ X, X = ac (Va.acct t salt s hs) := ⟨_, rfl⟩
  rw [← hX] at hb hXl hX1
  simp only [← hX] at hput
  obtain ⟨D, hD⟩ : ∃ D, D = Mac.store salt s := ⟨_, rfl⟩
  simp only [← hD] at hst hDl hb
  obtain ⟨E, hE⟩ : ∃ E, E = secretErr s.length := ⟨_, rfl⟩
  rw [← hE] at hR
  simp only [← hE] at hst
  have hbs : ∀ w : World, (Instr.buildSlice 22 1 #[(0, .agg X.toArray)]).run Tryd.prog w = .ok (.slice (some ⟨w.heap.size, 0, none⟩) 1 1) (w.alloc (.cells X.toArray 71)) := fun w =>
    run_buildSlice_one (n := 50) Tryd.underlying22 (by
      obtain ⟨i, h1, h2, h3, h4⟩ := info_parts Tryd.infoAcc
      rw [h1]; simp [h2, h3]; rfl) rfl (by decide) (by decide) (.agg X.toArray) (by simpa [Value.cells] using hXl) w
  have HN := Lib.hid hn
  have HFI := Lib.hid hfi
  have HCLN := Lib.hid hcl
  have HST := Lib.hid hst
  have HR := Lib.hid hR
  have HB := Lib.hid hb
  have HSL := Lib.hid hsl
  have HDL := Lib.hid hDl
  have HONE := Lib.hid hone
  have HXL := Lib.hid hXl
  have HX1 := Lib.hid hX1
  have HPUT := Lib.hid hput
  have HH := Lib.hid hh
  have HBS := Lib.hid hbs
  clear hck hfi hcl hst hX hb hR hn H hD hE hsl hDl hone hXl hX1 hput hS hh hbs
  by_cases ht0 : t = 0
  · subst ht0
    go_enter Tryd.func9, Tryd.ntmps9
    go_wp2_with fail
    refine HCK.out.mono ?_
    have hR2 : R = ([], 1) := by rw [HR.out, if_neg (fun h => h.2 rfl)]
    subst hR2
    rintro e w1 ⟨⟨hm, rfl⟩ | ⟨hm, rfl⟩, H2⟩
    all_goals
      have H3 := H2.d0.addNil 71 50
      clear hm HCK HR HB H1 HFI HCLN HST HPUT HH HBS
      go_wp2
      go_ret2
      exact ⟨_, rfl, H3⟩
  · have q0 : ((t : Int) == 0) = false := by simp; omega
    have HT0 := Lib.hid ht0
    clear ht0
    go_enter Tryd.func9, Tryd.ntmps9
    go_wp2_with fail
    refine HCK.out.mono ?_
    rintro e w1 ⟨⟨hm, rfl⟩ | ⟨hm, rfl⟩, H2⟩
    · have HM := Lib.hid hm
      have hrs := (H2.blk 0 rfl).range 0 16 (bv salt) (by rw [List.drop_zero, List.take_of_length_le (by rw [HSL.out]; exact Nat.le_refl _)])
      have HRS := Lib.hid hrs
      clear hm hrs HCK H1
      go_wp2_with (refine wpList_load_mid (by rfl) 24 (.tmp 6) (by rfl) w.heap.size 0 (by rfl) (bv salt) _ HRS.out Tryd.underlying24 rfl (by rw [HSL.out]; exact Tryd.size16) ?_)
      go_wp2_with fail
      refine (HST.out _ _ H2).mono ?_
      rintro e w2 ⟨rfl, H3⟩
      have H4 := H3.new (bv (List.replicate 32 0)) 40
      obtain ⟨w3, hst3, H5⟩ := run_store_st (P := Tryd.prog) H4 (cs := bv D) (by rw [HDL.out, bv_length, List.length_replicate]) (bv_one _)
      rw [← obj32] at hst3
      have hdl := HDL.out
      clear H2 HRS HST H4 H3
      go_upto_region 4 with fail
      generalize w2.heap.size = g2 at *
      clear hst3
      go_wp2_with fail
      refine (HFI.out _ _ H5 ((hl.cons _).cons _) HM.out).mono ?_
      rintro e w4 ⟨i, f, rfl, hc, hf, H6⟩
      have hhas := HH.out i HM.out hc
      clear H5 HFI HH
      by_cases hE : E = 0
      · cases f with
        | true =>
          have hyes := hhas.2 (hf.1 rfl)
          have hR2 : R = ([], 6) := by rw [HR.out, if_pos ⟨HM.out, HT0.out⟩, if_pos hE, if_pos hyes]
          subst hR2 hE
          have H7 := H6.d0.d0.addNil 71 50
          clear hf hhas hc hyes HR HPUT HCLN HBS HB H6
          go_wp2
          go_ret2
          exact ⟨_, rfl, H7⟩
        | false =>
          have hno : ¬ Va.has t l = true := fun h => by have := hf.2 (hhas.1 h); cases this
          by_cases h64 : n = 64
          · have hR2 : R = ([], 12) := by rw [HR.out, if_pos ⟨HM.out, HT0.out⟩, if_pos hE, if_neg hno, if_pos (HN.out.symm.trans h64)]
            have q1 : ((n : Int) == 64) = true := by simp; omega
            subst hR2 hE
            have H7 := H6.d0.d0.addNil 71 50
            clear hf hhas hc hno HR HPUT HCLN HBS HB H6 h64
            go_wp2
            go_ret2
            exact ⟨_, rfl, H7⟩
          · have hR2 : R = (S, 0) := by rw [HR.out, if_pos ⟨HM.out, HT0.out⟩, if_pos hE, if_neg hno, if_neg (fun h => h64 (HN.out.trans h))]
            have q1 : ((n : Int) == 64) = false := by simp; omega
            obtain ⟨hp1, hp2⟩ := HPUT.out i hc
            have hin : i ≤ n := by have := hc.1; have := HN.out; omega
            subst hR2 hE
            have HP1 := Lib.hid hp1
            have HP2 := Lib.hid hp2
            have HIN := Lib.hid hin
            clear hf hhas hc hno HR HPUT h64 hp1 hp2 hin
            go_upto_region 11 with fail
            have H7 := H6.drew
            refine Pt.wp_plan (fun w' => St w0 w' M (eb g2 40 (bv D) :: eb w.heap.size 24 (bv salt) :: L)) (Pt.prs [0, 2, 3] (Pt.rds [4, 5] (Pt.prs [6] (.go2 1 (.go 7 (.go 8 (Pt.prs [9, 10] .fin))) 7 (.go 1 (.go 8 (Pt.prs [9, 10] .fin))))))) [] Tryd.mixed (by kernel_rfl) (fun _ _ d _ _ h => by cases d <;> exact h) H7 ?_
            clear H6
            simp only [Pt.toL, Pt.rds, Pt.prs, Pt.at_, List.drop_succ_cons, List.drop_zero]
            iterate 3 (refine Pt.pr_run (v := ?_) (by rfl) ?_ ?_; rotate_left; (focus (intro w'; go_simp; with_reducible rfl)); simp only [Act.put, List.setIfInBounds_toArray, List.set_cons_zero, List.set_cons_succ])
            (refine Pt.rd_load (by rfl) 24 (.tmp 6) (by rfl) w.heap.size 0 (by rfl) (bv salt) _ (fun w' h => (h.blk 1 rfl).range 0 16 _ (by rw [List.drop_zero, List.take_of_length_le (by rw [HSL.out]; exact Nat.le_refl _)])) Tryd.underlying24 rfl (by rw [HSL.out]; exact Tryd.size16) ?_; simp only [Act.put, List.setIfInBounds_toArray, List.set_cons_zero, List.set_cons_succ])
            (refine Pt.rd_load (by rfl) 40 (.tmp 10) (by rfl) g2 0 (by rfl) (bv D) _ (fun w' h => (h.blk 0 rfl).range 0 32 _ (by rw [List.drop_zero, List.take_of_length_le (by rw [HDL.out]; exact Nat.le_refl _)])) Tryd.underlying40 rfl (by rw [HDL.out]; exact Tryd.size24) ?_; simp only [Act.put, List.setIfInBounds_toArray, List.set_cons_zero, List.set_cons_succ])
            (refine Pt.pr_run (v := .agg X.toArray) (by rfl) (fun W => exec_build3 71 (.tmp 46) (.tmp 47) (.tmp 48) (by rfl) (by rfl) (by rfl) (by rfl) HB.out W) ?_; simp only [Act.put, List.setIfInBounds_toArray, List.set_cons_zero, List.set_cons_succ])
            refine Pt.run_go2 ?_ ?_
            · go_wp2_with fail
              refine (HCLN.out _ _ H7 ((hl.cons _).cons _)).mono ?_
              rintro e w5 ⟨v5, rfl, H8⟩
              go_wp2_with fail
              refine Pt.same H8.d0 ?_
              have H9 := H8.new X 71
              have hb5 := HBS.out w5
              refine Pt.run_go ?_
              refine wpList_bs1 (by rfl) 22 (.tmp 49) (by rfl) (by rfl) hb5 ?_
              refine wpList_nil ?_
              simp only [Pl.Then, Act.put, List.setIfInBounds_toArray, List.set_cons_zero, List.set_cons_succ]
              refine Pt.same H9.d0.d0 ?_
              have hins := insert_any (i := i) H9.f1 HXL.out HX1.out HONE.out HIN.out (by omega)
              rw [← HP1.out] at hins
              have HINS := Lib.hid hins
              clear hins H7 H8 H9 hb5
              refine Pt.run_go ?_
              go_wp2_with fail
              refine HINS.out.mono ?_
              rintro e w6 ⟨v6, rfl, HA⟩
              have HB5 := HA.d1
              go_wp2_with fail
              refine Pt.same HB5.d0 ?_
              clear HINS HA
              iterate 2 (refine Pt.pr_run (v := ?_) (by rfl) ?_ ?_; rotate_left; (focus (intro w'; go_simp; with_reducible rfl)); simp only [Act.put, List.setIfInBounds_toArray, List.set_cons_zero, List.set_cons_succ])
              refine Pt.run_fin ?_
              rw [← HP2.out] at HB5
              go_wp2
              go_ret2
              exact ⟨_, rfl, HB5.f2.d0.f1.d0⟩
            · have hb5 := HBS.out w4.drew
              have H8 := H7.new X 71
              refine wpList_bs1 (by rfl) 22 (.tmp 49) (by rfl) (by rfl) hb5 ?_
              refine wpList_nil ?_
              simp only [Pl.Then, Act.put, List.setIfInBounds_toArray, List.set_cons_zero, List.set_cons_succ]
              refine Pt.same H8.d0 ?_
              clear hb5
              refine Pt.run_go ?_
              go_wp2_with fail
              refine (HCLN.out _ _ H8 (((hl.cons _).cons _).cons _)).mono ?_
              rintro e w5 ⟨v5, rfl, H9⟩
              go_wp2_with fail
              refine Pt.same H9.d0.d0 ?_
              have hins := insert_any (i := i) H9 HXL.out HX1.out HONE.out HIN.out (by omega)
              rw [← HP1.out] at hins
              have HINS := Lib.hid hins
              clear hins H7 H8 H9
              refine Pt.run_go ?_
              go_wp2_with fail
              refine HINS.out.mono ?_
              rintro e w6 ⟨v6, rfl, HA⟩
              have HB5 := HA.d1
              go_wp2_with fail
              refine Pt.same HB5.d0 ?_
              clear HINS HA
              iterate 2 (refine Pt.pr_run (v := ?_) (by rfl) ?_ ?_; rotate_left; (focus (intro w'; go_simp; with_reducible rfl)); simp only [Act.put, List.setIfInBounds_toArray, List.set_cons_zero, List.set_cons_succ])
              refine Pt.run_fin ?_
              rw [← HP2.out] at HB5
              go_wp2
              go_ret2
              exact ⟨_, rfl, HB5.f2.d0.f1.d0⟩
      · have hR2 : R = ([], E) := by rw [HR.out, if_pos ⟨HM.out, HT0.out⟩, if_neg hE]
        subst hR2
        have e1 : (E == 0) = false := by simpa using hE
        have e2 : (E != 0) = true := by simpa using hE
        have H7 := H6.d0.d0.addNil 71 50
        clear hE HR HB H6 hf hhas hc HPUT HCLN HBS
        go_wp2
        go_ret2
        exact ⟨_, rfl, H7⟩
    · have hR2 : R = ([], 1) := by rw [HR.out, if_neg (fun h => hm h.1)]
      subst hR2
      have H3 := H2.d0.addNil 71 50
      clear hm HCK HR HB H1 HFI HCLN HST HPUT HH HBS
      go_wp2
      go_ret2
      exact ⟨_, rfl, H3⟩
end
end Go.Proofs.YtcdljlaoedaliaaDoor
