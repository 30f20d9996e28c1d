/- The contracts of slices.Grow and slices.Concat at bytes. -/
import Derived.Test.YtpomjaidaignpaaChecked
import Derived.Test.YtpomjaidaignpaaAz
import Derived.Test.YtpomjaidaignpaaI5
set_option linter.unusedVariables false
set_option linter.unusedSimpArgs false
namespace Go.Proofs.Ytpomjaidaignpaa
open Go.RowKit Wd
/-- A slice of bytes among others. -/
structure Pc where
  A : Option Addr
  n : Nat
  c : Nat
  l : List UInt8
def Pc.v (p : Pc) : Value := .slice p.A p.n p.c
def Pc.ok (p : Pc) : Prop := p.n = p.l.length ∧ (p.A = none → p.c = 0) ∧ p.n ≤ p.c
def flat (ps : List Pc) : List UInt8 := ps.flatMap Pc.l
theorem flat_take (ps : List Pc) (k : Nat) (hk : k < ps.length) : flat (ps.take (k + 1)) = flat (ps.take k) ++ (ps[k]).l := by
  unfold flat
  rw [List.take_succ_eq_append_getElem hk, List.flatMap_append]
  simp only [List.flatMap_cons, List.flatMap_nil, List.append_nil]
theorem flat_take_le (ps : List Pc) (k : Nat) : (flat (ps.take k)).length ≤ (flat ps).length := by
  have h : flat ps = flat (ps.take k) ++ flat (ps.drop k) := by
    have := List.flatMap_append (f := Pc.l) (xs := ps.take k) (ys := ps.drop k)
    rw [List.take_append_drop] at this
    exact this
  rw [h, List.length_append]
  omega
/-- The cells at A read so wherever F and M hold. -/
def SrA (w0 : World) (M : Mem) (F : List Ent) (A : Option Addr) (cs : List Value) : Prop := ∀ w' M', M.le M' → St w0 w' M' F → RA w' A cs
section
variable {w0 w : World} {M : Mem} {L : List Ent}
theorem SrA.cons {A : Option Addr} {cs : List Value} (h : SrA w0 M L A cs) (e : Ent) : SrA w0 M (e :: L) A cs := fun w' M' hM H => h w' M' hM H.d0
theorem SrA.now {A : Option Addr} {cs : List Value} (h : SrA w0 M L A cs) (H : St w0 w M L) : RA w A cs := h w M (Mem.le.refl M) H
theorem SrA.row {e : TypeId} {sz n c : Nat} {A : Option Addr} {cs : List Value} (i : Nat) (hi : L[i]? = some (er e sz (.slice A n c) n cs)) : SrA w0 M L A cs := fun w' M' hM H => er_RA (H.get i hi)
theorem SrA.of_in {A : Option Addr} {cs : List Value} (h : In M (RA · A cs)) : SrA w0 M L A cs := fun w' M' hM H => (h.le hM).now H
theorem SrA.at {A : Option Addr} {cs : List Value} (h : RA w A cs) (k : Nat) (hk : k < cs.length) : ∃ b o, A = some ⟨b, o, none⟩ ∧ w.cell? ⟨b, o + k, none⟩ = some cs[k] := by
  obtain ⟨b, o, rfl, _, hr⟩ := h (by rintro rfl; simp at hk)
  exact ⟨b, o, rfl, hr k _ (List.getElem?_eq_getElem hk)⟩
set_option maxRecDepth 100000 in
theorem grow_nil (H : St w0 w M L) (n : Nat) (hn : n < 140737488355000) :
    Calls Try.prog 83 #[.slice none 0 0, .int .i64 (n : Int)] w fun e w' => ∃ v, e = .returned v ∧ St w0 w' M (er 5 1 v 0 [] :: L) := by
  obtain ⟨i0, hi, hz0, hz1, hz2⟩ := info_parts Try.info5
  by_cases h0 : n = 0
  · subst h0
    have H1 := H.addNil 5 1
    go_enter Try.func83, Try.ntmps83
    go_wp2
    go_ret
    exact ⟨_, rfl, H1⟩
  · have hr := fun ty => Lib.run_append_nil_zeros (P := Try.prog) w 25 3 ty 5 i0 (.int .u8 0) .i64 .i64 Try.underlying25 (by kernel_rfl) hi hz0 n (by omega) (by omega) (by omega) (by rw [hz2]; omega)
    have hG := grownCap_ge w n 0 5
    have hG2 := grownCap_le_maxLen w n 0 5 (by unfold maxLen; omega)
    obtain ⟨G, hGe⟩ : ∃ G, G = grownCap w n 0 5 := ⟨_, rfl⟩
    rw [← hGe] at hr hG hG2
    obtain ⟨Z, hZ⟩ : ∃ Z, Z = Builtin.zeroCells (Value.int .u8 0).cells n ++ Builtin.zeroCells (Value.int .u8 0).cells (G - n) := ⟨_, rfl⟩
    rw [← hZ] at hr
    have hZs : Z.size = G := by rw [hZ, Array.size_append, size_zeroCells, size_zeroCells]; simp [Value.cells]; omega
    have H2 : St w0 (w.drew.alloc (.cells Z 5)) M (er 5 1 (.slice (some ⟨w.heap.size, 0, none⟩) 0 G) 0 [] :: L) := by
      refine H.drew.addRow ((Below.refl _ _).alloc (Nat.le_refl _) _) ⟨by simp, .inr ⟨w.heap.size, G, Z, rfl, Nat.le_refl _, heap_alloc_new w.drew _, Nat.zero_le _, hG2, by rw [hZs, Nat.mul_one], by simp⟩⟩
    have HZ := Lib.hid hZ
    have HZS := Lib.hid hZs
    have HG := Lib.hid hGe
    have q1 : ¬ (n : Int) < 0 := by omega
    have q2 : (0 : Int) < (n : Int) := by omega
    have q3 : (G : Int) ≤ 9223372036854775807 := by unfold maxLen at hG2; omega
    clear hZ hZs hGe hi hz0 hz1 hz2 h0
    go_enter Try.func83, Try.ntmps83
    go_wp2_with (at_builtin; refine Lib.wpList_append_run _ rfl _ _ _ _ rfl _ _ rfl rfl _ _ (hr _) ?_)
    all_goals (go_ret; exact ⟨_, rfl, H2⟩)
set_option maxRecDepth 100000 in
theorem concat_any (H : St w0 w M L) {A : Option Addr} {c m : Nat} {ps : List Pc} (hm : m = ps.length) (hs : SrA w0 M L A (ps.map Pc.v)) (hp : ∀ p ∈ ps, p.ok ∧ Sr w0 M L p.A p.l) (hn : (flat ps).length < 140737488355000) (hlen : m ≤ 1000) :
    Calls Try.prog 66 #[.slice A m c] w fun e w' => ∃ v, e = .returned v ∧ St w0 w' M (er 5 1 v (flat ps).length (bv (flat ps)) :: L) := by
  have HM := Lib.hid hm
  clear hm
  go_enter Try.func66, Try.ntmps66
  go_wp2
  go_loopw [3, 11] (fun x i wr => ∃ k : Nat, k ≤ m ∧ i = .int .i64 k ∧ x = .int .i64 ((flat (ps.take k)).length : Int) ∧ wr = w) (fun _ i _ => m - (intOf i).toNat)
  case atStart => exact ⟨0, by omega, rfl, rfl, rfl⟩
  case round =>
    obtain ⟨k, hk, rfl, rfl, rfl⟩ := hrel
    by_cases hlt : k < m
    · have hlt' : k < ps.length := by have := HM.out; omega
      obtain ⟨b, o, rfl, hc⟩ := SrA.at (hs.now H) k (by rw [List.length_map]; exact hlt')
      have ht := flat_take ps k hlt'
      have hl := flat_take_le ps (k + 1)
      have hok := (hp ps[k] (List.getElem_mem hlt')).1
      rw [List.getElem_map] at hc
      obtain ⟨p, hpe⟩ : ∃ p, p = ps[k] := ⟨_, rfl⟩
      rw [← hpe] at hc ht hok
      change wr.cell? _ = some (.slice p.A p.n p.c) at hc
      have h1 : (flat (ps.take (k + 1))).length = (flat (ps.take k)).length + p.n := by rw [ht, List.length_append, hok.1]
      rw [h1] at hl
      obtain ⟨T, hT⟩ : ∃ T, T = (flat (ps.take k)).length := ⟨_, rfl⟩
      rw [← hT] at h1 hl ⊢
      obtain ⟨N, hN⟩ : ∃ N, N = p.n := ⟨_, rfl⟩
      obtain ⟨B, hB⟩ : ∃ B, B = p.A := ⟨_, rfl⟩
      obtain ⟨C, hC⟩ : ∃ C, C = p.c := ⟨_, rfl⟩
      rw [← hN] at h1 hl hc
      rw [← hB, ← hC] at hc
      have q1 : (T : Int) + (N : Int) < 140737488355000 := by omega
      have q2 : (k : Int) < (m : Int) := by omega
      have q3 : ¬ (T : Int) + (N : Int) < 0 := by omega
      have H1 := Lib.hid h1
      have HLT := Lib.hid hlt
      clear h1 hN hB hC hT hpe hok ht hl hlt hlt' hk
      go_wp2
      exact ⟨⟨k + 1, by have := HLT.out; omega, by go_num, by rw [H1.out]; go_num, trivial⟩, by have := HLT.out; simp [intOf]; omega⟩
    · obtain rfl : k = m := by omega
      have e0 : ps.take k = ps := by rw [HM.out, List.take_length]
      rw [e0]
      obtain ⟨T, hT⟩ : ∃ T, T = (flat ps).length := ⟨_, rfl⟩
      rw [← hT]
      have HT := Lib.hid hT
      have HE := Lib.hid e0
      clear hT e0 hlt hk
      go_wp2_with fail
      refine (grow_nil H T (by rw [HT.out]; exact hn)).mono ?_
      rintro e w1 ⟨v, rfl, H1⟩
      go_wp2
      go_loopw [6, 27] (fun x i wr2 => ∃ j : Nat, j ≤ k ∧ i = .int .i64 j ∧ St w0 wr2 M (er 5 1 x (flat (ps.take j)).length (bv (flat (ps.take j))) :: L)) (fun _ i _ => k - (intOf i).toNat)
      case atStart => exact ⟨0, by omega, rfl, H1⟩
      case round =>
        obtain ⟨j, hj, rfl, H2⟩ := hrel
        clear H1
        by_cases hlt : j < k
        · have hlt' : j < ps.length := by have := HM.out; omega
          obtain ⟨b, o, rfl, hc⟩ := SrA.at (hs.now H2.d0) j (by rw [List.length_map]; exact hlt')
          have ht := flat_take ps j hlt'
          have hl := flat_take_le ps (j + 1)
          have hok := hp ps[j] (List.getElem_mem hlt')
          rw [List.getElem_map] at hc
          obtain ⟨p, hpe⟩ : ∃ p, p = ps[j] := ⟨_, rfl⟩
          rw [← hpe] at hc ht hok
          change World.cell? _ _ = some (Value.slice p.A p.n p.c) at hc
          obtain ⟨⟨o1, o2, o3⟩, o4⟩ := hok
          have h1 : (flat (ps.take (j + 1))).length = (flat (ps.take j)).length + p.n := by rw [ht, List.length_append, o1]
          rw [h1] at hl
          have r1 := (o4.cons _).now H2
          obtain ⟨T2, hT2⟩ : ∃ T, T = (flat (ps.take j)).length := ⟨_, rfl⟩
          rw [← hT2] at h1 hl H2
          obtain ⟨N, hN⟩ : ∃ N, N = p.n := ⟨_, rfl⟩
          obtain ⟨B, hB⟩ : ∃ B, B = p.A := ⟨_, rfl⟩
          obtain ⟨C, hC⟩ : ∃ C, C = p.c := ⟨_, rfl⟩
          obtain ⟨D, hD⟩ : ∃ D, D = p.l := ⟨_, rfl⟩
          rw [← hN] at h1 hl hc o1 o3
          rw [← hB, ← hC] at hc
          rw [← hB, ← hD] at r1
          rw [← hB, ← hC] at o2
          rw [← hD] at ht o1
          have O1 := Lib.hid o1
          have O2 := Lib.hid o2
          have HH1 := Lib.hid h1
          have HTT := Lib.hid ht
          have HLT := Lib.hid hlt
          have HL := Lib.hid hl
          have HN := Lib.hid hn
          have H3 := Lib.hid H2
          clear h1 hN hB hC hD hT2 hpe o1 o2 o4 ht hl hlt hlt' H2 hn o3
          go_wp2_with (at_builtin; refine wpList_append_st H3.out (by rfl) (.tmp 31) (.tmp 32) 25 (by rfl) Try.info5 Try.underlying25 (by rfl) B N C D (by rfl) O1.out O2.out r1 (by have := HL.out; have := HN.out; omega) ?_)
          intro v' w' H4
          go_wp2
          exact ⟨⟨j + 1, by have := HLT.out; omega, by go_num, by rw [HH1.out, HTT.out, bv_append]; exact H4⟩, by have := HLT.out; simp [intOf]; omega⟩
        · obtain rfl : j = k := by omega
          rw [HE.out] at H2
          go_wp2
          go_ret
          exact ⟨_, rfl, H2⟩
end
end Go.Proofs.Ytpomjaidaignpaa
