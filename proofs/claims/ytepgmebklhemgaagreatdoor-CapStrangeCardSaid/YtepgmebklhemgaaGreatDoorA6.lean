/- The contract of log's generation. -/
import Derived.Test.YtepgmebklhemgaaGreatDoorA5
import Derived.Test.YtepgmebklhemgaaGreatDoorA4
import Derived.Test.YtepgmebklhemgaaGreatDoorA3
import Derived.Deep.DeepCutAuto
set_option linter.unusedVariables false
set_option linter.unusedSimpArgs false
namespace Go.Proofs.YtepgmebklhemgaaGreatDoor
open Go.RowKit Wd
theorem list_eq (a b : List UInt8) : (a == b) = decide (a = b) := by
  rw [Bool.eq_iff_iff]
  simp
theorem Wd.Sr.sub {w0 : World} {M : Mem} {F : List Ent} {b o : Nat} {l : List UInt8} (h : Sr w0 M F (some ⟨b, o, none⟩) l) (k m : Nat) : Sr w0 M F (some ⟨b, o + k, none⟩) ((l.drop k).take m) := fun w' M' hM hS => (h w' M' hM hS).sub
def Lg.best (b : List UInt8) : Nat → Nat
  | 0 => 0
  | k + 1 => Lg.pick b (Lg.best b k) k
theorem Lg.best_two (b : List UInt8) : Lg.best b 2 = Lg.generation b := rfl
theorem Lg.genOf_lt (b : List UInt8) (k : Nat) : Lg.genOf b k < 18446744073709551616 := by
  have h := Lg.num_lt ((b.drop (64 * k)).take 8)
  have h2 : 256 ^ ((b.drop (64 * k)).take 8).length ≤ 256 ^ 8 := Nat.pow_le_pow_right (by decide) (by rw [List.length_take]; omega)
  exact Nat.lt_of_lt_of_le h h2
theorem Lg.best_lt (b : List UInt8) (k : Nat) : Lg.best b k < 18446744073709551616 := by
  induction k with
  | zero => exact (by decide : 0 < 18446744073709551616)
  | succ k ih =>
    have h := Lg.genOf_lt b k
    unfold Lg.best Lg.pick
    split
    · exact Nat.max_lt.2 ⟨ih, h⟩
    · exact ih
theorem Lg.generation_lt (b : List UInt8) : Lg.generation b < 18446744073709551616 := Lg.best_lt b 2
section
variable {w0 w : World} {M : Mem} {L : List Ent}
set_option maxRecDepth 100000 in
theorem generation_any (H : St w0 w M L) {A : Option Addr} {c n : Nat} {b : List UInt8} (hn : n = b.length) (hl : Sr w0 M L A b) (h128 : 128 ≤ n) (hc : n ≤ c) (hc2 : c ≤ 9223372036854775807) :
    Calls Tryz.prog 109 #[.slice A n c] w fun e w' => e = .returned (.int .u64 (Lg.generation b : Int)) ∧ St w0 w' M L := by
  obtain ⟨bb, bo, rfl, _, _⟩ := hl.now H (by rintro rfl; rw [hn] at h128; simp at h128)
  obtain ⟨D, hD⟩ : ∃ D, D = Lg.generation b := ⟨_, rfl⟩
  rw [← hD]
  have HD := Lib.hid hD
  have HN := Lib.hid hn
  clear hD hn
  go_enter Tryz.func109, Tryz.ntmps109
  go_wp2
  go_loopw [3, 7] (fun x i wr => ∃ k : Nat, k ≤ 2 ∧ i = .int .i64 k ∧ x = .int .u64 (Lg.best b k : Int) ∧ St w0 wr M L) (fun _ i _ => 2 - (intOf i).toNat)
  case atStart => exact ⟨0, by omega, rfl, rfl, H⟩
  case round =>
    obtain ⟨k, hk, rfl, rfl, H1⟩ := hrel
    clear H
    by_cases hlt : k < 2
    · obtain ⟨h, hh⟩ : ∃ h, h = (b.drop (64 * k)).take 64 := ⟨_, rfl⟩
      have hhl : h.length = 64 := by rw [hh, List.length_take, List.length_drop, ← HN.out]; omega
      have sh : Sr w0 M L (some ⟨bb, bo + 64 * k, none⟩) h := by rw [hh]; exact hl.sub _ _
      obtain ⟨G, hG⟩ : ∃ G, G = Lg.genOf b k := ⟨_, rfl⟩
      have hGe : G = Lg.num (h.take 8) := by rw [hG, hh, List.take_take]; rfl
      have hGl : G < 18446744073709551616 := by rw [hG]; exact Lg.genOf_lt b k
      have hp : Lg.best b (k + 1) = if Lg.head G = h then max (Lg.best b k) G else Lg.best b k := by rw [hG, hh]; rfl
      obtain ⟨D2, hD2⟩ : ∃ D2, D2 = Lg.head G := ⟨_, rfl⟩
      have hD2l : D2.length = 64 := by rw [hD2, Lg.head_len]
      rw [← hD2] at hp
      obtain ⟨X, hX⟩ : ∃ X, X = Lg.best b k := ⟨_, rfl⟩
      rw [← hX] at hp ⊢
      obtain ⟨Y, hY⟩ : ∃ Y, Y = Lg.best b (k + 1) := ⟨_, rfl⟩
      rw [← hY] at hp
      obtain ⟨K, hK⟩ : ∃ K, K = k + 1 := ⟨_, rfl⟩
      rw [← hK] at hY
      have HK := Lib.hid hK
      obtain ⟨t, ht⟩ : ∃ t, t = decide (D2 = h) := ⟨_, rfl⟩
      have hse := list_eq D2 h
      rw [← ht] at hse
      have r1 := (sh.now H1).take 8
      have hv := fun c' => value_any (c := c') r1 (by rw [List.length_take]; omega)
      have hl8 : (h.take 8).length = 8 := by rw [List.length_take, hhl]; rfl
      rw [← hGe, hl8] at hv
      have hhd := fun (W : World) (HW : St w0 W M L) => head_any HW G hGl
      rw [← hD2] at hhd
      have HV := Lib.hid hv
      have HHD := Lib.hid hhd
      have HSE := Lib.hid hse
      have HP := Lib.hid hp
      have HT := Lib.hid ht
      have HYG := Lib.hid hY
      have HHL := Lib.hid hhl
      have HDL := Lib.hid hD2l
      have HX := Lib.hid hX
      clear hh hhl hG hGe hGl hp hD2 hD2l hX hY hK ht hse r1 hv hl8 hhd
      have hcase : (∃ c' : Nat, c' = c - 64 * k) := ⟨_, rfl⟩
      obtain ⟨c', hc'⟩ := hcase
      obtain rfl | rfl : k = 0 ∨ k = 1 := by omega
      all_goals
        simp only [Nat.mul_zero, Nat.mul_one, Nat.add_zero, Nat.sub_zero] at sh hc'
        go_upto_region 6 with fail
        go_wp2_with fail
        refine (HV.out _).mono ?_
        rintro e w1 ⟨rfl, rfl⟩
        go_wp2
        refine Pt.wp_plan (fun w' => St w0 w' M L) (Pt.prs [0, 3] (Pt.rds [4] (.go 1 (Pt.rds [2] (Pt.prs [5] .fin))))) [] Tryz.mixed (by kernel_rfl) (fun _ _ d _ _ h => by cases d <;> exact h) H1.drew ?_
        have H2 := H1.drew
        simp only [Pt.toL, Pt.rds, Pt.prs, Pt.at_, List.drop_succ_cons, List.drop_zero]
        iterate 2 (refine Pt.pr_run (v := ?_) (by rfl) ?_ ?_; rotate_left; (focus (intro w'; go_simp; with_reducible rfl)); simp only [Act.put, List.setIfInBounds_toArray, List.set_cons_zero, List.set_cons_succ])
        (refine Pt.rd_run (v := ?_) (by rfl) ?_ ?_; rotate_left; (focus (intro w' hS; have cv := fun c'' => conv_RB (P := Tryz.prog) (src := 30) (dst := 9) (n := 64) (c := c'') Tryz.underlying30 Tryz.underlying5 Tryz.underlying9 (sh.now hS) HHL.out.symm; go_simp; with_reducible rfl)); simp only [Act.put, List.setIfInBounds_toArray, List.set_cons_zero, List.set_cons_succ])
        refine Pt.run_go ?_
        go_wp2_with fail
        refine (HHD.out _ H2).mono ?_
        rintro e w3 ⟨v3, rfl, H3⟩
        obtain ⟨A3, c3, rfl, hc3, hA3⟩ := H3.shape' 0 rfl
        go_wp2_with fail
        refine Pt.more (fun w' => St w0 w' M (er 5 1 (.slice A3 64 c3) 64 (bv D2) :: L)) H3.d0 H3 ?_
        (refine Pt.rd_run (v := ?_) (by rfl) ?_ ?_; rotate_left; (focus (intro w' hS; have cv := conv_RB (P := Tryz.prog) (src := 30) (dst := 9) (n := 64) (c := c3) Tryz.underlying30 Tryz.underlying5 Tryz.underlying9 (er_RB (hS.2.get 0 rfl)) HDL.out.symm; go_simp; with_reducible rfl)); simp only [Act.put, List.setIfInBounds_toArray, List.set_cons_zero, List.set_cons_succ])
        have hse := HSE.out
        (refine Pt.pr_run (v := ?_) (by rfl) ?_ ?_; rotate_left; (focus (intro w'; go_simp; with_reducible rfl)); simp only [Act.put, List.setIfInBounds_toArray, List.set_cons_zero, List.set_cons_succ])
        clear hse
        refine Pt.run_fin ?_
        have H4 := H3.d0
        clear H1 H2 H3
        cases t with
        | true =>
          have hd : D2 = h := by have := HT.out; simpa using this.symm
          have hy := HP.out
          rw [if_pos hd] at hy
          have HY := Lib.hid hy
          clear hy hd
          go_wp2
          exact ⟨⟨K, by have := HK.out; omega, congrArg (Value.int .i64) (by have := HK.out; omega), congrArg (Value.int .u64) (by rw [← HYG.out, HY.out]; first | rfl | (split <;> omega)), H4⟩, by simp [intOf]⟩
        | false =>
          have hd : ¬ D2 = h := by have := HT.out; simpa using this.symm
          have hy := HP.out
          rw [if_neg hd] at hy
          have HY := Lib.hid hy
          clear hy hd
          go_wp2
          exact ⟨⟨K, by have := HK.out; omega, congrArg (Value.int .i64) (by have := HK.out; omega), congrArg (Value.int .u64) (by rw [← HYG.out, HY.out]), H4⟩, by simp [intOf]⟩
    · obtain rfl : k = 2 := by omega
      rw [Lg.best_two, ← HD.out]
      go_wp2
      go_ret
      exact ⟨rfl, H1⟩
end
end Go.Proofs.YtepgmebklhemgaaGreatDoor
/- The contract of log's scan. -/
set_option linter.unusedVariables false
set_option linter.unusedSimpArgs false
namespace Go.Proofs.YtepgmebklhemgaaGreatDoor
open Go.RowKit Wd
/-- Slices of bytes that are never written again; what they read as. -/
def Rows (M : Mem) (ps : List Pc) (ls : List (List UInt8)) : Prop := ps.map Pc.l = ls ∧ ∀ p ∈ ps, p.ok ∧ In M (RB · p.A p.l)
theorem Rows.le {M M' : Mem} {ps : List Pc} {ls : List (List UInt8)} (h : Rows M ps ls) (hm : M.le M') : Rows M' ps ls := ⟨h.1, fun p hp => ⟨(h.2 p hp).1, (h.2 p hp).2.le hm⟩⟩
theorem Rows.nil (M : Mem) : Rows M [] [] := ⟨rfl, fun p hp => by simp at hp⟩
theorem Rows.len {M : Mem} {ps : List Pc} {ls : List (List UInt8)} (h : Rows M ps ls) : ls.length = ps.length := by rw [← h.1, List.length_map]
theorem Rows.snoc {M : Mem} {ps : List Pc} {ls : List (List UInt8)} (h : Rows M ps ls) {p : Pc} (hp : p.ok) (hi : In M (RB · p.A p.l)) : Rows M (ps ++ [p]) (ls ++ [p.l]) := by
  refine ⟨by rw [List.map_append, h.1]; rfl, fun q hq => ?_⟩
  rcases List.mem_append.1 hq with hq | hq
  · exact h.2 q hq
  · simp only [List.mem_singleton] at hq
    subst hq
    exact ⟨hp, hi⟩
theorem Tryz.info22 : (Tryz.prog.info? 30).map (fun i => (i.zero, i.size, i.bytes)) = some (some (.slice none 0 0), 1, 24) := by kernel_rfl
/-- A round of scan is a record. -/
def Lg.good (g : Nat) (h : List UInt8) (e m : Nat) : Prop := Lg.record g e ((h.drop (e + 6)).take m) = (h.drop e).take (6 + m)
theorem Lg.there_yes {g : Nat} {h : List UInt8} {e m : Nat} (h1 : e + 6 < h.length) (hm : m = Lg.num ((h.drop e).take 2)) (h2 : 1 ≤ m) (h3 : m ≤ h.length - e - 6) (h4 : Lg.good g h e m) : Lg.there g h e = some m := by
  subst hm
  unfold Lg.there
  rw [if_pos h1]
  simp only
  rw [if_pos ⟨h2, h3, h4⟩]
theorem Lg.there_no {g : Nat} {h : List UInt8} {e m : Nat} (hm : m = Lg.num ((h.drop e).take 2)) (h1 : ¬ (e + 6 < h.length ∧ 1 ≤ m ∧ m ≤ h.length - e - 6 ∧ Lg.good g h e m)) : Lg.there g h e = none := by
  subst hm
  unfold Lg.there
  split
  · rename_i h2
    simp only
    exact if_neg fun h3 => h1 ⟨h2, h3⟩
  · rfl
theorem Lg.scan_stop {g : Nat} {h : List UInt8} {e : Nat} (f : Nat) (ht : Lg.there g h e = none) : Lg.scan g h f e = ([], e) := by
  cases f with
  | zero => rfl
  | succ f => simp only [Lg.scan, ht]
/-- What scan has found so far: ls up to e. -/
def Lg.sofar (g : Nat) (h : List UInt8) (ls : List (List UInt8)) (e : Nat) : Prop := e ≤ h.length ∧ ∃ f, h.length ≤ e + f ∧ Lg.records g h = (ls ++ (Lg.scan g h f e).1, (Lg.scan g h f e).2)
theorem Lg.sofar_start (g : Nat) (h : List UInt8) : Lg.sofar g h [] 0 := ⟨Nat.zero_le _, h.length, by omega, rfl⟩
theorem Lg.sofar_stop {g : Nat} {h : List UInt8} {ls : List (List UInt8)} {e : Nat} (hs : Lg.sofar g h ls e) (ht : Lg.there g h e = none) : Lg.records g h = (ls, e) := by
  obtain ⟨_, f, _, hr⟩ := hs
  rw [hr, Lg.scan_stop f ht, List.append_nil]
theorem Lg.sofar_step {g : Nat} {h : List UInt8} {ls : List (List UInt8)} {e m : Nat} (hs : Lg.sofar g h ls e) (ht : Lg.there g h e = some m) : Lg.sofar g h (ls ++ [(h.drop (e + 6)).take m]) (e + 6 + m) := by
  obtain ⟨_, f, hf, hr⟩ := hs
  obtain ⟨h1, _, h2, h3, _⟩ := Lg.there_some ht
  cases f with
  | zero => omega
  | succ f =>
    refine ⟨h3, f, by omega, ?_⟩
    rw [hr]
    simp only [Lg.scan, ht, List.append_assoc, List.singleton_append]
theorem wrapn (n : Nat) (h : n < 100000000) : wrap64 (n : Int) = (n : Int) := by unfold wrap64; omega
theorem scan_dec {n e s6 o7 : Nat} (hw : wrap64 ((e : Int) + wrap64 (s6 : Int)) = (o7 : Int)) (h1 : e < o7) (h2 : o7 ≤ n) : n - (intOf (.int .i64 (wrap64 ((e : Int) + wrap64 (s6 : Int))))).toNat < n - (intOf (.int .i64 (e : Int))).toNat := by
  rw [hw]
  show n - (o7 : Int).toNat < n - (e : Int).toNat
  rw [Int.toNat_natCast, Int.toNat_natCast]
  omega
/-- The call gives these records, and where they end. -/
def RetScan (w0 : World) (M : Mem) (L : List Ent) (ls : List (List UInt8)) (n : Nat) (e : Ending) (w' : World) : Prop :=
  ∃ v ps M', e = .returned (.tuple #[v, .int .i64 (n : Int)]) ∧ M.le M' ∧ Rows M' ps ls ∧ St w0 w' M' (er 30 1 v ps.length (ps.map Pc.v) :: L)
section
variable {w0 w : World} {M : Mem} {L : List Ent}
theorem RetScan.mk {w' : World} {M' : Mem} {ls : List (List UInt8)} {n e : Nat} {v : Value} {ps : List Pc} (h0 : n = e) {ls' : List (List UInt8)} (h5 : ls = ls') (h1 : M.le M') (h2 : Rows M' ps ls') (h3 : St w0 w' M' (er 30 1 v ps.length (ps.map Pc.v) :: L)) : RetScan w0 M L ls n (.returned (.tuple #[v, .int .i64 (e : Int)])) w' := by
  subst h0 h5
  exact ⟨v, ps, M', rfl, h1, h2, h3⟩
set_option maxRecDepth 100000 in
set_option maxHeartbeats 1000000 in
theorem scan_any (H : St w0 w M L) (g : Nat) (hg : g < 18446744073709551616) {A : Option Addr} {c n : Nat} {h : List UInt8} (hn : n = h.length) (hl : Sr w0 M L A h) (hA : A = none → c = 0) (hc : n ≤ c) (hc2 : c ≤ 9223372036854775807) (hn2 : n ≤ 1000000) :
    Calls Tryz.prog 111 #[.int .u64 (g : Int), .slice A n c] w fun e w' => RetScan w0 M L (Lg.records g h).1 (Lg.records g h).2 e w' := by
  obtain ⟨R1, hR1⟩ : ∃ R, R = (Lg.records g h).1 := ⟨_, rfl⟩
  obtain ⟨R2, hR2⟩ : ∃ R, R = (Lg.records g h).2 := ⟨_, rfl⟩
  rw [← hR1, ← hR2]
  have HR1 := Lib.hid hR1
  have HR2 := Lib.hid hR2
  have HN := Lib.hid hn
  have H0 := H.addNil 30 1
  clear hR1 hR2 hn
  go_enter Tryz.func111, Tryz.ntmps111
  go_wp2
  go_loopw [4, 5] (fun v i wr => ∃ (e : Nat) (ps : List Pc) (ls : List (List UInt8)) (M' : Mem), i = .int .i64 e ∧ M.le M' ∧ Rows M' ps ls ∧ ps.length ≤ e ∧ Lg.sofar g h ls e ∧ St w0 wr M' (er 30 1 v ps.length (ps.map Pc.v) :: L)) (fun _ i _ => n - (intOf i).toNat)
  case atStart => exact ⟨0, [], [], M, rfl, Mem.le.refl M, Rows.nil M, Nat.zero_le _, Lg.sofar_start g h, H0⟩
  case round =>
    obtain ⟨e, ps, ls, M', rfl, hM', hrow, hps, hso, H1⟩ := hrel
    clear H0 H
    have he := hso.1
    rw [← HN.out] at he
    by_cases hlt : e + 6 < n
    · obtain ⟨bb, bo, rfl, _, _⟩ := (hl.le hM').now H1.d0 (by rintro rfl; have := HN.out; simp at this; omega)
      obtain ⟨m, hm⟩ : ∃ m, m = Lg.num ((h.drop e).take 2) := ⟨_, rfl⟩
      have s2 : Sr w0 M' L (some ⟨bb, bo + e, none⟩) ((h.drop e).take 2) := (hl.le hM').sub _ _
      have l2 : ((h.drop e).take 2).length = 2 := by rw [List.length_take, List.length_drop, ← HN.out]; omega
      have hm2 : m < 65536 := by rw [hm]; have := Lg.num_lt ((h.drop e).take 2); rw [l2] at this; exact this
      have hv := fun c' => value_any (c := c') (s2.now H1.d0) (by rw [l2]; omega)
      rw [← hm, l2] at hv
      have HV := Lib.hid hv
      have HM := Lib.hid hm
      have HSO := Lib.hid hso
      have HRW := Lib.hid hrow
      have HPS := Lib.hid hps
      have q1 : (e : Int) + 6 < (n : Int) := by omega
      have q2 : (n : Int) ≤ 1000000 := by omega
      have q3 : (c : Int) ≤ 9223372036854775807 := by omega
      clear hm hv l2 s2 hso hrow hps
      go_upto_region 2 with fail
      go_wp2_with fail
      refine (HV.out _).mono ?_
      rintro x w1 ⟨rfl, rfl⟩
      have q5 : ¬ (65535 : Int) < (m : Int) := by omega
      have stop : Lg.there g h e = none → R2 = e ∧ R1 = ls := fun hno => by
        have hr := Lg.sofar_stop HSO.out hno
        exact ⟨by rw [HR2.out, hr], by rw [HR1.out, hr]⟩
      by_cases h1 : 1 ≤ m ∧ m ≤ n - e - 6
      · obtain ⟨h1, h2⟩ := h1
        have q4 : ¬ (m : Int) < 1 := by omega
        obtain ⟨r, hr⟩ : ∃ r : Nat, r = n - e - 6 := ⟨_, rfl⟩
        have q7 : (n : Int) - (e : Int) - 6 = (r : Int) := by omega
        have q6 : ¬ (r : Int) < (m : Int) := by omega
        have q6n : ¬ r < m := by omega
        obtain ⟨o6, ho6⟩ : ∃ o6 : Nat, o6 = e + 6 := ⟨_, rfl⟩
        obtain ⟨o7, ho7⟩ : ∃ o7 : Nat, o7 = e + 6 + m := ⟨_, rfl⟩
        have q8 : (e : Int) + 6 = (o6 : Int) := by omega
        have q9 : (o6 : Int) + (m : Int) = (o7 : Int) := by omega
        have q10 : o7 - o6 = m := by omega
        have q11 : o7 ≤ n := by omega
        have q12 : o6 ≤ o7 := by omega
        have q13 : e ≤ o7 := by omega
        have q14 : o7 - e = m + 6 := by omega
        have O6 := Lib.hid ho6
        have O7 := Lib.hid ho7
        have Q1 := Lib.hid q1
        clear hr q1
        obtain ⟨b1, hb1⟩ : ∃ b1, b1 = (h.drop (e + 6)).take m := ⟨_, rfl⟩
        have hb1l : b1.length = m := by rw [hb1, List.length_take, List.length_drop, ← HN.out]; omega
        have sb : Sr w0 M' L (some ⟨bb, bo + o6, none⟩) b1 := by rw [hb1, ho6]; exact (hl.le hM').sub _ _
        obtain ⟨E, hE⟩ : ∃ E, E = (h.drop e).take (6 + m) := ⟨_, rfl⟩
        have hEl : E.length = m + 6 := by rw [hE, List.length_take, List.length_drop, ← HN.out]; omega
        have sE : Sr w0 M' L (some ⟨bb, bo + e, none⟩) E := by rw [hE]; exact (hl.le hM').sub _ _
        obtain ⟨D, hD⟩ : ∃ D, D = Lg.record g e b1 := ⟨_, rfl⟩
        have hDl : D.length = m + 6 := by rw [hD, Lg.record_len, hb1l]
        obtain ⟨t, ht⟩ : ∃ t, t = decide (D = E) := ⟨_, rfl⟩
        have hse := list_eq D E
        rw [← ht] at hse
        have hrec := fun (W : World) (HW : St w0 W M' (er 30 1 u4 ps.length (ps.map Pc.v) :: L)) d (hd : m ≤ d) => record_any HW g e hg (by omega) (B := some ⟨bb, bo + o6, none⟩) (d := d) hb1l.symm (by rintro ⟨⟩) hd (sb.cons _) (by omega)
        rw [← hD] at hrec
        have hth : if t = true then Lg.there g h e = some m else Lg.there g h e = none := by
          have hgd : Lg.good g h e m ↔ D = E := by rw [hD, hE, hb1]; exact Iff.rfl
          cases t with
          | true => exact Lg.there_yes (by rw [← HN.out]; exact hlt) HM.out h1 (by rw [← HN.out]; exact h2) (hgd.2 (by simpa using ht.symm))
          | false => exact Lg.there_no HM.out fun h3 => by have := hgd.1 h3.2.2.2; simp [this] at ht
        have HTH := Lib.hid hth
        have HREC := Lib.hid hrec
        have HSE := Lib.hid hse
        have HB1 := Lib.hid hb1
        have HBL := Lib.hid hb1l
        have HEL := Lib.hid hEl
        have HDL := Lib.hid hDl
        have HLT := Lib.hid hlt
        have STOP := Lib.hid stop
        have H2L := Lib.hid h2
        clear hb1 hb1l hE hEl hD hDl ht hse hrec hth HV hlt stop h2 h1 ho6 ho7
        go_upto_region 3 with fail
        go_upto_if 34 with fail
        have d1 : decide ((m : Int) < 1) = false := decide_eq_false (by omega)
        have d2 : decide (65535 < (m : Int)) = false := decide_eq_false (by omega)
        have d3 : decide (r < m) = false := decide_eq_false (by omega)
        simp only [d1, d2, d3, Bool.or_self]
        clear d1 d2 d3
        go_upto_region 5 with fail
        have q15 : 6 + (m : Int) = ((m + 6 : Nat) : Int) := by omega
        obtain ⟨s6, hs6⟩ : ∃ s6, s6 = m + 6 := ⟨_, rfl⟩
        rw [← hs6] at q15 q14 HEL HDL HREC
        have q16 : (e : Int) + (s6 : Int) = (o7 : Int) := by have := O7.out; omega
        have hw : wrap64 ((e : Int) + wrap64 (s6 : Int)) = (o7 : Int) := by
          rw [wrapn s6 (by omega), q16, wrapn o7 (by omega)]
        have HW := Lib.hid hw
        clear hw
        have S6 := Lib.hid hs6
        have hmc : m ≤ c - o6 := by omega
        have hml : m ≤ 1000000 := by omega
        have HML := Lib.hid hml
        clear hml
        have w6 : IntKind.i64.wrap (o6 : Int) = (o6 : Int) := by rw [IntKind.wrap_i64]; omega
        have w7 : IntKind.i64.wrap (o7 : Int) = (o7 : Int) := by rw [IntKind.wrap_i64]; omega
        have hce : ¬ c = e := by have := HLT.out; omega
        have hco : (o7 : Int) ≤ (c : Int) := by omega
        clear hs6 he hm2
        go_wp2
        refine Pt.wp_plan (fun w' => St w0 w' M' (er 30 1 u4 ps.length (ps.map Pc.v) :: L)) (Pt.prs [0, 1, 2, 5, 6, 7, 8, 9, 10, 11] (Pt.rds [12] (.go 3 (Pt.rds [4] (Pt.prs [13] .fin))))) [] Tryz.mixed (by kernel_rfl) (fun _ _ d _ _ h => by cases d <;> exact h) H1.drew ?_
        have H2 := H1.drew
        simp only [Pt.toL, Pt.rds, Pt.prs, Pt.at_, List.drop_succ_cons, List.drop_zero]
        iterate 10 (refine Pt.pr_run (v := ?_) (by rfl) ?_ ?_; rotate_left; (focus (intro w'; go_simp; with_reducible rfl)); simp only [Act.put, List.setIfInBounds_toArray, List.set_cons_zero, List.set_cons_succ])
        (refine Pt.rd_run (v := ?_) (by rfl) ?_ ?_; rotate_left; (focus (intro w' hS; have cv := fun c'' => conv_RB (P := Tryz.prog) (src := 30) (dst := 9) (n := s6) (c := c'') Tryz.underlying30 Tryz.underlying5 Tryz.underlying9 ((sE.cons _).now hS) HEL.out.symm; go_simp; with_reducible rfl)); simp only [Act.put, List.setIfInBounds_toArray, List.set_cons_zero, List.set_cons_succ])
        refine Pt.run_go ?_
        go_wp2_with fail
        refine (HREC.out _ H2 _ hmc).mono ?_
        rintro x w3 ⟨v3, rfl, H3⟩
        obtain ⟨A3, c3, rfl, hc3, hA3⟩ := H3.shape' 0 rfl
        go_wp2_with fail
        refine Pt.more (fun w' => St w0 w' M' (er 5 1 (.slice A3 s6 c3) s6 (bv D) :: er 30 1 u4 ps.length (ps.map Pc.v) :: L)) H3.d0 H3 ?_
        (refine Pt.rd_run (v := ?_) (by rfl) ?_ ?_; rotate_left; (focus (intro w' hS; have cv := conv_RB (P := Tryz.prog) (src := 30) (dst := 9) (n := s6) (c := c3) Tryz.underlying30 Tryz.underlying5 Tryz.underlying9 (er_RB (hS.2.get 0 rfl)) HDL.out.symm; go_simp; with_reducible rfl)); simp only [Act.put, List.setIfInBounds_toArray, List.set_cons_zero, List.set_cons_succ])
        have hse := HSE.out
        (refine Pt.pr_run (v := ?_) (by rfl) ?_ ?_; rotate_left; (focus (intro w'; go_simp; with_reducible rfl)); simp only [Act.put, List.setIfInBounds_toArray, List.set_cons_zero, List.set_cons_succ])
        clear hse
        refine Pt.run_fin ?_
        have H4 := H3.d0
        have Q11 := Lib.hid q11
        clear H1 H2 H3 q4 q5 q6 q6n q7 q8 q9 q10 q11 q12 q13 q14 w6 w7 hce
        cases t with
        | false =>
          obtain ⟨e1, e2⟩ := STOP.out (by simpa using HTH.out)
          have E1 := Lib.hid e1
          have E2 := Lib.hid e2
          clear e1 e2
          go_upto_if 56 with fail
          simp only [Bool.not_false]
          go_wp2
          go_ret2
          exact RetScan.mk E1.out E2.out hM' HRW.out H4
        | true =>
          have hth : Lg.there g h e = some m := by simpa using HTH.out
          have hso := Lg.sofar_step HSO.out hth
          have hcl := clone_any H4 (A := some ⟨bb, bo + o6, none⟩) (c := c - o6) (l := b1) (by rintro ⟨⟩) (by rw [HBL.out]; exact hmc) (sb.cons _) (by rw [HBL.out]; have := HML.out; omega)
          rw [HBL.out] at hcl
          rw [← O7.out, ← HB1.out] at hso
          have HS2 := Lib.hid hso
          have HCL := Lib.hid hcl
          clear hso hcl hth
          go_upto_if 56 with fail
          simp only [Bool.not_true]
          go_wp2_with fail
          refine HCL.out.mono ?_
          rintro x w4 ⟨v5, rfl, H5⟩
          obtain ⟨A5, c5, rfl, hc5, hA5⟩ := H5.shape' 0 rfl
          have hn1 : ps.length < 1000000 := by have := HPS.out; have := HLT.out; omega
          have HN1 := Lib.hid hn1
          have HA5 := Lib.hid hA5
          have HC5 := Lib.hid hc5
          clear hn1 hA5 hc5 hmc hco hc3 hA3 hA HCL
          go_wp2_with (at_builtin; refine wpList_append1_st H5.f1 (by rfl) (.tmp 57) (.tmp 60) 36 (by rfl) Tryz.info22 (by rfl) Tryz.underlying36 (by rfl) (by rfl) (by rfl) (by have := HN1.out; omega) (by have := HN1.out; omega) ?_)
          intro v6 w6 H6
          obtain ⟨M2, hM2, H7, hin⟩ := H6.f1.keepRow
          have hrow := (HRW.out.le hM2).snoc (p := ⟨A5, m, c5, b1⟩) ⟨HBL.out.symm, HA5.out, HC5.out⟩ hin
          have H8 : St w0 w6 M2 (er 30 1 v6 (ps ++ [(⟨A5, m, c5, b1⟩ : Pc)]).length ((ps ++ [(⟨A5, m, c5, b1⟩ : Pc)]).map Pc.v) :: L) := by
            rw [List.length_append, List.map_append]; exact H7
          have HH := Lib.hid hrow
          clear H4 H5 H6 H7 hrow hin
          go_wp2
          refine ⟨⟨o7, _, _, M2, congrArg (Value.int .i64) HW.out, hM'.trans hM2, HH.out, ?_, HS2.out, H8⟩, ?_⟩
          · have := O7.out; have := HPS.out; rw [List.length_append]; simp; omega
          · exact scan_dec HW.out (by have := O7.out; omega) Q11.out
      · have hno : Lg.there g h e = none := Lg.there_no HM.out fun h3 => h1 ⟨h3.2.1, by rw [HN.out]; exact h3.2.2.1⟩
        obtain ⟨e1, e2⟩ := stop hno
        have E1 := Lib.hid e1
        have E2 := Lib.hid e2
        have hx : (m : Int) < 1 ∨ (¬ (m : Int) < 1 ∧ (n : Int) - (e : Int) - 6 < (m : Int)) := by omega
        clear e1 e2 hno h1 stop
        rcases hx with q4 | ⟨q4, q6⟩
        all_goals
          go_wp2
          go_ret2
          exact RetScan.mk E1.out E2.out hM' HRW.out H1
    · have hno : Lg.there g h e = none := Lg.there_no rfl fun h => hlt (by rw [HN.out]; exact h.1)
      have hr := Lg.sofar_stop hso hno
      have e1 : R2 = e := by rw [HR2.out, hr]
      have e2 : R1 = ls := by rw [HR1.out, hr]
      have E1 := Lib.hid e1
      have E2 := Lib.hid e2
      have q1 : ¬ (e : Int) + 6 < (n : Int) := by omega
      clear hr e1 e2 hno hlt hso
      go_wp2
      go_ret2
      exact RetScan.mk E1.out E2.out hM' hrow H1
end
end Go.Proofs.YtepgmebklhemgaaGreatDoor
