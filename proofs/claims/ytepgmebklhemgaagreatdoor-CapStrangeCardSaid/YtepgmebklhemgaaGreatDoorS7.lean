/- The reference's Begins, Scan, Same, Fits and Records. -/
import Derived.Test.YtepgmebklhemgaaGreatDoorS6
import Derived.Test.YtepgmebklhemgaaGreatDoorA7
import Derived.Test.YtepgmebklhemgaaGreatDoorG2
import Derived.Test.YtepgmebklhemgaaGreatDoorP5
import Derived.Test.YtepgmebklhemgaaGreatDoorG8
set_option linter.unusedVariables false
set_option linter.unusedSimpArgs false
namespace Go.Proofs.YtepgmebklhemgaaGreatDoor
open Go.RowKit Wd
set_option maxRecDepth 100000 in
theorem rbegins_any (s p : List UInt8) (w : World) : Calls Tryz.prog 74 #[.string (str s), .string (str p)] w fun e w' => e = .returned (.bool (Kv.begins s p)) ∧ w = w' := by
  obtain ⟨n, hn⟩ : ∃ n, n = p.length := ⟨_, rfl⟩
  obtain ⟨m, hm⟩ : ∃ m, m = s.length := ⟨_, rfl⟩
  have hp : (str p).size = n := by rw [str_size, hn]
  have hs : (str s).size = m := by rw [str_size, hm]
  obtain ⟨B, hB⟩ : ∃ B, B = Kv.begins s p := ⟨_, rfl⟩
  rw [← hB]
  unfold Kv.begins at hB
  by_cases hle : n ≤ m
  · have q1 : (n : Int) ≤ (m : Int) := by omega
    have hsl := fun w => str_to (P := Tryz.prog) (t := 9) (k := .i64) Tryz.underlying9 s n (by omega) (i := (n : Int)) rfl w
    obtain ⟨Y, hY⟩ : ∃ Y, Y = s.take n := ⟨_, rfl⟩
    rw [← hn, ← hY] at hB
    simp only [← hY] at hsl
    have hB2 := hB.symm
    clear hB hY hn hm
    go_enter Tryz.func74, Tryz.ntmps74
    go_wp2
    go_ret
    exact ⟨rfl, rfl⟩
  · have q1 : ¬ (n : Int) ≤ (m : Int) := by omega
    have hf : B = false := by
      rw [hB, beq_eq_false_iff_ne]
      intro h
      have := congrArg List.length h
      rw [List.length_take] at this
      omega
    subst hf
    clear hB hn hm
    go_enter Tryz.func74, Tryz.ntmps74
    go_wp2
    go_ret
    exact ⟨rfl, rfl⟩
section
variable {w0 w : World} {M : Mem} {L : List Ent}
set_option maxRecDepth 100000 in
set_option maxHeartbeats 1000000 in
theorem rscan20_any (H : St w0 w M L) {A : Option Addr} {c n : Nat} {ps : List Pa} (hp : PasAt M A n c ps) (p : List UInt8) (hn2 : n ≤ 1000000) :
    Calls Tryz.prog 47 #[.slice A n c, .string (str p)] w (RetPas w0 M L (Kv.scan (ps.map Pa.pr) p)) := by
  have HP := Lib.hid hp
  have H0 := H.lit00 115 2
  clear hp
  go_enter Tryz.func47, Tryz.ntmps47
  go_wp2_with fail
  go_loopw [5, 6] (fun v i wr => ∃ (k : Nat) (qs : List Pa), k ≤ n ∧ i = .int .i64 k ∧ qs.length ≤ k ∧ (∀ q ∈ qs, q ∈ ps) ∧ qs.map Pa.pr = Kv.scan ((ps.map Pa.pr).take k) p ∧ St w0 wr M (er 115 2 v qs.length (pas qs) :: L)) (fun _ i _ => n - (intOf i).toNat)
  case atStart => exact ⟨0, [], by omega, rfl, by simp, by simp, rfl, H0⟩
  case round =>
    obtain ⟨k, qs, hk, rfl, hqk, hqm, hqe, H1⟩ := hrel
    clear H0 H
    obtain ⟨A5, c5, rfl, -⟩ := H1.shape 0 rfl
    by_cases hlt : k < n
    · have hk1 : k < ps.length := by have := HP.out.1; omega
      have hpr : SrA w0 M L A (pas ps) := SrA.of_in HP.out.2.2.2.2
      obtain ⟨b, o, rfl, -⟩ := RA.pa2 (hpr.now H1.d0) k hk1
      have hrg := SrA.pa2 hpr k hk1 wr M (Mem.le.refl _) H1.d0
      have htk : Kv.scan ((ps.map Pa.pr).take (k + 1)) p = if Kv.begins ps[k].key p then Kv.scan ((ps.map Pa.pr).take k) p ++ [Pa.pr ps[k]] else Kv.scan ((ps.map Pa.pr).take k) p := by
        rw [List.take_succ_eq_append_getElem (by rw [List.length_map]; exact hk1), List.getElem_map, Kv.scan_snoc]
        rfl
      have hmem := List.getElem_mem hk1
      obtain ⟨a, ha⟩ : ∃ a, a = ps[k] := ⟨_, rfl⟩
      rw [← ha] at hrg htk hmem
      obtain ⟨key, ⟨PA, PN, PC, PL⟩⟩ := a
      unfold pa Pc.v at hrg
      simp only at hrg htk
      have x0 := hrg 0 _ rfl
      simp only [Nat.add_zero] at x0
      obtain ⟨B, hB⟩ : ∃ B, B = Kv.begins key p := ⟨_, rfl⟩
      have hbe := fun w => rbegins_any key p w
      rw [← hB] at htk hbe
      have HB := Lib.hid hbe
      have HRG := Lib.hid hrg
      have HK := Lib.hid (And.intro hlt (And.intro hqk (And.intro hqm (And.intro hqe (And.intro htk hmem)))))
      have q1 : (k : Int) < (n : Int) := by omega
      have hqk2 : qs.length < 1000000 := by omega
      clear hbe hrg hB htk hmem ha hk1 hlt hqk hqm hqe hk hpr
      go_wp2_with fail
      refine (HB.out _).mono ?_
      rintro e w1 ⟨rfl, rfl⟩
      clear HB x0
      cases B with
      | false =>
        go_wp2
        have htk := HK.out.2.2.2.2.1
        rw [if_neg (by decide)] at htk
        exact ⟨⟨k + 1, qs, by have := HK.out.1; omega, by go_num, by have := HK.out.2.1; omega, HK.out.2.2.1, by rw [htk]; exact HK.out.2.2.2.1, H1⟩, by have := HK.out.1; simp [intOf]; omega⟩
      | true =>
        go_upto_region 6 with fail
        refine wp_region_lit ?_
        iterate 4 (refine wpList_ex (v := ?_) (by rfl) ?_ ?_; rotate_left; (focus (go_simp; with_reducible rfl)); simp only [Act.put, List.setIfInBounds_toArray, List.set_cons_zero, List.set_cons_succ])
        refine wpList_load_mid (by rfl) 115 (.tmp 24) (by rfl) b (o + k * 2) (by rfl) [.string (str key), .slice PA PN PC] _ HRG.out Tryz.underlying115 rfl (by exact Tryz.sizePair) ?_
        simp only [Act.put, List.setIfInBounds_toArray, List.set_cons_zero, List.set_cons_succ]
        have hbs := run_buildSlice_one (P := Tryz.prog) (n := 2) Tryz.underlying35 Tryz.zeroPair rfl (by decide) (by decide) (.agg #[.string (str key), .slice PA PN PC]) rfl wr
        have H9 := H1.alloc (.cells #[.string (str key), .slice PA PN PC] 115)
        have hra : RA (wr.alloc (.cells #[.string (str key), .slice PA PN PC] 115)) (some ⟨wr.heap.size, 0, none⟩) (pa ⟨key, ⟨PA, PN, PC, PL⟩⟩) := fun _ => ⟨_, 0, rfl, (Blk.new wr 115 [.string (str key), .slice PA PN PC]).lt, (Blk.new wr 115 [.string (str key), .slice PA PN PC]).range 0 2 _ rfl⟩
        refine wpList_bs1 (by rfl) 35 (.tmp 25) (by rfl) (by rfl) hbs ?_
        simp only [Act.put, List.setIfInBounds_toArray, List.set_cons_zero, List.set_cons_succ]
        refine wpList_append_any_st H9 (by rfl) (.tmp 21) (.tmp 26) 35 (by rfl) Tryz.infoPair (by rfl) (by decide) Tryz.underlying35 (by rfl) (some ⟨wr.heap.size, 0, none⟩) 1 1 (pa ⟨key, ⟨PA, PN, PC, PL⟩⟩) (by rfl) rfl (by rintro ⟨⟩) hra (pa_one _) (by omega) (by omega) ?_
        intro v9 w9 H10
        clear hbs hra H9 H1
        simp only [Act.put, List.setIfInBounds_toArray, List.set_cons_zero, List.set_cons_succ]
        (refine wpList_ex (v := ?_) (by rfl) ?_ ?_; rotate_left; (focus (go_simp; with_reducible rfl)); simp only [Act.put, List.setIfInBounds_toArray, List.set_cons_zero, List.set_cons_succ])
        refine wpList_nil ?_
        have he : pas qs ++ pa ⟨key, ⟨PA, PN, PC, PL⟩⟩ = pas (qs ++ [⟨key, ⟨PA, PN, PC, PL⟩⟩]) := by rw [pas_append]; simp [pas]
        rw [he] at H10
        go_wp2
        have htk := HK.out.2.2.2.2.1
        simp only [if_true] at htk
        refine ⟨⟨k + 1, qs ++ [⟨key, ⟨PA, PN, PC, PL⟩⟩], by have := HK.out.1; omega, by go_num, ?_, ?_, ?_, ?_⟩, by have := HK.out.1; simp [intOf]; omega⟩
        · rw [List.length_append]; have := HK.out.2.1; simp; omega
        · intro q hq
          rcases List.mem_append.1 hq with hq | hq
          · exact HK.out.2.2.1 q hq
          · rw [List.mem_singleton.1 hq]; exact HK.out.2.2.2.2.2
        · rw [htk, List.map_append, HK.out.2.2.2.1]; rfl
        · rw [List.length_append]; exact H10
    · obtain rfl : k = n := by omega
      have htk : (ps.map Pa.pr).take k = ps.map Pa.pr := by rw [List.take_of_length_le (by rw [List.length_map]; have := HP.out.1; omega)]
      rw [htk] at hqe
      obtain ⟨A6, c6, hA6, hc6, hA6n⟩ := H1.shape' 0 rfl
      injection hA6 with e1 _ e2
      subst e1 e2
      obtain ⟨M6, hM6, H7, hin6, -⟩ := H1.lendRowA
      have HH := Lib.hid (And.intro hqe (And.intro hM6 (And.intro hin6 (And.intro hqm (And.intro hc6 hA6n)))))
      clear hqe hM6 hin6 htk hlt hk hqk hqm hc6 hA6n H1
      go_wp2
      go_ret
      exact ⟨A5, qs.length, c5, qs, M6, rfl, HH.out.2.1, ⟨rfl, HH.out.2.2.2.2.1, HH.out.2.2.2.2.2, (HP.out.2.2.2.1.le HH.out.2.1).sub HH.out.2.2.2.1, HH.out.2.2.1⟩, HH.out.1, H7⟩
set_option maxRecDepth 100000 in
theorem rfits_any (w : World) (H : St w0 w M L) {A : Option Addr} {c n : Nat} {ps : List Pc} (hn : n = ps.length) (hp : SrA w0 M L A (ps.map Pc.v)) (hok : ∀ p ∈ ps, p.n = p.l.length ∧ p.n ≤ 1000000) (N : Nat) (hN : N ≤ 131072) (hn2 : n ≤ 1000000) :
    Calls Tryz.prog 39 #[.slice A n c, .int .i64 (N : Int)] w fun e w' => e = .returned (.bool (decide (Lg.total (ps.map Pc.l) ≤ N))) ∧ w = w' := by
  obtain ⟨B, hB⟩ : ∃ B, B = decide (Lg.total (ps.map Pc.l) ≤ N) := ⟨_, rfl⟩
  rw [← hB]
  have HN := Lib.hid (And.intro hn (And.intro hok hB))
  clear hn hok hB
  go_enter Tryz.func39, Tryz.ntmps39
  go_wp2
  go_loopw [5, 6] (fun v i wr => ∃ k E : Nat, k ≤ n ∧ i = .int .i64 k ∧ v = .int .i64 E ∧ E = Lg.total ((ps.map Pc.l).take k) ∧ E ≤ N ∧ wr = w) (fun _ i _ => n - (intOf i).toNat)
  case atStart => exact ⟨0, 0, by omega, rfl, rfl, by simp [Lg.total], by omega, rfl⟩
  case round =>
    obtain ⟨k, E, hk, rfl, rfl, hE, hEN, rfl⟩ := hrel
    by_cases hlt : k < n
    · have hk1 : k < ps.length := by have := HN.out.1; omega
      obtain ⟨b, o, rfl, hc⟩ := SrA.at (hp.now H) k (by rw [List.length_map]; exact hk1)
      rw [List.getElem_map] at hc
      have ht := Lg.total_take (l := ps.map Pc.l) (k := k) (by rw [List.length_map]; exact hk1)
      have hle := Lg.total_take_le (ps.map Pc.l) (k + 1)
      rw [List.getElem_map] at ht
      obtain ⟨h1, h2⟩ := HN.out.2.1 _ (List.getElem_mem hk1)
      obtain ⟨p, hpe⟩ : ∃ p, p = ps[k] := ⟨_, rfl⟩
      rw [← hpe] at hc ht h1 h2
      obtain ⟨PA, PN, PC, PL⟩ := p
      unfold Pc.v at hc
      simp only at hc ht h1 h2
      rw [← hE, ← h1] at ht
      obtain ⟨E2, hE2⟩ : ∃ E2, E2 = E + 6 + PN := ⟨_, rfl⟩
      obtain ⟨E1, hE1⟩ : ∃ E1, E1 = E + 6 := ⟨_, rfl⟩
      have w1 : IntKind.i64.wrap ((N : Int) - (E : Int)) = (N : Int) - (E : Int) := by rw [IntKind.wrap_i64]; omega
      have w2 : IntKind.i64.wrap ((N : Int) - (E : Int) - 6) = (N : Int) - (E : Int) - 6 := by rw [IntKind.wrap_i64]; omega
      have e1 : (E : Int) + 6 = (E1 : Int) := by omega
      have e2 : (E1 : Int) + (PN : Int) = (E2 : Int) := by omega
      have w3 : IntKind.i64.wrap (E1 : Int) = (E1 : Int) := by rw [IntKind.wrap_i64]; omega
      have w4 : IntKind.i64.wrap (E2 : Int) = (E2 : Int) := by rw [IntKind.wrap_i64]; omega
      have q1 : (k : Int) < (n : Int) := by omega
      by_cases hbig : N < E2
      · have q2 : (N : Int) - (E : Int) - 6 < (PN : Int) := by omega
        have hBf : B = false := by
          rw [HN.out.2.2]
          refine decide_eq_false ?_
          omega
        subst hBf
        clear ht hle h1 h2 hpe hk1 hlt hk hE hEN hE2 hE1 e1 e2 w3 w4 hbig
        go_wp2
        go_ret
        exact ⟨rfl, rfl⟩
      · have q2 : ¬ (N : Int) - (E : Int) - 6 < (PN : Int) := by omega
        have ht2 : E2 = Lg.total ((ps.map Pc.l).take (k + 1)) := by omega
        have HH := Lib.hid (And.intro hlt (And.intro ht2 hbig))
        clear ht hle h1 h2 hpe hk1 hlt hk hE hEN hE2 hE1 hbig ht2
        go_wp2
        exact ⟨⟨k + 1, E2, by have := HH.out.1; omega, by go_num, by go_num, HH.out.2.1, by have := HH.out.2.2; omega, trivial⟩, by have := HH.out.1; simp [intOf]; omega⟩
    · obtain rfl : k = n := by omega
      have hBt : B = true := by
        rw [HN.out.2.2]
        refine decide_eq_true ?_
        have htk : (ps.map Pc.l).take k = ps.map Pc.l := by rw [List.take_of_length_le (by rw [List.length_map]; have := HN.out.1; omega)]
        rw [htk] at hE
        omega
      subst hBt
      clear hE hEN
      go_wp2
      go_ret
      exact ⟨rfl, rfl⟩
end
end Go.Proofs.YtepgmebklhemgaaGreatDoor
