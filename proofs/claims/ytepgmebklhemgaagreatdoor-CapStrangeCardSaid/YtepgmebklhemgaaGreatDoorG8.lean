/- The reference's Check. -/
import Derived.Test.YtepgmebklhemgaaGreatDoorA9
import Derived.Test.YtepgmebklhemgaaGreatDoorG7
import Derived.Test.YtepgmebklhemgaaGreatDoorA5
import Derived.Deep.DeepCutAuto
set_option linter.unusedVariables false
set_option linter.unusedSimpArgs false
namespace Go.Proofs.YtepgmebklhemgaaGreatDoor
open Go.RowKit Wd
theorem Kv.check_bad {l : List Kv.Act} (h : l.any Kv.bad = true) : Kv.check l = 1 := by unfold Kv.check; rw [if_pos h]
theorem Kv.check_end {l : List Kv.Act} (h : l.any Kv.bad = false) : Kv.check l = if decide (255 < l.length) || l.any Kv.long || decide (65535 < 1 + (Kv.all l).length) then 3 else 0 := by
  unfold Kv.check
  rw [if_neg (by simp [h])]
  have : (Kv.bytes l).length = 1 + (Kv.all l).length := by unfold Kv.bytes; rw [List.length_cons]; omega
  rw [this]
theorem Kv.any_snoc' {l : List Ac} {f : Kv.Act → Bool} {k : Nat} (hk : k < l.length) : ((l.take (k + 1)).map Ac.act).any f = (((l.take k).map Ac.act).any f || f l[k].act) := by
  rw [List.take_succ_eq_append_getElem hk, List.map_append, List.any_append]
  simp
section
variable {w0 w : World} {M : Mem} {L : List Ent}
set_option maxRecDepth 100000 in
set_option maxHeartbeats 4000000 in
theorem rcheck_any (H : St w0 w M L) {A : Option Addr} {c n : Nat} {l : List Ac} (hn : n = l.length) (hl : SrA w0 M L A (acs l)) (hi : ∀ a ∈ l, a.p.n = a.p.l.length) (hn2 : n ≤ 1000000) (hsz : ∀ a ∈ l, a.key.length ≤ 1000000 ∧ a.p.l.length ≤ 1000000) :
    Calls Tryz.prog 37 #[.slice A n c] w fun e w' => e = .returned (.int .i64 (Kv.check (l.map Ac.act))) ∧ w = w' := by
  have hml : (l.map Ac.act).length = n := by rw [List.length_map, hn]
  obtain ⟨R, hR⟩ : ∃ R, R = Kv.check (l.map Ac.act) := ⟨_, rfl⟩
  rw [← hR]
  have e1 := fun h => hR.trans (Kv.check_bad h)
  have e2 := fun h => hR.trans (Kv.check_end h)
  rw [hml] at e2
  have HE1 := Lib.hid e1
  have HE2 := Lib.hid e2
  have HN := Lib.hid hn
  have HI := Lib.hid hi
  have HSZ := Lib.hid hsz
  clear hR e1 e2 hn hi hml hsz
  obtain ⟨B0, hB0⟩ : ∃ B, B = decide (255 < n) := ⟨_, rfl⟩
  have f0 : decide ((255 : Int) < (n : Int)) = B0 := by rw [hB0]; rw [decide_eq_decide]; omega
  have HB0 := Lib.hid hB0
  clear hB0
  go_enter Tryz.func37, Tryz.ntmps37
  go_wp2
  go_loopw [3, 4, 5] (fun x g i wr => ∃ (k s : Nat), k ≤ n ∧ i = .int .i64 k ∧ x = .int .i64 s ∧ s = 1 + (Kv.all ((l.take k).map Ac.act)).length ∧ s ≤ 1 + k * 2000005 ∧ g = .bool (decide (255 < n) || ((l.take k).map Ac.act).any Kv.long) ∧ ((l.take k).map Ac.act).any Kv.bad = false ∧ wr = w) (fun _ _ i _ => n - (intOf i).toNat)
  case atStart => exact ⟨0, 1, by omega, rfl, rfl, rfl, by omega, by rw [HB0.out]; simp, by simp, rfl⟩
  case round =>
    obtain ⟨k, s, hk, rfl, rfl, hs, hsb, rfl, hbad, rfl⟩ := hrel
    have HS := Lib.hid (And.intro hs (And.intro hsb hbad))
    obtain ⟨G, hG⟩ : ∃ G, G = (decide (255 < n) || ((l.take k).map Ac.act).any Kv.long) := ⟨_, rfl⟩
    rw [← hG]
    clear hs hbad
    by_cases hlt : k < n
    · have hk1 : k < l.length := by have := HN.out; omega
      obtain ⟨b, o, rfl, hrg⟩ := RA.ac3 (hl.now H) k hk1
      have hbc := Kv.bad_cases l[k].key l[k].set l[k].p l[k].p.n (HI.out _ (List.getElem_mem hk1))
      have hz := HSZ.out _ (List.getElem_mem hk1)
      have hpn := HI.out _ (List.getElem_mem hk1)
      have hy := fun (h : Kv.bad (l[k]'hk1).act = true) => HE1.out (Kv.any_here hk1 h)
      have hs1 := Kv.any_snoc' (f := Kv.bad) hk1
      have hs2 := Kv.any_snoc' (f := Kv.long) hk1
      have hs3 := Kv.all_snoc hk1
      rw [HS.out.2.2, Bool.false_or] at hs1
      obtain ⟨p, hp⟩ : ∃ p, p = l[k] := ⟨_, rfl⟩
      rw [← hp] at hrg hbc hz hy hs1 hs2 hs3 hpn
      obtain ⟨key, set, ⟨PA, PN, PC, PL⟩⟩ := p
      unfold ac Pc.v at hrg
      simp only at hrg hbc hz hpn
      have c0 := hrg 0 _ rfl
      have c1 := hrg 1 _ rfl
      have c2 := hrg 2 _ rfl
      rw [Nat.add_zero] at c0
      have hol := Kv.one_len (Ac.act ⟨key, set, ⟨PA, PN, PC, PL⟩⟩)
      have hlg : Kv.long (Ac.act ⟨key, set, ⟨PA, PN, PC, PL⟩⟩) = (decide (1024 < key.length) || decide (60000 < PN)) := by rw [hpn]; rfl
      rw [hlg] at hs2
      obtain ⟨m, hm⟩ : ∃ m, m = key.length := ⟨_, rfl⟩
      have hSs : (str key).size = m := by rw [str_size, hm]
      have hs4 : 1 + (Kv.all ((l.take (k + 1)).map Ac.act)).length = s + 3 + m + (if set then 2 + PN else 0) := by
        rw [hs3, List.length_append, hol, HS.out.1]
        simp only [Ac.act, hpn, hm]
        cases set <;> simp <;> omega
      rw [← hm] at hs2 hz
      obtain ⟨S, hS⟩ : ∃ S, S = str key := ⟨_, rfl⟩
      rw [← hS] at hbc c0 hSs
      have hs5 : ((l.take (k + 1)).map Ac.act).any Kv.long = (((l.take k).map Ac.act).any Kv.long || (decide (1024 < m) || decide (60000 < PN))) := hs2
      have hg2 : (decide (255 < n) || ((l.take (k + 1)).map Ac.act).any Kv.long) = (G || (decide (1024 < m) || decide (60000 < PN))) := by rw [hs5, hG, Bool.or_assoc]
      have q1 : (k : Int) < (n : Int) := by omega
      have q1n : k < n := hlt
      have HG2 := Lib.hid hg2
      have HS1 := Lib.hid hs1
      have HS4 := Lib.hid hs4
      have HLT := Lib.hid hlt
      have HY := Lib.hid hy
      have HZ : PN ≤ 1000000 := by rw [hpn]; exact hz.2
      have hm6 : m ≤ 1000000 := hz.1
      have hs6 : s ≤ 3000000000000 := by have := HS.out.2.1; omega
      obtain ⟨s3, hs3e⟩ : ∃ x, x = s + 3 := ⟨_, rfl⟩
      obtain ⟨sm, hsme⟩ : ∃ x, x = s3 + m := ⟨_, rfl⟩
      obtain ⟨s2, hs2e⟩ : ∃ x, x = sm + 2 := ⟨_, rfl⟩
      obtain ⟨sn, hsne⟩ : ∃ x, x = s2 + PN := ⟨_, rfl⟩
      have t1 : (s : Int) + 3 = (s3 : Int) := by omega
      have t2 : (s3 : Int) + (m : Int) = (sm : Int) := by omega
      have t3 : (sm : Int) + 2 = (s2 : Int) := by omega
      have t4 : (s2 : Int) + (PN : Int) = (sn : Int) := by omega
      have hsn6 : sn ≤ 3000009000000 := by omega
      have hs26 : s2 ≤ 3000009000000 := by omega
      have hs36 : s3 ≤ 3000009000000 := by omega
      have hsm6 : sm ≤ 3000009000000 := by omega
      have hsE := And.intro (show sn = s + 3 + m + (2 + PN) by omega) (show sm = s + 3 + m + 0 by omega)
      have HSE := Lib.hid hsE
      clear hs3e hsme hs2e hsne hsE
      clear hp hrg hk1 hlt hs1 hs2 hs3 hs4 hs5 hg2 hpn hol hlg hm hS hz hG hy
      rcases hbc with ⟨hb, hbc⟩ | ⟨hb, ⟨x0, r0, hs⟩, hbc⟩
      · have hend := HY.out hb
        have HEND := Lib.hid hend
        clear hend
        rcases hbc with hs | ⟨⟨x0, r0, hs⟩, rfl, h0⟩
        · go_wp2
          go_ret
          exact ⟨by rw [HEND.out]; rfl, rfl⟩
        · have q2 : (0 : Int) < (PN : Int) := by omega
          go_wp2
          go_ret
          exact ⟨by rw [HEND.out]; rfl, rfl⟩
      · have hbad2 := HS1.out
        rw [hb] at hbad2
        have HBAD := Lib.hid hbad2
        clear hbad2 hb
        have hGc : G = true ∨ (G = false ∧ 1024 < m) ∨ (G = false ∧ ¬ 1024 < m ∧ 60000 < PN) ∨ (G = false ∧ ¬ 1024 < m ∧ ¬ 60000 < PN) := by
          cases G with
          | true => exact .inl rfl
          | false =>
            by_cases h1 : 1024 < m
            · exact .inr (.inl ⟨rfl, h1⟩)
            · by_cases h2 : 60000 < PN
              · exact .inr (.inr (.inl ⟨rfl, h1, h2⟩))
              · exact .inr (.inr (.inr ⟨rfl, h1, h2⟩))
        rcases hbc with rfl | ⟨rfl, h0⟩
        · have hS5 := HS4.out
          rw [if_pos rfl] at hS5
          have HS5 := Lib.hid hS5
          clear hS5
          rcases hGc with rfl | ⟨rfl, h1⟩ | ⟨rfl, h1, h2⟩ | ⟨rfl, h1, h2⟩
          · go_wp2
            exact ⟨⟨k + 1, sn, by have := HLT.out; omega, by go_num, rfl, by rw [HSE.out.1]; exact HS5.out.symm, by have := HS.out.2.1; have := HSE.out.1; omega, by rw [HG2.out]; rfl, HBAD.out, trivial⟩, by have := HLT.out; simp [intOf]; omega⟩
          · have q2 : (1024 : Int) < (m : Int) := by omega
            have HD := Lib.hid (decide_eq_true h1)
            clear h1
            go_wp2
            exact ⟨⟨k + 1, sn, by have := HLT.out; omega, by go_num, rfl, by rw [HSE.out.1]; exact HS5.out.symm, by have := HS.out.2.1; have := HSE.out.1; omega, by rw [HG2.out, HD.out]; rfl, HBAD.out, trivial⟩, by have := HLT.out; simp [intOf]; omega⟩
          · have q2 : ¬ (1024 : Int) < (m : Int) := by omega
            have q3 : (60000 : Int) < (PN : Int) := by omega
            have HD := Lib.hid (And.intro (decide_eq_false h1) (decide_eq_true h2))
            clear h1 h2
            go_wp2
            exact ⟨⟨k + 1, sn, by have := HLT.out; omega, by go_num, rfl, by rw [HSE.out.1]; exact HS5.out.symm, by have := HS.out.2.1; have := HSE.out.1; omega, by rw [HG2.out, HD.out.1, HD.out.2]; rfl, HBAD.out, trivial⟩, by have := HLT.out; simp [intOf]; omega⟩
          · have q2 : ¬ (1024 : Int) < (m : Int) := by omega
            have q3 : ¬ (60000 : Int) < (PN : Int) := by omega
            have HD := Lib.hid (And.intro (decide_eq_false h1) (decide_eq_false h2))
            clear h1 h2
            go_wp2
            exact ⟨⟨k + 1, sn, by have := HLT.out; omega, by go_num, rfl, by rw [HSE.out.1]; exact HS5.out.symm, by have := HS.out.2.1; have := HSE.out.1; omega, by rw [HG2.out, HD.out.1, HD.out.2]; rfl, HBAD.out, trivial⟩, by have := HLT.out; simp [intOf]; omega⟩
        · have hS5 := HS4.out
          rw [if_neg (by simp)] at hS5
          have HS5 := Lib.hid hS5
          have q4 : ¬ (0 : Int) < (PN : Int) := by omega
          have hG3 := HG2.out
          rw [decide_eq_false (show ¬ 60000 < PN by omega)] at hG3
          have HG3 := Lib.hid hG3
          clear hS5 h0 hG3
          have hGc : G = true ∨ (G = false ∧ 1024 < m) ∨ (G = false ∧ ¬ 1024 < m) := by
            cases G with
            | true => exact .inl rfl
            | false =>
              by_cases h1 : 1024 < m
              · exact .inr (.inl ⟨rfl, h1⟩)
              · exact .inr (.inr ⟨rfl, h1⟩)
          have q5 : ¬ (60000 : Int) < (PN : Int) := by omega
          rcases hGc with rfl | ⟨rfl, h1⟩ | ⟨rfl, h1⟩
          · go_wp2
            exact ⟨⟨k + 1, sm, by have := HLT.out; omega, by go_num, rfl, by rw [HSE.out.2]; exact HS5.out.symm, by have := HS.out.2.1; have := HSE.out.2; omega, by rw [HG3.out]; rfl, HBAD.out, trivial⟩, by have := HLT.out; simp [intOf]; omega⟩
          · have q2 : (1024 : Int) < (m : Int) := by omega
            have HD := Lib.hid (decide_eq_true h1)
            clear h1
            go_wp2
            exact ⟨⟨k + 1, sm, by have := HLT.out; omega, by go_num, rfl, by rw [HSE.out.2]; exact HS5.out.symm, by have := HS.out.2.1; have := HSE.out.2; omega, by rw [HG3.out, HD.out]; rfl, HBAD.out, trivial⟩, by have := HLT.out; simp [intOf]; omega⟩
          · have q2 : ¬ (1024 : Int) < (m : Int) := by omega
            have HD := Lib.hid (decide_eq_false h1)
            clear h1
            go_wp2
            exact ⟨⟨k + 1, sm, by have := HLT.out; omega, by go_num, rfl, by rw [HSE.out.2]; exact HS5.out.symm, by have := HS.out.2.1; have := HSE.out.2; omega, by rw [HG3.out, HD.out]; rfl, HBAD.out, trivial⟩, by have := HLT.out; simp [intOf]; omega⟩
    · obtain rfl : k = n := by omega
      have htk : l.take k = l := by rw [HN.out, List.take_length]
      have hend := HE2.out (by rw [← htk]; exact HS.out.2.2)
      rw [htk] at hG
      have hs0 : s = 1 + (Kv.all (l.map Ac.act)).length := by have := HS.out.1; rw [htk] at this; exact this
      rw [← hs0, ← hG] at hend
      have HEND := Lib.hid hend
      clear hend hs0 hG htk hlt
      cases G with
      | true =>
        go_wp2
        go_ret
        exact ⟨by rw [HEND.out]; rfl, rfl⟩
      | false =>
        by_cases h1 : 65535 < s
        · have q1 : (65535 : Int) < (s : Int) := by omega
          have hend := HEND.out
          rw [decide_eq_true h1] at hend
          have HEND2 := Lib.hid hend
          clear h1 hend
          go_wp2
          go_ret
          exact ⟨by rw [HEND2.out]; rfl, rfl⟩
        · have q1 : ¬ (65535 : Int) < (s : Int) := by omega
          have hend := HEND.out
          rw [decide_eq_false h1] at hend
          have HEND2 := Lib.hid hend
          clear h1 hend
          go_wp2
          go_ret
          exact ⟨by rw [HEND2.out]; rfl, rfl⟩
end
end Go.Proofs.YtepgmebklhemgaaGreatDoor
/- The reference's Bytes. -/
set_option linter.unusedVariables false
set_option linter.unusedSimpArgs false
namespace Go.Proofs.YtepgmebklhemgaaGreatDoor
open Go.RowKit Wd
section
variable {w0 w : World} {M : Mem} {L : List Ent}
set_option maxRecDepth 100000 in
set_option maxHeartbeats 4000000 in
theorem rbytes_any (H : St w0 w M L) {A : Option Addr} {c n : Nat} {l : List Ac} (hn : n = l.length) (hl : SrA w0 M L A (acs l)) (hi : AcIn M l) (hn2 : n ≤ 255) (hsz : ∀ a ∈ l, a.key.length ≤ 1024 ∧ a.p.l.length ≤ 60000) :
    Calls Tryz.prog 38 #[.slice A n c] w (RetBytes w0 M L (Kv.bytes (l.map Ac.act)) fun v => .returned v) := by
  have hml : (l.map Ac.act).length = n := by rw [List.length_map, hn]
  obtain ⟨R, hR⟩ : ∃ R, R = Kv.bytes (l.map Ac.act) := ⟨_, rfl⟩
  rw [← hR]
  obtain ⟨h0, hh0⟩ : ∃ x, x = UInt8.ofNat n := ⟨_, rfl⟩
  have hR2 : R = h0 :: Kv.all (l.map Ac.act) := by rw [hR, hh0]; unfold Kv.bytes; rw [hml]
  have f1 : IntKind.u8.wrap (n : Int) = (n : Int) := by rw [IntKind.wrap_u8]; omega
  have hb0 : [Value.int .u8 (n : Int)] = bv [h0] := by
    rw [hh0]
    unfold bv
    simp only [List.map_cons, List.map_nil, UInt8.toNat_ofNat']
    rw [show n % 2 ^ 8 = n from by omega]
  have HB0 := Lib.hid hb0
  have HR := Lib.hid hR2
  have HN := Lib.hid hn
  have HI := Lib.hid hi
  have HSZ := Lib.hid hsz
  clear hR hR2 hb0 hh0 hml hn hi hsz
  go_enter Tryz.func38, Tryz.ntmps38
  go_wp2
  have H3 := H.lit [.int .u8 (n : Int)] 5 (by show 1 ≤ maxLen; decide)
  have H3 : St w0 (w.alloc (.cells #[.int .u8 (n : Int)] 5)) M (er 5 1 (.slice (some ⟨w.heap.size, 0, none⟩) 1 1) 1 (bv [h0]) :: L) := by rw [← HB0.out]; exact H3
  go_loopw [3, 4] (fun v i wr => ∃ (j m : Nat) (X : List UInt8), j ≤ n ∧ i = .int .i64 j ∧ X = h0 :: Kv.all ((l.take j).map Ac.act) ∧ X.length = m ∧ m ≤ 1 + j * 61029 ∧ St w0 wr M (er 5 1 v m (bv X) :: L)) (fun _ i _ => n - (intOf i).toNat)
  case atStart => exact ⟨0, 1, [h0], by omega, rfl, by simp [Kv.all], rfl, by omega, H3⟩
  case round =>
    obtain ⟨j, m, X, hj, rfl, hX, hXm, hm, H4⟩ := hrel
    clear H H3
    have HX := Lib.hid (And.intro hX (And.intro hXm hm))
    clear hX hXm hm
    obtain ⟨A4, c4, rfl, hc4⟩ := H4.shape 0 rfl
    by_cases hlt : j < n
    · have hk1 : j < l.length := by have := HN.out; omega
      obtain ⟨b, o, rfl, hrg⟩ := RA.ac3 (hl.now H4.d0) j hk1
      have hrl := SrA.ac3 hl j hk1
      have hsn := Kv.all_snoc hk1
      have hsz := HSZ.out l[j] (List.getElem_mem hk1)
      have hin := HI.out l[j] (List.getElem_mem hk1)
      obtain ⟨p, hp⟩ : ∃ p, p = l[j] := ⟨_, rfl⟩
      rw [← hp] at hrg hrl hsn hsz hin
      obtain ⟨key, set, ⟨PA, PN, PC, PL⟩⟩ := p
      unfold ac Pc.v at hrg hrl
      simp only at hrg hrl hsz hin
      obtain ⟨⟨hPN, hPA, hPC⟩, hin⟩ := hin
      simp only at hPN hPA hPC hin
      obtain ⟨S, hS⟩ : ∃ S, S = str key := ⟨_, rfl⟩
      rw [← hS] at hrg hrl
      have hcl : ∀ W M' e, M.le M' → St w0 W M' (e :: L) → W.cell? ⟨b, o + j * 3, none⟩ = some (.string S) ∧ W.cell? ⟨b, o + j * 3 + 1, none⟩ = some (.bool set) ∧ W.cell? ⟨b, o + j * 3 + 2, none⟩ = some (.slice PA PN PC) := fun W M' e hM HW => by
        have h := hrl W M' hM HW.d0
        exact ⟨h 0 _ rfl, h 1 _ rfl, h 2 _ rfl⟩
      obtain ⟨r0, r1, r2⟩ := hcl _ _ _ (Mem.le.refl _) H4
      have HCL := Lib.hid hcl
      have HSN := Lib.hid hsn
      have HSZ1 := Lib.hid hsz
      have HPN := Lib.hid hPN
      have HIN := Lib.hid hin
      have HLT := Lib.hid hlt
      have HSE := Lib.hid hS
      have q1 : (j : Int) < (n : Int) := by omega
      have q1n : j < n := hlt
      clear hp hrg hrl hk1 hlt hsn hsz hPN hPA hPC hin hS hcl
      cases set with
      | true =>
        go_upto_region 6 with fail
        refine Pt.wp_plan (fun w' => w'.cell? ⟨b, o + j * 3, none⟩ = some (.string S)) (Pt.prs [0, 3, 4, 5, 6] (Pt.rds [7] (.go 1 (.go 2 (.go 8 (Pt.prs [9] .fin)))))) [] Tryz.mixed (by kernel_rfl) (fun _ _ d _ _ h => by cases d <;> exact h) r0 ?_
        have H6 := H4.drew
        clear r0 r1 r2 H4
        simp only [Pt.toL, Pt.rds, Pt.prs, Pt.at_, List.drop_succ_cons, List.drop_zero]
        iterate 5 (refine Pt.pr_run (v := ?_) (by rfl) ?_ ?_; rotate_left; (focus (intro w'; go_simp; with_reducible rfl)); simp only [Act.put, List.setIfInBounds_toArray, List.set_cons_zero, List.set_cons_succ])
        (refine Pt.rd_run (v := ?_) (by rfl) ?_ ?_; rotate_left; (focus (intro w' hS; obtain s0 := hS; go_simp; with_reducible rfl)); simp only [Act.put, List.setIfInBounds_toArray, List.set_cons_zero, List.set_cons_succ])
        generalize hwx : wr.drew = wx at *
        clear hwx
        have H7 := H6.alloc (.cells #[.int .u8 1] 5)
        have hnew : RB _ (some ⟨_, 0, none⟩) [1] := (Blk.new wx 5 [.int .u8 1]).RB (o := 0) rfl
        refine Pt.run_go ?_
        go_wp2_with fail
        refine Pt.same (HCL.out _ _ _ (Mem.le.refl _) H7).1 ?_
        refine Pt.run_go ?_
        refine wpList_append_st H7 (by rfl) (.tmp 20) (.tmp 21) 30 (by rfl) Tryz.info5 Tryz.underlying30 (by rfl) (some ⟨_, 0, none⟩) 1 1 [1] (by rfl) rfl (by rintro ⟨⟩) hnew (by have := HX.out.2.2; omega) ?_
        intro v5 w5 H8
        rw [← bv_append] at H8
        refine wpList_nil ?_
        simp only [Pl.Then, Act.put, List.setIfInBounds_toArray, List.set_cons_zero, List.set_cons_succ]
        refine Pt.same (HCL.out _ _ _ (Mem.le.refl _) H8).1 ?_
        clear H7 hnew H6
        have hp1 := rput20_any H8 key (by have := HSZ1.out.1; omega) (by have := HX.out.2.2; omega)
        rw [← HSE.out] at hp1
        have HP1 := Lib.hid hp1
        clear hp1
        obtain ⟨A8, c8, rfl, -⟩ := H8.shape 0 rfl
        refine Pt.run_go ?_
        go_wp2_with fail
        refine HP1.out.mono ?_
        rintro e w6 ⟨v6, rfl, H9⟩
        go_wp2_with fail
        refine Pt.same (HCL.out _ _ _ (Mem.le.refl _) H9).1 ?_
        (refine Pt.pr_run (v := ?_) (by rfl) ?_ ?_; rotate_left; (focus (intro w'; go_simp; with_reducible rfl)); simp only [Act.put, List.setIfInBounds_toArray, List.set_cons_zero, List.set_cons_succ])
        refine Pt.run_fin ?_
        clear HP1 H8
        obtain ⟨r0, r1, r2⟩ := HCL.out _ _ _ (Mem.le.refl _) H9
        have cv := conv_RB (P := Tryz.prog) (src := 30) (dst := 9) (c := PC) Tryz.underlying30 Tryz.underlying5 Tryz.underlying9 (HIN.out.now H9) HPN.out
        have hp1 := rput20_any H9 PL (by have := HSZ1.out.2; omega) (by have := HX.out.2.2; have := HSZ1.out.1; omega)
        have HP2 := Lib.hid hp1
        clear hp1
        obtain ⟨A9, c9, rfl, -⟩ := H9.shape 0 rfl
        go_wp2_with fail
        refine HP2.out.mono ?_
        rintro e w7 ⟨v7, rfl, H10⟩
        clear cv r0 r1 r2 H9 HP2
        go_wp2
        have hfin : X ++ [1] ++ (Kv.be2 key.length ++ key) ++ (Kv.be2 PL.length ++ PL) = h0 :: Kv.all ((l.take (j + 1)).map Ac.act) := by
          rw [HSN.out, HX.out.1]
          simp [Kv.one, Ac.act]
        have hlen : (h0 :: Kv.all ((l.take (j + 1)).map Ac.act)).length = m + 1 + (2 + key.length) + (2 + PL.length) := by
          rw [← hfin]
          simp [HX.out.2.1, Kv.be2]
          omega
        rw [hfin] at H10
        exact ⟨⟨j + 1, _, _, by have := HLT.out; omega, by go_num, rfl, hlen, by have := HX.out.2.2; have := HSZ1.out; omega, H10⟩, by have := HLT.out; simp [intOf]; omega⟩
      | false =>
        go_upto_region 8 with fail
        refine Pt.wp_plan (fun w' => w'.cell? ⟨b, o + j * 3, none⟩ = some (.string S)) (Pt.prs [0, 3, 4, 5, 6] (Pt.rds [7] (.go 1 (.go 2 (.go 8 (Pt.prs [9] .fin)))))) [] Tryz.mixed (by kernel_rfl) (fun _ _ d _ _ h => by cases d <;> exact h) r0 ?_
        have H6 := H4.drew
        clear r0 r1 r2 H4
        simp only [Pt.toL, Pt.rds, Pt.prs, Pt.at_, List.drop_succ_cons, List.drop_zero]
        iterate 5 (refine Pt.pr_run (v := ?_) (by rfl) ?_ ?_; rotate_left; (focus (intro w'; go_simp; with_reducible rfl)); simp only [Act.put, List.setIfInBounds_toArray, List.set_cons_zero, List.set_cons_succ])
        (refine Pt.rd_run (v := ?_) (by rfl) ?_ ?_; rotate_left; (focus (intro w' hS; obtain s0 := hS; go_simp; with_reducible rfl)); simp only [Act.put, List.setIfInBounds_toArray, List.set_cons_zero, List.set_cons_succ])
        generalize hwx : wr.drew = wx at *
        clear hwx
        have H7 := H6.alloc (.cells #[.int .u8 0] 5)
        have hnew : RB _ (some ⟨_, 0, none⟩) [0] := (Blk.new wx 5 [.int .u8 0]).RB (o := 0) rfl
        refine Pt.run_go ?_
        go_wp2_with fail
        refine Pt.same (HCL.out _ _ _ (Mem.le.refl _) H7).1 ?_
        refine Pt.run_go ?_
        refine wpList_append_st H7 (by rfl) (.tmp 37) (.tmp 38) 30 (by rfl) Tryz.info5 Tryz.underlying30 (by rfl) (some ⟨_, 0, none⟩) 1 1 [0] (by rfl) rfl (by rintro ⟨⟩) hnew (by have := HX.out.2.2; omega) ?_
        intro v5 w5 H8
        rw [← bv_append] at H8
        refine wpList_nil ?_
        simp only [Pl.Then, Act.put, List.setIfInBounds_toArray, List.set_cons_zero, List.set_cons_succ]
        refine Pt.same (HCL.out _ _ _ (Mem.le.refl _) H8).1 ?_
        clear H7 hnew H6
        have hp1 := rput20_any H8 key (by have := HSZ1.out.1; omega) (by have := HX.out.2.2; omega)
        rw [← HSE.out] at hp1
        have HP1 := Lib.hid hp1
        clear hp1
        obtain ⟨A8, c8, rfl, -⟩ := H8.shape 0 rfl
        refine Pt.run_go ?_
        go_wp2_with fail
        refine HP1.out.mono ?_
        rintro e w6 ⟨v6, rfl, H9⟩
        go_wp2_with fail
        refine Pt.same (HCL.out _ _ _ (Mem.le.refl _) H9).1 ?_
        (refine Pt.pr_run (v := ?_) (by rfl) ?_ ?_; rotate_left; (focus (intro w'; go_simp; with_reducible rfl)); simp only [Act.put, List.setIfInBounds_toArray, List.set_cons_zero, List.set_cons_succ])
        refine Pt.run_fin ?_
        clear HP1 H8
        go_wp2
        have hfin : X ++ [0] ++ (Kv.be2 key.length ++ key) = h0 :: Kv.all ((l.take (j + 1)).map Ac.act) := by
          rw [HSN.out, HX.out.1]
          simp [Kv.one, Ac.act]
        have hlen : (h0 :: Kv.all ((l.take (j + 1)).map Ac.act)).length = m + 1 + (2 + key.length) := by
          rw [← hfin]
          simp [HX.out.2.1, Kv.be2]
          omega
        rw [hfin] at H9
        exact ⟨⟨j + 1, _, _, by have := HLT.out; omega, by go_num, rfl, hlen, by have := HX.out.2.2; have := HSZ1.out; omega, H9⟩, by have := HLT.out; simp [intOf]; omega⟩
    · obtain rfl : j = n := by omega
      have hXe : X = R := by rw [HX.out.1, HN.out, List.take_length, HR.out]
      subst hXe
      obtain ⟨M', hM', H5, hin⟩ := H4.keepRow
      obtain ⟨_, _, hsh, _, hA4⟩ := H4.shape' 0 rfl
      have HMM := Lib.hid (And.intro hM' (And.intro hin (And.intro hsh hA4)))
      clear hM' hin hsh hA4
      go_wp2
      go_ret
      obtain ⟨g1, g2, g3, g4⟩ := HMM.out
      injection g3 with g5 _ g6
      subst g5 g6
      exact ⟨_, _, M', by show _ = Ending.returned (.slice _ X.length _); rw [HX.out.2.1]; rfl, by rw [HX.out.2.1]; exact hc4, g4, g1, g2, H5⟩
end
end Go.Proofs.YtepgmebklhemgaaGreatDoor
/- The reference's Decode. -/
set_option linter.unusedVariables false
set_option linter.unusedSimpArgs false
namespace Go.Proofs.YtepgmebklhemgaaGreatDoor
open Go.RowKit Wd
def Kv.sofarL (cnt : Nat) (r0 : List UInt8) (l : List Kv.Act) (m : Nat) (rest : List UInt8) : Prop := Kv.rd false cnt r0 = (Kv.rd false m rest).map fun p => (l ++ p.1, p.2)
theorem Kv.sofarL_start (cnt : Nat) (r0 : List UInt8) : Kv.sofarL cnt r0 [] cnt r0 := by
  unfold Kv.sofarL
  cases Kv.rd false cnt r0 with
  | none => rfl
  | some p => rfl
theorem Kv.sofarL_step {cnt m : Nat} {r0 rest t : List UInt8} {l : List Kv.Act} {a : Kv.Act} (h : Kv.sofarL cnt r0 l (m + 1) rest) (h1 : Kv.rd1 false rest = some (a, t)) : Kv.sofarL cnt r0 (l ++ [a]) m t := by
  unfold Kv.sofarL at h ⊢
  rw [h, Kv.rd, h1]
  simp only
  cases Kv.rd false m t with
  | none => rfl
  | some p => simp
theorem Kv.sofarL_stop {cnt m : Nat} {r0 rest : List UInt8} {l : List Kv.Act} (h : Kv.sofarL cnt r0 l (m + 1) rest) (h1 : Kv.rd1 false rest = none) : Kv.rd false cnt r0 = none := by
  unfold Kv.sofarL at h
  rw [h, Kv.rd, h1]
  rfl
theorem Kv.sofarL_end {cnt : Nat} {r0 rest : List UInt8} {l : List Kv.Act} (h : Kv.sofarL cnt r0 l 0 rest) : Kv.rd false cnt r0 = some (l, rest) := by
  unfold Kv.sofarL at h
  rw [h]
  simp [Kv.rd]
theorem Kv.rdecode_none {x : UInt8} {r0 : List UInt8} (h : Kv.rd false x.toNat r0 = none) : Kv.decode (x :: r0) = none := by
  rw [← Kv.rdecode_eq, Kv.rdecode, h]
theorem Kv.rdecode_end {x : UInt8} {r0 rest : List UInt8} {l : List Kv.Act} (h : Kv.rd false x.toNat r0 = some (l, rest)) : Kv.decode (x :: r0) = if Kv.check l = 0 ∧ Kv.bytes l = x :: r0 then some l else none := by
  rw [← Kv.rdecode_eq, Kv.rdecode, h]
/-- Three bytes are there, or not. -/
theorem Kv.three (rest : List UInt8) : (rest.length < 3 ∧ Kv.rd1 false rest = none) ∨ ∃ t a b r, rest = t :: a :: b :: r ∧ Kv.rd1 false rest = (if r.length < a.toNat * 256 + b.toNat then none else if t = 1 then (match Kv.take2 (r.drop (a.toNat * 256 + b.toNat)) with
      | none => none
      | some (d, r2) => some (⟨r.take (a.toNat * 256 + b.toNat), true, d⟩, r2)) else some (⟨r.take (a.toNat * 256 + b.toNat), false, []⟩, r.drop (a.toNat * 256 + b.toNat))) := by
  match rest with
  | [] => exact .inl ⟨by simp, rfl⟩
  | [_] => exact .inl ⟨by simp, rfl⟩
  | [_, _] => exact .inl ⟨by simp, rfl⟩
  | t :: a :: b :: r =>
    refine .inr ⟨t, a, b, r, rfl, ?_⟩
    rw [Kv.rd1, if_neg (by simp), Kv.take2]
    by_cases h : r.length < a.toNat * 256 + b.toNat
    · rw [if_pos h, if_pos h]
    · rw [if_neg h, if_neg h]
      rfl
theorem Kv.two (rest : List UInt8) : (rest.length < 2 ∧ Kv.take2 rest = none) ∨ ∃ a b r, rest = a :: b :: r ∧ Kv.take2 rest = (if r.length < a.toNat * 256 + b.toNat then none else some (r.take (a.toNat * 256 + b.toNat), r.drop (a.toNat * 256 + b.toNat))) := by
  match rest with
  | [] => exact .inl ⟨by simp, rfl⟩
  | [_] => exact .inl ⟨by simp, rfl⟩
  | a :: b :: r => exact .inr ⟨a, b, r, rfl, by rw [Kv.take2]⟩
theorem drop_at {r s : List UInt8} {k : Nat} {t : UInt8} (h : r.drop k = t :: s) : k < r.length ∧ (∀ hk : k < r.length, r[k] = t) ∧ r.drop (k + 1) = s := by
  have hk : k < r.length := by
    rcases Nat.lt_or_ge k r.length with hlt | hge
    · exact hlt
    · rw [List.drop_eq_nil_of_le hge] at h; cases h
  rw [List.drop_eq_getElem_cons hk] at h
  injection h with h1 h2
  exact ⟨hk, fun _ => h1, h2⟩
theorem RB.celld {w : World} {b o : Nat} {r s : List UInt8} {k : Nat} {t : UInt8} (h : RB w (some ⟨b, o, none⟩) r) (hd : r.drop k = t :: s) : w.cell? ⟨b, o + k, none⟩ = some (.int .u8 (t.toNat : Int)) := by
  obtain ⟨h1, h2, _⟩ := drop_at hd
  rw [RB.cell h k h1, h2 h1]
def RetRDec (w0 : World) (M : Mem) (L : List Ent) (r : List UInt8) (e : Ending) (w' : World) : Prop :=
  (Kv.decode r = none ∧ e = .returned (.tuple #[.slice none 0 0, .bool false]) ∧ St w0 w' M L) ∨
  ∃ ps v M', Kv.decode r = some (ps.map Ac.act) ∧ e = .returned (.tuple #[v, .bool true]) ∧ M.le M' ∧ AcIn M' ps ∧ St w0 w' M' (er 75 3 v ps.length (acs ps) :: L)
section
variable {w0 w : World} {M : Mem} {L : List Ent}
set_option maxRecDepth 100000 in
set_option maxHeartbeats 4000000 in
theorem rdecode_any (H : St w0 w M L) {A : Option Addr} {c n : Nat} {r : List UInt8} (hn : n = r.length) (hr : In M (RB · A r)) (hc : n ≤ c) (hn2 : n ≤ 900000) :
    Calls Tryz.prog 31 #[.slice A n c] w (RetRDec w0 M L r) := by
  rcases r with _ | ⟨x, r0⟩
  · have hn0 : n = 0 := hn
    subst hn0
    clear hn hr hc hn2
    go_enter Tryz.func31, Tryz.ntmps31
    go_wp2
    go_ret2
    exact .inl ⟨rfl, rfl, H⟩
  · obtain ⟨b, o, rfl, -, -⟩ := (hr.now H) (by simp)
    obtain ⟨cnt, hcnt⟩ : ∃ cnt, cnt = x.toNat := ⟨_, rfl⟩
    have hx := x.toNat_lt
    rw [← hcnt] at hx
    have hdn := fun h => Kv.rdecode_none (x := x) (r0 := r0) h
    have hde := fun l rest h => Kv.rdecode_end (x := x) (r0 := r0) (rest := rest) (l := l) h
    rw [← hcnt] at hdn
    simp only [← hcnt] at hde
    obtain ⟨r, hre⟩ : ∃ r, r = x :: r0 := ⟨_, rfl⟩
    rw [← hre] at hr hn hdn ⊢
    simp only [← hre] at hde
    have c00 : ∀ W M' F, M.le M' → St w0 W M' F → W.cell? ⟨b, o, none⟩ = some (.int .u8 (cnt : Int)) := fun W M' F hM HW => by
      have := RB.cell ((hr.le hM).now HW) 0 (by rw [hre]; simp)
      simp only [hre, List.getElem_cons_zero, Nat.add_zero] at this
      rw [hcnt]
      exact this
    have hd0 : r.drop 1 = r0 := by rw [hre]; rfl
    have hn1 : 1 ≤ n := by rw [hn, hre]; simp
    have q0 : ((n : Int) == 0) = false := by rw [beq_eq_false_iff_ne]; omega
    have q1 : (0 : Int) < (n : Int) := by omega
    have q1n : 0 < n := by omega
    have wc : IntKind.i64.wrap (cnt : Int) = (cnt : Int) := by rw [IntKind.wrap_i64]; omega
    obtain ⟨D, hD⟩ : ∃ D, D = Kv.decode r := ⟨_, rfl⟩
    unfold RetRDec
    simp only [← hD] at hdn hde ⊢
    have HDN := Lib.hid hdn
    have HDE := Lib.hid hde
    have HR := Lib.hid hr
    have HN := Lib.hid (And.intro hn hc)
    have C00 := Lib.hid c00
    have HD0 := Lib.hid (And.intro hd0 hn1)
    clear hdn hde hr hn hc hD hre hcnt c00 hd0
    go_enter Tryz.func31, Tryz.ntmps31
    go_wp2
    have H1 := H.lit00 75 3
    go_loopw [4, 5, 6] (fun v at_ i wr => ∃ (k : Nat) (ps : List Ac) (a : Nat) (M' : Mem), k ≤ cnt ∧ i = .int .i64 k ∧ at_ = .int .i64 a ∧ a ≤ n ∧ M.le M' ∧ AcIn M' ps ∧ ps.length = k ∧ (∀ p ∈ ps, p.key.length ≤ 65535 ∧ p.p.l.length ≤ 65535) ∧ Kv.sofarL cnt r0 (ps.map Ac.act) (cnt - k) (r.drop a) ∧ St w0 wr M' (er 75 3 v k (acs ps) :: L)) (fun _ _ i _ => cnt - (intOf i).toNat)
    case atStart => exact ⟨0, [], 1, M, by omega, rfl, rfl, HD0.out.2, Mem.le.refl _, AcIn.nil _, rfl, by simp, by rw [HD0.out.1]; exact Kv.sofarL_start _ _, H1⟩
    case round =>
      obtain ⟨k, ps, a, M', hk, rfl, rfl, han, hM, hps, hpl, hpz, hso, H2⟩ := hrel
      clear H1
      have HH := Lib.hid (And.intro hps (And.intro hpl hpz))
      have HM := Lib.hid hM
      have c0 := C00.out _ _ _ hM H2
      clear hM hps hpl hpz
      obtain ⟨A4, c4, rfl, -⟩ := H2.shape 0 rfl
      by_cases hlt : k < cnt
      · have q2 : (k : Int) < (cnt : Int) := by omega
        have hso2 : Kv.sofarL cnt r0 (ps.map Ac.act) ((cnt - (k + 1)) + 1) (r.drop a) := by rw [show cnt - (k + 1) + 1 = cnt - k by omega]; exact hso
        have HSO := Lib.hid hso2
        have HLT := Lib.hid hlt
        have hdl : (r.drop a).length = n - a := by rw [List.length_drop, HN.out.1]
        obtain ⟨a3, ha3⟩ : ∃ a3, a3 = a + 3 := ⟨_, rfl⟩
        have e3 : (a : Int) + 3 = (a3 : Int) := by omega
        have h3 := Kv.three (r.drop a)
        clear hso hso2
        rcases h3 with ⟨hs, hno⟩ | ⟨t, x1, x2, r3, hdr, hrd⟩
        · have q3 : (n : Int) < (a3 : Int) := by omega
          have q3n : n < a3 := by omega
          have hdn := HDN.out (Kv.sofarL_stop HSO.out hno)
          have HDX := Lib.hid hdn
          have HZ := H2.d0.weak H HM.out
          clear hdn hs hno hdl ha3 hlt
          go_wp2
          go_ret2
          exact .inl ⟨HDX.out, rfl, HZ⟩
        · have hb1 := x1.toNat_lt
          have hb2 := x2.toNat_lt
          obtain ⟨N, hNe⟩ : ∃ N, N = x1.toNat * 256 + x2.toNat := ⟨_, rfl⟩
          rw [← hNe] at hrd
          have hr3l : r3.length = n - a3 := by
            have h := hdl
            rw [hdr] at h
            simp at h
            omega
          have ha3n : a3 ≤ n := by
            have h := hdl
            rw [hdr] at h
            simp at h
            omega
          have q3 : ¬ (n : Int) < (a3 : Int) := by omega
          obtain ⟨d1, d2, d3⟩ := drop_at hdr
          obtain ⟨e1', e2', e3'⟩ := drop_at d3
          obtain ⟨g1', g2', g3'⟩ := drop_at e3'
          have k0 := fun W M2 F (hM2 : M'.le M2) (HW : St w0 W M2 F) => RB.celld ((HR.out.le (HM.out.trans hM2)).now HW) hdr
          have k1 := fun W M2 F (hM2 : M'.le M2) (HW : St w0 W M2 F) => RB.celld ((HR.out.le (HM.out.trans hM2)).now HW) d3
          have k2 := fun W M2 F (hM2 : M'.le M2) (HW : St w0 W M2 F) => RB.celld ((HR.out.le (HM.out.trans hM2)).now HW) e3'
          obtain ⟨tn, htn⟩ : ∃ tn, tn = t.toNat := ⟨_, rfl⟩
          obtain ⟨y1, hy1⟩ : ∃ y1, y1 = x1.toNat := ⟨_, rfl⟩
          obtain ⟨y2, hy2⟩ : ∃ y2, y2 = x2.toNat := ⟨_, rfl⟩
          obtain ⟨y3, hy3⟩ : ∃ y3, y3 = y1 * 256 := ⟨_, rfl⟩
          simp only [← htn] at k0
          simp only [← hy1] at k1 hb1 hNe
          simp only [← hy2] at k2 hb2 hNe
          obtain ⟨a1, ha1⟩ : ∃ a1, a1 = a + 1 := ⟨_, rfl⟩
          obtain ⟨a2, ha2⟩ : ∃ a2, a2 = a + 2 := ⟨_, rfl⟩
          simp only [← ha1] at k1
          simp only [show a + 1 + 1 = a2 from by omega] at k2
          have f1 : (a : Int) + 1 = (a1 : Int) := by omega
          have f2 : (a : Int) + 2 = (a2 : Int) := by omega
          have f3 : (y1 : Int) * 256 = (y3 : Int) := by omega
          have f4 : (y3 : Int) + (y2 : Int) = (N : Int) := by omega
          have qa : (a : Int) < (n : Int) := by omega
          have qa1 : (a1 : Int) < (n : Int) := by omega
          have qa2 : (a2 : Int) < (n : Int) := by omega
          have qan : a < n := by omega
          have qa1n : a1 < n := by omega
          have qa2n : a2 < n := by omega
          have wy1 : IntKind.i64.wrap (y1 : Int) = (y1 : Int) := by rw [IntKind.wrap_i64]; omega
          have wy2 : IntKind.i64.wrap (y2 : Int) = (y2 : Int) := by rw [IntKind.wrap_i64]; omega
          have wy3 : IntKind.i64.wrap (y3 : Int) = (y3 : Int) := by rw [IntKind.wrap_i64]; omega
          have wN : IntKind.i64.wrap (N : Int) = (N : Int) := by rw [IntKind.wrap_i64]; omega
          have wa1 : IntKind.i64.wrap (a1 : Int) = (a1 : Int) := by rw [IntKind.wrap_i64]; omega
          have wa2 : IntKind.i64.wrap (a2 : Int) = (a2 : Int) := by rw [IntKind.wrap_i64]; omega
          obtain ⟨p, hp⟩ : ∃ p, p = a3 + N := ⟨_, rfl⟩
          have f5 : (a3 : Int) + (N : Int) = (p : Int) := by omega
          have hp9 : p ≤ 2000000 := by omega
          have hN9 : N ≤ 65535 := by omega
          have ha39 : a3 ≤ 900000 := by omega
          have hdr3 : r.drop a3 = r3 := by rw [← g3']; congr 1
          obtain ⟨B, hB⟩ : ∃ B : Bool, B = ((tn : Int) == 1) := ⟨_, rfl⟩
          have hBt : (t = 1) ↔ B = true := by
            rw [hB, beq_iff_eq, htn]
            constructor
            · rintro rfl; rfl
            · intro h
              apply UInt8.toNat_inj.1
              show t.toNat = 1
              omega
          have hB2 := hB.symm
          have c1 := k0 _ _ _ (Mem.le.refl _) H2
          have K1 := Lib.hid k1
          have K2 := Lib.hid k2
          have HRD := Lib.hid hrd
          have HBT := Lib.hid hBt
          have HP := Lib.hid (And.intro hp (And.intro hr3l (And.intro hdr3 ha3n)))
          have H3 := H2.new [.string ⟨#[]⟩, .bool B, .slice none 0 0] 75
          clear k0 k1 k2 hrd hBt hB htn hy1 hy2 hy3 hNe d1 d2 d3 e1' e2' e3' g1' g2' g3' hdr hdl ha1 ha2 ha3 hp hr3l hdr3 hb1 hb2 hlt ha3n han
          go_upto_region 11 with fail
          obtain ⟨g, hg⟩ : ∃ g, g = wr.heap.size := ⟨_, rfl⟩
          rw [← hg] at H3 ⊢
          clear hg c0 c1 H2
          refine Pt.wp_plan (fun w' => St w0 w' M' (eb g 75 [.string ⟨#[]⟩, .bool B, .slice none 0 0] :: er 75 3 (.slice A4 k c4) k (acs ps) :: L)) (Pt.prs [0, 1, 2, 3, 7, 8, 9, 10] (Pt.rds [4, 5] (Pt.prs [6] (Pt.rds [11, 12] (Pt.prs [13, 14] .fin))))) [] Tryz.mixed (by kernel_rfl) (fun _ _ d _ _ h => by cases d <;> exact h) H3.drew ?_
          have H4 := H3.drew
          clear H3
          simp only [Pt.toL, Pt.rds, Pt.prs, Pt.at_, List.drop_succ_cons, List.drop_zero]
          iterate 8 (refine Pt.pr_run (v := ?_) (by rfl) ?_ ?_; rotate_left; (focus (intro w'; go_simp; with_reducible rfl)); simp only [Act.put, List.setIfInBounds_toArray, List.set_cons_zero, List.set_cons_succ])
          iterate 2 (refine Pt.rd_run (v := ?_) (by rfl) ?_ ?_; rotate_left; (focus (intro w' hS; have k1 := K1.out _ _ _ (Mem.le.refl _) hS; go_simp; with_reducible rfl)); simp only [Act.put, List.setIfInBounds_toArray, List.set_cons_zero, List.set_cons_succ])
          (refine Pt.pr_run (v := ?_) (by rfl) ?_ ?_; rotate_left; (focus (intro w'; go_simp; with_reducible rfl)); simp only [Act.put, List.setIfInBounds_toArray, List.set_cons_zero, List.set_cons_succ])
          iterate 2 (refine Pt.rd_run (v := ?_) (by rfl) ?_ ?_; rotate_left; (focus (intro w' hS; have k2 := K2.out _ _ _ (Mem.le.refl _) hS; go_simp; with_reducible rfl)); simp only [Act.put, List.setIfInBounds_toArray, List.set_cons_zero, List.set_cons_succ])
          iterate 2 (refine Pt.pr_run (v := ?_) (by rfl) ?_ ?_; rotate_left; (focus (intro w'; go_simp; with_reducible rfl)); simp only [Act.put, List.setIfInBounds_toArray, List.set_cons_zero, List.set_cons_succ])
          refine Pt.run_fin ?_
          generalize World.drew _ = wx at *
          by_cases hpn : n < p
          · have q4 : (n : Int) < (p : Int) := by omega
            have hdn := HDN.out (Kv.sofarL_stop HSO.out (by rw [HRD.out, if_pos (by have := HP.out.1; have := HP.out.2.1; omega)]))
            have HDX := Lib.hid hdn
            have HZ := H4.d0.d0.weak H HM.out
            clear hdn
            go_wp2
            go_ret2
            exact .inl ⟨HDX.out, rfl, HZ⟩
          · have q4 : ¬ (n : Int) < (p : Int) := by omega
            have HPN := Lib.hid (Nat.le_of_not_lt hpn)
            have hlt3 : ¬ r3.length < N := by have := HP.out.1; have := HP.out.2.1; omega
            have hrd := HRD.out
            rw [if_neg hlt3] at hrd
            obtain ⟨key, hkey⟩ : ∃ key, key = r3.take N := ⟨_, rfl⟩
            have hkl : key.length = N := by rw [hkey, List.length_take]; omega
            have hdp : r.drop p = r3.drop N := by rw [← HP.out.2.2.1, List.drop_drop, HP.out.1]
            have hpc : p ≤ c := by have := HPN.out; have := HN.out.2; omega
            have s1 := fun W => slo_lh (P := Tryz.prog) (t := 30) W Tryz.underlying30 Tryz.sz8 b o n c a3 p (by have := HP.out.1; omega) hpc
            obtain ⟨o2, ho2⟩ : ∃ o2, o2 = slo o c a3 := ⟨_, rfl⟩
            obtain ⟨c2, hc2⟩ : ∃ c2, c2 = c - a3 := ⟨_, rfl⟩
            simp only [← ho2, ← hc2, show p - a3 = N from by have := HP.out.1; omega] at s1
            have hrk : In M (RB · (some ⟨b, o2, none⟩) key) := HR.out.imp fun W h => by
              have := slo_RB h (cap := c) (by rw [← HN.out.1]; exact HN.out.2) a3 N
              rw [HP.out.2.2.1, ← hkey, ← ho2] at this
              exact this
            rw [← hkey] at hrd
            have cv := conv_RB (P := Tryz.prog) (src := 30) (dst := 9) (c := c2) Tryz.underlying30 Tryz.underlying5 Tryz.underlying9 ((hrk.le HM.out).now H4) hkl.symm
            have z0 := H4.frozen 0 rfl 0
            have y0 := H4.cell 0 rfl 0
            have y1c := H4.cell 0 rfl 1
            simp only [List.getElem?_cons_succ, List.getElem?_cons_zero] at y0 y1c
            have H9 := H4.set 0 (.string (str key))
            simp only [List.set_cons_succ, List.set_cons_zero] at H9
            have HKL := Lib.hid hkl
            have HDP := Lib.hid hdp
            have HRD2 := Lib.hid hrd
            clear hpn hlt3 hrd hkey hkl hdp hpc ho2 hc2 hrk HRD
            cases B with
            | false =>
              have hrd2 := HRD2.out
              rw [if_neg (fun h => by simpa using HBT.out.1 h)] at hrd2
              have hs3 := Kv.sofarL_step HSO.out hrd2
              have HS3 := Lib.hid hs3
              clear hrd2 hs3
              go_upto_region 26 with fail
              clear cv s1 z0 y0 y1c H4
              generalize World.setCell _ _ _ = w4 at *
              refine wp_region_lit ?_
              (refine wpList_ex (v := ?_) (by rfl) ?_ ?_; rotate_left; (focus (go_simp; with_reducible rfl)); simp only [Act.put, List.setIfInBounds_toArray, List.set_cons_zero, List.set_cons_succ])
              refine wpList_load_mid (by rfl) 75 (.tmp 7) (by rfl) g 0 (by rfl) [.string (str key), .bool false, .slice none 0 0] _ ((H9.blk 0 rfl).range 0 3 _ rfl) Tryz.underlying75 rfl (by exact Tryz.sizeAct) ?_
              simp only [Act.put, List.setIfInBounds_toArray, List.set_cons_zero, List.set_cons_succ]
              have hbs := run_buildSlice_one (P := Tryz.prog) (n := 3) Tryz.underlying42 Tryz.zeroAct rfl (by decide) (by decide) (.agg #[.string (str key), .bool false, .slice none 0 0]) rfl w4
              have H10 := H9.alloc (.cells #[.string (str key), .bool false, .slice none 0 0] 75)
              have hra : RA (w4.alloc (.cells #[.string (str key), .bool false, .slice none 0 0] 75)) (some ⟨w4.heap.size, 0, none⟩) (ac ⟨key, false, ⟨none, 0, 0, []⟩⟩) := fun _ => ⟨_, 0, rfl, (Blk.new w4 75 [.string (str key), .bool false, .slice none 0 0]).lt, (Blk.new w4 75 [.string (str key), .bool false, .slice none 0 0]).range 0 3 _ rfl⟩
              refine wpList_bs1 (by rfl) 42 (.tmp 106) (by rfl) (by rfl) hbs ?_
              simp only [Act.put, List.setIfInBounds_toArray, List.set_cons_zero, List.set_cons_succ]
              refine wpList_append_any_st H10.f1 (by rfl) (.tmp 105) (.tmp 107) 42 (by rfl) Tryz.infoAct (by rfl) (by decide) Tryz.underlying42 (by rfl) (some ⟨w4.heap.size, 0, none⟩) 1 1 (ac ⟨key, false, ⟨none, 0, 0, []⟩⟩) (by rfl) rfl (by rintro ⟨⟩) hra (ac_one _) (by omega) (by omega) ?_
              intro v9 w9 H11
              clear hbs hra H9 H10
              simp only [Act.put, List.setIfInBounds_toArray, List.set_cons_zero, List.set_cons_succ]
              (refine wpList_ex (v := ?_) (by rfl) ?_ ?_; rotate_left; (focus (go_simp; with_reducible rfl)); simp only [Act.put, List.setIfInBounds_toArray, List.set_cons_zero, List.set_cons_succ])
              refine wpList_nil ?_
              have he : acs ps ++ ac ⟨key, false, ⟨none, 0, 0, []⟩⟩ = acs (ps ++ [⟨key, false, ⟨none, 0, 0, []⟩⟩]) := by rw [acs_append]; simp [acs]
              rw [he] at H11
              go_wp2
              exact ⟨⟨k + 1, ps ++ [⟨key, false, ⟨none, 0, 0, []⟩⟩], p, M', by have := HLT.out; omega, by go_num, rfl, HPN.out, HM.out, HH.out.1.snoc ⟨rfl, fun _ => rfl, Nat.le_refl _⟩ (fun _ _ h => absurd rfl h), by rw [List.length_append, HH.out.2.1]; rfl, by intro q hq; rcases List.mem_append.1 hq with hq | hq; exact HH.out.2.2 q hq; simp only [List.mem_singleton] at hq; subst hq; exact ⟨by have := HKL.out; show key.length ≤ _; omega, by simp⟩, by rw [List.map_append, HDP.out]; exact HS3.out, H11.d1⟩, by have := HLT.out; simp [intOf]; omega⟩
            | true =>
              have hrd2 := HRD2.out
              rw [if_pos (HBT.out.2 (by trivial)), ← HDP.out] at hrd2
              have htw := Kv.two (r.drop p)
              have hdl2 : (r.drop p).length = n - p := by rw [List.length_drop, HN.out.1]
              obtain ⟨p2, hp2⟩ : ∃ p2, p2 = p + 2 := ⟨_, rfl⟩
              have f6 : (p : Int) + 2 = (p2 : Int) := by omega
              have hp29 : p2 ≤ 3000000 := by omega
              rcases htw with ⟨hs, hno⟩ | ⟨x3, x4, r4, hdr, htk⟩
              · have q5 : (n : Int) < (p2 : Int) := by have := HPN.out; omega
                have q5n : n < p2 := by omega
                rw [hno] at hrd2
                have hdn := HDN.out (Kv.sofarL_stop HSO.out hrd2)
                have HDX := Lib.hid hdn
                have HZ := H9.d0.d0.weak H HM.out
                clear hdn hs hno hdl2 hp2 hrd2 H4
                go_wp2
                go_ret2
                exact .inl ⟨HDX.out, rfl, HZ⟩
              · have hb1 := x3.toNat_lt
                have hb2 := x4.toNat_lt
                obtain ⟨N2, hN2e⟩ : ∃ N2, N2 = x3.toNat * 256 + x4.toNat := ⟨_, rfl⟩
                rw [← hN2e] at htk
                have hr4l : r4.length = n - p2 := by
                  have h := hdl2
                  rw [hdr] at h
                  simp at h
                  omega
                have hp2n : p2 ≤ n := by
                  have h := hdl2
                  rw [hdr] at h
                  simp at h
                  omega
                have q5 : ¬ (n : Int) < (p2 : Int) := by omega
                obtain ⟨d1, d2, d3⟩ := drop_at hdr
                obtain ⟨e1', e2', e3'⟩ := drop_at d3
                have k1 := fun W M2 F (hM2 : M'.le M2) (HW : St w0 W M2 F) => RB.celld ((HR.out.le (HM.out.trans hM2)).now HW) hdr
                have k2 := fun W M2 F (hM2 : M'.le M2) (HW : St w0 W M2 F) => RB.celld ((HR.out.le (HM.out.trans hM2)).now HW) d3
                obtain ⟨y4, hy4⟩ : ∃ y, y = x3.toNat := ⟨_, rfl⟩
                obtain ⟨y5, hy5⟩ : ∃ y, y = x4.toNat := ⟨_, rfl⟩
                obtain ⟨y6, hy6⟩ : ∃ y6, y6 = y4 * 256 := ⟨_, rfl⟩
                simp only [← hy4] at k1 hb1 hN2e
                simp only [← hy5] at k2 hb2 hN2e
                obtain ⟨p1, hp1⟩ : ∃ p1, p1 = p + 1 := ⟨_, rfl⟩
                simp only [← hp1] at k2
                have f7 : (p : Int) + 1 = (p1 : Int) := by omega
                have f8 : (y4 : Int) * 256 = (y6 : Int) := by omega
                have f9 : (y6 : Int) + (y5 : Int) = (N2 : Int) := by omega
                have qp : (p : Int) < (n : Int) := by omega
                have qp1 : (p1 : Int) < (n : Int) := by omega
                have qpn : p < n := by omega
                have qp1n : p1 < n := by omega
                have wy4 : IntKind.i64.wrap (y4 : Int) = (y4 : Int) := by rw [IntKind.wrap_i64]; omega
                have wy5 : IntKind.i64.wrap (y5 : Int) = (y5 : Int) := by rw [IntKind.wrap_i64]; omega
                have wy6 : IntKind.i64.wrap (y6 : Int) = (y6 : Int) := by rw [IntKind.wrap_i64]; omega
                have wN2 : IntKind.i64.wrap (N2 : Int) = (N2 : Int) := by rw [IntKind.wrap_i64]; omega
                have wp1 : IntKind.i64.wrap (p1 : Int) = (p1 : Int) := by rw [IntKind.wrap_i64]; omega
                obtain ⟨p3, hp3⟩ : ∃ p3, p3 = p2 + N2 := ⟨_, rfl⟩
                have fa : (p2 : Int) + (N2 : Int) = (p3 : Int) := by omega
                have hp39 : p3 ≤ 4000000 := by omega
                have wp3 : IntKind.i64.wrap (p3 : Int) = (p3 : Int) := by rw [IntKind.wrap_i64]; omega
                have wp2 : IntKind.i64.wrap (p2 : Int) = (p2 : Int) := by rw [IntKind.wrap_i64]; omega
                have hN29 : N2 ≤ 65535 := by omega
                have hdr4 : r.drop p2 = r4 := by rw [← e3']; congr 1
                have K1' := Lib.hid k1
                have K2' := Lib.hid k2
                have HP2 := Lib.hid (And.intro hp3 (And.intro hr4l (And.intro hdr4 hp2n)))
                have HTK := Lib.hid htk
                have HRD3 := Lib.hid hrd2
                clear k1 k2 htk hrd2 hy4 hy5 hy6 hN2e d1 d2 d3 e1' e2' e3' hdr hdl2 hp1 hp2 hp3 hr4l hdr4 hb1 hb2 hp2n K1 K2
                go_upto_region 20 with fail
                clear cv s1 z0 y0 y1c H4
                generalize World.setCell _ _ _ = w4 at *
                refine Pt.wp_plan (fun w' => St w0 w' M' (eb g 75 [.string (str key), .bool true, .slice none 0 0] :: er 75 3 (.slice A4 k c4) k (acs ps) :: L)) (Pt.prs [0, 1, 2, 6, 7, 8, 9] (Pt.rds [3, 4] (Pt.prs [5] (Pt.rds [10, 11] (Pt.prs [12, 13] .fin))))) [] Tryz.mixed (by kernel_rfl) (fun _ _ d _ _ h => by cases d <;> exact h) H9.drew ?_
                have H5 := H9.drew
                clear H9
                simp only [Pt.toL, Pt.rds, Pt.prs, Pt.at_, List.drop_succ_cons, List.drop_zero]
                iterate 7 (refine Pt.pr_run (v := ?_) (by rfl) ?_ ?_; rotate_left; (focus (intro w'; go_simp; with_reducible rfl)); simp only [Act.put, List.setIfInBounds_toArray, List.set_cons_zero, List.set_cons_succ])
                iterate 2 (refine Pt.rd_run (v := ?_) (by rfl) ?_ ?_; rotate_left; (focus (intro w' hS; have k1 := K1'.out _ _ _ (Mem.le.refl _) hS; go_simp; with_reducible rfl)); simp only [Act.put, List.setIfInBounds_toArray, List.set_cons_zero, List.set_cons_succ])
                (refine Pt.pr_run (v := ?_) (by rfl) ?_ ?_; rotate_left; (focus (intro w'; go_simp; with_reducible rfl)); simp only [Act.put, List.setIfInBounds_toArray, List.set_cons_zero, List.set_cons_succ])
                iterate 2 (refine Pt.rd_run (v := ?_) (by rfl) ?_ ?_; rotate_left; (focus (intro w' hS; have k2 := K2'.out _ _ _ (Mem.le.refl _) hS; go_simp; with_reducible rfl)); simp only [Act.put, List.setIfInBounds_toArray, List.set_cons_zero, List.set_cons_succ])
                iterate 2 (refine Pt.pr_run (v := ?_) (by rfl) ?_ ?_; rotate_left; (focus (intro w'; go_simp; with_reducible rfl)); simp only [Act.put, List.setIfInBounds_toArray, List.set_cons_zero, List.set_cons_succ])
                refine Pt.run_fin ?_
                generalize World.drew _ = wy at *
                by_cases hpn3 : n < p3
                · have q6 : (n : Int) < (p3 : Int) := by omega
                  have hdn := HDN.out (Kv.sofarL_stop HSO.out (by rw [HRD3.out, HTK.out, if_pos (by have := HP2.out.1; have := HP2.out.2.1; omega)]))
                  have HDX := Lib.hid hdn
                  have HZ := H5.d0.d0.weak H HM.out
                  clear hdn
                  go_wp2
                  go_ret2
                  exact .inl ⟨HDX.out, rfl, HZ⟩
                · have q6 : ¬ (n : Int) < (p3 : Int) := by omega
                  have HPN3 := Lib.hid (Nat.le_of_not_lt hpn3)
                  have hlt4 : ¬ r4.length < N2 := by have := HP2.out.1; have := HP2.out.2.1; omega
                  obtain ⟨dt, hdt⟩ : ∃ dt, dt = r4.take N2 := ⟨_, rfl⟩
                  have hdtl : dt.length = N2 := by rw [hdt, List.length_take]; omega
                  have hrd4 := HRD3.out
                  rw [HTK.out, if_neg hlt4, ← hdt] at hrd4
                  have hdp3 : r.drop p3 = r4.drop N2 := by rw [← HP2.out.2.2.1, List.drop_drop, HP2.out.1]
                  rw [← hdp3] at hrd4
                  have hs3 := Kv.sofarL_step HSO.out hrd4
                  have HS3 := Lib.hid hs3
                  have hpc : p3 ≤ c := by have := HPN3.out; have := HN.out.2; omega
                  have s2 := fun W => slo_lh (P := Tryz.prog) (t := 30) W Tryz.underlying30 Tryz.sz8 b o n c p2 p3 (by have := HP2.out.1; omega) hpc
                  obtain ⟨o3, ho3⟩ : ∃ o3, o3 = slo o c p2 := ⟨_, rfl⟩
                  obtain ⟨c3, hc3⟩ : ∃ c3, c3 = c - p2 := ⟨_, rfl⟩
                  simp only [← ho3, ← hc3, show p3 - p2 = N2 from by have := HP2.out.1; omega] at s2
                  have hrk : In M (RB · (some ⟨b, o3, none⟩) dt) := HR.out.imp fun W h => by
                    have := slo_RB h (cap := c) (by rw [← HN.out.1]; exact HN.out.2) p2 N2
                    rw [HP2.out.2.2.1, ← hdt, ← ho3] at this
                    exact this
                  have HRK := Lib.hid hrk
                  have HDT := Lib.hid (And.intro hdt hdtl)
                  have hb0 : ∀ W : World, (Instr.buildSlice 30 0 #[]).run Tryz.prog W = .ok (.slice (some ⟨W.heap.size, 0, none⟩) 0 0) (W.alloc (.cells #[] 5)) := fun W => by go_simp
                  have HB0 := Lib.hid hb0
                  clear hpn3 hlt4 hdt hdtl hrd4 hdp3 hs3 hpc ho3 hc3 hrk hb0
                  go_upto_region 24 with fail
                  refine wp_region_lit ?_
                  refine wpList_bs0 (by rfl) 30 (by rfl) (HB0.out _) ?_
                  simp only [Act.put, List.setIfInBounds_toArray, List.set_cons_zero, List.set_cons_succ]
                  have H6 := H5.lit00 5 1
                  iterate 6 (refine wpList_ex (v := ?_) (by rfl) ?_ ?_; rotate_left; (focus (go_simp; with_reducible rfl)); simp only [Act.put, List.setIfInBounds_toArray, List.set_cons_zero, List.set_cons_succ])
                  refine wpList_append_st H6 (by rfl) (.tmp 93) (.tmp 99) 30 (by rfl) Tryz.info5 Tryz.underlying30 (by rfl) (some ⟨b, o3, none⟩) N2 c3 dt (by rfl) HDT.out.2.symm (by rintro ⟨⟩) ((HRK.out.le HM.out).now H6) (by omega) ?_
                  intro v5 w5 H7
                  rw [Nat.zero_add, List.nil_append] at H7
                  obtain ⟨A5, c5, rfl, hc5, hA5⟩ := H7.shape' 0 rfl
                  obtain ⟨M3, hM3, H8, hin3⟩ := H7.keepRow
                  have HIN3 := Lib.hid (And.intro hin3 (And.intro hM3 (And.intro hc5 hA5)))
                  have z2 := H8.frozen 0 rfl 2
                  have y2 := H8.cell 0 rfl 2
                  simp only [List.getElem?_cons_succ, List.getElem?_cons_zero] at y2
                  have H9 := H8.set 2 (.slice A5 N2 c5)
                  simp only [List.set_cons_succ, List.set_cons_zero] at H9
                  clear H5 H6 H7 hin3 hM3 hc5 hA5
                  simp only [Act.put, List.setIfInBounds_toArray, List.set_cons_zero, List.set_cons_succ]
                  go_upto_region 26 with fail
                  clear s2 H8
                  generalize World.setCell _ _ _ = w4 at *
                  refine wp_region_lit ?_
                  (refine wpList_ex (v := ?_) (by rfl) ?_ ?_; rotate_left; (focus (go_simp; with_reducible rfl)); simp only [Act.put, List.setIfInBounds_toArray, List.set_cons_zero, List.set_cons_succ])
                  refine wpList_load_mid (by rfl) 75 (.tmp 7) (by rfl) g 0 (by rfl) [.string (str key), .bool true, .slice A5 N2 c5] _ ((H9.blk 0 rfl).range 0 3 _ rfl) Tryz.underlying75 rfl (by exact Tryz.sizeAct) ?_
                  simp only [Act.put, List.setIfInBounds_toArray, List.set_cons_zero, List.set_cons_succ]
                  have hbs := run_buildSlice_one (P := Tryz.prog) (n := 3) Tryz.underlying42 Tryz.zeroAct rfl (by decide) (by decide) (.agg #[.string (str key), .bool true, .slice A5 N2 c5]) rfl w4
                  have H10 := H9.alloc (.cells #[.string (str key), .bool true, .slice A5 N2 c5] 75)
                  have hra : RA (w4.alloc (.cells #[.string (str key), .bool true, .slice A5 N2 c5] 75)) (some ⟨w4.heap.size, 0, none⟩) (ac ⟨key, true, ⟨A5, N2, c5, dt⟩⟩) := fun _ => ⟨_, 0, rfl, (Blk.new w4 75 [.string (str key), .bool true, .slice A5 N2 c5]).lt, (Blk.new w4 75 [.string (str key), .bool true, .slice A5 N2 c5]).range 0 3 _ rfl⟩
                  refine wpList_bs1 (by rfl) 42 (.tmp 106) (by rfl) (by rfl) hbs ?_
                  simp only [Act.put, List.setIfInBounds_toArray, List.set_cons_zero, List.set_cons_succ]
                  refine wpList_append_any_st H10.f1 (by rfl) (.tmp 105) (.tmp 107) 42 (by rfl) Tryz.infoAct (by rfl) (by decide) Tryz.underlying42 (by rfl) (some ⟨w4.heap.size, 0, none⟩) 1 1 (ac ⟨key, true, ⟨A5, N2, c5, dt⟩⟩) (by rfl) rfl (by rintro ⟨⟩) hra (ac_one _) (by omega) (by omega) ?_
                  intro v9 w9 H11
                  clear hbs hra H9 H10
                  simp only [Act.put, List.setIfInBounds_toArray, List.set_cons_zero, List.set_cons_succ]
                  (refine wpList_ex (v := ?_) (by rfl) ?_ ?_; rotate_left; (focus (go_simp; with_reducible rfl)); simp only [Act.put, List.setIfInBounds_toArray, List.set_cons_zero, List.set_cons_succ])
                  refine wpList_nil ?_
                  have he : acs ps ++ ac ⟨key, true, ⟨A5, N2, c5, dt⟩⟩ = acs (ps ++ [⟨key, true, ⟨A5, N2, c5, dt⟩⟩]) := by rw [acs_append]; simp [acs]
                  rw [he] at H11
                  go_wp2
                  exact ⟨⟨k + 1, ps ++ [⟨key, true, ⟨A5, N2, c5, dt⟩⟩], p3, M3, by have := HLT.out; omega, by go_num, rfl, HPN3.out, HM.out.trans HIN3.out.2.1, (HH.out.1.le HIN3.out.2.1).snoc ⟨HDT.out.2.symm, HIN3.out.2.2.2, HIN3.out.2.2.1⟩ HIN3.out.1, by rw [List.length_append, HH.out.2.1]; rfl, by intro q hq; rcases List.mem_append.1 hq with hq | hq; exact HH.out.2.2 q hq; simp only [List.mem_singleton] at hq; subst hq; exact ⟨by have := HKL.out; show key.length ≤ _; omega, by have := HDT.out.2; show dt.length ≤ _; omega⟩, by rw [List.map_append]; exact HS3.out, H11.d1⟩, by have := HLT.out; simp [intOf]; omega⟩
      · obtain rfl : k = cnt := by omega
        have hend := HDE.out _ _ (Kv.sofarL_end (by rw [Nat.sub_self] at hso; exact hso))
        have HEND := Lib.hid hend
        have hck := fun W (HW : St w0 W M' (er 75 3 (.slice A4 k c4) k (acs ps) :: L)) => rcheck_any (c := c4) HW HH.out.2.1.symm (SrA.row 0 rfl) (fun a ha => (HH.out.1 a ha).1.1) (by omega) (fun p hp => ⟨by have := (HH.out.2.2 p hp).1; omega, by have := (HH.out.2.2 p hp).2; omega⟩)
        obtain ⟨E, hE⟩ : ∃ E, E = Kv.check (ps.map Ac.act) := ⟨_, rfl⟩
        rw [← hE] at hck
        have HCK := Lib.hid hck
        have HEE := Lib.hid hE
        clear hck hend hso hE
        go_upto_region 27 with fail
        clear c0
        refine Pt.wp_plan (fun w' => St w0 w' M' (er 75 3 (.slice A4 k c4) k (acs ps) :: L)) (Pt.prs [0] (.go 1 (Pt.prs [2, 3, 4, 7] (Pt.rds [8] (.go 5 (Pt.rds [6] (Pt.prs [9, 10] .fin))))))) [] Tryz.mixed (by kernel_rfl) (fun _ _ d _ _ h => by cases d <;> exact h) H2.drew ?_
        have H3 := H2.drew
        clear H2
        simp only [Pt.toL, Pt.rds, Pt.prs, Pt.at_, List.drop_succ_cons, List.drop_zero]
        (refine Pt.pr_run (v := ?_) (by rfl) ?_ ?_; rotate_left; (focus (intro w'; go_simp; with_reducible rfl)); simp only [Act.put, List.setIfInBounds_toArray, List.set_cons_zero, List.set_cons_succ])
        have hckw := HCK.out _ H3
        have HCW := Lib.hid hckw
        clear hckw
        by_cases hE0 : E = 0
        · have HE0 := Lib.hid (HEE.out.symm.trans hE0)
          subst hE0
          have hz := Kv.check_zero HE0.out
          have hsz : ∀ p ∈ ps, p.key.length ≤ 1024 ∧ p.p.l.length ≤ 60000 := fun p hp => by
            have h1 : Kv.long p.act = false := by
              cases h : Kv.long p.act with
              | false => rfl
              | true => have h2 := hz.2.2.1; rw [List.any_eq_true.2 ⟨p.act, List.mem_map.2 ⟨p, hp, rfl⟩, h⟩] at h2; cases h2
            unfold Kv.long at h1
            simp only [Bool.or_eq_false_iff, decide_eq_false_iff_not] at h1
            exact ⟨Nat.le_of_not_lt h1.1, Nat.le_of_not_lt h1.2⟩
          have hby := rbytes_any (c := c4) H3 HH.out.2.1.symm (SrA.row 0 rfl) HH.out.1 (by omega) hsz
          obtain ⟨X, hX⟩ : ∃ X, X = Kv.bytes (ps.map Ac.act) := ⟨_, rfl⟩
          have hend := HEND.out
          rw [← hX] at hby hend
          have HEND2 := Lib.hid hend
          have HBY := Lib.hid hby
          clear hby hend hX hsz hz HEND
          refine Pt.run_go ?_
          go_wp2_with fail
          refine HCW.out.mono ?_
          rintro e w5 ⟨rfl, rfl⟩
          go_wp2_with fail
          refine Pt.same H3 ?_
          iterate 4 (refine Pt.pr_run (v := ?_) (by rfl) ?_ ?_; rotate_left; (focus (intro w'; go_simp; with_reducible rfl)); simp only [Act.put, List.setIfInBounds_toArray, List.set_cons_zero, List.set_cons_succ])
          (refine Pt.rd_run (v := ?_) (by rfl) ?_ ?_; rotate_left; (focus (intro w' hS; have cv := conv_RB (P := Tryz.prog) (src := 30) (dst := 9) (c := c) Tryz.underlying30 Tryz.underlying5 Tryz.underlying9 ((HR.out.le HM.out).now hS) HN.out.1; go_simp; with_reducible rfl)); simp only [Act.put, List.setIfInBounds_toArray, List.set_cons_zero, List.set_cons_succ])
          refine Pt.run_go ?_
          go_wp2_with fail
          refine HBY.out.mono ?_
          rintro e w6 ⟨A6, c6, M6, rfl, -, -, hM6, hin6, H4⟩
          have HIN6 := Lib.hid hin6
          have HM6 := Lib.hid hM6
          clear hin6 hM6
          go_wp2_with fail
          refine ⟨fun w' => St w0 w' M6 (er 75 3 (.slice A4 k c4) k (acs ps) :: L), fun x h => h.weak H3 HM6.out, H4, ?_⟩
          (refine Pt.rd_run (v := ?_) (by rfl) ?_ ?_; rotate_left; (focus (intro w' hS; have cv := conv_RB (P := Tryz.prog) (src := 30) (dst := 9) (c := c6) Tryz.underlying30 Tryz.underlying5 Tryz.underlying9 (HIN6.out.now hS) rfl; go_simp; with_reducible rfl)); simp only [Act.put, List.setIfInBounds_toArray, List.set_cons_zero, List.set_cons_succ])
          by_cases hXr : X = r
          · have hyes := HEND2.out
            rw [if_pos ⟨HE0.out, hXr⟩] at hyes
            have HYES := Lib.hid hyes
            have HPL := Lib.hid HH.out.2.1
            subst hXr
            clear hyes
            iterate 2 (refine Pt.pr_run (v := ?_) (by rfl) ?_ ?_; rotate_left; (focus (intro w'; go_simp; with_reducible rfl)); simp only [Act.put, List.setIfInBounds_toArray, List.set_cons_zero, List.set_cons_succ])
            refine Pt.run_fin ?_
            go_wp2
            go_ret2
            exact .inr ⟨ps, HYES.out, _, rfl, M6, HM.out.trans HM6.out, HH.out.1.le HM6.out, by rw [HPL.out]; exact H4⟩
          · have hno := HEND2.out
            rw [if_neg (fun h => hXr h.2)] at hno
            have HNO := Lib.hid hno
            have HZ := H4.d0.weak H (HM.out.trans HM6.out)
            have b1 : (X == r) = false := by rw [beq_eq_false_iff_ne]; exact hXr
            have b2 : (X != r) = true := by rw [bne, b1]; rfl
            clear hno hXr
            iterate 2 (refine Pt.pr_run (v := ?_) (by rfl) ?_ ?_; rotate_left; (focus (intro w'; go_simp; with_reducible rfl)); simp only [Act.put, List.setIfInBounds_toArray, List.set_cons_zero, List.set_cons_succ])
            refine Pt.run_fin ?_
            clear H3
            go_wp2
            go_ret2
            exact .inl ⟨HNO.out, rfl, HZ⟩
        · have b1 : (E == 0) = false := by rw [beq_eq_false_iff_ne]; exact hE0
          have b2 : (E != 0) = true := by rw [bne, b1]; rfl
          have hno := HEND.out
          rw [if_neg (fun h => hE0 (HEE.out.trans h.1))] at hno
          have HNO := Lib.hid hno
          have HZ := H3.d0.weak H HM.out
          clear hno hE0
          refine Pt.run_go ?_
          go_wp2_with fail
          refine HCW.out.mono ?_
          rintro e w5 ⟨rfl, rfl⟩
          go_wp2_with fail
          refine Pt.same H3 ?_
          iterate 2 (refine Pt.pr_run (v := ?_) (by rfl) ?_ ?_; rotate_left; (focus (intro w'; go_simp; with_reducible rfl)); simp only [Act.put, List.setIfInBounds_toArray, List.set_cons_zero, List.set_cons_succ])
          iterate 2 (refine Pt.pr_skip (by rfl) ?_; simp only [Act.put, List.setIfInBounds_toArray, List.set_cons_zero, List.set_cons_succ])
          (refine Pt.rd_skip (by rfl) ?_; simp only [Act.put, List.setIfInBounds_toArray, List.set_cons_zero, List.set_cons_succ])
          refine Pt.run_go ?_
          go_wp2_with fail
          refine Pt.same H3 ?_
          (refine Pt.rd_skip (by rfl) ?_; simp only [Act.put, List.setIfInBounds_toArray, List.set_cons_zero, List.set_cons_succ])
          (refine Pt.pr_skip (by rfl) ?_; simp only [Act.put, List.setIfInBounds_toArray, List.set_cons_zero, List.set_cons_succ])
          (refine Pt.pr_run (v := ?_) (by rfl) ?_ ?_; rotate_left; (focus (intro w'; go_simp; with_reducible rfl)); simp only [Act.put, List.setIfInBounds_toArray, List.set_cons_zero, List.set_cons_succ])
          refine Pt.run_fin ?_
          go_wp2
          go_ret2
          exact .inl ⟨HNO.out, rfl, HZ⟩
end
end Go.Proofs.YtepgmebklhemgaaGreatDoor
