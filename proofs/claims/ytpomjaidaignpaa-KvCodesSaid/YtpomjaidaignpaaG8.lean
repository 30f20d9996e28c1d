/- The reference's Check. -/
import Derived.Test.YtpomjaidaignpaaC4
import Derived.Test.YtpomjaidaignpaaC0
set_option linter.unusedVariables false
set_option linter.unusedSimpArgs false
namespace Go.Proofs.Ytpomjaidaignpaa
open Go.RowKit Wd
theorem Kv.check_bad {l : List Kv.Act} (h : l.any Kv.bad = true) : Kv.check l = 1 := by unfold Kv.check; rw [if_pos h]
theorem Kv.check_end {l : List Kv.Act} (h : l.any Kv.bad = false) : Kv.check l = if decide (255 < l.length) || l.any Kv.long || decide (65535 < 1 + (Kv.all l).length) then 3 else 0 := by
  unfold Kv.check
  rw [if_neg (by simp [h])]
  have : (Kv.bytes l).length = 1 + (Kv.all l).length := by unfold Kv.bytes; rw [List.length_cons]; omega
  rw [this]
theorem Kv.any_snoc' {l : List Ac} {f : Kv.Act → Bool} {k : Nat} (hk : k < l.length) : ((l.take (k + 1)).map Ac.act).any f = (((l.take k).map Ac.act).any f || f l[k].act) := by
  rw [List.take_succ_eq_append_getElem hk, List.map_append, List.any_append]
  simp
section
variable {w0 w : World} {M : Mem} {L : List Ent}
set_option maxRecDepth 100000 in
set_option maxHeartbeats 4000000 in
theorem rcheck_any (H : St w0 w M L) {A : Option Addr} {c n : Nat} {l : List Ac} (hn : n = l.length) (hl : SrA w0 M L A (acs l)) (hi : ∀ a ∈ l, a.p.n = a.p.l.length) (hn2 : n ≤ 1000000) (hsz : ∀ a ∈ l, a.key.length ≤ 1000000 ∧ a.p.l.length ≤ 1000000) :
    Calls Try.prog 9 #[.slice A n c] w fun e w' => e = .returned (.int .i64 (Kv.check (l.map Ac.act))) ∧ w = w' := by
  have hml : (l.map Ac.act).length = n := by rw [List.length_map, hn]
  obtain ⟨R, hR⟩ : ∃ R, R = Kv.check (l.map Ac.act) := ⟨_, rfl⟩
  rw [← hR]
  have e1 := fun h => hR.trans (Kv.check_bad h)
  have e2 := fun h => hR.trans (Kv.check_end h)
  rw [hml] at e2
  have HE1 := Lib.hid e1
  have HE2 := Lib.hid e2
  have HN := Lib.hid hn
  have HI := Lib.hid hi
  have HSZ := Lib.hid hsz
  clear hR e1 e2 hn hi hml hsz
  obtain ⟨B0, hB0⟩ : ∃ B, B = decide (255 < n) := ⟨_, rfl⟩
  have f0 : decide ((255 : Int) < (n : Int)) = B0 := by rw [hB0]; rw [decide_eq_decide]; omega
  have HB0 := Lib.hid hB0
  clear hB0
  go_enter Try.func9, Try.ntmps9
  go_wp2
  go_loopw [3, 4, 5] (fun x g i wr => ∃ (k s : Nat), k ≤ n ∧ i = .int .i64 k ∧ x = .int .i64 s ∧ s = 1 + (Kv.all ((l.take k).map Ac.act)).length ∧ s ≤ 1 + k * 2000005 ∧ g = .bool (decide (255 < n) || ((l.take k).map Ac.act).any Kv.long) ∧ ((l.take k).map Ac.act).any Kv.bad = false ∧ wr = w) (fun _ _ i _ => n - (intOf i).toNat)
  case atStart => exact ⟨0, 1, by omega, rfl, rfl, rfl, by omega, by rw [HB0.out]; simp, by simp, rfl⟩
  case round =>
    obtain ⟨k, s, hk, rfl, rfl, hs, hsb, rfl, hbad, rfl⟩ := hrel
    have HS := Lib.hid (And.intro hs (And.intro hsb hbad))
    obtain ⟨G, hG⟩ : ∃ G, G = (decide (255 < n) || ((l.take k).map Ac.act).any Kv.long) := ⟨_, rfl⟩
    rw [← hG]
    clear hs hbad
    by_cases hlt : k < n
    · have hk1 : k < l.length := by have := HN.out; omega
      obtain ⟨b, o, rfl, hrg⟩ := RA.ac3 (hl.now H) k hk1
      have hbc := Kv.bad_cases l[k].key l[k].set l[k].p l[k].p.n (HI.out _ (List.getElem_mem hk1))
      have hz := HSZ.out _ (List.getElem_mem hk1)
      have hpn := HI.out _ (List.getElem_mem hk1)
      have hy := fun (h : Kv.bad (l[k]'hk1).act = true) => HE1.out (Kv.any_here hk1 h)
      have hs1 := Kv.any_snoc' (f := Kv.bad) hk1
      have hs2 := Kv.any_snoc' (f := Kv.long) hk1
      have hs3 := Kv.all_snoc hk1
      rw [HS.out.2.2, Bool.false_or] at hs1
      obtain ⟨p, hp⟩ : ∃ p, p = l[k] := ⟨_, rfl⟩
      rw [← hp] at hrg hbc hz hy hs1 hs2 hs3 hpn
      obtain ⟨key, set, ⟨PA, PN, PC, PL⟩⟩ := p
      unfold ac Pc.v at hrg
      simp only at hrg hbc hz hpn
      have c0 := hrg 0 _ rfl
      have c1 := hrg 1 _ rfl
      have c2 := hrg 2 _ rfl
      rw [Nat.add_zero] at c0
      have hol := Kv.one_len (Ac.act ⟨key, set, ⟨PA, PN, PC, PL⟩⟩)
      have hlg : Kv.long (Ac.act ⟨key, set, ⟨PA, PN, PC, PL⟩⟩) = (decide (1024 < key.length) || decide (60000 < PN)) := by rw [hpn]; rfl
      rw [hlg] at hs2
      obtain ⟨m, hm⟩ : ∃ m, m = key.length := ⟨_, rfl⟩
      have hSs : (str key).size = m := by rw [str_size, hm]
      have hs4 : 1 + (Kv.all ((l.take (k + 1)).map Ac.act)).length = s + 3 + m + (if set then 2 + PN else 0) := by
        rw [hs3, List.length_append, hol, HS.out.1]
        simp only [Ac.act, hpn, hm]
        cases set <;> simp <;> omega
      rw [← hm] at hs2 hz
      obtain ⟨S, hS⟩ : ∃ S, S = str key := ⟨_, rfl⟩
      rw [← hS] at hbc c0 hSs
      have hs5 : ((l.take (k + 1)).map Ac.act).any Kv.long = (((l.take k).map Ac.act).any Kv.long || (decide (1024 < m) || decide (60000 < PN))) := hs2
      have hg2 : (decide (255 < n) || ((l.take (k + 1)).map Ac.act).any Kv.long) = (G || (decide (1024 < m) || decide (60000 < PN))) := by rw [hs5, hG, Bool.or_assoc]
      have q1 : (k : Int) < (n : Int) := by omega
      have q1n : k < n := hlt
      have HG2 := Lib.hid hg2
      have HS1 := Lib.hid hs1
      have HS4 := Lib.hid hs4
      have HLT := Lib.hid hlt
      have HY := Lib.hid hy
      have HZ : PN ≤ 1000000 := by rw [hpn]; exact hz.2
      have hm6 : m ≤ 1000000 := hz.1
      have hs6 : s ≤ 3000000000000 := by have := HS.out.2.1; omega
      obtain ⟨s3, hs3e⟩ : ∃ x, x = s + 3 := ⟨_, rfl⟩
      obtain ⟨sm, hsme⟩ : ∃ x, x = s3 + m := ⟨_, rfl⟩
      obtain ⟨s2, hs2e⟩ : ∃ x, x = sm + 2 := ⟨_, rfl⟩
      obtain ⟨sn, hsne⟩ : ∃ x, x = s2 + PN := ⟨_, rfl⟩
      have t1 : (s : Int) + 3 = (s3 : Int) := by omega
      have t2 : (s3 : Int) + (m : Int) = (sm : Int) := by omega
      have t3 : (sm : Int) + 2 = (s2 : Int) := by omega
      have t4 : (s2 : Int) + (PN : Int) = (sn : Int) := by omega
      have hsn6 : sn ≤ 3000009000000 := by omega
      have hs26 : s2 ≤ 3000009000000 := by omega
      have hs36 : s3 ≤ 3000009000000 := by omega
      have hsm6 : sm ≤ 3000009000000 := by omega
      have hsE := And.intro (show sn = s + 3 + m + (2 + PN) by omega) (show sm = s + 3 + m + 0 by omega)
      have HSE := Lib.hid hsE
      clear hs3e hsme hs2e hsne hsE
      clear hp hrg hk1 hlt hs1 hs2 hs3 hs4 hs5 hg2 hpn hol hlg hm hS hz hG hy
      rcases hbc with ⟨hb, hbc⟩ | ⟨hb, ⟨x0, r0, hs⟩, hbc⟩
      · have hend := HY.out hb
        have HEND := Lib.hid hend
        clear hend
        rcases hbc with hs | ⟨⟨x0, r0, hs⟩, rfl, h0⟩
        · go_wp2
          go_ret
          exact ⟨by rw [HEND.out]; rfl, rfl⟩
        · have q2 : (0 : Int) < (PN : Int) := by omega
          go_wp2
          go_ret
          exact ⟨by rw [HEND.out]; rfl, rfl⟩
      · have hbad2 := HS1.out
        rw [hb] at hbad2
        have HBAD := Lib.hid hbad2
        clear hbad2 hb
        have hGc : G = true ∨ (G = false ∧ 1024 < m) ∨ (G = false ∧ ¬ 1024 < m ∧ 60000 < PN) ∨ (G = false ∧ ¬ 1024 < m ∧ ¬ 60000 < PN) := by
          cases G with
          | true => exact .inl rfl
          | false =>
            by_cases h1 : 1024 < m
            · exact .inr (.inl ⟨rfl, h1⟩)
            · by_cases h2 : 60000 < PN
              · exact .inr (.inr (.inl ⟨rfl, h1, h2⟩))
              · exact .inr (.inr (.inr ⟨rfl, h1, h2⟩))
        rcases hbc with rfl | ⟨rfl, h0⟩
        · have hS5 := HS4.out
          rw [if_pos rfl] at hS5
          have HS5 := Lib.hid hS5
          clear hS5
          rcases hGc with rfl | ⟨rfl, h1⟩ | ⟨rfl, h1, h2⟩ | ⟨rfl, h1, h2⟩
          · go_wp2
            exact ⟨⟨k + 1, sn, by have := HLT.out; omega, by go_num, rfl, by rw [HSE.out.1]; exact HS5.out.symm, by have := HS.out.2.1; have := HSE.out.1; omega, by rw [HG2.out]; rfl, HBAD.out, trivial⟩, by have := HLT.out; simp [intOf]; omega⟩
          · have q2 : (1024 : Int) < (m : Int) := by omega
            have HD := Lib.hid (decide_eq_true h1)
            clear h1
            go_wp2
            exact ⟨⟨k + 1, sn, by have := HLT.out; omega, by go_num, rfl, by rw [HSE.out.1]; exact HS5.out.symm, by have := HS.out.2.1; have := HSE.out.1; omega, by rw [HG2.out, HD.out]; rfl, HBAD.out, trivial⟩, by have := HLT.out; simp [intOf]; omega⟩
          · have q2 : ¬ (1024 : Int) < (m : Int) := by omega
            have q3 : (60000 : Int) < (PN : Int) := by omega
            have HD := Lib.hid (And.intro (decide_eq_false h1) (decide_eq_true h2))
            clear h1 h2
            go_wp2
            exact ⟨⟨k + 1, sn, by have := HLT.out; omega, by go_num, rfl, by rw [HSE.out.1]; exact HS5.out.symm, by have := HS.out.2.1; have := HSE.out.1; omega, by rw [HG2.out, HD.out.1, HD.out.2]; rfl, HBAD.out, trivial⟩, by have := HLT.out; simp [intOf]; omega⟩
          · have q2 : ¬ (1024 : Int) < (m : Int) := by omega
            have q3 : ¬ (60000 : Int) < (PN : Int) := by omega
            have HD := Lib.hid (And.intro (decide_eq_false h1) (decide_eq_false h2))
            clear h1 h2
            go_wp2
            exact ⟨⟨k + 1, sn, by have := HLT.out; omega, by go_num, rfl, by rw [HSE.out.1]; exact HS5.out.symm, by have := HS.out.2.1; have := HSE.out.1; omega, by rw [HG2.out, HD.out.1, HD.out.2]; rfl, HBAD.out, trivial⟩, by have := HLT.out; simp [intOf]; omega⟩
        · have hS5 := HS4.out
          rw [if_neg (by simp)] at hS5
          have HS5 := Lib.hid hS5
          have q4 : ¬ (0 : Int) < (PN : Int) := by omega
          have hG3 := HG2.out
          rw [decide_eq_false (show ¬ 60000 < PN by omega)] at hG3
          have HG3 := Lib.hid hG3
          clear hS5 h0 hG3
          have hGc : G = true ∨ (G = false ∧ 1024 < m) ∨ (G = false ∧ ¬ 1024 < m) := by
            cases G with
            | true => exact .inl rfl
            | false =>
              by_cases h1 : 1024 < m
              · exact .inr (.inl ⟨rfl, h1⟩)
              · exact .inr (.inr ⟨rfl, h1⟩)
          have q5 : ¬ (60000 : Int) < (PN : Int) := by omega
          rcases hGc with rfl | ⟨rfl, h1⟩ | ⟨rfl, h1⟩
          · go_wp2
            exact ⟨⟨k + 1, sm, by have := HLT.out; omega, by go_num, rfl, by rw [HSE.out.2]; exact HS5.out.symm, by have := HS.out.2.1; have := HSE.out.2; omega, by rw [HG3.out]; rfl, HBAD.out, trivial⟩, by have := HLT.out; simp [intOf]; omega⟩
          · have q2 : (1024 : Int) < (m : Int) := by omega
            have HD := Lib.hid (decide_eq_true h1)
            clear h1
            go_wp2
            exact ⟨⟨k + 1, sm, by have := HLT.out; omega, by go_num, rfl, by rw [HSE.out.2]; exact HS5.out.symm, by have := HS.out.2.1; have := HSE.out.2; omega, by rw [HG3.out, HD.out]; rfl, HBAD.out, trivial⟩, by have := HLT.out; simp [intOf]; omega⟩
          · have q2 : ¬ (1024 : Int) < (m : Int) := by omega
            have HD := Lib.hid (decide_eq_false h1)
            clear h1
            go_wp2
            exact ⟨⟨k + 1, sm, by have := HLT.out; omega, by go_num, rfl, by rw [HSE.out.2]; exact HS5.out.symm, by have := HS.out.2.1; have := HSE.out.2; omega, by rw [HG3.out, HD.out]; rfl, HBAD.out, trivial⟩, by have := HLT.out; simp [intOf]; omega⟩
    · obtain rfl : k = n := by omega
      have htk : l.take k = l := by rw [HN.out, List.take_length]
      have hend := HE2.out (by rw [← htk]; exact HS.out.2.2)
      rw [htk] at hG
      have hs0 : s = 1 + (Kv.all (l.map Ac.act)).length := by have := HS.out.1; rw [htk] at this; exact this
      rw [← hs0, ← hG] at hend
      have HEND := Lib.hid hend
      clear hend hs0 hG htk hlt
      cases G with
      | true =>
        go_wp2
        go_ret
        exact ⟨by rw [HEND.out]; rfl, rfl⟩
      | false =>
        by_cases h1 : 65535 < s
        · have q1 : (65535 : Int) < (s : Int) := by omega
          have hend := HEND.out
          rw [decide_eq_true h1] at hend
          have HEND2 := Lib.hid hend
          clear h1 hend
          go_wp2
          go_ret
          exact ⟨by rw [HEND2.out]; rfl, rfl⟩
        · have q1 : ¬ (65535 : Int) < (s : Int) := by omega
          have hend := HEND.out
          rw [decide_eq_false h1] at hend
          have HEND2 := Lib.hid hend
          clear h1 hend
          go_wp2
          go_ret
          exact ⟨by rw [HEND2.out]; rfl, rfl⟩
end
end Go.Proofs.Ytpomjaidaignpaa
/- The reference's Bytes. -/
set_option linter.unusedVariables false
set_option linter.unusedSimpArgs false
namespace Go.Proofs.Ytpomjaidaignpaa
open Go.RowKit Wd
section
variable {w0 w : World} {M : Mem} {L : List Ent}
set_option maxRecDepth 100000 in
set_option maxHeartbeats 4000000 in
theorem rbytes_any (H : St w0 w M L) {A : Option Addr} {c n : Nat} {l : List Ac} (hn : n = l.length) (hl : SrA w0 M L A (acs l)) (hi : AcIn M l) (hn2 : n ≤ 255) (hsz : ∀ a ∈ l, a.key.length ≤ 1024 ∧ a.p.l.length ≤ 60000) :
    Calls Try.prog 11 #[.slice A n c] w (RetBytes w0 M L (Kv.bytes (l.map Ac.act)) fun v => .returned v) := by
  have hml : (l.map Ac.act).length = n := by rw [List.length_map, hn]
  obtain ⟨R, hR⟩ : ∃ R, R = Kv.bytes (l.map Ac.act) := ⟨_, rfl⟩
  rw [← hR]
  obtain ⟨h0, hh0⟩ : ∃ x, x = UInt8.ofNat n := ⟨_, rfl⟩
  have hR2 : R = h0 :: Kv.all (l.map Ac.act) := by rw [hR, hh0]; unfold Kv.bytes; rw [hml]
  have f1 : IntKind.u8.wrap (n : Int) = (n : Int) := by rw [IntKind.wrap_u8]; omega
  have hb0 : [Value.int .u8 (n : Int)] = bv [h0] := by
    rw [hh0]
    unfold bv
    simp only [List.map_cons, List.map_nil, UInt8.toNat_ofNat']
    rw [show n % 2 ^ 8 = n from by omega]
  have HB0 := Lib.hid hb0
  have HR := Lib.hid hR2
  have HN := Lib.hid hn
  have HI := Lib.hid hi
  have HSZ := Lib.hid hsz
  clear hR hR2 hb0 hh0 hml hn hi hsz
  go_enter Try.func11, Try.ntmps11
  go_wp2
  have H3 := H.lit [.int .u8 (n : Int)] 5 (by show 1 ≤ maxLen; decide)
  have H3 : St w0 (w.alloc (.cells #[.int .u8 (n : Int)] 5)) M (er 5 1 (.slice (some ⟨w.heap.size, 0, none⟩) 1 1) 1 (bv [h0]) :: L) := by rw [← HB0.out]; exact H3
  go_loopw [3, 4] (fun v i wr => ∃ (j m : Nat) (X : List UInt8), j ≤ n ∧ i = .int .i64 j ∧ X = h0 :: Kv.all ((l.take j).map Ac.act) ∧ X.length = m ∧ m ≤ 1 + j * 61029 ∧ St w0 wr M (er 5 1 v m (bv X) :: L)) (fun _ i _ => n - (intOf i).toNat)
  case atStart => exact ⟨0, 1, [h0], by omega, rfl, by simp [Kv.all], rfl, by omega, H3⟩
  case round =>
    obtain ⟨j, m, X, hj, rfl, hX, hXm, hm, H4⟩ := hrel
    clear H H3
    have HX := Lib.hid (And.intro hX (And.intro hXm hm))
    clear hX hXm hm
    obtain ⟨A4, c4, rfl, hc4⟩ := H4.shape 0 rfl
    by_cases hlt : j < n
    · have hk1 : j < l.length := by have := HN.out; omega
      obtain ⟨b, o, rfl, hrg⟩ := RA.ac3 (hl.now H4.d0) j hk1
      have hrl := SrA.ac3 hl j hk1
      have hsn := Kv.all_snoc hk1
      have hsz := HSZ.out l[j] (List.getElem_mem hk1)
      have hin := HI.out l[j] (List.getElem_mem hk1)
      obtain ⟨p, hp⟩ : ∃ p, p = l[j] := ⟨_, rfl⟩
      rw [← hp] at hrg hrl hsn hsz hin
      obtain ⟨key, set, ⟨PA, PN, PC, PL⟩⟩ := p
      unfold ac Pc.v at hrg hrl
      simp only at hrg hrl hsz hin
      obtain ⟨⟨hPN, hPA, hPC⟩, hin⟩ := hin
      simp only at hPN hPA hPC hin
      obtain ⟨S, hS⟩ : ∃ S, S = str key := ⟨_, rfl⟩
      rw [← hS] at hrg hrl
      have hcl : ∀ W M' e, M.le M' → St w0 W M' (e :: L) → W.cell? ⟨b, o + j * 3, none⟩ = some (.string S) ∧ W.cell? ⟨b, o + j * 3 + 1, none⟩ = some (.bool set) ∧ W.cell? ⟨b, o + j * 3 + 2, none⟩ = some (.slice PA PN PC) := fun W M' e hM HW => by
        have h := hrl W M' hM HW.d0
        exact ⟨h 0 _ rfl, h 1 _ rfl, h 2 _ rfl⟩
      obtain ⟨r0, r1, r2⟩ := hcl _ _ _ (Mem.le.refl _) H4
      have HCL := Lib.hid hcl
      have HSN := Lib.hid hsn
      have HSZ1 := Lib.hid hsz
      have HPN := Lib.hid hPN
      have HIN := Lib.hid hin
      have HLT := Lib.hid hlt
      have HSE := Lib.hid hS
      have q1 : (j : Int) < (n : Int) := by omega
      have q1n : j < n := hlt
      clear hp hrg hrl hk1 hlt hsn hsz hPN hPA hPC hin hS hcl
      cases set with
      | true =>
        go_upto_region 6 with fail
        refine Pt.wp_plan (fun w' => w'.cell? ⟨b, o + j * 3, none⟩ = some (.string S)) (Pt.prs [0, 3, 4, 5, 6] (Pt.rds [7] (.go 1 (.go 2 (.go 8 (Pt.prs [9] .fin)))))) [] Try.mixed (by kernel_rfl) (fun _ _ d _ _ h => by cases d <;> exact h) r0 ?_
        have H6 := H4.drew
        clear r0 r1 r2 H4
        simp only [Pt.toL, Pt.rds, Pt.prs, Pt.at_, List.drop_succ_cons, List.drop_zero]
        iterate 5 (refine Pt.pr_run (v := ?_) (by rfl) ?_ ?_; rotate_left; (focus (intro w'; go_simp; with_reducible rfl)); simp only [Act.put, List.setIfInBounds_toArray, List.set_cons_zero, List.set_cons_succ])
        (refine Pt.rd_run (v := ?_) (by rfl) ?_ ?_; rotate_left; (focus (intro w' hS; obtain s0 := hS; go_simp; with_reducible rfl)); simp only [Act.put, List.setIfInBounds_toArray, List.set_cons_zero, List.set_cons_succ])
        generalize hwx : wr.drew = wx at *
        clear hwx
        have H7 := H6.alloc (.cells #[.int .u8 1] 5)
        have hnew : RB _ (some ⟨_, 0, none⟩) [1] := (Blk.new wx 5 [.int .u8 1]).RB (o := 0) rfl
        refine Pt.run_go ?_
        go_wp2_with fail
        refine Pt.same (HCL.out _ _ _ (Mem.le.refl _) H7).1 ?_
        refine Pt.run_go ?_
        refine wpList_append_st H7 (by rfl) (.tmp 20) (.tmp 21) 25 (by rfl) Try.info5 Try.underlying25 (by rfl) (some ⟨_, 0, none⟩) 1 1 [1] (by rfl) rfl (by rintro ⟨⟩) hnew (by have := HX.out.2.2; omega) ?_
        intro v5 w5 H8
        rw [← bv_append] at H8
        refine wpList_nil ?_
        simp only [Pl.Then, Act.put, List.setIfInBounds_toArray, List.set_cons_zero, List.set_cons_succ]
        refine Pt.same (HCL.out _ _ _ (Mem.le.refl _) H8).1 ?_
        clear H7 hnew H6
        have hp1 := rput20_any H8 key (by have := HSZ1.out.1; omega) (by have := HX.out.2.2; omega)
        rw [← HSE.out] at hp1
        have HP1 := Lib.hid hp1
        clear hp1
        obtain ⟨A8, c8, rfl, -⟩ := H8.shape 0 rfl
        refine Pt.run_go ?_
        go_wp2_with fail
        refine HP1.out.mono ?_
        rintro e w6 ⟨v6, rfl, H9⟩
        go_wp2_with fail
        refine Pt.same (HCL.out _ _ _ (Mem.le.refl _) H9).1 ?_
        (refine Pt.pr_run (v := ?_) (by rfl) ?_ ?_; rotate_left; (focus (intro w'; go_simp; with_reducible rfl)); simp only [Act.put, List.setIfInBounds_toArray, List.set_cons_zero, List.set_cons_succ])
        refine Pt.run_fin ?_
        clear HP1 H8
        obtain ⟨r0, r1, r2⟩ := HCL.out _ _ _ (Mem.le.refl _) H9
        have cv := conv_RB (P := Try.prog) (src := 25) (dst := 9) (c := PC) Try.underlying25 Try.underlying5 Try.underlying9 (HIN.out.now H9) HPN.out
        have hp1 := rput20_any H9 PL (by have := HSZ1.out.2; omega) (by have := HX.out.2.2; have := HSZ1.out.1; omega)
        have HP2 := Lib.hid hp1
        clear hp1
        obtain ⟨A9, c9, rfl, -⟩ := H9.shape 0 rfl
        go_wp2_with fail
        refine HP2.out.mono ?_
        rintro e w7 ⟨v7, rfl, H10⟩
        clear cv r0 r1 r2 H9 HP2
        go_wp2
        have hfin : X ++ [1] ++ (Kv.be2 key.length ++ key) ++ (Kv.be2 PL.length ++ PL) = h0 :: Kv.all ((l.take (j + 1)).map Ac.act) := by
          rw [HSN.out, HX.out.1]
          simp [Kv.one, Ac.act]
        have hlen : (h0 :: Kv.all ((l.take (j + 1)).map Ac.act)).length = m + 1 + (2 + key.length) + (2 + PL.length) := by
          rw [← hfin]
          simp [HX.out.2.1, Kv.be2]
          omega
        rw [hfin] at H10
        exact ⟨⟨j + 1, _, _, by have := HLT.out; omega, by go_num, rfl, hlen, by have := HX.out.2.2; have := HSZ1.out; omega, H10⟩, by have := HLT.out; simp [intOf]; omega⟩
      | false =>
        go_upto_region 8 with fail
        refine Pt.wp_plan (fun w' => w'.cell? ⟨b, o + j * 3, none⟩ = some (.string S)) (Pt.prs [0, 3, 4, 5, 6] (Pt.rds [7] (.go 1 (.go 2 (.go 8 (Pt.prs [9] .fin)))))) [] Try.mixed (by kernel_rfl) (fun _ _ d _ _ h => by cases d <;> exact h) r0 ?_
        have H6 := H4.drew
        clear r0 r1 r2 H4
        simp only [Pt.toL, Pt.rds, Pt.prs, Pt.at_, List.drop_succ_cons, List.drop_zero]
        iterate 5 (refine Pt.pr_run (v := ?_) (by rfl) ?_ ?_; rotate_left; (focus (intro w'; go_simp; with_reducible rfl)); simp only [Act.put, List.setIfInBounds_toArray, List.set_cons_zero, List.set_cons_succ])
        (refine Pt.rd_run (v := ?_) (by rfl) ?_ ?_; rotate_left; (focus (intro w' hS; obtain s0 := hS; go_simp; with_reducible rfl)); simp only [Act.put, List.setIfInBounds_toArray, List.set_cons_zero, List.set_cons_succ])
        generalize hwx : wr.drew = wx at *
        clear hwx
        have H7 := H6.alloc (.cells #[.int .u8 0] 5)
        have hnew : RB _ (some ⟨_, 0, none⟩) [0] := (Blk.new wx 5 [.int .u8 0]).RB (o := 0) rfl
        refine Pt.run_go ?_
        go_wp2_with fail
        refine Pt.same (HCL.out _ _ _ (Mem.le.refl _) H7).1 ?_
        refine Pt.run_go ?_
        refine wpList_append_st H7 (by rfl) (.tmp 37) (.tmp 38) 25 (by rfl) Try.info5 Try.underlying25 (by rfl) (some ⟨_, 0, none⟩) 1 1 [0] (by rfl) rfl (by rintro ⟨⟩) hnew (by have := HX.out.2.2; omega) ?_
        intro v5 w5 H8
        rw [← bv_append] at H8
        refine wpList_nil ?_
        simp only [Pl.Then, Act.put, List.setIfInBounds_toArray, List.set_cons_zero, List.set_cons_succ]
        refine Pt.same (HCL.out _ _ _ (Mem.le.refl _) H8).1 ?_
        clear H7 hnew H6
        have hp1 := rput20_any H8 key (by have := HSZ1.out.1; omega) (by have := HX.out.2.2; omega)
        rw [← HSE.out] at hp1
        have HP1 := Lib.hid hp1
        clear hp1
        obtain ⟨A8, c8, rfl, -⟩ := H8.shape 0 rfl
        refine Pt.run_go ?_
        go_wp2_with fail
        refine HP1.out.mono ?_
        rintro e w6 ⟨v6, rfl, H9⟩
        go_wp2_with fail
        refine Pt.same (HCL.out _ _ _ (Mem.le.refl _) H9).1 ?_
        (refine Pt.pr_run (v := ?_) (by rfl) ?_ ?_; rotate_left; (focus (intro w'; go_simp; with_reducible rfl)); simp only [Act.put, List.setIfInBounds_toArray, List.set_cons_zero, List.set_cons_succ])
        refine Pt.run_fin ?_
        clear HP1 H8
        go_wp2
        have hfin : X ++ [0] ++ (Kv.be2 key.length ++ key) = h0 :: Kv.all ((l.take (j + 1)).map Ac.act) := by
          rw [HSN.out, HX.out.1]
          simp [Kv.one, Ac.act]
        have hlen : (h0 :: Kv.all ((l.take (j + 1)).map Ac.act)).length = m + 1 + (2 + key.length) := by
          rw [← hfin]
          simp [HX.out.2.1, Kv.be2]
          omega
        rw [hfin] at H9
        exact ⟨⟨j + 1, _, _, by have := HLT.out; omega, by go_num, rfl, hlen, by have := HX.out.2.2; have := HSZ1.out; omega, H9⟩, by have := HLT.out; simp [intOf]; omega⟩
    · obtain rfl : j = n := by omega
      have hXe : X = R := by rw [HX.out.1, HN.out, List.take_length, HR.out]
      subst hXe
      obtain ⟨M', hM', H5, hin⟩ := H4.keepRow
      obtain ⟨_, _, hsh, _, hA4⟩ := H4.shape' 0 rfl
      have HMM := Lib.hid (And.intro hM' (And.intro hin (And.intro hsh hA4)))
      clear hM' hin hsh hA4
      go_wp2
      go_ret
      obtain ⟨g1, g2, g3, g4⟩ := HMM.out
      injection g3 with g5 _ g6
      subst g5 g6
      exact ⟨_, _, M', by show _ = Ending.returned (.slice _ X.length _); rw [HX.out.2.1]; rfl, by rw [HX.out.2.1]; exact hc4, g4, g1, g2, H5⟩
end
end Go.Proofs.Ytpomjaidaignpaa
