/- The reference's Check and Encode (layer 19). -/
import Derived.Test.YtbmiifglpjeegaaDoorJn
set_option linter.unusedVariables false
set_option linter.unusedSimpArgs false
namespace Go.Proofs.YtbmiifglpjeegaaDoor
open Go.RowKit Wd
section
variable {w0 w : World} {M : Mem} {L : List Ent}
theorem Tu.enc_pre (l : List Tu.Part) (k : Nat) : (Tu.enc (l.take k)).length ≤ (Tu.enc l).length := by
  have h : Tu.enc l = Tu.enc (l.take k) ++ Tu.enc (l.drop k) := by rw [← Tu.enc_append, List.take_append_drop]
  rw [h, List.length_append]
  omega
theorem Tame.enc {l : List Tu.Part} (h : Tame l) : (Tu.enc l).length ≤ 100000000000 := by
  have h1 := Tu.enc_len l 100000 h.2
  have h2 : l.length * (2 * 100000 + 9) ≤ 100000 * (2 * 100000 + 9) := Nat.mul_le_mul_right _ h.1
  omega
set_option maxRecDepth 100000 in
set_option maxHeartbeats 1000000 in
theorem rencode_any (H : St w0 w M L) {A : Option Addr} {c n : Nat} {l : List Tu.Part} (hn : n = l.length) (hl : SrA w0 M L A (pcs l)) (ht : Tame l) :
    Calls Tryd.prog 15 #[.slice A n c] w fun e w' => e = .returned (.string (str (Tu.enc l))) ∧ St w0 w' M L := by
  have hn2 : n ≤ 100000 := by rw [hn]; exact ht.1
  have HE := Lib.hid ht.enc
  have HN := Lib.hid hn
  have HT := Lib.hid ht
  have H0 := H.lit0 5
  clear hn ht
  go_enter Tryd.func15, Tryd.ntmps15
  go_wp2
  go_loopw [3, 4] (fun v i wr => ∃ (k : Nat) (X : List UInt8), k ≤ n ∧ i = .int .i64 k ∧ X = Tu.enc (l.take k) ∧ St w0 wr M (er 5 1 v X.length (bv X) :: L)) (fun _ i _ => n - (intOf i).toNat)
  case atStart => exact ⟨0, [], by omega, rfl, rfl, H0⟩
  case round =>
    obtain ⟨k, X, hk, rfl, hX, H1⟩ := hrel
    clear H0 H
    have hXl : X.length ≤ 100000000000 := by rw [hX]; exact Nat.le_trans (Tu.enc_pre l k) HE.out
    have HX := Lib.hid hX
    clear hX
    obtain ⟨A1, c1, rfl, hc1⟩ := H1.shape 0 rfl
    by_cases hlt : k < n
    · have hk1 : k < l.length := by have := HN.out; omega
      obtain ⟨b, o, rfl, hrg⟩ := RA.at3 (hl.now H1.d0) k hk1
      have hta := Tu.enc_take l k hk1
      have hpt := HT.out.2 l[k] (List.getElem_mem hk1)
      obtain ⟨p, hp⟩ : ∃ p, p = l[k] := ⟨_, rfl⟩
      rw [← hp] at hrg hta hpt
      rw [← HX.out] at hta
      have hone := rone_any H1 p hpt.2 (by omega)
      have hol := Tu.one_len p hpt.2
      obtain ⟨Y, hY⟩ : ∃ Y, Y = Tu.one p := ⟨_, rfl⟩
      rw [← hY] at hone hta hol
      have hol2 : Y.length ≤ 300000 := by omega
      have HONE := Lib.hid hone
      have HTA := Lib.hid hta
      have HRG := Lib.hid hrg
      have HLT := Lib.hid hlt
      have q1 : (k : Int) < (n : Int) := by omega
      have q1n : k < n := hlt
      unfold pv at HONE
      clear hone hta hpt hrg hp hk1 hlt hY hol
      go_wp2_with (refine wpList_load_mid (by rfl) 42 (.tmp 15) (by rfl) b (o + k * 3) (by rfl) [.string (str p.text), .int .u64 (p.num : Int), .bool p.isText] _ HRG.out Tryd.underlying42 rfl (by exact Tryd.sizePart) ?_)
      go_wp2_with fail
      refine HONE.out.mono ?_
      rintro e w2 ⟨v2, rfl, H2⟩
      obtain ⟨A2, c2, rfl, hc2, hA2⟩ := H2.shape' 0 rfl
      have r2 := er_RB (H2.get 0 rfl)
      go_wp2_with (at_builtin; refine wpList_append_st H2.f1 (by rfl) (.tmp 12) (.tmp 17) 47 (by rfl) Tryd.info5 Tryd.underlying47 (by rfl) A2 Y.length c2 Y (by rfl) (by rfl) hA2 r2 (by omega) ?_)
      intro v3 w3 H3
      go_wp2
      refine ⟨⟨k + 1, X ++ Y, by have := HLT.out; omega, by go_num, HTA.out.symm, ?_⟩, by have := HLT.out; simp [intOf]; omega⟩
      rw [List.length_append, bv_append]
      exact H3.d1
    · obtain rfl : k = n := by omega
      have hXe : X = Tu.enc l := by rw [HX.out, HN.out, List.take_length]
      have HXE := Lib.hid hXe
      have cv := conv_RB (P := Tryd.prog) (src := 47) (dst := 9) (n := X.length) (c := c1) Tryd.underlying47 Tryd.underlying5 Tryd.underlying9 (er_RB (H1.get 0 rfl)) rfl
      clear hXe hlt
      go_wp2
      go_ret
      refine ⟨?_, H1.d0⟩
      rw [← HXE.out]
      rfl
set_option maxRecDepth 100000 in
set_option maxHeartbeats 2000000 in
theorem rcheck_any (H : St w0 w M L) {A : Option Addr} {c n : Nat} {l : List Tu.Part} (hn : n = l.length) (hl : SrA w0 M L A (pcs l)) (ht : Tame l) :
    Calls Tryd.prog 13 #[.slice A n c] w fun e w' => e = .returned (.int .i64 (Tu.check l : Int)) ∧ St w0 w' M L := by
  have hn2 : n ≤ 100000 := by rw [hn]; exact ht.1
  obtain ⟨C, hC⟩ : ∃ C, C = Tu.check l := ⟨_, rfl⟩
  have hC2 : C = if l.all Tu.may then (if 8 < l.length ∨ 1024 < (Tu.enc l).length then 3 else 0) else 1 := hC
  rw [← hC]
  have HC := Lib.hid hC2
  have HE := Lib.hid ht.enc
  have HN := Lib.hid hn
  have HT := Lib.hid ht
  clear hn ht hC hC2
  go_enter Tryd.func13, Tryd.ntmps13
  go_wp2
  go_loopw [3, 4] (fun x i wr => ∃ (k X : Nat), k ≤ n ∧ i = .int .i64 k ∧ x = .int .i64 X ∧ X = (Tu.enc (l.take k)).length ∧ (l.take k).all Tu.may = true ∧ St w0 wr M L) (fun _ i _ => n - (intOf i).toNat)
  case atStart => exact ⟨0, 0, by omega, rfl, rfl, rfl, rfl, H⟩
  case round =>
    obtain ⟨k, X, hk, rfl, rfl, hX, hall, H1⟩ := hrel
    clear H
    have hXl : X ≤ 100000000000 := by rw [hX]; exact Nat.le_trans (Tu.enc_pre l k) HE.out
    have HX := Lib.hid hX
    have HALL := Lib.hid hall
    clear hX hall
    by_cases hlt : k < n
    · have hk1 : k < l.length := by have := HN.out; omega
      obtain ⟨b, o, rfl, hrg⟩ := RA.at3 (hl.now H1) k hk1
      have hta := Tu.enc_take l k hk1
      have hta2 : l.take (k + 1) = l.take k ++ [l[k]] := List.take_succ_eq_append_getElem hk1
      have hpt := HT.out.2 l[k] (List.getElem_mem hk1)
      have hra : l.all Tu.may = true → Tu.may l[k] = true := fun h => List.all_eq_true.1 h _ (List.getElem_mem hk1)
      obtain ⟨p, hp⟩ : ∃ p, p = l[k] := ⟨_, rfl⟩
      rw [← hp] at hrg hta hta2 hpt hra
      have hone := rone_any H1 p hpt.2 (by omega)
      have hol := Tu.one_len p hpt.2
      have hXY : (Tu.enc (l.take (k + 1))).length = X + (Tu.one p).length := by rw [hta, List.length_append, HX.out]
      have c0 := hrg 0 (.string (str p.text)) rfl
      have c1 := hrg 1 (.int .u64 (p.num : Int)) rfl
      have c2 := hrg 2 (.bool p.isText) rfl
      rw [Nat.add_zero] at c0
      obtain ⟨s, m, t⟩ := p
      simp only at c0 c1 c2 hpt
      obtain ⟨Y, hY⟩ : ∃ Y, Y = (Tu.one ⟨s, m, t⟩).length := ⟨_, rfl⟩
      rw [← hY] at hone hXY hol
      have hol2 : Y ≤ 300000 := by have := hpt.1; simp only at hol; omega
      have hbad : Tu.may ⟨s, m, t⟩ = false → C = 1 := fun h => by
        rw [HC.out]
        cases h4 : l.all Tu.may with
        | false => rfl
        | true => have := hra h4; rw [h] at this; cases this
      have hgood : Tu.may ⟨s, m, t⟩ = true → (l.take (k + 1)).all Tu.may = true := fun h => by rw [hta2, List.all_append, HALL.out]; simp [h]
      unfold pv at hone
      have HONE := Lib.hid hone
      have HXY := Lib.hid hXY
      have HRG := Lib.hid hrg
      have HLT := Lib.hid hlt
      have HB := Lib.hid hbad
      have HG := Lib.hid hgood
      have q1 : (k : Int) < (n : Int) := by omega
      have q1n : k < n := hlt
      clear hone hta hta2 hpt hrg hp hk1 hlt hY hol hra hbad hgood hXY
      have good : Tu.may ⟨s, m, t⟩ = true → True := fun _ => trivial
      clear good
      cases t with
      | true =>
        by_cases hm : m = 0
        · have h3 := HG.out (by simp [Tu.may, hm])
          have H3 := Lib.hid h3
          subst hm
          clear h3
          go_wp2_with (refine wpList_load_mid (by rfl) 42 (.tmp 43) (by rfl) b (o + k * 3) (by rfl) [.string (str s), .int .u64 0, .bool true] _ HRG.out Tryd.underlying42 rfl (by exact Tryd.sizePart) ?_)
          go_wp2_with fail
          refine HONE.out.mono ?_
          rintro e w2 ⟨v2, rfl, H2⟩
          obtain ⟨A2, c2', rfl, hc2, hA2⟩ := H2.shape' 0 rfl
          go_wp2
          exact ⟨⟨k + 1, X + Y, by have := HLT.out; omega, by go_num, by go_num, HXY.out.symm, H3.out, H2.d0⟩, by have := HLT.out; simp [intOf]; omega⟩
        · have h3 := HB.out (by simp [Tu.may, hm])
          have q : ((m : Int) != 0) = true := by simpa using hm
          subst h3
          clear hm
          go_wp2
          go_ret
          exact ⟨rfl, H1⟩
      | false =>
        cases s with
        | nil =>
          have h3 := HG.out (by simp [Tu.may])
          have H3 := Lib.hid h3
          clear h3
          go_wp2_with (refine wpList_load_mid (by rfl) 42 (.tmp 43) (by rfl) b (o + k * 3) (by rfl) [.string (str []), .int .u64 (m : Int), .bool false] _ HRG.out Tryd.underlying42 rfl (by exact Tryd.sizePart) ?_)
          go_wp2_with fail
          refine HONE.out.mono ?_
          rintro e w2 ⟨v2, rfl, H2⟩
          obtain ⟨A2, c2', rfl, hc2, hA2⟩ := H2.shape' 0 rfl
          go_wp2
          exact ⟨⟨k + 1, X + Y, by have := HLT.out; omega, by go_num, by go_num, HXY.out.symm, H3.out, H2.d0⟩, by have := HLT.out; simp [intOf]; omega⟩
        | cons x r =>
          have h3 := HB.out (by simp [Tu.may])
          subst h3
          go_wp2
          go_ret
          exact ⟨rfl, H1⟩
    · obtain rfl : k = n := by omega
      have htl : l.take k = l := by rw [HN.out, List.take_length]
      have h1 := HC.out
      have hX2 := HX.out
      have ha := HALL.out
      rw [htl] at hX2 ha
      rw [ha, ← hX2, ← HN.out] at h1
      simp only [if_true] at h1
      have hcase : ((8 < (k : Int)) ∧ C = 3) ∨ (¬ 8 < (k : Int) ∧ 1024 < (X : Int) ∧ C = 3) ∨ (¬ 8 < (k : Int) ∧ ¬ 1024 < (X : Int) ∧ C = 0) := by
        by_cases h8 : 8 < k
        · rw [if_pos (.inl h8)] at h1; exact .inl ⟨by omega, h1⟩
        · by_cases h10 : 1024 < X
          · rw [if_pos (.inr h10)] at h1; exact .inr (.inl ⟨by omega, by omega, h1⟩)
          · rw [if_neg (by omega)] at h1; exact .inr (.inr ⟨by omega, by omega, h1⟩)
      clear h1 hX2 ha htl hlt
      rcases hcase with ⟨h1, h2⟩ | ⟨h1, h2, h3⟩ | ⟨h1, h2, h3⟩
      · subst h2
        go_wp2
        go_ret
        exact ⟨rfl, H1⟩
      · subst h3
        go_wp2
        go_ret
        exact ⟨rfl, H1⟩
      · subst h3
        go_wp2
        go_ret
        exact ⟨rfl, H1⟩
end
end Go.Proofs.YtbmiifglpjeegaaDoor
