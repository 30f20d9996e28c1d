/- The law's own small question (layer 19); which parts are light. -/
import Derived.Test.YtbmiifglpjeegaaDoorJq
set_option linter.unusedVariables false
set_option linter.unusedSimpArgs false
namespace Go.Proofs.YtbmiifglpjeegaaDoor
open Go.RowKit Wd
def aw19 : List Tu.Part := [⟨[], 5, false⟩, ⟨[97], 0, true⟩]
theorem digs5 : Tu.digs 5 = [5] := by rw [Tu.digs_pos (by decide), show 5 / 256 = 0 from rfl, Tu.digs_zero]; rfl
theorem aw19_enc : Tu.enc aw19 = [17, 5, 32, 97, 0, 1] := by
  unfold aw19 Tu.enc Tu.one
  simp [digs5, Tu.esc]
theorem aw19_check : Tu.check aw19 = 0 := by
  unfold Tu.check
  rw [aw19_enc]
  decide
theorem aw19_key : Tu.Key [17, 5, 32, 97, 0, 1] aw19 := by
  refine ⟨fun p hp => ?_, by decide, aw19_enc⟩
  simp only [aw19, List.mem_cons, List.not_mem_nil, or_false] at hp
  rcases hp with rfl | rfl
  · exact ⟨by decide, by decide⟩
  · exact ⟨by decide, by decide⟩
theorem aw19_tame : Tame aw19 := by
  refine ⟨by decide, fun p hp => ?_⟩
  simp only [aw19, List.mem_cons, List.not_mem_nil, or_false] at hp
  rcases hp with rfl | rfl
  · exact ⟨by decide, by decide⟩
  · exact ⟨by decide, by decide⟩
section
variable {w0 w : World} {M : Mem} {L : List Ent}
set_option maxRecDepth 100000 in
set_option maxHeartbeats 1000000 in
theorem awake19_any (H : St w0 w M L) (hx : In M MaxI) : Calls Tryd.prog 7 #[] w fun e w' => e = .returned (.bool true) ∧ St w0 w' M L := by
  go_enter Tryd.func7, Tryd.ntmps7
  go_wp2_with fail
  refine (num_any H 5).mono ?_
  rintro e w1 ⟨rfl, H1⟩
  go_wp2_with fail
  refine (text_any H1 [97]).mono ?_
  rintro e w2 ⟨rfl, H2⟩
  unfold pv
  have H3 := H2.new (pcs aw19) 42
  have hs : SrA w0 M (eb w2.heap.size 42 (pcs aw19) :: L) (some ⟨w2.heap.size, 0, none⟩) (pcs aw19) := fun w' M' hM H => (H.blk 0 rfl).ra 0 6 _ rfl
  have henc := encode_any (c := 2) (n := 2) H3 hx rfl hs aw19_tame
  have hE : encS aw19 = [17, 5, 32, 97, 0, 1] := by unfold encS; rw [aw19_check, aw19_enc]; rfl
  rw [hE, aw19_check] at henc
  have HENC := Lib.hid henc
  clear henc hE
  go_wp2_with fail
  refine HENC.out.mono ?_
  rintro e w3 ⟨rfl, H4⟩
  have hdec := decode_any H4.d0 [17, 5, 32, 97, 0, 1] (by decide)
  have HDEC := Lib.hid hdec
  clear hdec H3 hs HENC
  go_wp2_with fail
  refine HDEC.out.mono ?_
  rintro e w4 (⟨l, v, hk, rfl, H5⟩ | ⟨hno, -, -⟩)
  · obtain rfl : l = aw19 := hk.one aw19_key
    change St w0 w4 M (er 42 3 v 2 (pcs aw19) :: L) at H5
    obtain ⟨A5, c5, rfl, hc5⟩ := H5.shape 0 rfl
    obtain ⟨b, o, rfl, hr0⟩ := RA.at3 (er_RA (H5.get 0 rfl)) 0 (by decide)
    obtain ⟨b', o', he, hr1⟩ := RA.at3 (er_RA (H5.get 0 rfl)) 1 (by decide)
    injection he with he
    injection he with h1 h2
    subst h1 h2
    have g1 : w4.cell? ⟨b, o + 1, none⟩ = some (.int .u64 5) := hr0 1 _ rfl
    have g3 : w4.cell? ⟨b, o + 3, none⟩ = some (.string ⟨#[97]⟩) := hr1 0 _ rfl
    clear hr0 hr1 hk
    go_wp2
    go_ret
    exact ⟨rfl, H5.d0⟩
  · exact absurd aw19_key (hno aw19)
/-- Light parts. -/
def RetLight (w0 : World) (M : Mem) (L : List Ent) (l : List Tu.Part) (e : Ending) (w' : World) : Prop := ∃ b, e = .returned (.bool b) ∧ (b = true → l.length ≤ 40 ∧ ∀ p ∈ l, p.text.length ≤ 3000) ∧ St w0 w' M L
set_option maxRecDepth 100000 in
set_option maxHeartbeats 1000000 in
theorem light_any (H : St w0 w M L) {A : Option Addr} {c n : Nat} {l : List Tu.Part} (hn : n = l.length) (hl : SrA w0 M L A (pcs l)) :
    Calls Tryd.prog 11 #[.slice A n c] w (RetLight w0 M L l) := by
  have HN := Lib.hid hn
  clear hn
  go_enter Tryd.func11, Tryd.ntmps11
  go_wp2
  go_loopw [3, 4] (fun x i wr => ∃ (k X : Nat), k ≤ n ∧ k ≤ 50 ∧ i = .int .i64 k ∧ x = .int .i64 X ∧ X ≤ k * 3000 ∧ (∀ p ∈ l.take k, p.text.length ≤ 3000) ∧ wr = w) (fun _ i _ => n - (intOf i).toNat)
  case atStart => exact ⟨0, 0, by omega, by omega, rfl, rfl, by omega, by simp, rfl⟩
  case round =>
    obtain ⟨k, X, hk, hk50, rfl, rfl, hX, hall, rfl⟩ := hrel
    have HALL := Lib.hid hall
    clear hall
    have hX2 : X ≤ 150000 := by omega
    by_cases hgo : k < n ∧ k < 50
    · obtain ⟨hlt, h50⟩ := hgo
      have hk1 : k < l.length := by have := HN.out; omega
      obtain ⟨b, o, rfl, hrg⟩ := RA.at3 (hl.now H) k hk1
      have hta : l.take (k + 1) = l.take k ++ [l[k]] := List.take_succ_eq_append_getElem hk1
      have hbad : 3000 < (l[k]).text.length → ∀ b : Bool, False = True → True := fun _ _ _ => trivial
      obtain ⟨p, hp⟩ : ∃ p, p = l[k] := ⟨_, rfl⟩
      rw [← hp] at hrg hta
      have g0 := hrg 0 (.string (str p.text)) rfl
      rw [Nat.add_zero] at g0
      have HTA := Lib.hid hta
      have HLT := Lib.hid hlt
      have q1 : (k : Int) < (n : Int) := by omega
      have q2 : (k : Int) < 50 := by omega
      have q1n : k < n := hlt
      obtain ⟨s, m, t⟩ := p
      simp only at g0
      clear hta hrg hp hk1 hlt hbad
      by_cases h3 : 3000 < s.length
      · have q3 : (3000 : Int) < (s.length : Int) := by omega
        clear h3
        go_wp2
        go_ret
        exact ⟨false, rfl, (fun h => by cases h), H⟩
      · have q3 : ¬ (3000 : Int) < (s.length : Int) := by omega
        have hs3 : s.length ≤ 3000 := by omega
        have hall : ∀ p ∈ l.take (k + 1), p.text.length ≤ 3000 := fun p hp => by
          rw [HTA.out] at hp
          rcases List.mem_append.1 hp with hp | hp
          · exact HALL.out p hp
          · simp only [List.mem_singleton] at hp
            subst hp
            exact hs3
        have HALL2 := Lib.hid hall
        clear h3 hall
        go_wp2
        refine ⟨⟨k + 1, X + s.length, by have := HLT.out; omega, by omega, by go_num, by go_num, by omega, HALL2.out, trivial⟩, by have := HLT.out; simp [intOf]; omega⟩
    · have hcase : ¬ (k : Int) < (n : Int) ∨ ((k : Int) < (n : Int) ∧ ¬ (k : Int) < 50) := by omega
      have hcase2 : ((n : Int) ≤ 40 ∧ (X : Int) ≤ 6000) ∨ ((n : Int) ≤ 40 ∧ ¬ (X : Int) ≤ 6000) ∨ ¬ (n : Int) ≤ 40 := by omega
      have hgood : n ≤ 40 → l.length ≤ 40 ∧ ∀ p ∈ l, p.text.length ≤ 3000 := fun h => by
        have hkn : k = n := by omega
        have h2 := HALL.out
        rw [hkn, HN.out, List.take_length] at h2
        exact ⟨by have := HN.out; omega, h2⟩
      have HG := Lib.hid hgood
      clear hgo hgood
      rcases hcase with z | ⟨z, z'⟩
      all_goals
        rcases hcase2 with ⟨y1, y2⟩ | ⟨y1, y2⟩ | y1
        all_goals
          go_wp2
          go_ret
          first
            | exact ⟨true, rfl, fun _ => HG.out (by omega), H⟩
            | exact ⟨false, rfl, (fun h => by cases h), H⟩
end
end Go.Proofs.YtbmiifglpjeegaaDoor
