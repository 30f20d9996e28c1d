/- The contracts of tuple.Encode, Check and Decode. -/
import Derived.Test.YtbmiifglpjeegaaDoorJj
set_option linter.unusedVariables false
set_option linter.unusedSimpArgs false
namespace Go.Proofs.YtbmiifglpjeegaaDoor
open Go.RowKit Wd
theorem Tu.enc_take (l : List Tu.Part) (k : Nat) (h : k < l.length) : Tu.enc (l.take (k + 1)) = Tu.enc (l.take k) ++ Tu.one l[k] := by
  rw [List.take_succ_eq_append_getElem h, Tu.enc_append]
  simp [Tu.enc]
theorem Tu.one_len (p : Tu.Part) (h : p.num < 18446744073709551616) : (Tu.one p).length ≤ 2 * p.text.length + 9 := by
  unfold Tu.one
  split
  · have := Tu.esc_len p.text
    simp
    omega
  · have := Tu.digs_len8 h
    simp
    omega
theorem Tu.enc_len (l : List Tu.Part) (B : Nat) (h : ∀ p ∈ l, p.text.length ≤ B ∧ p.num < 18446744073709551616) : (Tu.enc l).length ≤ l.length * (2 * B + 9) := by
  induction l with
  | nil => simp [Tu.enc]
  | cons p l ih =>
    rw [Tu.enc_cons, List.length_append, List.length_cons, Nat.add_mul, Nat.one_mul]
    have h1 := Tu.one_len p (h p (by simp)).2
    have h2 := (h p (by simp)).1
    have h3 := ih fun q hq => h q (by simp [hq])
    omega
/-- Parts that are not too great. -/
def Tame (l : List Tu.Part) : Prop := l.length ≤ 100000 ∧ ∀ p ∈ l, p.text.length ≤ 100000 ∧ p.num < 18446744073709551616
section
variable {w0 w : World} {M : Mem} {L : List Ent}
def encS (l : List Tu.Part) : List UInt8 := if Tu.check l = 0 then Tu.enc l else []
set_option maxRecDepth 100000 in
set_option maxHeartbeats 1000000 in
theorem encode_any (H : St w0 w M L) (hx : In M MaxI) {A : Option Addr} {c n : Nat} {l : List Tu.Part} (hn : n = l.length) (hl : SrA w0 M L A (pcs l)) (ht : Tame l) :
    Calls Tryd.prog 12 #[.slice A n c] w fun e w' => e = .returned (.tuple #[.string (str (encS l)), .int .i64 (Tu.check l : Int)]) ∧ St w0 w' M L := by
  have hn2 : n ≤ 100000 := by rw [hn]; exact ht.1
  have hct := contains_any 23 (enters_of Tryd.func23 (by kernel_rfl) rfl) (c := c) H hn hl (by omega) (fun p w H => notMay_any H p)
  obtain ⟨S, hS⟩ : ∃ S, S = encS l := ⟨_, rfl⟩
  obtain ⟨C, hC⟩ : ∃ C, C = Tu.check l := ⟨_, rfl⟩
  rw [← hS, ← hC]
  have hS2 : S = if C = 0 then Tu.enc l else [] := by rw [hS, hC]; rfl
  have hC2 : C = if l.all Tu.may then (if 8 < l.length ∨ 1024 < (Tu.enc l).length then 3 else 0) else 1 := hC
  have hbig := Tu.enc_len l 100000 ht.2
  obtain ⟨m, hm⟩ : ∃ m, m = l.all Tu.may := ⟨_, rfl⟩
  rw [← hm] at hC2 hct
  have HCT := Lib.hid hct
  have HN := Lib.hid hn
  have HT := Lib.hid ht
  clear hct hS hC ht hn
  cases m with
  | false =>
    simp only [Bool.false_eq_true, if_false] at hC2
    subst hC2
    simp only [Nat.one_ne_zero, if_false] at hS2
    subst hS2
    clear hm hbig
    go_enter Tryd.func12, Tryd.ntmps12
    go_wp2_with fail
    refine HCT.out.mono ?_
    rintro e w1 ⟨rfl, H1⟩
    simp only [Bool.not_false]
    go_wp2
    go_ret2
    exact ⟨rfl, H1⟩
  | true =>
    simp only [if_true] at hC2
    have HC := Lib.hid hC2
    have HS := Lib.hid hS2
    clear hC2 hS2 hm
    go_enter Tryd.func12, Tryd.ntmps12
    go_wp2_with fail
    refine HCT.out.mono ?_
    rintro e w1 ⟨rfl, H1⟩
    simp only [Bool.not_true]
    have HB := BB.new H1
    go_wp2
    generalize hxx : w1.alloc _ = x2 at *
    generalize hgg : w1.heap.size = B at *
    clear hxx hgg H1
    go_loopw [11] (fun i wr => ∃ k : Nat, k ≤ n ∧ i = .int .i64 k ∧ BB w0 wr M B (Tu.enc (l.take k)) L) (fun i _ => n - (intOf i).toNat)
    case atStart => exact ⟨0, by omega, rfl, HB⟩
    case round =>
      obtain ⟨k, hk, rfl, H3⟩ := hrel
      clear HB
      by_cases hlt : k < n
      · have hk1 : k < l.length := by have := HN.out; omega
        obtain ⟨b, o, rfl, hrg⟩ := RA.at3 (hl.now H3.rest) k hk1
        have hta := Tu.enc_take l k hk1
        have hpt := HT.out.2 l[k] (List.getElem_mem hk1)
        have hpre : (Tu.enc (l.take k)).length ≤ (Tu.enc l).length := by
          have h : Tu.enc l = Tu.enc (l.take k) ++ Tu.enc (l.drop k) := by rw [← Tu.enc_append, List.take_append_drop]
          rw [h, List.length_append]
          omega
        have hbl : (Tu.enc (l.take k)).length ≤ 100000000000 := by
          have := HT.out.1
          have h2 : l.length * (2 * 100000 + 9) ≤ 100000 * (2 * 100000 + 9) := Nat.mul_le_mul_right _ this
          omega
        obtain ⟨p, hp⟩ : ∃ p, p = l[k] := ⟨_, rfl⟩
        rw [← hp] at hrg hta hpt
        have hput := fun w (HB : BB w0 w M B (Tu.enc (l.take k)) L) => put_any HB hx p hpt.2 hbl (by omega)
        obtain ⟨X, hX⟩ : ∃ X, X = Tu.enc (l.take k) := ⟨_, rfl⟩
        rw [← hX] at hput hta H3
        have HPUT := Lib.hid hput
        have HTA := Lib.hid hta
        have HRG := Lib.hid hrg
        have HLT := Lib.hid hlt
        have q1 : (k : Int) < (n : Int) := by omega
        have q1n : k < n := hlt
        unfold pv at HPUT
        clear hput hta hpt hpre hbl hrg hp hk1 hlt hX
        go_wp2_with (refine wpList_load_mid (by rfl) 42 (.tmp 13) (by rfl) b (o + k * 3) (by rfl) [.string (str p.text), .int .u64 (p.num : Int), .bool p.isText] _ HRG.out Tryd.underlying42 rfl (by exact Tryd.sizePart) ?_)
        have H4 := H3.belowK ((Below.refl _ wr).alloc (Nat.le_refl _) (.cells #[.string (str p.text), .int .u64 (p.num : Int), .bool p.isText] 42))
        go_wp2_with fail
        refine (HPUT.out _ H4).mono ?_
        rintro e w4 ⟨rfl, H5⟩
        go_wp2
        exact ⟨⟨k + 1, by have := HLT.out; omega, by go_num, by rw [HTA.out]; exact H5⟩, by have := HLT.out; simp [intOf]; omega⟩
      · obtain rfl : k = n := by omega
        rw [show l.take k = l from by rw [HN.out, List.take_length]] at H3
        obtain ⟨E, hE⟩ : ∃ E, E = (Tu.enc l).length := ⟨_, rfl⟩
        have hlen := blen_any H3
        rw [← hE] at hlen hbig
        have HLEN := Lib.hid hlen
        have hcase : ((8 < (k : Int)) ∧ C = 3) ∨ (¬ 8 < (k : Int) ∧ 1024 < (E : Int) ∧ C = 3) ∨ (¬ 8 < (k : Int) ∧ ¬ 1024 < (E : Int) ∧ C = 0) := by
          have h1 := HC.out
          rw [← hE, ← HN.out] at h1
          by_cases h8 : 8 < k
          · rw [if_pos (.inl h8)] at h1; exact .inl ⟨by omega, h1⟩
          · by_cases h10 : 1024 < E
            · rw [if_pos (.inr h10)] at h1; exact .inr (.inl ⟨by omega, by omega, h1⟩)
            · rw [if_neg (by omega)] at h1; exact .inr (.inr ⟨by omega, by omega, h1⟩)
        have HS2 := HS.out
        clear hlen hE hlt
        rcases hcase with ⟨h1, h2⟩ | ⟨h1, h2, h3⟩ | ⟨h1, h2, h3⟩
        · subst h2
          simp only [Nat.succ_ne_zero, if_false] at HS2
          subst HS2
          go_wp2
          go_ret2
          exact ⟨rfl, H3.rest⟩
        · subst h3
          simp only [Nat.succ_ne_zero, if_false] at HS2
          subst HS2
          go_wp2_with fail
          refine HLEN.out.mono ?_
          rintro e w5 ⟨rfl, rfl⟩
          go_wp2
          go_ret2
          exact ⟨rfl, H3.rest⟩
        · subst h3
          simp only [if_true] at HS2
          have HS3 := Lib.hid HS2
          clear HS2
          go_wp2_with fail
          refine HLEN.out.mono ?_
          rintro e w5 ⟨rfl, rfl⟩
          go_wp2_with fail
          refine (bstr_any H3).mono ?_
          rintro e w6 ⟨rfl, H6⟩
          go_wp2
          go_ret2
          refine ⟨?_, H6⟩
          rw [HS3.out]
          rfl
theorem check_any (H : St w0 w M L) (hx : In M MaxI) {A : Option Addr} {c n : Nat} {l : List Tu.Part} (hn : n = l.length) (hl : SrA w0 M L A (pcs l)) (ht : Tame l) :
    Calls Tryd.prog 14 #[.slice A n c] w fun e w' => e = .returned (.int .i64 (Tu.check l : Int)) ∧ St w0 w' M L := by
  have he := encode_any (c := c) H hx hn hl ht
  obtain ⟨C, hC⟩ : ∃ C, C = Tu.check l := ⟨_, rfl⟩
  rw [← hC] at he ⊢
  have HE := Lib.hid he
  clear he hn hC
  go_enter Tryd.func14, Tryd.ntmps14
  go_wp2_with fail
  refine HE.out.mono ?_
  rintro e w1 ⟨rfl, H1⟩
  go_wp2
  go_ret
  exact ⟨rfl, H1⟩
end
end Go.Proofs.YtbmiifglpjeegaaDoor
