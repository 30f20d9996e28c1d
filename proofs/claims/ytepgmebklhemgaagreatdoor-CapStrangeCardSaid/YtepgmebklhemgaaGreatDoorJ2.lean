/- Parts in memory; the contracts of tuple's small functions. -/
import Derived.Test.YtepgmebklhemgaaGreatDoorJ1
import Derived.Test.YtepgmebklhemgaaGreatDoorA8
import Derived.Lib.Replace
import Derived.Lib.ItoaNum
import Derived.Test.YtepgmebklhemgaaGreatDoorLa1
import Derived.Lib.Bytealg
import Derived.Laws.DeepStrings4
set_option linter.unusedVariables false
set_option linter.unusedSimpArgs false
set_option maxRecDepth 100000
namespace Go.Proofs.YtepgmebklhemgaaGreatDoor.Tp
open Go.RowKit Wd
def pc (p : Tu.Part) : List Value := [.string (str p.text), .int .u64 (p.num : Int), .bool p.isText]
def pv (p : Tu.Part) : Value := .agg #[.string (str p.text), .int .u64 (p.num : Int), .bool p.isText]
def pcs (l : List Tu.Part) : List Value := l.flatMap pc
theorem pcs_length (l : List Tu.Part) : (pcs l).length = l.length * 3 := by
  induction l with
  | nil => rfl
  | cons a l ih => simp [pcs, pc] at ih ⊢; omega
theorem pcs_append (l m : List Tu.Part) : pcs (l ++ m) = pcs l ++ pcs m := by simp [pcs]
theorem pcs_at (l : List Tu.Part) (j : Nat) (hj : j < l.length) : ((pcs l).drop (j * 3)).take 3 = pc l[j] := by
  induction l generalizing j with
  | nil => simp at hj
  | cons a l ih =>
    have e1 : pcs (a :: l) = pc a ++ pcs l := rfl
    cases j with
    | zero => rw [e1]; rfl
    | succ j =>
      rw [e1, show (j + 1) * 3 = (pc a).length + j * 3 from by simp [pc]; omega, List.drop_append, Nat.add_sub_cancel_left, List.drop_eq_nil_of_le (by omega), List.nil_append]
      exact ih j (by simpa using hj)
theorem RA.at3 {w : World} {B : Option Addr} {l : List Tu.Part} (h : RA w B (pcs l)) (j : Nat) (hj : j < l.length) : ∃ b o, B = some ⟨b, o, none⟩ ∧ w.rangeAt b (o + j * 3) (pc l[j]) := by
  obtain ⟨b, o, rfl, _, hr⟩ := h (by intro h0; have := pcs_length l; rw [h0] at this; simp at this; omega)
  refine ⟨b, o, rfl, fun k v hk => ?_⟩
  rw [← pcs_at l j hj, List.getElem?_take] at hk
  split at hk
  · rw [List.getElem?_drop] at hk
    rw [Nat.add_assoc]
    exact hr _ v hk
  · cases hk
section
variable {w0 w : World} {M M' : Mem} {L : List Ent}
theorem Tryz.sizePart : (Tryz.prog.info? 79).map (·.size) = some 3 := by kernel_rfl
theorem Tryz.zeroPart : (Tryz.prog.info? 79).map (fun i => (i.zero, i.size)) = some (some (.agg #[.string .empty, .int .u64 0, .bool false]), 3) := by kernel_rfl
set_option maxRecDepth 100000 in
theorem num_any (H : St w0 w M L) (n : Nat) :
    Calls Tryz.prog 55 #[.int .u64 (n : Int)] w fun e w' => e = .returned (pv ⟨[], n, false⟩) ∧ St w0 w' M L := by
  go_enter Tryz.func55, Tryz.ntmps55
  go_wp2
  refine ret_row (H.new [.string .empty, .int .u64 (n : Int), .bool false] 79) (s := 2) rfl rfl Tryz.underlying79 rfl Tryz.sizePart rfl ?_
  exact ⟨rfl, (H.new _ _).d0⟩
set_option maxRecDepth 100000 in
theorem text_any (H : St w0 w M L) (l : List UInt8) :
    Calls Tryz.prog 137 #[.string (str l)] w fun e w' => e = .returned (pv ⟨l, 0, true⟩) ∧ St w0 w' M L := by
  go_enter Tryz.func137, Tryz.ntmps137
  go_wp2
  refine ret_row (H.new [.string (str l), .int .u64 0, .bool true] 79) (s := 2) rfl rfl Tryz.underlying79 rfl Tryz.sizePart rfl ?_
  exact ⟨rfl, (H.new _ _).d0⟩
set_option maxRecDepth 100000 in
theorem may_any (H : St w0 w M L) (p : Tu.Part) :
    Calls Tryz.prog 86 #[pv p] w fun e w' => e = .returned (.bool (Tu.may p)) ∧ St w0 w' M L := by
  obtain ⟨l, n, b⟩ := p
  obtain ⟨R, hR⟩ : ∃ R, R = Tu.may ⟨l, n, b⟩ := ⟨_, rfl⟩
  rw [← hR]
  unfold pv
  cases b with
  | true =>
    by_cases hn : n = 0
    · obtain rfl : R = true := by rw [hR]; simp [Tu.may, hn]
      subst hn
      clear hR
      go_enter Tryz.func86, Tryz.ntmps86
      go_wp2
      go_ret
      exact ⟨rfl, H.alloc _⟩
    · obtain rfl : R = false := by rw [hR]; simp [Tu.may, hn]
      have q : ((n : Int) == 0) = false := by simpa using hn
      clear hR hn
      go_enter Tryz.func86, Tryz.ntmps86
      go_wp2
      go_ret
      exact ⟨rfl, H.alloc _⟩
  | false =>
    cases l with
    | nil =>
      obtain rfl : R = true := by rw [hR]; simp [Tu.may]
      clear hR
      go_enter Tryz.func86, Tryz.ntmps86
      go_wp2
      go_ret
      exact ⟨rfl, H.alloc _⟩
    | cons c r =>
      obtain rfl : R = false := by rw [hR]; simp [Tu.may]
      clear hR
      go_enter Tryz.func86, Tryz.ntmps86
      go_wp2
      go_ret
      exact ⟨rfl, H.alloc _⟩
end
end Go.Proofs.YtepgmebklhemgaaGreatDoor.Tp
/- slices.ContainsFunc at parts. -/
set_option linter.unusedVariables false
set_option linter.unusedSimpArgs false
set_option maxRecDepth 100000
namespace Go.Proofs.YtepgmebklhemgaaGreatDoor.Tp
open Go.RowKit Wd
def RetIdx (w0 : World) (M : Mem) (L : List Ent) (b : Bool) (e : Ending) (w' : World) : Prop :=
  ∃ r : Int, e = .returned (.int .i64 r) ∧ ((b = true ∧ 0 ≤ r ∧ r ≤ 1000000) ∨ (b = false ∧ r = -1)) ∧ St w0 w' M L
section
variable {w0 w : World} {M : Mem} {L : List Ent}
theorem notMay_any (H : St w0 w M L) (p : Tu.Part) :
    Calls Tryz.prog 85 #[pv p] w fun e w' => e = .returned (.bool (!Tu.may p)) ∧ St w0 w' M L := by
  have hm := fun w (H : St w0 w M L) => may_any H p
  obtain ⟨R, hR⟩ : ∃ R, R = Tu.may p := ⟨_, rfl⟩
  rw [← hR] at hm ⊢
  clear hR
  have hm2 := hm _ (H.alloc (.cells #[.string (str p.text), .int .u64 (p.num : Int), .bool p.isText] 79))
  unfold pv at hm2 ⊢
  have HM := Lib.hid hm2
  clear hm hm2
  go_enter Tryz.func85, Tryz.ntmps85
  go_wp2_with fail
  refine HM.out.mono ?_
  rintro e w1 ⟨rfl, H1⟩
  go_wp2
  go_ret
  exact ⟨rfl, H1⟩
set_option maxRecDepth 100000 in
theorem idx_any (g : Nat) (eg : ∀ args w, (callFunc g args).run Tryz.prog w = .ok (.enter g args) w) (H : St w0 w M L) {A : Option Addr} {c n : Nat} {l : List Tu.Part} (hn : n = l.length) (hl : SrA w0 M L A (pcs l)) (hn2 : n ≤ 1000000)
    (hg : ∀ p w, St w0 w M L → Calls Tryz.prog g #[pv p] w fun e w' => e = .returned (.bool (!Tu.may p)) ∧ St w0 w' M L) :
    Calls Tryz.prog 113 #[.slice A n c, .func (.func g) #[] #[]] w (RetIdx w0 M L (!l.all Tu.may)) := by
  obtain ⟨R, hR⟩ : ∃ R, R = (!l.all Tu.may) := ⟨_, rfl⟩
  rw [← hR]
  have HR := Lib.hid hR
  have HN := Lib.hid hn
  have HG := Lib.hid hg
  clear hR hn hg
  go_enter Tryz.func113, Tryz.ntmps113
  go_wp2
  go_loopw [8] (fun i wr => ∃ k : Nat, k ≤ n ∧ i = .int .i64 k ∧ (l.take k).all Tu.may = true ∧ St w0 wr M L) (fun i _ => n - (intOf i).toNat)
  case atStart => exact ⟨0, by omega, rfl, rfl, H⟩
  case round =>
    obtain ⟨k, hk, rfl, hsofar, H1⟩ := hrel
    have HS := Lib.hid hsofar
    clear H hsofar
    by_cases hlt : k < n
    · have hk1 : k < l.length := by have := HN.out; omega
      obtain ⟨b, o, rfl, hrg⟩ := RA.at3 (hl.now H1) k hk1
      have hta : l.take (k + 1) = l.take k ++ [l[k]] := List.take_succ_eq_append_getElem hk1
      have hra : l.all Tu.may = true → Tu.may l[k] = true := fun h => List.all_eq_true.1 h _ (List.getElem_mem hk1)
      obtain ⟨p, hp⟩ : ∃ p, p = l[k] := ⟨_, rfl⟩
      rw [← hp] at hrg hta hra
      have hgc := HG.out p _ H1
      obtain ⟨m, hm⟩ : ∃ m, m = Tu.may p := ⟨_, rfl⟩
      rw [← hm] at hgc hra
      have HGC := Lib.hid hgc
      have HTA := Lib.hid hta
      have HRA := Lib.hid hra
      have HM := Lib.hid hm
      have HRG := Lib.hid hrg
      have HLT := Lib.hid hlt
      have q1 : (k : Int) < (n : Int) := by omega
      have q1n : k < n := hlt
      clear hgc hta hra hm hrg hp hk1 hlt
      go_wp2_with (refine wpList_load_mid (by rfl) 79 (.tmp 14) (by rfl) b (o + k * 3) (by rfl) (pc p) _ HRG.out Tryz.underlying79 rfl (by exact Tryz.sizePart) ?_)
      go_wp2_with fail
      refine HGC.out.mono ?_
      rintro e w1 ⟨rfl, H2⟩
      cases m with
      | true =>
        have h3 : (l.take (k + 1)).all Tu.may = true := by rw [HTA.out, List.all_append, HS.out]; simp [← HM.out]
        have H3 := Lib.hid h3
        clear h3
        simp only [Bool.not_true]
        go_wp2
        exact ⟨⟨k + 1, by have := HLT.out; omega, by go_num, H3.out, H2⟩, by have := HLT.out; simp [intOf]; omega⟩
      | false =>
        have h3 : R = true := by
          rw [HR.out]
          cases h4 : l.all Tu.may with
          | false => rfl
          | true => have := HRA.out h4; cases this
        have H3 := Lib.hid h3
        clear h3
        simp only [Bool.not_false]
        go_wp2
        go_ret
        exact ⟨k, rfl, .inl ⟨H3.out, by omega, by omega⟩, H2⟩
    · obtain rfl : k = n := by omega
      have h3 : R = false := by
        rw [HR.out]
        have := HS.out
        rw [HN.out, List.take_length] at this
        rw [this]
        rfl
      have H3 := Lib.hid h3
      clear h3 hlt
      go_wp2
      go_ret
      exact ⟨-1, rfl, .inr ⟨H3.out, rfl⟩, H1⟩
set_option maxRecDepth 100000 in
theorem contains_any (g : Nat) (eg : ∀ args w, (callFunc g args).run Tryz.prog w = .ok (.enter g args) w) (H : St w0 w M L) {A : Option Addr} {c n : Nat} {l : List Tu.Part} (hn : n = l.length) (hl : SrA w0 M L A (pcs l)) (hn2 : n ≤ 1000000)
    (hg : ∀ p w, St w0 w M L → Calls Tryz.prog g #[pv p] w fun e w' => e = .returned (.bool (!Tu.may p)) ∧ St w0 w' M L) :
    Calls Tryz.prog 84 #[.slice A n c, .func (.func g) #[] #[]] w fun e w' => e = .returned (.bool (!l.all Tu.may)) ∧ St w0 w' M L := by
  have hi := idx_any g eg (c := c) H hn hl hn2 hg
  obtain ⟨R, hR⟩ : ∃ R, R = (!l.all Tu.may) := ⟨_, rfl⟩
  rw [← hR] at hi ⊢
  have HI := Lib.hid hi
  clear hi hn hR hg
  go_enter Tryz.func84, Tryz.ntmps84
  go_wp2_with fail
  refine HI.out.mono ?_
  rintro e w1 ⟨r, rfl, hr, H1⟩
  rcases hr with ⟨rfl, h1, h2⟩ | ⟨rfl, rfl⟩
  · go_wp2
    go_ret
    exact ⟨rfl, H1⟩
  · go_wp2
    go_ret
    exact ⟨rfl, H1⟩
end
end Go.Proofs.YtepgmebklhemgaaGreatDoor.Tp
/- How the library's words on texts and bits meet those of keys. No program is in sight. -/
set_option linter.unusedVariables false
set_option linter.unusedSimpArgs false
set_option maxRecDepth 100000
namespace Go.Proofs.YtepgmebklhemgaaGreatDoor
namespace Tu
theorem idx0 (s : List UInt8) : (Lib.index s [0] = -1 ∧ ∀ c ∈ s, c ≠ 0) ∨ ∃ i : Nat, Lib.index s [0] = i ∧ i < s.length ∧ (∀ c ∈ s.take i, c ≠ 0) ∧ s = s.take i ++ 0 :: s.drop (i + 1) := by
  induction s with
  | nil => exact .inl ⟨rfl, fun c h => by simp at h⟩
  | cons b l ih =>
    by_cases hb : b = 0
    · subst hb
      exact .inr ⟨0, by simp [Lib.index], by simp, fun c h => by simp at h, by simp⟩
    · have h0 : List.isPrefixOf [0] (b :: l) = false := by
        simp only [List.isPrefixOf, Bool.and_true, beq_eq_false_iff_ne]
        exact fun h => hb h.symm
      rcases ih with ⟨h1, h2⟩ | ⟨i, h1, h2, h3, h4⟩
      · refine .inl ⟨by unfold Lib.index; rw [h0, h1]; rfl, fun c hc => ?_⟩
        rcases List.mem_cons.1 hc with rfl | hc
        · exact hb
        · exact h2 c hc
      · refine .inr ⟨i + 1, ?_, by simpa using h2, fun c hc => ?_, ?_⟩
        · unfold Lib.index
          rw [h0, h1]
          have : ((i : Int) == -1) = false := by rw [beq_eq_false_iff_ne]; omega
          simp [this]
        · rw [List.take_succ_cons] at hc
          rcases List.mem_cons.1 hc with rfl | hc
          · exact hb
          · exact h3 c hc
        · rw [List.take_succ_cons, List.drop_succ_cons, List.cons_append, ← h4]
theorem esc_pass (u : List UInt8) (h : ∀ c ∈ u, c ≠ 0) : esc u = u := by
  induction u with
  | nil => rfl
  | cons c u ih => rw [esc_cons, if_neg (h c (by simp)), ih fun c hc => h c (by simp [hc])]; rfl
theorem esc_append (u v : List UInt8) : esc (u ++ v) = esc u ++ esc v := by simp [esc]
theorem esc_len (u : List UInt8) : (esc u).length ≤ 2 * u.length := by
  induction u with
  | nil => simp [esc]
  | cons c u ih => rw [esc_cons]; split <;> simp <;> omega
theorem repl_from (n : Nat) : ∀ (s : List UInt8) (fuel : Nat), s.length ≤ n → s.length + 1 ≤ fuel → Lib.replaceK [0] [0, 255] (Lib.countFrom [0] fuel s) s = esc s ∧ Lib.countFrom [0] fuel s ≤ s.length := by
  induction n with
  | zero =>
    intro s fuel hn hf
    obtain rfl : s = [] := List.eq_nil_of_length_eq_zero (by omega)
    cases fuel with
    | zero => simp at hf
    | succ fuel => exact ⟨rfl, by simp [Lib.countFrom, Lib.index]⟩
  | succ n ih =>
    intro s fuel hn hf
    cases fuel with
    | zero => omega
    | succ fuel =>
      rcases idx0 s with ⟨h1, h2⟩ | ⟨i, h1, h2, h3, h4⟩
      · rw [Lib.countFrom, h1]
        simp [Lib.replaceK, esc_pass s h2]
      · have hd : (s.drop (i + 1)).length = s.length - (i + 1) := List.length_drop
        obtain ⟨i1, i2⟩ := ih (s.drop (i + 1)) fuel (by omega) (by omega)
        have hc : Lib.countFrom [0] (fuel + 1) s = Lib.countFrom [0] fuel (s.drop (i + 1)) + 1 := by
          rw [Lib.countFrom, h1]
          have : ((i : Int) == -1) = false := by rw [beq_eq_false_iff_ne]; omega
          simp [this]
          omega
        refine ⟨?_, by omega⟩
        rw [hc, Lib.replaceK_hit [0] [0, 255] _ s i h1]
        simp only [List.length_singleton]
        rw [i1]
        conv => rhs; rw [h4, esc_append, esc_pass _ h3, esc_cons, if_pos rfl]
        simp
theorem repl_all (s : List UInt8) : Lib.replaceAll s [0] [0, 255] = esc s := by
  unfold Lib.replaceAll Lib.replace
  have h1 : ([0] == ([0, 255] : List UInt8)) = false := by decide
  rw [h1]
  simp only [Bool.false_eq_true, if_false]
  unfold Lib.replaceNum Lib.count
  rw [if_pos (.inl (by decide))]
  exact (repl_from s.length s (s.length + 1) (Nat.le_refl _) (Nat.le_refl _)).1
theorem count_all (s : List UInt8) : Lib.count s [0] ≤ s.length := (repl_from s.length s (s.length + 1) (Nat.le_refl _) (Nat.le_refl _)).2
/-- How many bytes a number takes, by its bits. -/
theorem digs_bits (n : Nat) (h : n < 18446744073709551616) : (Lib.bitLen n + 7) / 8 = (digs n).length := by
  by_cases h0 : n = 0
  · subst h0; rw [digs_zero]; rfl
  · obtain ⟨b1, b2, b3⟩ := Lib.bitLenAux_bounds 64 n (by simpa using h) h0
    rw [show Lib.bitLenAux 64 n = Lib.bitLen n from rfl] at b1 b2 b3
    obtain ⟨B, hB⟩ : ∃ B, B = Lib.bitLen n := ⟨_, rfl⟩
    rw [← hB] at b1 b2 b3 ⊢
    obtain ⟨w, hw⟩ : ∃ w, w = (B + 7) / 8 := ⟨_, rfl⟩
    rw [← hw]
    have e : ∀ k, 256 ^ k = 2 ^ (8 * k) := fun k => by rw [Nat.pow_mul]
    have h1 : (digs n).length ≤ w := (digs_len n w).2 (by rw [e]; exact Nat.lt_of_lt_of_le b3 (Nat.pow_le_pow_right (by decide) (by omega)))
    have h2 : ¬ (digs n).length ≤ w - 1 := fun hc => by
      have := (digs_len n (w - 1)).1 hc
      rw [e] at this
      have h3 : 2 ^ (8 * (w - 1)) ≤ 2 ^ (B - 1) := Nat.pow_le_pow_right (by decide) (by omega)
      omega
    omega
end Tu
end Go.Proofs.YtepgmebklhemgaaGreatDoor
/- The contracts of tuple.put and tuple.Encode. -/
set_option linter.unusedVariables false
set_option linter.unusedSimpArgs false
set_option maxRecDepth 100000
namespace Go.Proofs.YtepgmebklhemgaaGreatDoor.Tp
open Go.RowKit Wd
/-- The library's bound holds some number. -/
def MaxI (w : World) : Prop := ∃ m, w.cell? ⟨Tryz.replAll_ren.g 1, 0, none⟩ = some (.int .i64 m)
theorem Tryz.builderX : Builder.Extra Tryz.prog Tryz.replAll_ren where
  sizeBuilder := by kernel_rfl
  liesBuilder := by kernel_rfl
  t5 := Tryz.underlying5
  a5 := Tryz.isAgg5
  z5 := Tryz.sizeOf5
  v5 := Tryz.zeroValue5
  infoByte := by kernel_rfl
  cellsByte := by kernel_rfl
  sizeByte := by kernel_rfl
  neB5 := by decide
section
variable {w0 w : World} {M : Mem} {L : List Ent} {g : Nat} {l : List UInt8}
theorem repl_any (hx : MaxI w) (s : List UInt8) (hs : s.length ≤ 1000000000) :
    Calls Tryz.prog 116 #[.string (str s), .string (str [0]), .string (str [0, 255])] w fun e w' => e = .returned (.string (str (Tu.esc s))) ∧ Below w.heap.size w w' := by
  obtain ⟨m, hm⟩ := hx
  have hc := Tu.count_all s
  have hsz : (str s).size = s.length := by show s.toArray.size = _; simp
  have h := Any.strings_ReplaceAll Tryz.replAll Tryz.builderX (str s) (str [0]) (str [0, 255]) m w (by rw [hsz]; omega) hm (by decide) (by
    have h2 : (str [0, 255]).size = 2 := rfl
    have h3 : Lib.countB (str s) (str [0]) = Lib.count s [0] := rfl
    rw [hsz, h2, h3]
    omega)
  rw [show (str s).data.toList = s from rfl, show (str [0]).data.toList = [0] from rfl, show (str [0, 255]).data.toList = [0, 255] from rfl, Tu.repl_all] at h
  exact h
theorem len64_any (n : Nat) (hn : n < 18446744073709551616) (w : World) :
    Calls Tryz.prog 117 #[.int .u64 (n : Int)] w fun e w' => e = .returned (.int .i64 (Lib.bitLen n : Int)) ∧ w = w' := by
  have h := Any.bits_Len64 Tryz.len64 (n : Int) w (by omega) (by omega)
  rw [Int.toNat_natCast] at h
  exact h.mono fun e w' ⟨h1, h2⟩ => ⟨h1, h2.symm⟩
set_option maxRecDepth 100000 in
set_option maxHeartbeats 1000000 in
theorem put_any (H : BB w0 w M g l L) (hx : In M MaxI) (p : Tu.Part) (hp : p.num < 18446744073709551616) (hl : l.length ≤ 100000000000) (ht : p.text.length ≤ 100000000) :
    Calls Tryz.prog 87 #[.pointer (some ⟨g, 0, none⟩), pv p] w fun e w' => e = .returned (.tuple #[]) ∧ BB w0 w' M g (l ++ Tu.one p) L := by
  obtain ⟨s, n, b⟩ := p
  simp only at hp ht
  unfold pv Tu.one
  cases b with
  | true =>
    rw [if_pos rfl]
    simp only
    obtain ⟨Z, HZ, hb0, hb1, hsr⟩ := H.out
    have hA := hb1 _ _ _ (HZ.new [.string (str s), .int .u64 (n : Int), .bool true] 79)
    obtain ⟨B, hB⟩ : ∃ B, B = w.heap.size := ⟨_, rfl⟩
    have hw := wbyte_any hA 32 (by omega)
    have HW := Lib.hid hw
    have hel := Tu.esc_len s
    obtain ⟨E, hE⟩ : ∃ E, E = Tu.esc s := ⟨_, rfl⟩
    have hr := fun w (hx : MaxI w) => repl_any hx s (by omega)
    rw [← hE] at hr hel ⊢
    have HR := Lib.hid hr
    clear hw H HZ hb0 hb1 hsr hE hr hB B
    go_enter Tryz.func87, Tryz.ntmps87
    go_wp2_with fail
    refine HW.out.mono ?_
    rintro e w1 ⟨⟨v1, rfl⟩, H1⟩
    have c0 := H1.rest.cell 0 rfl 0
    have hr := HR.out w1 (hx.now H1.rest)
    have HR1 := Lib.hid hr
    clear hr
    go_wp2_with fail
    refine HR1.out.mono ?_
    rintro e w2 ⟨rfl, hb2⟩
    have H2 := H1.belowK hb2
    have hw2 := wstr_any H2 E (by simp; omega)
    have HW2 := Lib.hid hw2
    clear hw2 H1 c0
    go_wp2_with fail
    refine HW2.out.mono ?_
    rintro e w3 ⟨⟨v3, rfl⟩, H3⟩
    have hw3 := wstr_any H3 [0, 1] (by simp; omega)
    have HW3 := Lib.hid hw3
    clear hw3 H2
    go_wp2_with fail
    refine HW3.out.mono ?_
    rintro e w4 ⟨⟨v4, rfl⟩, H4⟩
    go_wp2
    refine bodyPost_ret (results_none rfl _ _ _) rfl ?_
    refine ⟨rfl, ?_⟩
    have H5 := H4.drop
    rw [show l ++ 32 :: (E ++ [0, 1]) = l ++ [32] ++ E ++ [0, 1] from by simp]
    exact H5
  | false =>
    rw [if_neg (by simp)]
    simp only
    obtain ⟨Z, HZ, hb0, hb1, hsr⟩ := H.out
    have hA := hb1 _ _ _ (HZ.new [.string (str s), .int .u64 (n : Int), .bool false] 79)
    obtain ⟨B, hB⟩ : ∃ B, B = w.heap.size := ⟨_, rfl⟩
    have hbits := Tu.digs_bits n hp
    have h8 := Tu.digs_len8 hp
    have hget := Tu.digs_get n
    obtain ⟨d, hd⟩ : ∃ d, d = Tu.digs n := ⟨_, rfl⟩
    rw [← hd] at hbits h8 hget ⊢
    obtain ⟨N, hN⟩ : ∃ N, N = d.length := ⟨_, rfl⟩
    rw [← hN] at hbits h8 hget ⊢
    have hlen := fun w => len64_any n hp w
    obtain ⟨bl, hbl⟩ : ∃ bl, bl = Lib.bitLen n := ⟨_, rfl⟩
    rw [← hbl] at hlen hbits
    have hbl2 : bl ≤ 64 := by rw [hbl]; exact Lib.bitLen_le n 64 (Nat.le_refl _) (by simpa using hp)
    obtain ⟨b7, hb7⟩ : ∃ b7, b7 = bl + 7 := ⟨_, rfl⟩
    have e1 : (bl : Int) + 7 = (b7 : Int) := by omega
    have e2 : (b7 : Int) / 8 = (N : Int) := by omega
    have e2' : (b7 : Int).tdiv 8 = (N : Int) := by rw [Int.tdiv_eq_ediv_of_nonneg (by omega)]; exact e2
    obtain ⟨T, hT⟩ : ∃ T : UInt8, T = UInt8.ofNat (16 + N) := ⟨_, rfl⟩
    have hTn : T.toNat = 16 + N := by rw [hT]; simp; omega
    have e3 : (16 : Int) + (N : Int) = (T.toNat : Int) := by omega
    have hb72 : b7 ≤ 71 := by omega
    have HA := Lib.hid hA
    have HLEN := Lib.hid hlen
    have HGET := Lib.hid hget
    have HN := Lib.hid hN
    have HD := Lib.hid hd
    have hTle : T.toNat ≤ 24 := by omega
    rw [← hT]
    clear hbits hget hd hN hlen hbl hb7 hT hTn hA H HZ hb0 hb1 hsr hB B
    go_enter Tryz.func87, Tryz.ntmps87
    have c1 := HA.out.rest.cell 0 rfl 1
    go_wp2_with fail
    refine (HLEN.out _).mono ?_
    rintro e w1 ⟨rfl, rfl⟩
    have hw := wbyte_any HA.out T (by omega)
    have HW := Lib.hid hw
    clear hw
    go_wp2_with fail
    refine HW.out.mono ?_
    rintro e w2 ⟨⟨v2, rfl⟩, H2⟩
    obtain ⟨B, hB⟩ : ∃ B, B = w.heap.size := ⟨_, rfl⟩
    rw [← hB] at H2
    clear e1 e2 e2' e3 HW HA HLEN c1
    go_wp2
    simp only [← hB]
    have HB := Lib.hid hB
    clear hB
    go_loopw [5] (fun i wr => ∃ j : Nat, j ≤ N ∧ i = .int .i64 ((N : Int) - 1 - (j : Int)) ∧ BB w0 wr M g (l ++ T :: d.take j) (eb B 79 [.string (str s), .int .u64 (n : Int), .bool false] :: L)) (fun i _ => (intOf i + 1).toNat)
    case atStart => exact ⟨0, by omega, by go_num, by simpa using H2⟩
    case round =>
      obtain ⟨j, hj, rfl, H3⟩ := hrel
      clear H2
      by_cases hlt : j < N
      · obtain ⟨i, hi⟩ : ∃ i : Nat, i = N - 1 - j := ⟨_, rfl⟩
        have hi2 : (N : Int) - 1 - (j : Int) = (i : Int) := by omega
        have hg0 := HGET.out j hlt
        rw [← hi] at hg0
        rw [hi2]
        obtain ⟨m, hm⟩ : ∃ m : Nat, m = 8 * i := ⟨_, rfl⟩
        have e1 : 8 * (i : Int) = (m : Int) := by omega
        obtain ⟨sh, hs⟩ : ∃ s : Nat, s = 2 ^ m := ⟨_, rfl⟩
        have e2 : (2 : Int) ^ m = (sh : Int) := by rw [hs]; push_cast; rfl
        have hsh : 256 ^ i = sh := by rw [hs, hm, Nat.pow_mul]
        rw [hsh] at hg0
        obtain ⟨q, hq⟩ : ∃ q : Nat, q = n / sh := ⟨_, rfl⟩
        have e3 : (n : Int) / (sh : Int) = (q : Int) := by rw [hq]; push_cast; rfl
        obtain ⟨b, hb⟩ : ∃ b : UInt8, b = UInt8.ofNat q := ⟨_, rfl⟩
        have e4 : (q : Int) % 256 = (b.toNat : Int) := by rw [hb]; simp
        rw [← hq, ← hb] at hg0
        have htk : d.take (j + 1) = d.take j ++ [b] := by
          have hjl : j < d.length := by rw [← HN.out]; exact hlt
          rw [List.take_succ_eq_append_getElem hjl]
          rw [List.getElem?_eq_getElem hjl] at hg0
          injection hg0 with hg0
          rw [hg0]
        have HT := Lib.hid htk
        have HI := Lib.hid hi2
        have hi3 : (i : Int) ≤ 7 := by omega
        have hm3 : m < 64 := by omega
        have HLT := Lib.hid hlt
        have c1 := H3.rest.cell 0 rfl 1
        have hw := wbyte_any H3 b (by rw [List.length_append, List.length_cons, List.length_take, ← HN.out]; omega)
        have HW := Lib.hid hw
        clear htk hi2 hs hq hb hm hi hlt hg0 hsh hw H3
        go_wp2_with fail
        refine HW.out.mono ?_
        rintro e w4 ⟨⟨v4, rfl⟩, H4⟩
        go_wp2
        refine ⟨⟨j + 1, by have := HLT.out; omega, congrArg (Value.int .i64) (by have := HI.out; omega), ?_⟩, by simp [intOf]⟩
        rw [HT.out, show l ++ T :: (d.take j ++ [b]) = l ++ T :: d.take j ++ [b] from by simp]
        exact H4
      · obtain rfl : j = N := by omega
        rw [List.take_of_length_le (by rw [HN.out]; exact Nat.le_refl _)] at H3
        clear hlt
        go_wp2
        go_end0
        exact ⟨rfl, H3.drop⟩
end
end Go.Proofs.YtepgmebklhemgaaGreatDoor.Tp
/- Strings as lists of bytes: index, slice; strings.IndexByte. -/
set_option linter.unusedVariables false
set_option linter.unusedSimpArgs false
set_option maxRecDepth 100000
namespace Go.Proofs.YtepgmebklhemgaaGreatDoor.Tp
open Go.RowKit Wd
theorem Tryz.mixed : Tryz.prog.follows .mixedOrders = true := by kernel_rfl
theorem str_size (l : List UInt8) : (str l).size = l.length := by show l.toArray.size = _; simp
theorem str_extract (l : List UInt8) (a b : Nat) : (str l).extract a b = str ((l.take b).drop a) := by
  apply ByteArray.ext
  rw [ByteArray.data_extract]
  simp [List.extract_toArray, List.extract_eq_take_drop, List.drop_take]
section
variable {P : Program} {t : TypeId} {k k' : IntKind}
theorem str_index (h : P.underlying t = some .string) (l : List UInt8) (q : Nat) (hq : q < l.length) {i : Int} (hi : i = (q : Int)) (w : World) : (Instr.index t (.string (str l)) (.int k i)).run P w = .ok (.int .u8 ((l[q]).toNat : Int)) w := by
  subst hi
  have hs : (ByteArray.mk l.toArray).size = l.length := by show l.toArray.size = _; simp
  rw [run_index_string w t _ k _ h, dif_pos (by rw [hs]; omega)]
  rfl
theorem str_from (h : P.underlying t = some .string) (l : List UInt8) (a : Nat) (ha : a ≤ l.length) {i : Int} (hi : i = (a : Int)) (w : World) : (Instr.slice t (.string (str l)) (some (.int k i)) none none).run P w = .ok (.string (str (l.drop a))) w := by
  subst hi
  rw [run_slice_string_l (ht := h) (h0 := by omega) (h1 := by rw [str_size]; omega), str_extract, str_size, List.take_length, Int.toNat_natCast]
theorem str_to (h : P.underlying t = some .string) (l : List UInt8) (b : Nat) (hb : b ≤ l.length) {i : Int} (hi : i = (b : Int)) (w : World) : (Instr.slice t (.string (str l)) none (some (.int k i)) none).run P w = .ok (.string (str (l.take b))) w := by
  subst hi
  rw [run_slice_string_h (ht := h) (h0 := by omega) (h2 := by rw [str_size]; omega), str_extract, List.drop_zero, Int.toNat_natCast]
theorem str_mid (h : P.underlying t = some .string) (l : List UInt8) (a b : Nat) (hab : a ≤ b) (hb : b ≤ l.length) {i j : Int} (hi : i = (a : Int)) (hj : j = (b : Int)) (w : World) : (Instr.slice t (.string (str l)) (some (.int k i)) (some (.int k' j)) none).run P w = .ok (.string (str ((l.take b).drop a))) w := by
  subst hi hj
  rw [run_slice_string_if w t _ k k' _ _ h, if_pos ⟨by omega, by rw [str_size]; omega⟩, if_pos ⟨by omega, by omega⟩, str_extract, Int.toNat_natCast, Int.toNat_natCast]
end
theorem Tu.idxb (s : List UInt8) : (Lib.indexByte s 0 = -1 ∧ ∀ c ∈ s, c ≠ 0) ∨ ∃ i : Nat, Lib.indexByte s 0 = i ∧ i < s.length ∧ (∀ c ∈ s.take i, c ≠ 0) ∧ s = s.take i ++ 0 :: s.drop (i + 1) := by
  induction s with
  | nil => exact .inl ⟨rfl, fun c h => by simp at h⟩
  | cons b l ih =>
    by_cases hb : b = 0
    · subst hb
      exact .inr ⟨0, by simp [Lib.indexByte], by simp, fun c h => by simp at h, by simp⟩
    · have h0 : (b == 0) = false := by simpa using hb
      rcases ih with ⟨h1, h2⟩ | ⟨i, h1, h2, h3, h4⟩
      · refine .inl ⟨by unfold Lib.indexByte; rw [h0, h1]; rfl, fun c hc => ?_⟩
        rcases List.mem_cons.1 hc with rfl | hc
        · exact hb
        · exact h2 c hc
      · refine .inr ⟨i + 1, ?_, by simpa using h2, fun c hc => ?_, ?_⟩
        · unfold Lib.indexByte
          rw [h0, h1]
          have : ((i : Int) == -1) = false := by rw [beq_eq_false_iff_ne]; omega
          simp [this]
        · rw [List.take_succ_cons] at hc
          rcases List.mem_cons.1 hc with rfl | hc
          · exact hb
          · exact h3 c hc
        · rw [List.take_succ_cons, List.drop_succ_cons, List.cons_append, ← h4]
theorem slite_any (s : ByteArray) (c : Int) (w : World) : Calls Tryz.prog 149 #[.string s, .int .u8 c] w fun e w' => e = .returned (.int .i64 (Lib.indexByte s.data.toList c.toNat.toUInt8)) ∧ w = w' := by
  go_enter Tryz.func149, Tryz.ntmps149
  go_wp2
  rw [run_callFunc_extern Tryz.func165 (by kernel_rfl) (by kernel_rfl) (by kernel_rfl) (e := Extern.BytealgIndexByte.indexByte) (by kernel_rfl), Lib.run_indexByteString]
  simp only [Result.andThen]
  rw [Oper.upon_value]
  go_wp2
  go_ret
  exact ⟨rfl, rfl⟩
theorem strs_any (s : ByteArray) (c : Int) (w : World) : Calls Tryz.prog 136 #[.string s, .int .u8 c] w fun e w' => e = .returned (.int .i64 (Lib.indexByte s.data.toList c.toNat.toUInt8)) ∧ w = w' := by
  go_enter Tryz.func136, Tryz.ntmps136
  go_wp2_with fail
  refine (slite_any s c w).mono ?_
  rintro e w' ⟨rfl, rfl⟩
  go_wp2
  go_ret
  exact ⟨rfl, rfl⟩
theorem idxb_any (s : List UInt8) (w : World) : Calls Tryz.prog 136 #[.string (str s), .int .u8 0] w fun e w' => e = .returned (.int .i64 (Lib.indexByte s 0)) ∧ w = w' := strs_any (str s) 0 w
section
variable {P : Program} {ops : Array Oper} {rest : List Oper} {op : Oper} {a : Act} {w : World} {Q : Exit → Act → World → Prop}
/-- A store whose run is known. -/
theorem wpList_store_run (hgd : op.guard = none) (ty : TypeId) (x y : Operand) (ho : op.op = .store ty x y) (ad : Addr) (v : Value) (hx : a.eval x = .pointer (some ad)) (hy : a.eval y = v) (w' : World) (hr : (storeVar ty ad v).run P w = .ok () w')
    (h : wpList P ops Q rest (a.put op.dst undef) w') : wpList P ops Q (op :: rest) a w :=
  wpList_plain hgd fun K hK => by
    unfold Oper.wp execOp
    simp only [ho, hx, hy, Instr.storeAt, Instr.sureAddr, Sem.run_bind, Sem.run_pure, Result.andThen_ok, hr]
    exact hK _ _ h
end
section
variable {P : Program} {fn : Func} {R : Ending → World → Prop} {a : Act} {w0 w : World} {M : Mem} {L : List Ent} {g : Nat} {t ty : TypeId} {cs : List Value} {d : TypeDesc}
/-- Three results: the row, and two values. -/
theorem ret_row_tmp2 (H : St w0 w M (eb g t cs :: L)) {s u v : Tmp} (hr : fn.results = #[.cell s ty, .tmp u, .tmp v]) (ht : a.tmps.getD s undef = .pointer (some ⟨g, 0, none⟩)) (hu : P.underlying ty = some d) (hd : d.isRow = true) (hi : (P.info? ty).map (·.size) = some cs.length) (hf : a.defers = [])
    (hR : R (.returned (.tuple #[.agg cs.toArray, a.tmps.getD u undef, a.tmps.getD v undef])) w) : bodyPost P fn R .ret a w := by
  refine bodyPost_ret (v := .tuple #[.agg cs.toArray, a.tmps.getD u undef, a.tmps.getD v undef]) ?_ hf hR
  have h1 := load_row H hu hd hi
  have ht' : a.tmps[s]?.getD undef = .pointer (some ⟨g, 0, none⟩) := by rw [← ht]; simp
  simp [results, hr, ht', asAddr, Sem.run_pure, h1]
end
end Go.Proofs.YtepgmebklhemgaaGreatDoor.Tp
