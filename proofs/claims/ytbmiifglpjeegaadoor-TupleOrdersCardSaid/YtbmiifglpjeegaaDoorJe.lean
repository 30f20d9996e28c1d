/- slices.ContainsFunc at parts. -/
import Derived.Test.YtbmiifglpjeegaaDoorJd
set_option linter.unusedVariables false
set_option linter.unusedSimpArgs false
namespace Go.Proofs.YtbmiifglpjeegaaDoor
open Go.RowKit Wd
def RetIdx (w0 : World) (M : Mem) (L : List Ent) (b : Bool) (e : Ending) (w' : World) : Prop :=
  ∃ r : Int, e = .returned (.int .i64 r) ∧ ((b = true ∧ 0 ≤ r ∧ r ≤ 1000000) ∨ (b = false ∧ r = -1)) ∧ St w0 w' M L
section
variable {w0 w : World} {M : Mem} {L : List Ent}
theorem notMay_any (H : St w0 w M L) (p : Tu.Part) :
    Calls Tryd.prog 23 #[pv p] w fun e w' => e = .returned (.bool (!Tu.may p)) ∧ St w0 w' M L := by
  have hm := fun w (H : St w0 w M L) => may_any H p
  obtain ⟨R, hR⟩ : ∃ R, R = Tu.may p := ⟨_, rfl⟩
  rw [← hR] at hm ⊢
  clear hR
  have hm2 := hm _ (H.alloc (.cells #[.string (str p.text), .int .u64 (p.num : Int), .bool p.isText] 42))
  unfold pv at hm2 ⊢
  have HM := Lib.hid hm2
  clear hm hm2
  go_enter Tryd.func23, Tryd.ntmps23
  go_wp2_with fail
  refine HM.out.mono ?_
  rintro e w1 ⟨rfl, H1⟩
  go_wp2
  go_ret
  exact ⟨rfl, H1⟩
theorem notMay2_any (H : St w0 w M L) (p : Tu.Part) :
    Calls Tryd.prog 30 #[pv p] w fun e w' => e = .returned (.bool (!Tu.may p)) ∧ St w0 w' M L := by
  have hm := fun w (H : St w0 w M L) => may_any H p
  obtain ⟨R, hR⟩ : ∃ R, R = Tu.may p := ⟨_, rfl⟩
  rw [← hR] at hm ⊢
  clear hR
  have hm2 := hm _ (H.alloc (.cells #[.string (str p.text), .int .u64 (p.num : Int), .bool p.isText] 42))
  unfold pv at hm2 ⊢
  have HM := Lib.hid hm2
  clear hm hm2
  go_enter Tryd.func30, Tryd.ntmps30
  go_wp2_with fail
  refine HM.out.mono ?_
  rintro e w1 ⟨rfl, H1⟩
  go_wp2
  go_ret
  exact ⟨rfl, H1⟩
set_option maxRecDepth 100000 in
theorem idx_any (g : Nat) (eg : ∀ args w, (callFunc g args).run Tryd.prog w = .ok (.enter g args) w) (H : St w0 w M L) {A : Option Addr} {c n : Nat} {l : List Tu.Part} (hn : n = l.length) (hl : SrA w0 M L A (pcs l)) (hn2 : n ≤ 1000000)
    (hg : ∀ p w, St w0 w M L → Calls Tryd.prog g #[pv p] w fun e w' => e = .returned (.bool (!Tu.may p)) ∧ St w0 w' M L) :
    Calls Tryd.prog 40 #[.slice A n c, .func (.func g) #[] #[]] w (RetIdx w0 M L (!l.all Tu.may)) := by
  obtain ⟨R, hR⟩ : ∃ R, R = (!l.all Tu.may) := ⟨_, rfl⟩
  rw [← hR]
  have HR := Lib.hid hR
  have HN := Lib.hid hn
  have HG := Lib.hid hg
  clear hR hn hg
  go_enter Tryd.func40, Tryd.ntmps40
  go_wp2
  go_loopw [8] (fun i wr => ∃ k : Nat, k ≤ n ∧ i = .int .i64 k ∧ (l.take k).all Tu.may = true ∧ St w0 wr M L) (fun i _ => n - (intOf i).toNat)
  case atStart => exact ⟨0, by omega, rfl, rfl, H⟩
  case round =>
    obtain ⟨k, hk, rfl, hsofar, H1⟩ := hrel
    have HS := Lib.hid hsofar
    clear H hsofar
    by_cases hlt : k < n
    · have hk1 : k < l.length := by have := HN.out; omega
      obtain ⟨b, o, rfl, hrg⟩ := RA.at3 (hl.now H1) k hk1
      have hta : l.take (k + 1) = l.take k ++ [l[k]] := List.take_succ_eq_append_getElem hk1
      have hra : l.all Tu.may = true → Tu.may l[k] = true := fun h => List.all_eq_true.1 h _ (List.getElem_mem hk1)
      obtain ⟨p, hp⟩ : ∃ p, p = l[k] := ⟨_, rfl⟩
      rw [← hp] at hrg hta hra
      have hgc := HG.out p _ H1
      obtain ⟨m, hm⟩ : ∃ m, m = Tu.may p := ⟨_, rfl⟩
      rw [← hm] at hgc hra
      have HGC := Lib.hid hgc
      have HTA := Lib.hid hta
      have HRA := Lib.hid hra
      have HM := Lib.hid hm
      have HRG := Lib.hid hrg
      have HLT := Lib.hid hlt
      have q1 : (k : Int) < (n : Int) := by omega
      have q1n : k < n := hlt
      clear hgc hta hra hm hrg hp hk1 hlt
      go_wp2_with (refine wpList_load_mid (by rfl) 42 (.tmp 14) (by rfl) b (o + k * 3) (by rfl) (pc p) _ HRG.out Tryd.underlying42 rfl (by exact Tryd.sizePart) ?_)
      go_wp2_with fail
      refine HGC.out.mono ?_
      rintro e w1 ⟨rfl, H2⟩
      cases m with
      | true =>
        have h3 : (l.take (k + 1)).all Tu.may = true := by rw [HTA.out, List.all_append, HS.out]; simp [← HM.out]
        have H3 := Lib.hid h3
        clear h3
        simp only [Bool.not_true]
        go_wp2
        exact ⟨⟨k + 1, by have := HLT.out; omega, by go_num, H3.out, H2⟩, by have := HLT.out; simp [intOf]; omega⟩
      | false =>
        have h3 : R = true := by
          rw [HR.out]
          cases h4 : l.all Tu.may with
          | false => rfl
          | true => have := HRA.out h4; cases this
        have H3 := Lib.hid h3
        clear h3
        simp only [Bool.not_false]
        go_wp2
        go_ret
        exact ⟨k, rfl, .inl ⟨H3.out, by omega, by omega⟩, H2⟩
    · obtain rfl : k = n := by omega
      have h3 : R = false := by
        rw [HR.out]
        have := HS.out
        rw [HN.out, List.take_length] at this
        rw [this]
        rfl
      have H3 := Lib.hid h3
      clear h3 hlt
      go_wp2
      go_ret
      exact ⟨-1, rfl, .inr ⟨H3.out, rfl⟩, H1⟩
set_option maxRecDepth 100000 in
theorem contains_any (g : Nat) (eg : ∀ args w, (callFunc g args).run Tryd.prog w = .ok (.enter g args) w) (H : St w0 w M L) {A : Option Addr} {c n : Nat} {l : List Tu.Part} (hn : n = l.length) (hl : SrA w0 M L A (pcs l)) (hn2 : n ≤ 1000000)
    (hg : ∀ p w, St w0 w M L → Calls Tryd.prog g #[pv p] w fun e w' => e = .returned (.bool (!Tu.may p)) ∧ St w0 w' M L) :
    Calls Tryd.prog 22 #[.slice A n c, .func (.func g) #[] #[]] w fun e w' => e = .returned (.bool (!l.all Tu.may)) ∧ St w0 w' M L := by
  have hi := idx_any g eg (c := c) H hn hl hn2 hg
  obtain ⟨R, hR⟩ : ∃ R, R = (!l.all Tu.may) := ⟨_, rfl⟩
  rw [← hR] at hi ⊢
  have HI := Lib.hid hi
  clear hi hn hR hg
  go_enter Tryd.func22, Tryd.ntmps22
  go_wp2_with fail
  refine HI.out.mono ?_
  rintro e w1 ⟨r, rfl, hr, H1⟩
  rcases hr with ⟨rfl, h1, h2⟩ | ⟨rfl, rfl⟩
  · go_wp2
    go_ret
    exact ⟨rfl, H1⟩
  · go_wp2
    go_ret
    exact ⟨rfl, H1⟩
end
end Go.Proofs.YtbmiifglpjeegaaDoor
