/- An owned row opened as a block and shut again; clear; slices.IndexFunc at dues. -/
import Derived.Test.YtgnlkcdpklgikaaVh
import Derived.Lib.SliceRun
set_option linter.unusedVariables false
set_option linter.unusedSimpArgs false
namespace Go.Proofs.Ytgnlkcdpklgikaa
open Go.RowKit Wd Go.Sort
open Du (Due)
section
variable {w0 w : World} {M : Mem} {L : List Ent}
theorem Wd.St.openRow {e : TypeId} {sz n cap g : Nat} {xs : List Value} (h : St w0 w M (er e sz (.slice (some ⟨g, 0, none⟩) n cap) n xs :: L)) :
    ∃ cs, St w0 w M (eb g e cs :: L) ∧ cs.length = cap * sz ∧ cs.take (n * sz) = xs ∧ n ≤ cap ∧ cap ≤ maxLen := by
  have h0 := h.get 0 rfl
  have hr := er_bind h0
  obtain ⟨h1, h2⟩ := hr
  rcases h2 with ⟨h2, _⟩ | ⟨g', cap', cur, he, ho, hn, hm, hs, ht⟩
  · cases h2
  · injection he with he _ hc
    injection he with he
    injection he with he
    subst he hc
    refine ⟨cur.toList, ?_, by simpa using hs, ht, hn, hm⟩
    have hb : Blk w g e cur.toList := by
      have h3 : w.heap[g]? = some (.cells cur e (0, 0)) := ho
      simpa [Blk] using h3
    exact h.turn (Keeps.refl w _) (eb_holds.2 ⟨(Ent.holds_lt h0 rfl).1, hb⟩) (fun g' h => .inl (by simpa [eb, er, Value.ownBlock] using h))
theorem Wd.St.shutRow {e : TypeId} {sz n cap g : Nat} {cs : List Value} (h : St w0 w M (eb g e cs :: L)) (hc : cs.length = cap * sz) (hn : n ≤ cap) (hm : cap ≤ maxLen) :
    St w0 w M (er e sz (.slice (some ⟨g, 0, none⟩) n cap) n (cs.take (n * sz)) :: L) := by
  have hb := (eb_holds.1 (h.get 0 rfl))
  have hlen : (cs.take (n * sz)).length = n * sz := by
    rw [List.length_take, hc]
    exact Nat.min_eq_left (Nat.mul_le_mul_right _ hn)
  refine h.turn (Keeps.refl w _) ?_ (fun g' h => .inl (by simpa [eb, er, Value.ownBlock] using h))
  refine er_mk (B := g) ⟨hlen, .inr ⟨g, cap, cs.toArray, rfl, Nat.le_refl _, hb.2, hn, hm, by simpa using hc, by simp⟩⟩ (fun g' hg' => ?_)
  simp only [Value.ownBlock, Option.some.injEq] at hg'
  subst hg'
  exact hb.1
/-- clear of a part of a block. -/
theorem run_clear_blk {P : Program} {t e ty T : TypeId} {z : Value} {k : Nat} (ht : P.underlying t = some (.slice e)) (hz : (P.info? e).map (fun i => (i.zero, i.size)) = some (some z, k)) (hk : z.cells.size = k) (h1 : ∀ v ∈ z.cells.toList, v.oneCell' = true) {b o n c : Nat} {cur : List Value} (hb : Blk w b T cur) (hfit : o + n * k ≤ cur.length) :
    (Builtin.clear_ #[t] ty #[.slice (some ⟨b, o, none⟩) n c]).run P w = .ok (.tuple #[]) (w.setCells b o (Builtin.zeroCells z.cells n).toList) := by
  have hv := (zero_of_info hz).1
  have hl : (Builtin.zeroCells z.cells n).toList.length = n * k := by rw [Array.length_toList, size_zeroCells, hk]
  cases n with
  | zero =>
    have e0 : (Builtin.zeroCells z.cells 0).toList = [] := List.eq_nil_of_length_eq_zero (by rw [hl, Nat.zero_mul])
    rw [e0]
    simp [Builtin.clear_, run_underlying ht, World.setCells]
  | succ m =>
    have h1' : ∀ v ∈ (Builtin.zeroCells z.cells (m + 1)).toList, v.oneCell' = true := fun v hv' => by
      simp only [Builtin.zeroCells] at hv'
      have hv2 := hv'
      simp at hv2
      obtain ⟨j, hj, rfl⟩ := hv2
      by_cases hs : 0 < z.cells.size
      · have hlt : j % z.cells.size < z.cells.size := Nat.mod_lt _ hs
        refine h1 _ ?_
        simp [hlt]
      · have h0 : z.cells.size = 0 := by omega
        rw [h0] at hj
        simp at hj
    have hst := run_storeCells_cells (P := P) b o (Builtin.zeroCells z.cells (m + 1)).toList 0 w (by
        intro j hj
        rw [hl] at hj
        rw [hb.cell, List.getElem?_eq_getElem (by omega)]
        rfl) (by intro j hj; exact hb.frozen _) h1'
    simp only [Nat.add_zero] at hst
    simp [Builtin.clear_, run_underlying ht, hv, hst]
def RetIdx (w0 : World) (M : Mem) (L : List Ent) (p : Due → Bool) (l : List Due) (e : Ending) (w' : World) : Prop :=
  ((e = .returned (.int .i64 (-1)) ∧ ∀ x ∈ l, p x = false) ∨ (∃ k : Nat, ∃ h : k < l.length, e = .returned (.int .i64 (k : Int)) ∧ (∀ x ∈ l.take k, p x = false) ∧ p l[k] = true)) ∧ St w0 w' M L
set_option maxRecDepth 100000 in
theorem idx_any (g : Nat) (cb : Array Value) (eg : ∀ args w, (callFunc g args).run Try.prog w = .ok (.enter g args) w) (P : Due → Bool) (H : St w0 w M L) {A : Option Addr} {c n : Nat} {l : List Due} (hn : n = l.length) (hl : SrA w0 M L A (dcs l)) (hn2 : n ≤ 1000000)
    (hg : ∀ p w, St w0 w M L → Calls Try.prog g (#[dv p] ++ cb) w fun e w' => e = .returned (.bool (P p)) ∧ St w0 w' M L) :
    Calls Try.prog 38 #[.slice A n c, .func (.func g) #[] cb] w (RetIdx w0 M L P l) := by
  have HN := Lib.hid hn
  have HG := Lib.hid hg
  clear hn hg
  go_enter Try.func38, Try.ntmps38
  go_wp2
  go_loopw [8] (fun i wr => ∃ k : Nat, k ≤ n ∧ i = .int .i64 k ∧ (∀ x ∈ l.take k, P x = false) ∧ St w0 wr M L) (fun i _ => n - (intOf i).toNat)
  case atStart => exact ⟨0, by omega, rfl, by simp, H⟩
  case round =>
    obtain ⟨k, hk, rfl, hsofar, H1⟩ := hrel
    have HS := Lib.hid hsofar
    clear H hsofar
    by_cases hlt : k < n
    · have hk1 : k < l.length := by have := HN.out; omega
      obtain ⟨b, o, rfl, hrg⟩ := RA.at3 (hl.now H1) k hk1
      have hta : l.take (k + 1) = l.take k ++ [l[k]] := List.take_succ_eq_append_getElem hk1
      have hsucc : P l[k] = false → ∀ x ∈ l.take (k + 1), P x = false := fun h x hx => by
        rw [hta] at hx
        rcases List.mem_append.1 hx with hx | hx
        · exact HS.out x hx
        · simp only [List.mem_singleton] at hx
          subst hx
          exact h
      have hgc := HG.out l[k] _ H1
      obtain ⟨m, hm⟩ : ∃ m, m = P l[k] := ⟨_, rfl⟩
      rw [← hm] at hgc hsucc
      have hend : m = true → ∃ h : k < l.length, (∀ x ∈ l.take k, P x = false) ∧ P l[k] = true := fun h => ⟨hk1, HS.out, hm.symm.trans h⟩
      obtain ⟨p, hp⟩ : ∃ p, p = l[k] := ⟨_, rfl⟩
      rw [← hp] at hrg hgc
      unfold dv at hgc
      have HGC := Lib.hid hgc
      have HEND := Lib.hid hend
      have HSUCC := Lib.hid hsucc
      have HRG := Lib.hid hrg
      have HLT := Lib.hid hlt
      have q1 : (k : Int) < (n : Int) := by omega
      have q1n : k < n := hlt
      have wk : IntKind.i64.wrap (k : Int) = (k : Int) := by rw [IntKind.wrap_i64]; omega
      clear hgc hta hend hsucc hm hrg hp hk1 hlt
      go_wp2_with (refine wpList_load_mid (by rfl) 40 (.tmp 14) (by rfl) b (o + k * 3) (by rfl) [.int .u64 (p.t : Int), .int .u64 (p.s : Int), .int .i64 p.a] _ HRG.out Try.underlying40 rfl (by exact Try.sizeDue) ?_)
      go_wp2_with fail
      refine HGC.out.mono ?_
      rintro e w1 ⟨rfl, H2⟩
      cases m with
      | false =>
        have h3 := HSUCC.out rfl
        have H3 := Lib.hid h3
        clear h3
        go_wp2
        exact ⟨⟨k + 1, by have := HLT.out; omega, by go_num, H3.out, H2⟩, by have := HLT.out; simp [intOf]; omega⟩
      | true =>
        have h3 := HEND.out rfl
        have H3 := Lib.hid h3
        clear h3 HEND HSUCC
        go_wp2
        go_ret
        obtain ⟨h1, h2, h4⟩ := H3.out
        exact ⟨.inr ⟨k, h1, rfl, h2, h4⟩, H2⟩
    · obtain rfl : k = n := by omega
      have h3 : ∀ x ∈ l, P x = false := by
        have := HS.out
        rw [HN.out, List.take_length] at this
        exact this
      have H3 := Lib.hid h3
      clear h3 hlt
      go_wp2
      go_ret
      exact ⟨.inl ⟨rfl, H3.out⟩, H1⟩
end
end Go.Proofs.Ytgnlkcdpklgikaa
