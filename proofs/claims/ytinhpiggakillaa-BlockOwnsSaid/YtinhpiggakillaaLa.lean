/- The law BlockOwns, walked. -/
import Derived.Test.YtinhpiggakillaaCv
set_option linter.unusedVariables false
set_option linter.unusedSimpArgs false
namespace Go.Proofs.Ytinhpiggakillaa
open Go.RowKit Wd

def OwnsS (w0 w' : World) (b : Nat) (c : UInt8) : Prop := Below w0.heap.size w0 w' ∧ Blk w' b 62 (bv (List.replicate 64 c))
theorem awake_below {w0 w : World} (h : Below w0.heap.size w0 w) : Calls Try.prog 9 #[] w fun e w' => e = .returned (.bool true) ∧ Below w0.heap.size w0 w' :=
  (awake_any w).mono fun e w' ⟨he, hb⟩ => ⟨he, (hb.mono (B' := w0.heap.size) h.size).trans_of h⟩
theorem filled_ex (c : UInt8) (w : World) : Calls Try.prog 11 #[.int .u8 (c.toNat : Int)] w fun e w' =>
    ∃ g, e = .returned (.slice (some ⟨g, 0, none⟩) 64 64) ∧ Blk w' g 5 (bv (List.replicate 64 c)) ∧ Below w.heap.size w w' :=
  (filled_any c w).mono fun e w' ⟨he, hb, hs, hbe⟩ => ⟨_, he, hb, hbe⟩
set_option maxRecDepth 100000 in
theorem owns_any (n : Int) (c : UInt8) (w : World) : Calls Try.prog 3 #[.int .i64 n, .int .u8 (c.toNat : Int)] w fun e w' => e = .returned (.bool true) ∧ Below w.heap.size w w' := by
  by_cases hno : n < 1 ∨ 4096 < n
  · rcases hno with h | h
    · go_enter Try.func3, Try.ntmps3
      go_wp2_with (go_at_call 8; refine (new_no _ _ (.inl h)).mono ?_; rintro e w' ⟨rfl, rfl⟩)
      go_wp2_with (go_at_call 9; refine (awake_any _).mono ?_; rintro e w' ⟨rfl, hb⟩)
      go_ret
      exact ⟨rfl, hb⟩
    · have h' : ¬ n < 1 := by omega
      go_enter Try.func3, Try.ntmps3
      go_wp2_with (go_at_call 8; refine (new_no _ _ (.inr h)).mono ?_; rintro e w' ⟨rfl, rfl⟩)
      go_wp2_with (go_at_call 9; refine (awake_any _).mono ?_; rintro e w' ⟨rfl, hb⟩)
      go_ret
      exact ⟨rfl, hb⟩
  · obtain ⟨N, rfl⟩ : ∃ N : Nat, n = (N : Int) := ⟨n.toNat, by omega⟩
    have h1 : 1 ≤ N := by omega
    have h2 : N ≤ 4096 := by omega
    have q1 : ¬ (N : Int) < 1 := by omega
    have q2 : ¬ (4096 : Int) < (N : Int) := by omega
    have H1 := Lib.hid h1
    have H2 := Lib.hid h2
    clear hno h1 h2
    go_enter Try.func3, Try.ntmps3
    go_wp2_with (go_at_call 8; refine (new_yes N _ H1.out H2.out).mono ?_; rintro e w1 ⟨rfl, hF1, hbe1, hsz1⟩)
    go_wp2_with fail
    refine (filled_file hF1 c).mono ?_
    rintro e w2 ⟨g2, rfl, hg2, hF2, hbe2⟩
    go_wp2_with fail
    refine (write_any hF2 0 (by have := H1.out; show 0 < N; omega) g2 0 64 (List.replicate 64 c) List.length_replicate hg2.whole hg2.lt (by simp [FM.new])).mono ?_
    rintro e w3 ⟨rfl, pv3, hF3, hk3⟩
    have b2 := (hbe2.mono (B' := w.heap.size) hbe1.size).trans_of hbe1
    have b3 := (hk3.below (B := w.heap.size) b2.size (fun k hk => by omega)).trans_of b2
    obtain ⟨F, hFe⟩ : ∃ F, F = (FM.new N).write 0 (List.replicate 64 c) := ⟨_, rfl⟩
    rw [← hFe] at hF3
    have hn : F.n = N := by rw [hFe, FM.write_n]; rfl
    have hat : F.at_ 0 = List.replicate 64 c := by rw [hFe]; exact FM.write_new H1.out _ List.length_replicate
    have HN := Lib.hid hn
    have HAT := Lib.hid hat
    clear hFe hn hat hF1 hbe1 hsz1 hg2 hF2 hbe2 hk3 b2
    go_wp2_with fail
    refine (read_any hF3 0 (by rw [HN.out]; exact H1.out)).mono ?_
    rintro e w4 ⟨rfl, hb4, hbe4, hsz4⟩
    rw [HAT.out] at hb4
    have hF4 := hF3.below hbe4
    have b4 := (hbe4.mono (B' := w.heap.size) b3.size).trans_of b3
    have d5 : w4.cell? ⟨w3.heap.size, 5, none⟩ = some (.int .u8 (c.toNat : Int)) := by rw [hb4.cell]; rfl
    have f5 := hb4.frozen 5
    have i1 : w.heap.size + 1 < w3.heap.size := hF3.blk.lt
    go_wp2_with fail
    generalize hw5 : w4.setCell ⟨w3.heap.size, 5, none⟩ _ = w5
    have hk5 : Keeps w4 w5 (· = w3.heap.size) := by rw [← hw5]; exact (Keeps.refl w4 (· = w3.heap.size)).setCell (.inl rfl) _
    have hF5 := hF4.keep hk5 (by omega) (by omega) (own_ne hF4.own hb4 (by decide))
    have b5 := (hk5.below (B := w.heap.size) b4.size (fun k hk => by omega)).trans_of b4
    clear d5 f5 hb4 hbe4 hsz4 hw5 hk5 hF4 b4 hF3
    have dd := dump_any hF5
    have hlen := hF5.ok.len
    rw [HN.out] at dd hlen
    have HL := Lib.hid hlen
    obtain ⟨l, hl⟩ : ∃ l, l = F.l := ⟨_, rfl⟩
    rw [← hl] at dd hlen
    refine dd.mono ?_
    rintro e w6 ⟨g, gc, rfl, hown, hbe6⟩
    clear dd
    have hF6 := hF5.below hbe6
    have b6 := (hbe6.mono (B' := w.heap.size) b5.size).trans_of b5
    have q3 : ¬ (64 * (N : Int)) < 0 := by omega
    have hwr : IntKind.i64.wrap (64 * (N : Int)) = 64 * (N : Int) := by rw [IntKind.wrap_i64]; omega
    have hgb := hown.lt g rfl
    obtain ⟨v6, hv6⟩ : ∃ v : UInt8, l[6]? = some v := ⟨_, List.getElem?_eq_getElem (by have := H1.out; omega)⟩
    have d6 : w6.cell? ⟨g, 6, none⟩ = some (.int .u8 (v6.toNat : Int)) := by
      have := own_holds hown _ rfl 6 (.int .u8 (v6.toNat : Int)) (by rw [bv_get, hv6]; rfl)
      rwa [Addr.add_mid] at this
    have d6n : (6 : Int) < 64 * (N : Int) := by omega
    have f6 := hown.frozenAt 6
    have i2 := hF5.blk.lt
    clear hlen hl hown hv6
    go_wp2_with fail
    generalize hw7 : w6.setCell ⟨g, 6, none⟩ _ = w7
    have hk7 : Keeps w6 w7 (· = g) := by rw [← hw7]; exact (Keeps.refl w6 (· = g)).setCell (.inl rfl) _
    have hF7 := hF6.keep hk7 (by omega) (by omega) (by
      intro k hk
      have := (hF5.own.lt k hk).2
      omega)
    have b7 := (hk7.below (B := w.heap.size) b6.size (fun k hk => by omega)).trans_of b6
    refine (read_any hF7 0 (by rw [HN.out]; exact H1.out)).mono ?_
    rintro e w8 ⟨rfl, hb8, hbe8, hsz8⟩
    rw [HAT.out] at hb8
    have b8 := (hbe8.mono (B' := w.heap.size) b7.size).trans_of b7
    clear d6 f6 hw7 hk7 hF6 hF5 hF7 hbe6 b3 b5 b6 b7 hbe8 q1 q2 q3 d6n hgb
    go_wp2_with fail
    refine Pl.wp_plan (fun w' => Below w.heap.size w w' ∧ Blk w' w7.heap.size 62 (bv (List.replicate 64 c))) [0, 1, 2, 3, 4, 5] [6, 7, 8, 9, 10, 11, 12] [13] Try.mixed (by kernel_rfl) (fun _ _ d _ _ h => by cases d <;> exact h) ⟨b8.drew, hb8⟩ ?_
    simp only [Pl.pick, List.drop_succ_cons, List.drop_zero]
    iterate 4 (refine Pl.head_run (v := ?_) (by rfl) ?_ ?_; rotate_left; (focus (intro w' hS; obtain ⟨s0, s1⟩ := hS; go_simp; with_reducible rfl)); simp only [Act.put, List.setIfInBounds_toArray, List.set_cons_zero, List.set_cons_succ])
    (refine Pl.head_run (v := ?_) (by rfl) ?_ ?_; rotate_left; (focus (intro w' hS; obtain ⟨s0, s1⟩ := hS; have hcv := conv_range (P := Try.prog) (src := 28) (dst := 9) (c := 64) (n := 64) Try.underlying28 Try.underlying5 Try.underlying9 s1.whole (by simp); go_simp; with_reducible rfl)); simp only [Act.put, List.setIfInBounds_toArray, List.set_cons_zero, List.set_cons_succ])
    (refine Pl.head_run (v := ?_) (by rfl) ?_ ?_; rotate_left; (focus (intro w' hS; obtain ⟨s0, s1⟩ := hS; go_simp; with_reducible rfl)); simp only [Act.put, List.setIfInBounds_toArray, List.set_cons_zero, List.set_cons_succ])
    refine Pl.head_nil ?_
    simp only [Pl.Mid]
    have b8' := b8.drew
    have hb8' := hb8.drew
    clear b8 hb8
    go_wp2_with fail
    refine (filled_ex c _).mono ?_
    rintro e w9 ⟨g9, rfl, hb9, hbe9⟩
    have b9 := (hbe9.mono (B' := w.heap.size) b8'.size).trans_of b8'
    have hx9 := hb8'.below hbe9 hb8'.lt
    have hcv := conv_range (P := Try.prog) (src := 28) (dst := 9) (c := 64) (n := 64) Try.underlying28 Try.underlying5 Try.underlying9 hb9.whole (by simp)
    clear b8' hb8' hbe9 hb9
    go_wp2_with fail
    refine (⟨⟨b9, hx9⟩, ?_⟩ : (_ ∧ _) ∧ _)
    go_wp2_with fail
    refine (⟨⟨b9, hx9⟩, ?_⟩ : (_ ∧ _) ∧ _)
    clear hcv
    go_wp2_with fail
    refine (⟨⟨b9, hx9⟩, ?_⟩ : (_ ∧ _) ∧ _)
    go_wp2_with fail
    refine (⟨⟨b9, hx9⟩, ?_⟩ : (_ ∧ _) ∧ _)
    go_wp2_with fail
    refine (⟨⟨b9, hx9⟩, ?_⟩ : (_ ∧ _) ∧ _)
    go_wp2_with fail
    refine (awake_any _).mono ?_
    rintro e w10 ⟨rfl, hbe10⟩
    have b10 := (hbe10.mono (B' := w.heap.size) b9.size).trans_of b9
    have hx10 := hx9.below hbe10 hx9.lt
    clear hx9 b9 hbe10
    go_wp2_with fail
    refine (⟨⟨b10, hx10⟩, ?_⟩ : (_ ∧ _) ∧ _)
    go_wp2_with fail
    refine (⟨⟨b10, hx10⟩, ?_⟩ : (_ ∧ _) ∧ _)
    go_wp2
    go_ret
    exact ⟨rfl, b10⟩
end Go.Proofs.Ytinhpiggakillaa
