/- THE THEOREM OF CRASHES in plain Lean: what a file's bytes are behind a batch during which the power went. -/
import Derived.Test.YtpomjaidaignpaaGreatY9
set_option linter.unusedVariables false
set_option linter.unusedSimpArgs false
namespace Go.Proofs.YtpomjaidaignpaaGreat
open Go.RowKit Wd
namespace Kv
/-- The records of a file's bytes. -/
def recsL (l : List UInt8) : List (List UInt8) := (Lg.records (Lg.generation l) (Lg.half l (Lg.generation l))).1
/-- As it was, or as the batch leaves it; or a record that nobody wrote follows. -/
def Outcome (S N : RS) (l : List UInt8) : Prop :=
  (∃ D, mload [] (recsL l) = some D ∧ (Rel S.L D ∨ Rel N.L D)) ∨
  (Lg.generation l = S.gen ∧ ∃ more b, recsL l = S.R ++ more ∧ more ≠ [] ∧ N.R = S.R ++ [b] ∧ more ≠ [b])
section
variable {F : FM} {gen en : Nat} {ls : List (List UInt8)} {D : List Pr} {S : RS} {l : List Act}
theorem SI.recs (h : SI F gen ls en D S) : recsL F.l = ls := by
  unfold recsL
  rw [h.gen_, h.rec_]
theorem recsL_len {l : List UInt8} {n : Nat} (hl : l.length = 64 * n) (h6 : 6 ≤ n) (h128 : n ≤ 128) : (recsL l).length ≤ 10000 := by
  obtain ⟨R, hR⟩ : ∃ R, R = Lg.records (Lg.generation l) (Lg.half l (Lg.generation l)) := ⟨_, rfl⟩
  have hr : Lg.records (Lg.generation l) (Lg.half l (Lg.generation l)) = (R.1, R.2) := by rw [← hR]
  obtain ⟨r, -⟩ := Lg.records_rec hr
  have h1 := r.le
  rw [Lg.half_len hl (by omega)] at h1
  have h2 : 64 * Lg.halfN n ≤ 8192 := by unfold Lg.halfN; omega
  have h3 : recsL l = R.1 := by unfold recsL; rw [← hR]
  rw [h3]
  rcases h1.2 with h4 | h4
  · rw [h4]; simp
  · omega
theorem recsL_of {l : List UInt8} {g e : Nat} {ls : List (List UInt8)} (hg : Lg.generation l = g) (hr : Lg.records g (Lg.half l g) = (ls, e)) : recsL l = ls := by
  unfold recsL
  rw [hg, hr]
theorem out_same (h : SI F gen ls en D S) (N : RS) {l' : List UInt8} (hl : recsL l' = ls) : Outcome S N l' := by
  obtain ⟨D0, h1, h2⟩ := h.load
  exact .inl ⟨D0, by rw [hl]; exact h1, .inl (h.rel.perm h2.symm)⟩
theorem out_no (h : SI F gen ls en D S) (N : RS) {l' : List UInt8} (hl : l' = F.l) : Outcome S N l' := out_same h N (by rw [hl]; exact h.recs)
theorem out_next {N : RS} {F' : FM} {gen' en' : Nat} {ls' : List (List UInt8)} {D' : List Pr} (h : SI F' gen' ls' en' D' N) {l' : List UInt8} (hl : l' = F'.l) : Outcome S N l' := by
  obtain ⟨D0, h1, h2⟩ := h.load
  exact .inl ⟨D0, by rw [hl, h.recs]; exact h1, .inr (h.rel.perm h2.symm)⟩
theorem out_app (h : SI F gen ls en D S) (hoff : F.off = false) (hc : check l = 0) (hr : Lg.total (S.R ++ [bytes l]) ≤ S.size) : Outcome S (S.next l) (Lg.appF F gen en (bytes l)).l := by
  have h2 : 2 ≤ F.n := by have := h.n6; omega
  have hf := h.fits hr
  obtain ⟨k, h1⟩ := Lg.appF_l (F := F) (gen := gen) (en := en) (b := bytes l) h.len h2 hoff hf
  rcases h1 with ⟨_, h3⟩ | ⟨_, h3⟩
  · exact out_next (h.app (L' := []) hc hr k.n h3) rfl
  · have hlow : ∀ p : Nat, p < 64 * Lg.halfFrom F.n gen + en → (Lg.appF F gen en (bytes l)).l[p]? = F.l[p]? := Lg.mixed_low h3 fun p hp => Lg.appL_get h.len h2 hf hp
    obtain ⟨hg, -⟩ := Lg.app_gen hlow
    rw [h.gen_] at hg
    obtain ⟨more, e2, hm⟩ := Lg.app_mix h.len (by rw [k.len]; exact h.len) h2 h.rec_ hlow
    have hrl := recsL_of hg hm
    by_cases hm0 : more = []
    · exact out_same h _ (by rw [hrl, hm0, List.append_nil])
    · by_cases hm1 : more = [bytes l]
      · obtain ⟨D0, h4, h5⟩ := h.load
        have h6 : Rel S.L D0 := h.rel.perm h5.symm
        exact .inl ⟨mturn D0 l, by rw [hrl, hm1]; exact mload_snoc h4 hc, .inr (h6.turn l)⟩
      · exact .inr ⟨by rw [hg, h.G], more, bytes l, by rw [hrl, h.R], hm0, rfl, hm1⟩
theorem out_re (h : SI F gen ls en D S) (hoff : F.off = false) (ht : F.torn ≤ 64) (hh : Lg.Heads F.l gen) (hc : check l = 0) (hr : Lg.total (recsOf (turn S.L l)) ≤ S.size) : Outcome S (S.anew l) (Lg.reF F gen (recsOf (turn S.L l))).l := by
  have hz := h.Z
  have hfit : Lg.total (recsOf (turn S.L l)) ≤ 64 * Lg.halfN F.n := by omega
  have hok := turn_okP h hc
  have hs := hh.small
  obtain ⟨k, h1⟩ := Lg.reF_l (F := F) (gen := gen) (own := recsOf (turn S.L l)) h.len h.n6 hoff ht hfit
  rcases h1 with ⟨_, h3⟩ | ⟨_, h3⟩ | ⟨_, t, ht64, h3⟩
  · exact out_next (h.re hc hr (by omega) k.n h3) rfl
  · obtain ⟨h4, h5⟩ := Lg.mix_half h.len h.n6 hfit h3
    rw [h.gen_] at h4
    exact out_same h _ (recsL_of h4 (by rw [h5]; exact h.rec_))
  · rcases Lg.re_torn h.len h.n6 hfit hh t ht64 with h4 | h4
    · rw [← h3] at h4
      exact out_same h _ (recsL_of h4 (by rw [h3, Lg.reL_half h.len h.n6 hfit t]; exact h.rec_))
    · rw [← h3] at h4
      have hr2 := Lg.reL_new (gen := gen) h.len h.n6 hfit t (recsOf_long hok)
      rw [← h3] at hr2
      have hR := h.rel.turn l
      have hm := mload_recs (turn S.L l) [] (by rw [List.nil_append]; exact sorted_apart hR.1) hok
      rw [List.nil_append] at hm
      exact .inl ⟨turn S.L l, by rw [recsL_of h4 hr2]; exact hm, .inr ⟨hR.1, List.Perm.refl _⟩⟩
/-- Heads go on being such. -/
theorem heads_app (h : SI F gen ls en D S) (hF : Calm F) (hh : Lg.Heads F.l gen) (hr : Lg.total (S.R ++ [bytes l]) ≤ S.size) : Lg.Heads (Lg.appF F gen en (bytes l)).l gen := by
  have h2 : 2 ≤ F.n := by have := h.n6; omega
  have hf := h.fits hr
  obtain ⟨k, h1⟩ := Lg.appF_l (F := F) (gen := gen) (en := en) (b := bytes l) h.len h2 hF.2.1 hf
  obtain ⟨_, k2⟩ := k.set hF.1
  rcases h1 with ⟨_, h3⟩ | ⟨h4, _⟩
  · rw [h3]
    exact hh.same (Lg.app_gen (n := F.n) (gen := gen) (en := en) fun p hp => Lg.appL_get h.len h2 hf hp).2
  · rw [k2] at h4
    cases h4
theorem heads_re (h : SI F gen ls en D S) (hF : Calm F) (ht : F.torn ≤ 64) (hh : Lg.Heads F.l gen) (hr : Lg.total (recsOf (turn S.L l)) ≤ S.size) (hs : gen + 1 < 255) : Lg.Heads (Lg.reF F gen (recsOf (turn S.L l))).l (gen + 1) := by
  have hz := h.Z
  have hfit : Lg.total (recsOf (turn S.L l)) ≤ 64 * Lg.halfN F.n := by omega
  obtain ⟨k, h1⟩ := Lg.reF_l (F := F) (gen := gen) (own := recsOf (turn S.L l)) h.len h.n6 hF.2.1 ht hfit
  obtain ⟨_, k2⟩ := k.set hF.1
  rcases h1 with ⟨_, h3⟩ | ⟨h4, _⟩ | ⟨h4, _⟩
  · rw [h3]
    exact hh.re h.len h.n6 hfit hs
  · rw [k2] at h4
    cases h4
  · rw [k2] at h4
    cases h4
end
/-! ### A fresh file -/
theorem zeros_num : ∀ k : Nat, Lg.num (List.replicate k 0) = 0
  | 0 => rfl
  | k + 1 => by
    rw [List.replicate_succ', Lg.num_snoc, zeros_num k]
    rfl
theorem zeros_blk (n i : Nat) (hi : i < 2) (h : 2 ≤ n) : Lg.num ((Lg.blk (List.replicate (64 * n) 0) i).take 8) = 0 := by
  unfold Lg.blk
  rw [List.drop_replicate, List.take_replicate, List.take_replicate]
  exact zeros_num _
theorem zeros_heads (n : Nat) (h : 2 ≤ n) : Lg.generation (List.replicate (64 * n) 0) = 0 ∧ Lg.Heads (List.replicate (64 * n) 0) 0 := by
  have h0 := Lg.hv_le (Lg.blk (List.replicate (64 * n) 0) 0)
  have h1 := Lg.hv_le (Lg.blk (List.replicate (64 * n) 0) 1)
  rw [zeros_blk n 0 (by omega) h] at h0
  rw [zeros_blk n 1 (by omega) h] at h1
  refine ⟨by rw [Lg.generation_hv]; omega, ⟨by show Lg.hv (Lg.blk _ 0) = 0; omega, fun i hi => by rw [zeros_blk n i hi h]; exact Nat.le_refl _, by decide⟩⟩
/-! ### Which records begin so -/
def Begins (x y : List (List UInt8)) : Prop := x.length ≤ y.length ∧ x = y.take x.length
theorem torn_not {R more : List (List UInt8)} {b : List UInt8} (h1 : more ≠ []) (h2 : more ≠ [b]) : ¬ Begins (R ++ more) R ∧ ¬ Begins (R ++ more) (R ++ [b]) := by
  have hl : 1 ≤ more.length := by cases more with | nil => exact absurd rfl h1 | cons _ _ => simp
  refine ⟨fun h => ?_, fun h => ?_⟩
  · have := h.1
    rw [List.length_append] at this
    omega
  · have h3 := h.1
    have h4 := h.2
    rw [List.length_append, List.length_append] at h3
    simp only [List.length_cons, List.length_nil] at h3
    have h5 : more.length = 1 := by omega
    rw [List.take_of_length_le (by rw [List.length_append, List.length_append, h5]; exact Nat.le_refl _)] at h4
    exact h2 (List.append_cancel_left h4)
end Kv
theorem FM.crash_l {F : FM} (hp : F.pend = []) : (F.crash 0 0).l = F.l ∧ (F.crash 0 0).n = F.n ∧ Calm (F.crash 0 0) := by
  refine ⟨?_, rfl, rfl, rfl, rfl⟩
  show crashed F.l F.pend _ _ = F.l
  rw [hp]
  rfl
end Go.Proofs.YtpomjaidaignpaaGreat
