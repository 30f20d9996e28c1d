/- BlockFuse's plain law: the file and the reference's beside a shadow that never blows. No program is in sight. -/
import Derived.Test.YtinhpiggakillaaSa
set_option linter.unusedVariables false
set_option linter.unusedSimpArgs false
namespace Go.Proofs.Ytinhpiggakillaa
open Go.RowKit Wd
theorem crashed_last (l : List UInt8) (ps : List PW) (i : Nat) (b : List UInt8) (T : Nat) (hb : b.length = 64) (hl : 64 * i + 64 ≤ l.length) :
    crashed (spl l (64 * i) b) (ps ++ [⟨i, atB l i, b⟩]) ps.length T = spl l (64 * i) (b.take T) := by
  unfold crashed
  rw [List.drop_left]
  show spl (spl (spl l (64 * i) b) (64 * i) (atB l i)) (64 * i) (b.take T) = _
  rw [spl_back l b i hb hl]
structure Inv (N : Nat) (T k : Int) (F S : FM) (R : RM) (j : Nat) : Prop where
  n : F.n = N
  sn : S.n = N
  l : F.l = S.l
  sset : S.set = false
  soff : S.off = false
  many : F.pend.length ≤ j
  rel : Rel S R j
  way : (F.off = false ∧ F.set = true ∧ F.left = k ∧ F.torn = min 64 (max 0 T) ∧ 0 ≤ k) ∨ (F.off = true ∧ k = -1)
section
variable {N : Nat} {T k : Int} {F S : FM} {R : RM} {j : Nat}
theorem Inv.sync (h : Inv N T k F S R j) : Inv N T k { F with pend := [] } S R j := { h with n := h.n, l := h.l, many := Nat.zero_le _, way := h.way }
theorem Inv.mono (h : Inv N T k F S R j) {j' : Nat} (hj : j ≤ j') : Inv N T k F S R j' := { h with many := by have := h.many; omega, rel := h.rel.mono hj }
theorem Inv.stay (h : Inv N T (-1) F S R j) (i : Nat) (b : List UInt8) : F.write i b = F := by
  rcases h.way with h | h
  · have := h.2.2.2.2; omega
  · unfold FM.write; rw [if_pos h.1]
theorem swrite (h : Inv N T k F S R j) (i : Nat) (b : List UInt8) : S.write i b = S.put i b := by
  unfold FM.write
  rw [if_neg (by rw [h.soff]; simp), if_neg (by rw [h.sset]; simp)]
theorem Inv.put (h : Inv N T k F S R j) (hk : 0 < k) (i : Nat) (b : List UInt8) {R' : RM} (hr : Rel (S.write i b) R' (j + 1)) : Inv N T (k - 1) (F.write i b) (S.write i b) R' (j + 1) := by
  have hw : F.write i b = F.put i b := by
    rcases h.way with ⟨h1, h2, h3, _, _⟩ | h
    · unfold FM.write
      rw [if_neg (by rw [h1]; simp), if_neg]
      simp only [Bool.and_eq_true, beq_iff_eq, h3]
      omega
    · have := h.2; omega
  rcases h.way with ⟨h1, h2, h3, h4, h5⟩ | h'
  · rw [hw]
    have hs := swrite h i b
    rw [hs] at hr ⊢
    refine { n := h.n, sn := h.sn, l := ?_, sset := h.sset, soff := h.soff, many := ?_, rel := hr, way := .inl ⟨h1, h2, ?_, h4, by omega⟩ }
    · show spl F.l _ _ = spl S.l _ _
      rw [h.l]
    · show (F.pend ++ [_]).length ≤ j + 1
      have := h.many
      simp
      omega
    · show (if F.set then F.left - 1 else F.left) = k - 1
      rw [if_pos h2, h3]
  · have := h'.2; omega
theorem Inv.blow (h : Inv N T 0 F S R j) (i : Nat) (hi : i < N) (b : List UInt8) (hb : b.length = 64) {R' R'' : RM} (hr : Rel (S.write i b) R' (j + 1)) {q : Int} (hq : q = (R'.ws.length : Int) - 1)
    (hr2 : Rel ((S.write i b).crash q T) R'' (j + 1)) : Inv N T (-1) (F.write i b) ((S.write i b).crash q T) R'' (j + 1) := by
  have hs := swrite h i b
  have hlen : S.l.length = 64 * N := by rw [h.rel.l, lay_length _ _ h.rel.len _ h.rel.ok, h.sn]
  have hq2 : q = (S.pend.length : Int) := by
    have h1 := hr.pn
    rw [hs] at h1
    have h2 : (S.pend ++ [(⟨i, S.at_ i, b⟩ : PW)]).length = R'.ws.length := h1
    simp at h2
    omega
  rcases h.way with ⟨h1, h2, h3, h4, h5⟩ | h'
  · have hw : F.write i b = F.fused i b := by
      unfold FM.write
      rw [if_neg (by rw [h1]; simp), if_pos (by rw [h2, h3]; rfl)]
    rw [hw]
    rw [hs] at hr hr2 ⊢
    refine { n := h.n, sn := h.sn, l := ?_, sset := rfl, soff := rfl, many := Nat.zero_le _, rel := hr2, way := .inr ⟨rfl, rfl⟩ }
    show spl F.l (64 * i) (b.take F.torn.toNat) = crashed (spl S.l (64 * i) b) (S.pend ++ [⟨i, atB S.l i, b⟩]) (max 0 q).toNat (min 64 (max 0 T)).toNat
    rw [show (max 0 q).toNat = S.pend.length from by omega, crashed_last _ _ _ _ _ hb (by rw [hlen]; omega), h.l, h4]
  · have := h'.2; omega
theorem inv_new (N : Nat) (h : N ≤ 4096) (K T k : Int) (hk : k = max 0 K) : Inv N T k ((FM.new N).fuse K T) (FM.new N) (RZ (List.replicate (64 * N) 0)) 0 := by
  subst hk
  exact { n := rfl, sn := rfl, l := rfl, sset := rfl, soff := rfl, many := Nat.le_refl _, rel := rel_new N h, way := .inl ⟨rfl, rfl, rfl, rfl, by omega⟩ }
theorem Inv.done (h : Inv N T k F S R j) : (({ F with pend := [] } : FM).crash 0 0).l = S.l := h.l
end
end Go.Proofs.Ytinhpiggakillaa
