/- Acts and pairs in memory. -/
import Derived.Test.YtpomjaidaignpaaG1
import Derived.Test.YtpomjaidaignpaaGg
import Derived.Test.YtpomjaidaignpaaRt
import Derived.Test.YtpomjaidaignpaaPt
set_option linter.unusedVariables false
set_option linter.unusedSimpArgs false
namespace Go.Proofs.Ytpomjaidaignpaa
open Go.RowKit Wd
abbrev str (l : List UInt8) : ByteArray := ⟨l.toArray⟩
theorem str_size (l : List UInt8) : (str l).size = l.length := by show l.toArray.size = _; simp
theorem str_list (s : ByteArray) : ∃ l, s = str l := ⟨s.data.toList, by cases s; simp⟩
theorem str_inj {a b : List UInt8} (h : str a = str b) : a = b := by
  injection h with h
  injection h
/-- An act whose data is a slice among others. -/
structure Ac where
  key : List UInt8
  set : Bool
  p : Pc
def Ac.act (a : Ac) : Kv.Act := ⟨a.key, a.set, a.p.l⟩
def ac (a : Ac) : List Value := [.string (str a.key), .bool a.set, a.p.v]
def acs (l : List Ac) : List Value := l.flatMap ac
theorem acs_length (l : List Ac) : (acs l).length = l.length * 3 := by
  induction l with
  | nil => rfl
  | cons a l ih => simp [acs, ac] at ih ⊢; omega
theorem acs_append (l m : List Ac) : acs (l ++ m) = acs l ++ acs m := by simp [acs]
theorem acs_at (l : List Ac) (j : Nat) (hj : j < l.length) : ((acs l).drop (j * 3)).take 3 = ac l[j] := by
  induction l generalizing j with
  | nil => simp at hj
  | cons a l ih =>
    have e1 : acs (a :: l) = ac a ++ acs l := rfl
    cases j with
    | zero => rw [e1]; rfl
    | succ j =>
      rw [e1, show (j + 1) * 3 = (ac a).length + j * 3 from by simp [ac]; omega, List.drop_append, Nat.add_sub_cancel_left, List.drop_eq_nil_of_le (by omega), List.nil_append]
      exact ih j (by simpa using hj)
theorem ac_one (a : Ac) : ∀ u ∈ ac a, u.oneCell' = true := by
  intro u hp
  simp only [ac, List.mem_cons, List.not_mem_nil, or_false] at hp
  rcases hp with rfl | rfl | rfl <;> rfl
theorem acs_one (l : List Ac) : ∀ u ∈ acs l, u.oneCell' = true := by
  intro u hu
  obtain ⟨p, -, hp⟩ := List.mem_flatMap.1 hu
  exact ac_one p u hp
theorem RA.ac3 {w : World} {B : Option Addr} {l : List Ac} (h : RA w B (acs l)) (j : Nat) (hj : j < l.length) : ∃ b o, B = some ⟨b, o, none⟩ ∧ w.rangeAt b (o + j * 3) (ac l[j]) := by
  obtain ⟨b, o, rfl, _, hr⟩ := h (by intro h0; have := acs_length l; rw [h0] at this; simp at this; omega)
  refine ⟨b, o, rfl, fun k v hk => ?_⟩
  rw [← acs_at l j hj, List.getElem?_take] at hk
  split at hk
  · rw [List.getElem?_drop] at hk
    rw [Nat.add_assoc]
    exact hr _ v hk
  · cases hk
/-- A pair whose data is a slice among others. -/
structure Pa where
  key : List UInt8
  p : Pc
def Pa.pr (a : Pa) : Kv.Pr := (a.key, a.p.l)
def pa (a : Pa) : List Value := [.string (str a.key), a.p.v]
def pas (l : List Pa) : List Value := l.flatMap pa
theorem pas_length (l : List Pa) : (pas l).length = l.length * 2 := by
  induction l with
  | nil => rfl
  | cons a l ih => simp [pas, pa] at ih ⊢; omega
theorem pas_append (l m : List Pa) : pas (l ++ m) = pas l ++ pas m := by simp [pas]
theorem pas_take (l : List Pa) (k : Nat) : (pas l).take (k * 2) = pas (l.take k) := by
  induction l generalizing k with
  | nil => simp [pas]
  | cons a l ih =>
    cases k with
    | zero => simp [pas]
    | succ k =>
      have e1 : pas (a :: l) = pa a ++ pas l := rfl
      rw [e1, List.take_succ_cons, show pas (a :: l.take k) = pa a ++ pas (l.take k) from rfl, ← ih, show (k + 1) * 2 = (pa a).length + k * 2 from by simp [pa]; omega, List.take_append, Nat.add_sub_cancel_left, List.take_of_length_le (by omega)]
theorem pas_drop (l : List Pa) (k : Nat) : (pas l).drop (k * 2) = pas (l.drop k) := by
  induction l generalizing k with
  | nil => simp [pas]
  | cons a l ih =>
    cases k with
    | zero => simp [pas]
    | succ k =>
      have e1 : pas (a :: l) = pa a ++ pas l := rfl
      rw [e1, List.drop_succ_cons, ← ih, show (k + 1) * 2 = (pa a).length + k * 2 from by simp [pa]; omega, List.drop_append, Nat.add_sub_cancel_left, List.drop_eq_nil_of_le (by omega), List.nil_append]
theorem pas_at (l : List Pa) (j : Nat) (hj : j < l.length) : ((pas l).drop (j * 2)).take 2 = pa l[j] := by
  rw [pas_drop, List.drop_eq_getElem_cons hj]
  rfl
theorem pa_one (a : Pa) : ∀ u ∈ pa a, u.oneCell' = true := by
  intro u hp
  simp only [pa, List.mem_cons, List.not_mem_nil, or_false] at hp
  rcases hp with rfl | rfl <;> rfl
theorem pas_one (l : List Pa) : ∀ u ∈ pas l, u.oneCell' = true := by
  intro u hu
  obtain ⟨p, -, hp⟩ := List.mem_flatMap.1 hu
  exact pa_one p u hp
theorem RA.pa2 {w : World} {B : Option Addr} {l : List Pa} (h : RA w B (pas l)) (j : Nat) (hj : j < l.length) : ∃ b o, B = some ⟨b, o, none⟩ ∧ w.rangeAt b (o + j * 2) (pa l[j]) := by
  obtain ⟨b, o, rfl, _, hr⟩ := h (by intro h0; have := pas_length l; rw [h0] at this; simp at this; omega)
  refine ⟨b, o, rfl, fun k v hk => ?_⟩
  rw [← pas_at l j hj, List.getElem?_take] at hk
  split at hk
  · rw [List.getElem?_drop] at hk
    rw [Nat.add_assoc]
    exact hr _ v hk
  · cases hk
/-- The data of acts, of pairs: never written again. -/
def AcIn (M : Mem) (l : List Ac) : Prop := ∀ a ∈ l, a.p.ok ∧ In M (RB · a.p.A a.p.l)
def PaIn (M : Mem) (l : List Pa) : Prop := ∀ a ∈ l, a.p.ok ∧ In M (RB · a.p.A a.p.l)
theorem AcIn.le {M M' : Mem} {l : List Ac} (h : AcIn M l) (hm : M.le M') : AcIn M' l := fun a ha => ⟨(h a ha).1, (h a ha).2.le hm⟩
theorem PaIn.le {M M' : Mem} {l : List Pa} (h : PaIn M l) (hm : M.le M') : PaIn M' l := fun a ha => ⟨(h a ha).1, (h a ha).2.le hm⟩
theorem AcIn.nil (M : Mem) : AcIn M [] := fun a ha => by cases ha
theorem PaIn.nil (M : Mem) : PaIn M [] := fun a ha => by cases ha
theorem AcIn.snoc {M : Mem} {l : List Ac} (h : AcIn M l) {a : Ac} (hp : a.p.ok) (hi : In M (RB · a.p.A a.p.l)) : AcIn M (l ++ [a]) := fun q hq => by
  rcases List.mem_append.1 hq with hq | hq
  · exact h q hq
  · simp only [List.mem_singleton] at hq
    subst hq
    exact ⟨hp, hi⟩
theorem PaIn.snoc {M : Mem} {l : List Pa} (h : PaIn M l) {a : Pa} (hp : a.p.ok) (hi : In M (RB · a.p.A a.p.l)) : PaIn M (l ++ [a]) := fun q hq => by
  rcases List.mem_append.1 hq with hq | hq
  · exact h q hq
  · simp only [List.mem_singleton] at hq
    subst hq
    exact ⟨hp, hi⟩
section
variable {w0 w : World} {M M' : Mem} {L : List Ent}
theorem SrA.le {A : Option Addr} {cs : List Value} (h : SrA w0 M L A cs) (hm : M.le M') : SrA w0 M' L A cs := fun w' M'' hM H => h w' M'' (hm.trans hM) H
theorem SrA.ac3 {b o : Nat} {l : List Ac} (h : SrA w0 M L (some ⟨b, o, none⟩) (acs l)) (j : Nat) (hj : j < l.length) : ∀ W M', M.le M' → St w0 W M' L → W.rangeAt b (o + j * 3) (ac l[j]) := fun W M' hM hW => by
  obtain ⟨b', o', he, hc⟩ := RA.ac3 (h W M' hM hW) j hj
  injection he with he
  injection he with h1 h2
  subst h1 h2
  exact hc
theorem SrA.pa2 {b o : Nat} {l : List Pa} (h : SrA w0 M L (some ⟨b, o, none⟩) (pas l)) (j : Nat) (hj : j < l.length) : ∀ W M', M.le M' → St w0 W M' L → W.rangeAt b (o + j * 2) (pa l[j]) := fun W M' hM hW => by
  obtain ⟨b', o', he, hc⟩ := RA.pa2 (h W M' hM hW) j hj
  injection he with he
  injection he with h1 h2
  subst h1 h2
  exact hc
theorem Wd.In.oldRA {w0 w : World} {M : Mem} {L : List Ent} (H : St w0 w M L) {A : Option Addr} {cs : List Value} (hb : RA w0 A cs) : In M fun W => RA W A cs := fun W hW hl => by
  obtain ⟨b, o, rfl, hlt, hr⟩ := hb hl
  have he : W.heap[b]? = w0.heap[b]? := by
    have h1 := H.old b hlt
    rw [Array.getElem?_eq_getElem hlt] at h1 ⊢
    exact hW b _ h1
  refine ⟨b, o, rfl, ?_, fun j v hj => (World.cell?_of_block (w := w0) he).trans (hr j v hj)⟩
  rw [Array.getElem?_eq_getElem hlt] at he
  exact (Array.getElem?_eq_some_iff.1 he).1
end
theorem Try.sizeAct : (Try.prog.info? 53).map (·.size) = some 3 := by kernel_rfl
theorem Try.zeroAct : (Try.prog.info? 53).map (fun i => (i.zero, i.size)) = some (some (.agg #[.string ⟨#[]⟩, .bool false, .slice none 0 0]), 3) := by kernel_rfl
theorem Try.infoAct : (Try.prog.info? 53).map (fun i => (i.zero, i.size, i.bytes)) = some (some (.agg #[.string ⟨#[]⟩, .bool false, .slice none 0 0]), 3, 48) := by kernel_rfl
theorem Try.sizePair : (Try.prog.info? 59).map (·.size) = some 2 := by kernel_rfl
theorem Try.zeroPair : (Try.prog.info? 59).map (fun i => (i.zero, i.size)) = some (some (.agg #[.string ⟨#[]⟩, .slice none 0 0]), 2) := by kernel_rfl
theorem Try.infoPair : (Try.prog.info? 59).map (fun i => (i.zero, i.size, i.bytes)) = some (some (.agg #[.string ⟨#[]⟩, .slice none 0 0]), 2, 40) := by kernel_rfl
end Go.Proofs.Ytpomjaidaignpaa
