/- A store's pairs, its records and its file, and the document's store, in plain Lean: what a batch leaves of each. -/
import Derived.Test.YtepgmebklhemgaaGreatDoorA7
import Derived.Test.YtepgmebklhemgaaGreatDoorG3
set_option linter.unusedVariables false
set_option linter.unusedSimpArgs false
namespace Go.Proofs.YtepgmebklhemgaaGreatDoor
open Go.RowKit Wd
namespace Kv
/-- A pair that may be. -/
def okP (p : Pr) : Prop := p.1 ≠ [] ∧ p.1.length ≤ 1024 ∧ p.2.length ≤ 60000
def recOf (p : Pr) : List UInt8 := bytes [⟨p.1, true, p.2⟩]
def recsOf (L : List Pr) : List (List UInt8) := L.map recOf
theorem recOf_len (p : Pr) : (recOf p).length = 6 + p.1.length + p.2.length := by
  simp [recOf, bytes, all, one, be2_len]
  omega
theorem long_no {l : List Act} (h : check l = 0) {a : Act} (ha : a ∈ l) : a.key.length ≤ 1024 ∧ a.data.length ≤ 60000 := by
  have hl := (check_zero h).2.2.1
  have h2 : long a = false := by
    cases h : long a with
    | false => rfl
    | true => rw [List.any_eq_true.2 ⟨_, ha, h⟩] at hl; cases hl
  unfold long at h2
  simp only [Bool.or_eq_false_iff, decide_eq_false_iff_not] at h2
  omega
theorem check_one {p : Pr} (h : okP p) : check [⟨p.1, true, p.2⟩] = 0 := by
  obtain ⟨h1, h2, h3⟩ := h
  have hb : bad ⟨p.1, true, p.2⟩ = false := by
    unfold bad
    simp [h1]
  have hl : long ⟨p.1, true, p.2⟩ = false := by
    unfold long
    simp only [Bool.or_eq_false_iff, decide_eq_false_iff_not]
    omega
  have hn := recOf_len p
  unfold recOf at hn
  unfold check
  rw [List.any_cons, List.any_nil, hb, List.any_cons, List.any_nil, hl, hn]
  simp
  omega
theorem mturn1_ok {D : List Pr} {a : Act} (hD : ∀ p ∈ D, okP p) (ha : a.set = true → okP (a.key, a.data)) : ∀ p ∈ mturn1 D a, okP p := by
  intro p hp
  unfold mturn1 at hp
  split at hp
  · rename_i hs
    unfold mput at hp
    split at hp
    · obtain ⟨q, hq, rfl⟩ := List.mem_map.1 hp
      split
      · exact ha hs
      · exact hD q hq
    · rcases List.mem_append.1 hp with hp | hp
      · exact hD p hp
      · rw [List.mem_singleton.1 hp]
        exact ha hs
  · exact hD p (List.mem_filter.1 hp).1
theorem mturn_ok' : ∀ (l : List Act) {D : List Pr}, (∀ p ∈ D, okP p) → (∀ a ∈ l, a.set = true → okP (a.key, a.data)) → ∀ p ∈ mturn D l, okP p
  | [], D, hD, _ => hD
  | a :: l, D, hD, hl => mturn_ok' l (D := mturn1 D a) (mturn1_ok hD (hl a (by simp))) fun b hb => hl b (by simp [hb])
theorem acts_ok {l : List Act} (h : check l = 0) : ∀ a ∈ l, a.set = true → okP (a.key, a.data) := fun a ha _ => ⟨check_key h a ha, (long_no h ha).1, (long_no h ha).2⟩
theorem mturn_ok {D : List Pr} {l : List Act} (hD : ∀ p ∈ D, okP p) (h : check l = 0) : ∀ p ∈ mturn D l, okP p := mturn_ok' l hD (acts_ok h)
theorem mturn1_len (D : List Pr) (a : Act) : (mturn1 D a).length ≤ D.length + 1 := by
  unfold mturn1 mput mdel
  split
  · split
    · rw [List.length_map]; omega
    · rw [List.length_append]; simp
  · have := List.length_filter_le (fun p : Pr => !(p.1 == a.key)) D
    omega
theorem mturn_len : ∀ (l : List Act) (D : List Pr), (mturn D l).length ≤ D.length + l.length
  | [], D => by simp [mturn]
  | a :: l, D => by
    have h1 := mturn_len l (mturn1 D a)
    have h2 := mturn1_len D a
    have e : mturn D (a :: l) = mturn (mturn1 D a) l := rfl
    rw [e, List.length_cons]
    omega
theorem mload_ok : ∀ (ls : List (List UInt8)) {D D' : List Pr}, mload D ls = some D' → (∀ p ∈ D, okP p) → (∀ p ∈ D', okP p) ∧ D'.length ≤ D.length + 255 * ls.length
  | [], D, D', h, hD => by
    injection h with h
    subst h
    exact ⟨hD, by simp⟩
  | b :: r, D, D', h, hD => by
    rw [mload] at h
    cases hd : decode b with
    | none => rw [hd] at h; cases h
    | some l =>
      rw [hd] at h
      obtain ⟨hc, -⟩ := decode_check hd
      obtain ⟨h1, h2⟩ := mload_ok r h (mturn_ok hD hc)
      have h3 := mturn_len l D
      have h4 := (check_zero hc).2.1
      refine ⟨h1, ?_⟩
      rw [List.length_cons]
      omega
theorem mload_append : ∀ (ls ms : List (List UInt8)) {D D' : List Pr}, mload D ls = some D' → mload D (ls ++ ms) = mload D' ms
  | [], ms, D, D', h => by
    injection h with h
    subst h
    rfl
  | b :: r, ms, D, D', h => by
    rw [List.cons_append, mload]
    rw [mload] at h
    cases hd : decode b with
    | none => rw [hd] at h; cases h
    | some l =>
      rw [hd] at h
      exact mload_append r ms h
theorem mload_snoc {ls : List (List UInt8)} {D D' : List Pr} {l : List Act} (h : mload D ls = some D') (hl : check l = 0) : mload D (ls ++ [bytes l]) = some (mturn D' l) := by
  rw [mload_append ls _ h, mload, decode_bytes hl]
  rfl
theorem mload_recs : ∀ (L D : List Pr), Apart (D ++ L) → (∀ p ∈ L, okP p) → mload D (recsOf L) = some (D ++ L)
  | [], D, _, _ => by rw [List.append_nil]; rfl
  | p :: L, D, ha, hp => by
    have e : D ++ p :: L = (D ++ [p]) ++ L := by simp
    have hno : D.any (fun q => q.1 == p.1) = false := by
      rw [List.any_eq_false]
      intro q hq he
      have := (List.pairwise_append.1 ha).2.2 q hq p (by simp)
      exact this (by simpa using he)
    have hm : mturn D [⟨p.1, true, p.2⟩] = D ++ [p] := by
      unfold mturn
      rw [List.foldl_cons, List.foldl_nil]
      unfold mturn1 mput
      rw [if_pos rfl, hno]
      rfl
    have e2 : recsOf (p :: L) = bytes [⟨p.1, true, p.2⟩] :: recsOf L := rfl
    rw [e2, mload, decode_bytes (check_one (hp p (by simp)))]
    simp only
    rw [hm, e]
    rw [e] at ha
    exact mload_recs L _ ha fun q hq => hp q (by simp [hq])
/-- The pairs of records, by rising key. -/
def rload (L : List Pr) : List (List UInt8) → Option (List Pr)
  | [] => some L
  | b :: r => match decode b with
    | none => none
    | some l => rload (turn L l) r
theorem load_rel : ∀ (ls : List (List UInt8)) {L D : List Pr}, Rel L D → (rload L ls = none ∧ mload D ls = none) ∨ ∃ L' D', rload L ls = some L' ∧ mload D ls = some D' ∧ Rel L' D'
  | [], L, D, h => .inr ⟨L, D, rfl, rfl, h⟩
  | b :: r, L, D, h => by
    rw [rload, mload]
    cases hd : decode b with
    | none => exact .inl ⟨rfl, rfl⟩
    | some l => exact load_rel r (h.turn l)
theorem Rel.perm {L D D' : List Pr} (h : Rel L D) (hp : D.Perm D') : Rel L D' := ⟨h.1, h.2.trans hp⟩
theorem Rel.same {L D : List Pr} {L' : List Pr} (h : Rel L D) (h' : Rel L' D) : L = L' := sorted_eq h.1 h'.1 (h.2.trans h'.2.symm)
/-- The document's store. -/
structure RS where
  L : List Pr
  R : List (List UInt8)
  gen : Nat
  size : Nat
def RS.of (b : List UInt8) : Option RS :=
  match rload [] (Lg.records (Lg.generation b) (Lg.half b (Lg.generation b))).1 with
  | none => none
  | some L => some ⟨L, (Lg.records (Lg.generation b) (Lg.half b (Lg.generation b))).1, Lg.generation b, (Lg.half b (Lg.generation b)).length⟩
def RS.next (s : RS) (l : List Act) : RS := ⟨turn s.L l, s.R ++ [bytes l], s.gen, s.size⟩
def RS.anew (s : RS) (l : List Act) : RS := ⟨turn s.L l, recsOf (turn s.L l), s.gen + 1, s.size⟩
def RS.apply (s : RS) (l : List Act) : RS × Int :=
  if check l ≠ 0 ∨ l = [] then (s, check l) else
    if Lg.total (s.R ++ [bytes l]) ≤ s.size then (s.next l, 0) else
      if s.gen = 18446744073709551615 ∨ s.size < Lg.total (recsOf (turn s.L l)) then (s, 2) else (s.anew l, 0)
/-- The file, the log, the map and the document's store are of one state. -/
structure SI (F : FM) (gen : Nat) (ls : List (List UInt8)) (en : Nat) (D : List Pr) (S : RS) : Prop where
  n6 : 6 ≤ F.n
  n128 : F.n ≤ 128
  len : F.l.length = 64 * F.n
  gen_ : Lg.generation F.l = gen
  rec_ : Lg.records gen (Lg.half F.l gen) = (ls, en)
  load : ∃ D0, mload [] ls = some D0 ∧ D0.Perm D
  rel : Rel S.L D
  R : S.R = ls
  G : S.gen = gen
  Z : S.size = 64 * Lg.halfN F.n
section
variable {F : FM} {gen en : Nat} {ls : List (List UInt8)} {D : List Pr} {S : RS} {l : List Act}
theorem SI.en_ (h : SI F gen ls en D S) : en = Lg.total ls ∧ en ≤ 64 * Lg.halfN F.n ∧ 7 * ls.length ≤ en := by
  obtain ⟨r, -⟩ := Lg.records_rec h.rec_
  have h1 := r.total
  have h2 := r.le
  have h3 := Lg.half_len (gen := gen) h.len (by have := h.n6; omega)
  rw [h3] at h2
  refine ⟨by omega, ?_, by omega⟩
  rcases h2.2 with h4 | h4
  · subst h4
    cases r
    omega
  · exact h4
theorem SI.small (h : SI F gen ls en D S) : 64 * Lg.halfN F.n ≤ 4032 ∧ en ≤ 4032 ∧ ls.length ≤ 576 := by
  have h1 := h.en_
  have h2 := h.n128
  have h3 : 64 * Lg.halfN F.n ≤ 4032 := by unfold Lg.halfN; omega
  omega
theorem SI.gen_lt (h : SI F gen ls en D S) : gen < 18446744073709551616 := by
  rw [← h.gen_]
  exact Lg.generation_lt _
theorem SI.ok (h : SI F gen ls en D S) : (∀ p ∈ D, okP p) ∧ D.length ≤ 146880 := by
  obtain ⟨D0, h1, h2⟩ := h.load
  obtain ⟨h3, h4⟩ := mload_ok ls h1 (by simp)
  have h5 := h.small
  refine ⟨fun p hp => h3 p (h2.mem_iff.2 hp), ?_⟩
  rw [← h2.length_eq]
  simp only [List.length_nil] at h4
  omega
theorem SI.longs (h : SI F gen ls en D S) : ∀ b ∈ ls, 1 ≤ b.length ∧ b.length ≤ 65535 := by
  obtain ⟨r, -⟩ := Lg.records_rec h.rec_
  exact r.long
theorem SI.file (h : SI F gen ls en D S) {F' : FM} (hn : F'.n = F.n) (hl : F'.l = F.l) : SI F' gen ls en D S :=
  ⟨by rw [hn]; exact h.n6, by rw [hn]; exact h.n128, by rw [hn, hl]; exact h.len, by rw [hl]; exact h.gen_, by rw [hl]; exact h.rec_, h.load, h.rel, h.R, h.G, by rw [hn]; exact h.Z⟩
theorem bytes_pos (l : List Act) : 1 ≤ (bytes l).length := by unfold bytes; simp
/-- Is there room? As the program asks, and as the document does. -/
theorem SI.room (h : SI F gen ls en D S) (hc : check l = 0) : (bytes l).length ≤ Lg.room (64 * Lg.halfN F.n) en ↔ Lg.total (S.R ++ [bytes l]) ≤ S.size := by
  have h1 := h.en_
  have h2 := bytes_pos l
  have h3 := (check_zero hc).2.2.2
  rw [h.R, h.Z, Lg.total_snoc, ← h1.1]
  unfold Lg.room
  omega
theorem SI.fits (h : SI F gen ls en D S) (hr : Lg.total (S.R ++ [bytes l]) ≤ S.size) : en + ((bytes l).length + 6) ≤ 64 * Lg.halfN F.n := by
  have h1 := h.en_
  rw [h.R, h.Z, Lg.total_snoc, ← h1.1] at hr
  exact hr
/-- The state behind a record that was appended. -/
theorem SI.app {L' : List UInt8} (h : SI F gen ls en D S) (hc : check l = 0) (hr : Lg.total (S.R ++ [bytes l]) ≤ S.size) {F' : FM} (hn : F'.n = F.n) (hl : F'.l = Lg.appL F.l F.n gen en (bytes l)) : SI F' gen (ls ++ [bytes l]) (en + ((bytes l).length + 6)) (mturn D l) (S.next l) := by
  have hf := h.fits hr
  have h2 : 2 ≤ F.n := by have := h.n6; omega
  obtain ⟨D0, h3, h4⟩ := h.load
  have hR : Rel S.L D0 := h.rel.perm h4.symm
  have hg := (Lg.app_gen (n := F.n) (gen := gen) (en := en) (l := F.l) (l' := Lg.appL F.l F.n gen en (bytes l)) fun p hp => Lg.appL_get h.len h2 hf hp).1
  refine ⟨by rw [hn]; exact h.n6, by rw [hn]; exact h.n128, ?_, ?_, ?_, ⟨_, mload_snoc h3 hc, ?_⟩, h.rel.turn l, ?_, h.G, by rw [hn]; exact h.Z⟩
  · rw [hn, hl, Lg.appL_len h.len h2 hf]
  · rw [hl, hg, h.gen_]
  · rw [hl]
    exact Lg.app_rec h.len h2 h.rec_ (bytes_pos l) (check_zero hc).2.2.2 hf
  · exact ((hR.turn l).2.symm.trans (h.rel.turn l).2)
  · show S.R ++ [bytes l] = _
    rw [h.R]
theorem turn_okP (h : SI F gen ls en D S) (hc : check l = 0) : ∀ p ∈ turn S.L l, okP p := fun p hp => mturn_ok h.ok.1 hc p ((h.rel.turn l).2.mem_iff.1 hp)
theorem recsOf_long {L : List Pr} (h : ∀ p ∈ L, okP p) : ∀ b ∈ recsOf L, 1 ≤ b.length ∧ b.length ≤ 65535 := fun b hb => by
  obtain ⟨p, hp, rfl⟩ := List.mem_map.1 hb
  have := recOf_len p
  have := h p hp
  unfold okP at this
  omega
/-- The state behind a restart. -/
theorem SI.re (h : SI F gen ls en D S) (hc : check l = 0) (hr : Lg.total (recsOf (turn S.L l)) ≤ S.size) (hg : gen + 1 < 18446744073709551616) {F' : FM} (hn : F'.n = F.n) (hl : F'.l = Lg.reL F.l F.n gen (recsOf (turn S.L l)) 64) :
    SI F' (gen + 1) (recsOf (turn S.L l)) (Lg.total (recsOf (turn S.L l))) (mturn D l) (S.anew l) := by
  have hR := h.rel.turn l
  have hok := turn_okP h hc
  rw [h.Z] at hr
  refine ⟨by rw [hn]; exact h.n6, by rw [hn]; exact h.n128, ?_, ?_, ?_, ⟨turn S.L l, ?_, hR.2⟩, hR, rfl, ?_, by rw [hn]; exact h.Z⟩
  · rw [hn, hl, Lg.reL_len h.len h.n6 hr]
  · rw [hl]
    exact Lg.re_gen h.len h.n6 hr h.gen_ hg
  · rw [hl]
    exact Lg.reL_new h.len h.n6 hr 64 (recsOf_long hok)
  · have := mload_recs (turn S.L l) [] (by rw [List.nil_append]; exact sorted_apart hR.1) hok
    rw [List.nil_append] at this
    exact this
  · show S.gen + 1 = _
    rw [h.G]
end
end Kv
end Go.Proofs.YtepgmebklhemgaaGreatDoor
