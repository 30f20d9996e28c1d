/- Letters turned: text.Lower, the reference's Lower; names alike. -/
import Derived.Test.YtcdljlaoedaliaaDoorT5
import Derived.Test.YtcdljlaoedaliaaDoorCs
import Derived.Test.YtcdljlaoedaliaaDoorRt
import Derived.Test.YtcdljlaoedaliaaDoorPt
import Derived.Test.YtcdljlaoedaliaaDoorChecked
import Derived.Deep.DeepCutAuto
import Derived.Test.YtcdljlaoedaliaaDoorT1
import Derived.Test.YtcdljlaoedaliaaDoorWk
import Derived.Test.YtcdljlaoedaliaaDoorT6
import Derived.Test.YtcdljlaoedaliaaDoorF3
import Derived.Deep.SlicePairs
set_option linter.unusedVariables false
set_option linter.unusedSimpArgs false
namespace Go.Proofs.YtcdljlaoedaliaaDoor
open Go.RowKit Wd
/-- A letter turned. -/
def low (c : UInt8) : UInt8 := if 65 ≤ c.toNat ∧ c.toNat ≤ 90 then UInt8.ofNat (c.toNat + 32) else c
def lower (l : List UInt8) : List UInt8 := l.map low
def lowAt (k : Nat) (l : List UInt8) : List UInt8 := (l.take k).map low ++ l.drop k
theorem lowAt_zero (l : List UInt8) : lowAt 0 l = l := by simp [lowAt]
theorem lowAt_end (l : List UInt8) : lowAt l.length l = lower l := by simp [lowAt, lower]
theorem lowAt_len (k : Nat) (l : List UInt8) (hk : k ≤ l.length) : (lowAt k l).length = l.length := by
  unfold lowAt
  rw [List.length_append, List.length_map, List.length_take, List.length_drop]
  omega
theorem lowAt_get (k : Nat) (l : List UInt8) (hk : k < l.length) : (lowAt k l)[k]? = some l[k] := by
  unfold lowAt
  have h : ((l.take k).map low).length = k := by rw [List.length_map, List.length_take]; omega
  rw [List.getElem?_append_right (by omega), h, Nat.sub_self, List.getElem?_drop, Nat.add_zero, List.getElem?_eq_getElem hk]
theorem lowAt_succ (k : Nat) (l : List UInt8) (hk : k < l.length) : lowAt (k + 1) l = (lowAt k l).set k (low l[k]) := by
  unfold lowAt
  have h : ((l.take k).map low).length = k := by rw [List.length_map, List.length_take]; omega
  rw [List.take_succ_eq_append_getElem hk, List.map_append, List.set_append_right _ _ (by omega), h, Nat.sub_self, List.drop_eq_getElem_cons hk, List.set_cons_zero]
  simp
theorem lowAt_same (k : Nat) (l : List UInt8) (hk : k < l.length) (h : low l[k] = l[k]) : lowAt (k + 1) l = lowAt k l := by
  rw [lowAt_succ k l hk, h]
  apply List.ext_getElem?
  intro j
  rw [List.getElem?_set]
  split
  · rename_i e
    subst e
    rw [lowAt_get k l hk, if_pos (by rw [lowAt_len k l (by omega)]; exact hk)]
  · rfl
section
variable {w0 w : World} {M : Mem} {L : List Ent}
theorem Wd.St.setm {g : Nat} {t : TypeId} {cs : List Value} {fz : Nat × Nat} (h : St w0 w M (em g t cs fz :: L)) (i : Nat) (u : Value) : St w0 (w.setCell ⟨g, i, none⟩ u) M (em g t (cs.set i u) fz :: L) := by
  have h0 := h.get 0 rfl
  refine h.turn ((Keeps.refl w (fun k => (em g t cs fz).foot = some k)).setCell (p := ⟨g, i, none⟩) (.inl rfl) u) ?_ (fun _ h => .inl h)
  refine ⟨h0.1, by show g < (w.heap.modify _ _).size; rw [Array.size_modify]; exact h0.2.1, ?_⟩
  have hh := em_heap h0
  show (w.setCell ⟨g, i, none⟩ u).heap[g]? = _
  simp [World.setCell, Array.getElem?_modify, hh]
theorem em_frozen {g : Nat} {t : TypeId} {cs : List Value} {c : Nat} {i : Nat} (h : (em g t cs (c, c + 1)).holds M w) (hi : i < c) : w.frozen? ⟨g, i, none⟩ = false := by
  simp only [World.frozen?, em_heap h, Bool.and_eq_false_iff, decide_eq_false_iff_not]
  left
  omega
set_option maxRecDepth 100000 in
set_option maxHeartbeats 1000000 in
theorem tlower_any (H : St w0 w M L) (l : List UInt8) (hl : l.length ≤ 100000) : Calls Tryd.prog 45 #[.string (str l)] w fun e w' => e = .returned (.string (str (lower l))) ∧ St w0 w' M L := by
  obtain ⟨g, c, w1, hcv, hlc, hcm, H1⟩ := conv_st (P := Tryd.prog) (src := 9) (dst := 42) H Tryd.underlying9 Tryd.underlying42 Tryd.underlying5 l (by omega)
  obtain ⟨n, hn⟩ : ∃ n, n = l.length := ⟨_, rfl⟩
  obtain ⟨R, hR⟩ : ∃ R, R = lower l := ⟨_, rfl⟩
  obtain ⟨Z, hZ⟩ : ∃ Z, Z = List.replicate (c - n) (Value.int .u8 0) := ⟨_, rfl⟩
  rw [← hn] at hcv hlc H1 hl
  rw [← hZ] at H1
  rw [← hR]
  have H1b : St w0 w1 M (em g 5 (bv (lowAt 0 l) ++ Z) (c, c + 1) :: L) := by rw [lowAt_zero]; exact H1
  have HN := Lib.hid hn
  have HR := Lib.hid hR
  have HLC := Lib.hid hlc
  clear hn hR hZ H1 H hlc hcm
  go_enter Tryd.func45, Tryd.ntmps45
  go_wp2
  go_loopw [10] (fun i wr => ∃ k : Nat, k ≤ n ∧ i = .int .i64 k ∧ St w0 wr M (em g 5 (bv (lowAt k l) ++ Z) (c, c + 1) :: L)) (fun i _ => n - (intOf i).toNat)
  case atStart => exact ⟨0, by omega, rfl, H1b⟩
  case round =>
    obtain ⟨k, hk, rfl, H2⟩ := hrel
    clear H1b hcv
    by_cases hlt : k < n
    · have hk1 : k < l.length := by have := HN.out; omega
      have hlen := lowAt_len k l (by omega)
      have c0 : wr.cell? ⟨g, k, none⟩ = some (.int .u8 (l[k].toNat : Int)) := by
        rw [em_cell (H2.get 0 rfl), List.getElem?_append_left (by rw [bv_length]; omega), bv_get, lowAt_get k l hk1]
        rfl
      have f0 : wr.frozen? ⟨g, k, none⟩ = false := em_frozen (H2.get 0 rfl) (by have := HLC.out; omega)
      have hset : ∀ y : UInt8, y = low l[k] → St w0 (wr.setCell ⟨g, k, none⟩ (.int .u8 (y.toNat : Int))) M (em g 5 (bv (lowAt (k + 1) l) ++ Z) (c, c + 1) :: L) := fun y hy => by
        have h := H2.setm k (.int .u8 (y.toNat : Int))
        rw [List.set_append_left _ _ (by rw [bv_length]; omega), bv_set, hy, ← lowAt_succ k l hk1] at h
        rw [hy]
        exact h
      have hsame : low l[k] = l[k] → St w0 wr M (em g 5 (bv (lowAt (k + 1) l) ++ Z) (c, c + 1) :: L) := fun h => by rw [lowAt_same k l hk1 h]; exact H2
      obtain ⟨x, hx⟩ : ∃ x, x = l[k] := ⟨_, rfl⟩
      rw [← hx] at c0 hset hsame
      have x0 := x.toNat_lt
      have r1 : (k : Int) < (n : Int) := by omega
      have HLT := Lib.hid hlt
      have HSET := Lib.hid hset
      have HSAME := Lib.hid hsame
      clear hx hk1 hlen hset hsame hlt H2
      by_cases hin : 65 ≤ x.toNat ∧ x.toNat ≤ 90
      · obtain ⟨h1, h2⟩ := hin
        have q1 : (65 : Int) ≤ (x.toNat : Int) := by omega
        have q2 : (x.toNat : Int) ≤ 90 := by omega
        obtain ⟨y, hy⟩ : ∃ y, y = low x := ⟨_, rfl⟩
        have hyn : y.toNat = x.toNat + 32 := by
          rw [hy]
          unfold low
          rw [if_pos ⟨h1, h2⟩, UInt8.toNat_ofNat']
          omega
        have a1 : IntKind.u8.wrap ((x.toNat : Int) + 97) = (x.toNat : Int) + 97 := by rw [IntKind.wrap_u8]; omega
        have a2 : IntKind.u8.wrap ((x.toNat : Int) + 97 - 65) = (y.toNat : Int) := by rw [IntKind.wrap_u8]; omega
        have HS := Lib.hid (HSET.out y hy)
        clear h1 h2 hy hyn
        go_wp2
        exact ⟨⟨k + 1, by have := HLT.out; omega, by go_num, HS.out⟩, by have := HLT.out; simp [intOf]; omega⟩
      · have hlow : low x = x := by unfold low; rw [if_neg hin]
        have HS := Lib.hid (HSAME.out hlow)
        clear hlow
        rcases (by omega : x.toNat < 65 ∨ (65 ≤ x.toNat ∧ 90 < x.toNat)) with h1 | ⟨h1, h2⟩
        · have q1 : ¬ (65 : Int) ≤ (x.toNat : Int) := by omega
          clear hin h1
          go_wp2
          exact ⟨⟨k + 1, by have := HLT.out; omega, by go_num, HS.out⟩, by have := HLT.out; simp [intOf]; omega⟩
        · have q1 : (65 : Int) ≤ (x.toNat : Int) := by omega
          have q2 : ¬ (x.toNat : Int) ≤ 90 := by omega
          clear hin h1 h2
          go_wp2
          exact ⟨⟨k + 1, by have := HLT.out; omega, by go_num, HS.out⟩, by have := HLT.out; simp [intOf]; omega⟩
    · obtain rfl : k = n := by omega
      have hre : lowAt k l = R := by rw [HN.out, lowAt_end, HR.out]
      rw [hre] at H2
      have hrl : k = R.length := by rw [← hre, lowAt_len k l (by rw [HN.out]; exact Nat.le_refl _), HN.out]
      have cv := conv_RB (P := Tryd.prog) (src := 42) (dst := 9) (c := c) (n := k) Tryd.underlying42 Tryd.underlying5 Tryd.underlying9 (em_RB (H2.get 0 rfl) (l := R) (by rw [List.take_append_of_le_length (by rw [bv_length]; exact Nat.le_refl _), ← bv_length R, List.take_length])) hrl
      have r0 : ¬ (k : Int) < (k : Int) := by omega
      clear hlt hre hrl
      go_wp2
      go_ret
      exact ⟨rfl, H2.d0⟩
set_option maxRecDepth 100000 in
set_option maxHeartbeats 1000000 in
theorem rlower_any (H : St w0 w M L) (l : List UInt8) (hl : l.length ≤ 100000) : Calls Tryd.prog 47 #[.string (str l)] w fun e w' => e = .returned (.string (str (lower l))) ∧ St w0 w' M L := by
  obtain ⟨g, c, w1, hcv, hlc, hcm, H1⟩ := conv_st (P := Tryd.prog) (src := 9) (dst := 42) H Tryd.underlying9 Tryd.underlying42 Tryd.underlying5 l (by omega)
  obtain ⟨n, hn⟩ : ∃ n, n = l.length := ⟨_, rfl⟩
  obtain ⟨R, hR⟩ : ∃ R, R = lower l := ⟨_, rfl⟩
  obtain ⟨Z, hZ⟩ : ∃ Z, Z = List.replicate (c - n) (Value.int .u8 0) := ⟨_, rfl⟩
  rw [← hn] at hcv hlc H1 hl
  rw [← hZ] at H1
  rw [← hR]
  have H1b : St w0 w1 M (em g 5 (bv (lowAt 0 l) ++ Z) (c, c + 1) :: L) := by rw [lowAt_zero]; exact H1
  have HN := Lib.hid hn
  have HR := Lib.hid hR
  have HLC := Lib.hid hlc
  clear hn hR hZ H1 H hlc hcm
  go_enter Tryd.func47, Tryd.ntmps47
  go_wp2
  go_loopw [4] (fun i wr => ∃ k : Nat, k ≤ n ∧ i = .int .i64 k ∧ St w0 wr M (em g 5 (bv (lowAt k l) ++ Z) (c, c + 1) :: L)) (fun i _ => n - (intOf i).toNat)
  case atStart => exact ⟨0, by omega, rfl, H1b⟩
  case round =>
    obtain ⟨k, hk, rfl, H2⟩ := hrel
    clear H1b hcv
    by_cases hlt : k < n
    · have hk1 : k < l.length := by have := HN.out; omega
      have hlen := lowAt_len k l (by omega)
      have c0 : wr.cell? ⟨g, k, none⟩ = some (.int .u8 (l[k].toNat : Int)) := by
        rw [em_cell (H2.get 0 rfl), List.getElem?_append_left (by rw [bv_length]; omega), bv_get, lowAt_get k l hk1]
        rfl
      have f0 : wr.frozen? ⟨g, k, none⟩ = false := em_frozen (H2.get 0 rfl) (by have := HLC.out; omega)
      have hset : ∀ y : UInt8, y = low l[k] → St w0 (wr.setCell ⟨g, k, none⟩ (.int .u8 (y.toNat : Int))) M (em g 5 (bv (lowAt (k + 1) l) ++ Z) (c, c + 1) :: L) := fun y hy => by
        have h := H2.setm k (.int .u8 (y.toNat : Int))
        rw [List.set_append_left _ _ (by rw [bv_length]; omega), bv_set, hy, ← lowAt_succ k l hk1] at h
        rw [hy]
        exact h
      have hsame : low l[k] = l[k] → St w0 wr M (em g 5 (bv (lowAt (k + 1) l) ++ Z) (c, c + 1) :: L) := fun h => by rw [lowAt_same k l hk1 h]; exact H2
      obtain ⟨x, hx⟩ : ∃ x, x = l[k] := ⟨_, rfl⟩
      rw [← hx] at c0 hset hsame
      have x0 := x.toNat_lt
      have r1 : (k : Int) < (n : Int) := by omega
      have HLT := Lib.hid hlt
      have HSET := Lib.hid hset
      have HSAME := Lib.hid hsame
      clear hx hk1 hlen hset hsame hlt H2
      by_cases hin : 65 ≤ x.toNat ∧ x.toNat ≤ 90
      · obtain ⟨h1, h2⟩ := hin
        have q1 : (65 : Int) ≤ (x.toNat : Int) := by omega
        have q2 : (x.toNat : Int) ≤ 90 := by omega
        obtain ⟨y, hy⟩ : ∃ y, y = low x := ⟨_, rfl⟩
        have hyn : y.toNat = x.toNat + 32 := by
          rw [hy]
          unfold low
          rw [if_pos ⟨h1, h2⟩, UInt8.toNat_ofNat']
          omega
        have a1 : IntKind.u8.wrap ((x.toNat : Int) + 32) = (y.toNat : Int) := by rw [IntKind.wrap_u8]; omega
        have HS := Lib.hid (HSET.out y hy)
        clear h1 h2 hy hyn
        go_wp2
        exact ⟨⟨k + 1, by have := HLT.out; omega, by go_num, HS.out⟩, by have := HLT.out; simp [intOf]; omega⟩
      · have hlow : low x = x := by unfold low; rw [if_neg hin]
        have HS := Lib.hid (HSAME.out hlow)
        clear hlow
        rcases (by omega : x.toNat < 65 ∨ (65 ≤ x.toNat ∧ 90 < x.toNat)) with h1 | ⟨h1, h2⟩
        · have q1 : ¬ (65 : Int) ≤ (x.toNat : Int) := by omega
          clear hin h1
          go_wp2
          exact ⟨⟨k + 1, by have := HLT.out; omega, by go_num, HS.out⟩, by have := HLT.out; simp [intOf]; omega⟩
        · have q1 : (65 : Int) ≤ (x.toNat : Int) := by omega
          have q2 : ¬ (x.toNat : Int) ≤ 90 := by omega
          clear hin h1 h2
          go_wp2
          exact ⟨⟨k + 1, by have := HLT.out; omega, by go_num, HS.out⟩, by have := HLT.out; simp [intOf]; omega⟩
    · obtain rfl : k = n := by omega
      have hre : lowAt k l = R := by rw [HN.out, lowAt_end, HR.out]
      rw [hre] at H2
      have hrl : k = R.length := by rw [← hre, lowAt_len k l (by rw [HN.out]; exact Nat.le_refl _), HN.out]
      have cv := conv_RB (P := Tryd.prog) (src := 42) (dst := 9) (c := c) (n := k) Tryd.underlying42 Tryd.underlying5 Tryd.underlying9 (em_RB (H2.get 0 rfl) (l := R) (by rw [List.take_append_of_le_length (by rw [bv_length]; exact Nat.le_refl _), ← bv_length R, List.take_length])) hrl
      have r0 : ¬ (k : Int) < (k : Int) := by omega
      clear hlt hre hrl
      go_wp2
      go_ret
      exact ⟨rfl, H2.d0⟩

end
end Go.Proofs.YtcdljlaoedaliaaDoor
/- Headers in memory: names alike, all values of a name, how long they are. -/
set_option linter.unusedVariables false
set_option linter.unusedSimpArgs false
namespace Go.Proofs.YtcdljlaoedaliaaDoor
open Go.RowKit Wd
structure Hd where
  n : List UInt8
  v : List UInt8
def hc (h : Hd) : List Value := [.string (str h.n), .string (str h.v)]
def hcs (l : List Hd) : List Value := l.flatMap hc
theorem hcs_length (l : List Hd) : (hcs l).length = l.length * 2 := by
  induction l with
  | nil => rfl
  | cons a l ih => simp [hcs, hc] at ih ⊢; omega
theorem hcs_at (l : List Hd) (j : Nat) (hj : j < l.length) : ((hcs l).drop (j * 2)).take 2 = hc l[j] := by
  induction l generalizing j with
  | nil => simp at hj
  | cons a l ih =>
    have e1 : hcs (a :: l) = hc a ++ hcs l := rfl
    cases j with
    | zero => rw [e1]; rfl
    | succ j =>
      rw [e1, show (j + 1) * 2 = (hc a).length + j * 2 from by simp [hc]; omega, List.drop_append, Nat.add_sub_cancel_left, List.drop_eq_nil_of_le (by omega), List.nil_append]
      exact ih j (by simpa using hj)
theorem RA.at2 {w : World} {B : Option Addr} {l : List Hd} (h : RA w B (hcs l)) (j : Nat) (hj : j < l.length) : ∃ b o, B = some ⟨b, o, none⟩ ∧ w.rangeAt b (o + j * 2) (hc l[j]) := by
  obtain ⟨b, o, rfl, _, hr⟩ := h (by intro h0; have := hcs_length l; rw [h0] at this; simp at this; omega)
  refine ⟨b, o, rfl, fun k v hk => ?_⟩
  rw [← hcs_at l j hj, List.getElem?_take] at hk
  split at hk
  · rw [List.getElem?_drop] at hk
    rw [Nat.add_assoc]
    exact hr _ v hk
  · cases hk
theorem SrA.at2 {w0 : World} {M : Mem} {L : List Ent} {b o : Nat} {l : List Hd} (h : SrA w0 M L (some ⟨b, o, none⟩) (hcs l)) (j : Nat) (hj : j < l.length) : ∀ W, St w0 W M L → W.rangeAt b (o + j * 2) (hc l[j]) := fun W hW => by
  obtain ⟨b', o', he, hc⟩ := RA.at2 (h.now hW) j hj
  injection he with he
  injection he with h1 h2
  subst h1 h2
  exact hc
/-- Headers that a name lets through. -/
def alike (a b : List UInt8) : Bool := lower a == lower b
def hall (name : List UInt8) (l : List Hd) : List (List UInt8) := (l.filter fun h => alike h.n name).map Hd.v
def sv (l : List (List UInt8)) : List Value := l.map fun x => .string (str x)
theorem hall_succ (name : List UInt8) (l : List Hd) (k : Nat) (hk : k < l.length) : hall name (l.take (k + 1)) = if alike l[k].n name then hall name (l.take k) ++ [l[k].v] else hall name (l.take k) := by
  unfold hall
  rw [List.take_succ_eq_append_getElem hk, List.filter_append, List.map_append]
  by_cases h : alike l[k].n name = true
  · simp [h]
  · simp [h]
theorem Tryd.infoStr : (Tryd.prog.info? 9).map (fun i => (i.zero, i.size, i.bytes)) = some (some (.string ⟨#[]⟩), 1, 16) := by kernel_rfl
section
variable {w0 w : World} {M : Mem} {L : List Ent}
set_option maxRecDepth 100000 in
theorem same9_any (H : St w0 w M L) (a b : List UInt8) (ha : a.length ≤ 100000) (hb : b.length ≤ 100000) : Calls Tryd.prog 66 #[.string (str a), .string (str b)] w fun e w' => e = .returned (.bool (alike a b)) ∧ St w0 w' M L := by
  have h1 := tlower_any H a ha
  have h2 := fun W (H : St w0 W M L) => tlower_any H b hb
  obtain ⟨B, hB⟩ : ∃ B, B = alike a b := ⟨_, rfl⟩
  rw [← hB]
  unfold alike at hB
  obtain ⟨X, hX⟩ : ∃ X, X = lower a := ⟨_, rfl⟩
  obtain ⟨Y, hY⟩ : ∃ Y, Y = lower b := ⟨_, rfl⟩
  rw [← hX] at h1 hB
  rw [← hY] at hB
  simp only [← hY] at h2
  have HA := Lib.hid h1
  have HB := Lib.hid h2
  clear h1 h2 hX hY H
  go_enter Tryd.func66, Tryd.ntmps66
  go_wp2_with fail
  refine HA.out.mono ?_
  rintro e w1 ⟨rfl, H1⟩
  go_wp2_with fail
  refine (HB.out _ H1).mono ?_
  rintro e w2 ⟨rfl, H2⟩
  subst hB
  go_wp2
  go_ret
  exact ⟨rfl, H2⟩
set_option maxRecDepth 100000 in
theorem ralike_any (H : St w0 w M L) (a b : List UInt8) (ha : a.length ≤ 100000) (hb : b.length ≤ 100000) : Calls Tryd.prog 68 #[.string (str a), .string (str b)] w fun e w' => e = .returned (.bool (alike a b)) ∧ St w0 w' M L := by
  have h1 := rlower_any H a ha
  have h2 := fun W (H : St w0 W M L) => rlower_any H b hb
  obtain ⟨B, hB⟩ : ∃ B, B = alike a b := ⟨_, rfl⟩
  rw [← hB]
  unfold alike at hB
  obtain ⟨X, hX⟩ : ∃ X, X = lower a := ⟨_, rfl⟩
  obtain ⟨Y, hY⟩ : ∃ Y, Y = lower b := ⟨_, rfl⟩
  rw [← hX] at h1 hB
  rw [← hY] at hB
  simp only [← hY] at h2
  have HA := Lib.hid h1
  have HB := Lib.hid h2
  clear h1 h2 hX hY H
  go_enter Tryd.func68, Tryd.ntmps68
  go_wp2_with fail
  refine HA.out.mono ?_
  rintro e w1 ⟨rfl, H1⟩
  go_wp2_with fail
  refine (HB.out _ H1).mono ?_
  rintro e w2 ⟨rfl, H2⟩
  subst hB
  go_wp2
  go_ret
  exact ⟨rfl, H2⟩

set_option maxRecDepth 100000 in
set_option maxHeartbeats 1000000 in
theorem hall_any (H : St w0 w M L) {A : Option Addr} {c n : Nat} {l : List Hd} (hn : n = l.length) (hn2 : n ≤ 1000) (hl : SrA w0 M L A (hcs l)) (hsz : ∀ (j : Nat) (h : j < l.length), l[j].n.length ≤ 100000) (name : List UInt8) (hnm : name.length ≤ 100000) :
    Calls Tryd.prog 43 #[.slice A n c, .string (str name)] w fun e w' => ∃ v, e = .returned v ∧ St w0 w' M (er 9 1 v (hall name l).length (sv (hall name l)) :: L) := by
  have HN := Lib.hid hn
  have H1 := H.addNil 9 1
  have HSZ := Lib.hid hsz
  clear hn H hsz
  go_enter Tryd.func43, Tryd.ntmps43
  go_wp2
  go_loopw [5, 10] (fun v i wr => ∃ (k : Nat) (X : List (List UInt8)), k ≤ n ∧ X.length ≤ k ∧ i = .int .i64 k ∧ X = hall name (l.take k) ∧ St w0 wr M (er 9 1 v X.length (sv X) :: L)) (fun _ i _ => n - (intOf i).toNat)
  case atStart => exact ⟨0, [], by omega, by simp, rfl, rfl, H1⟩
  case round =>
    obtain ⟨k, X, hk, hXk, rfl, hX, H2⟩ := hrel
    clear H1
    have HX := Lib.hid hX
    have HXL := Lib.hid hXk
    clear hX hXk
    by_cases hlt : k < n
    · have hk1 : k < l.length := by have := HN.out; omega
      obtain ⟨b, o, rfl, hrg⟩ := RA.at2 (hl.now H2.d0) k hk1
      have hsr := hl.at2 k hk1
      have hst := hall_succ name l k hk1
      obtain ⟨y, hy⟩ : ∃ y, y = l[k] := ⟨_, rfl⟩
      rw [← hy] at hrg hst hsr
      have r1 : (k : Int) < (n : Int) := by omega
      have HLT := Lib.hid hlt
      have H3 := H2.new [.string (str y.n), .string (str y.v)] 80
      have hal := fun W L' (H : St w0 W M L') => same9_any H y.n name (by have := HSZ.out k hk1; rw [← hy] at this; exact this) hnm
      obtain ⟨B, hB⟩ : ∃ B, B = alike y.n name := ⟨_, rfl⟩
      simp only [← hB] at hal
      rw [← hB, ← HX.out] at hst
      unfold hc at hrg hsr
      have c0 := hrg 0 _ rfl
      have c1 := hrg 1 _ rfl
      rw [Nat.add_zero] at c0
      obtain ⟨A2, c2, rfl, hc2⟩ := H2.shape 0 rfl
      have HRG := Lib.hid hrg
      have HAL := Lib.hid hal
      have HST := Lib.hid hst
      have HSR := Lib.hid hsr
      clear hrg hal hst hB hy hk1 hlt hsr
      go_wp2_with first
          | (refine wpList_load_mid (by rfl) 80 (.tmp 12) (by rfl) b (o + k * 2) (by rfl) [.string (str y.n), .string (str y.v)] _ HRG.out Tryd.underlying80 rfl (by kernel_rfl) ?_)
      refine (HAL.out _ _ H3).mono ?_
      rintro e w2 ⟨rfl, H4⟩
      have d1 := HSR.out w2 H4.d0.d0 1 _ rfl
      clear c0 c1 H2
      cases B with
      | true =>
        have hs := HST.out
        rw [if_pos rfl] at hs
        have HS := Lib.hid hs
        clear hs
        have e1 := H4.cell 0 rfl 1
        simp only [List.getElem?_cons_succ, List.getElem?_cons_zero] at e1
        go_wp2_with (at_builtin; refine wpList_append1_st H4.f1 (by rfl) (.tmp 18) (.tmp 21) 81 (by rfl) Tryd.infoStr (by rfl) Tryd.underlying81 (by rfl) (by rfl) (by rfl) (by have := HXL.out; omega) (by have := HXL.out; omega) ?_)
        intro v5 w5 H5
        have H6 : St w0 w5 M (er 9 1 v5 (X ++ [y.v]).length (sv (X ++ [y.v])) :: L) := by
          rw [List.length_append]
          have h := H5.d1
          unfold sv at h ⊢
          rw [List.map_append]
          exact h
        clear H4 H5
        go_wp2
        exact ⟨⟨k + 1, X ++ [y.v], by have := HLT.out; omega, by rw [List.length_append, List.length_singleton]; have := HXL.out; omega, by go_num, HS.out.symm, H6⟩, by have := HLT.out; simp [intOf]; omega⟩
      | false =>
        have hs := HST.out
        rw [if_neg (by simp)] at hs
        have HS := Lib.hid hs
        clear hs
        go_wp2
        exact ⟨⟨k + 1, X, by have := HLT.out; omega, by have := HXL.out; omega, by go_num, HS.out.symm, H4.d0⟩, by have := HLT.out; simp [intOf]; omega⟩
    · obtain rfl : k = n := by omega
      have hfin : X = hall name l := by rw [HX.out, HN.out, List.take_length]
      subst hfin
      clear hlt
      go_wp2
      go_ret
      exact ⟨_, rfl, H2⟩
set_option maxRecDepth 100000 in
set_option maxHeartbeats 1000000 in
theorem rall_any (H : St w0 w M L) {A : Option Addr} {c n : Nat} {l : List Hd} (hn : n = l.length) (hn2 : n ≤ 1000) (hl : SrA w0 M L A (hcs l)) (hsz : ∀ (j : Nat) (h : j < l.length), l[j].n.length ≤ 100000) (name : List UInt8) (hnm : name.length ≤ 100000) :
    Calls Tryd.prog 46 #[.slice A n c, .string (str name)] w fun e w' => ∃ v, e = .returned v ∧ St w0 w' M (er 9 1 v (hall name l).length (sv (hall name l)) :: L) := by
  have HN := Lib.hid hn
  have H1 := H.lit00 9 1
  have HSZ := Lib.hid hsz
  clear hn H hsz
  go_enter Tryd.func46, Tryd.ntmps46
  go_wp2
  go_loopw [5, 6] (fun v i wr => ∃ (k : Nat) (X : List (List UInt8)), k ≤ n ∧ X.length ≤ k ∧ i = .int .i64 k ∧ X = hall name (l.take k) ∧ St w0 wr M (er 9 1 v X.length (sv X) :: L)) (fun _ i _ => n - (intOf i).toNat)
  case atStart => exact ⟨0, [], by omega, by simp, rfl, rfl, H1⟩
  case round =>
    obtain ⟨k, X, hk, hXk, rfl, hX, H2⟩ := hrel
    clear H1
    have HX := Lib.hid hX
    have HXL := Lib.hid hXk
    clear hX hXk
    by_cases hlt : k < n
    · have hk1 : k < l.length := by have := HN.out; omega
      obtain ⟨b, o, rfl, hrg⟩ := RA.at2 (hl.now H2.d0) k hk1
      have hsr := hl.at2 k hk1
      have hst := hall_succ name l k hk1
      obtain ⟨y, hy⟩ : ∃ y, y = l[k] := ⟨_, rfl⟩
      rw [← hy] at hrg hst hsr
      have r1 : (k : Int) < (n : Int) := by omega
      have HLT := Lib.hid hlt
      have hal := fun W L' (H : St w0 W M L') => ralike_any H y.n name (by have := HSZ.out k hk1; rw [← hy] at this; exact this) hnm
      obtain ⟨B, hB⟩ : ∃ B, B = alike y.n name := ⟨_, rfl⟩
      simp only [← hB] at hal
      rw [← hB, ← HX.out] at hst
      unfold hc at hrg hsr
      have c0 := hrg 0 _ rfl
      have c1 := hrg 1 _ rfl
      rw [Nat.add_zero] at c0
      obtain ⟨A2, c2, rfl, hc2⟩ := H2.shape 0 rfl
      have HRG := Lib.hid hrg
      have HAL := Lib.hid hal
      have HST := Lib.hid hst
      have HSR := Lib.hid hsr
      clear hrg hal hst hB hy hk1 hlt hsr
      go_wp2_with fail
      refine (HAL.out _ _ H2).mono ?_
      rintro e w2 ⟨rfl, H4⟩
      have d1 := HSR.out w2 H4.d0 1 _ rfl
      clear c0 c1 H2
      cases B with
      | true =>
        have hs := HST.out
        rw [if_pos rfl] at hs
        have HS := Lib.hid hs
        clear hs
        skip
        go_wp2_with (at_builtin; refine wpList_append1_st H4 (by rfl) (.tmp 21) (.tmp 27) 81 (by rfl) Tryd.infoStr (by rfl) Tryd.underlying81 (by rfl) (by rfl) (by rfl) (by have := HXL.out; omega) (by have := HXL.out; omega) ?_)
        intro v5 w5 H5
        have H6 : St w0 w5 M (er 9 1 v5 (X ++ [y.v]).length (sv (X ++ [y.v])) :: L) := by
          rw [List.length_append]
          have h := H5
          unfold sv at h ⊢
          rw [List.map_append]
          exact h
        clear H4 H5
        go_wp2
        exact ⟨⟨k + 1, X ++ [y.v], by have := HLT.out; omega, by rw [List.length_append, List.length_singleton]; have := HXL.out; omega, by go_num, HS.out.symm, H6⟩, by have := HLT.out; simp [intOf]; omega⟩
      | false =>
        have hs := HST.out
        rw [if_neg (by simp)] at hs
        have HS := Lib.hid hs
        clear hs
        go_wp2
        exact ⟨⟨k + 1, X, by have := HLT.out; omega, by have := HXL.out; omega, by go_num, HS.out.symm, H4⟩, by have := HLT.out; simp [intOf]; omega⟩
    · obtain rfl : k = n := by omega
      have hfin : X = hall name l := by rw [HX.out, HN.out, List.take_length]
      subst hfin
      clear hlt
      go_wp2
      go_ret
      exact ⟨_, rfl, H2⟩

end
end Go.Proofs.YtcdljlaoedaliaaDoor
/- Which token a header bears, in plain Lean. -/
set_option linter.unusedVariables false
set_option linter.unusedSimpArgs false
namespace Go.Proofs.YtcdljlaoedaliaaDoor
open Go.RowKit Wd
def brr : List UInt8 := [98, 101, 97, 114, 101, 114]
/-- The document's answer, of one value. -/
def bear (s : List UInt8) : List UInt8 := if 8 ≤ s.length ∧ lower (s.take 7) = brr ++ [32] then s.drop 7 else []
theorem lower_len (l : List UInt8) : (lower l).length = l.length := by simp [lower]
theorem lower_append (a b : List UInt8) : lower (a ++ b) = lower a ++ lower b := by simp [lower]
theorem low32 (c : UInt8) : low c = 32 ↔ c = 32 := by
  have hc := c.toNat_lt
  unfold low
  split
  · rename_i h
    constructor
    · intro h2
      have h3 := congrArg UInt8.toNat h2
      rw [UInt8.toNat_ofNat'] at h3
      have : (32 : UInt8).toNat = 32 := rfl
      omega
    · rintro rfl
      have : (32 : UInt8).toNat = 32 := rfl
      omega
  · exact Iff.rfl
theorem idxb2 (c : UInt8) (s : List UInt8) : (Lib.indexByte s c = -1 ∧ ∀ x ∈ s, x ≠ c) ∨ ∃ i : Nat, Lib.indexByte s c = i ∧ i < s.length ∧ (∀ x ∈ s.take i, x ≠ c) ∧ s = s.take i ++ c :: s.drop (i + 1) := by
  induction s with
  | nil => exact .inl ⟨rfl, fun x h => by simp at h⟩
  | cons b l ih =>
    by_cases hb : b = c
    · subst hb
      exact .inr ⟨0, by simp [Lib.indexByte], by simp, fun c h => by simp at h, by simp⟩
    · have h0 : (b == c) = false := by simpa using hb
      rcases ih with ⟨h1, h2⟩ | ⟨i, h1, h2, h3, h4⟩
      · refine .inl ⟨by unfold Lib.indexByte; rw [h0, h1]; rfl, fun x hx => ?_⟩
        rcases List.mem_cons.1 hx with rfl | hx
        · exact hb
        · exact h2 x hx
      · refine .inr ⟨i + 1, ?_, by simpa using h2, fun x hx => ?_, ?_⟩
        · unfold Lib.indexByte
          rw [h0, h1]
          have : ((i : Int) == -1) = false := by rw [beq_eq_false_iff_ne]; omega
          simp [this]
        · rw [List.take_succ_cons] at hx
          rcases List.mem_cons.1 hx with rfl | hx
          · exact hb
          · exact h3 x hx
        · rw [List.take_succ_cons, List.drop_succ_cons, List.cons_append, ← h4]
theorem lower_mem {l : List UInt8} (h : ∀ x ∈ lower l, x ≠ 32) : ∀ x ∈ l, x ≠ 32 := fun x hx he => h (low x) (List.mem_map.2 ⟨x, hx, rfl⟩) ((low32 x).2 he)
theorem brr_no : ∀ x ∈ brr, x ≠ (32 : UInt8) := by decide
/-- A value without a blank bears nothing. -/
theorem bear_none {s : List UInt8} (h : ∀ x ∈ s, x ≠ 32) : bear s = [] := by
  unfold bear
  rw [if_neg]
  rintro ⟨h1, h2⟩
  have h3 : (32 : UInt8) ∈ lower (s.take 7) := by rw [h2]; simp
  obtain ⟨x, hx, he⟩ := List.mem_map.1 h3
  exact h x (List.mem_of_mem_take hx) ((low32 x).1 he)
/-- A value that is cut at its first blank. -/
theorem bear_cut {k r : List UInt8} (h : ∀ x ∈ k, x ≠ 32) : bear (k ++ 32 :: r) = if lower k = brr ∧ r ≠ [] then r else [] := by
  by_cases hk : lower k = brr
  · have h6 : k.length = 6 := by rw [← lower_len, hk]; rfl
    have ht : (k ++ 32 :: r).take 7 = k ++ [32] := by
      rw [show 7 = k.length + 1 from by omega, List.take_length_add_append]
      rfl
    have hd : (k ++ 32 :: r).drop 7 = r := by
      rw [show 7 = k.length + 1 from by omega, List.drop_length_add_append]
      rfl
    unfold bear
    rw [ht, hd, lower_append, hk]
    have h32 : brr ++ lower [32] = brr ++ [32] := rfl
    by_cases hr : r = []
    · subst hr
      rw [if_neg (by simp [h6]), if_neg (by simp)]
    · have : 0 < r.length := List.length_pos_iff.2 hr
      rw [if_pos ⟨by simp; omega, h32⟩, if_pos ⟨rfl, hr⟩]
  · rw [if_neg (fun h => hk h.1)]
    unfold bear
    rw [if_neg]
    rintro ⟨h1, h2⟩
    have h7 : ((k ++ 32 :: r).take 7).length = 7 := by rw [List.length_take]; omega
    rcases Nat.lt_trichotomy k.length 6 with hlt | heq | hgt
    · -- the blank stands among the letters
      have e : (k ++ 32 :: r).take 7 = k ++ 32 :: r.take (6 - k.length) := by
        rw [List.take_append, List.take_of_length_le (by omega), show 7 - k.length = (6 - k.length) + 1 from by omega, List.take_succ_cons]
      rw [e, lower_append] at h2
      have h3 := congrArg (fun l => l[k.length]?) h2
      rw [List.getElem?_append_right (by rw [lower_len]; exact Nat.le_refl _), lower_len, Nat.sub_self, List.getElem?_append_left (by show k.length < 6; exact hlt)] at h3
      have h4 : (lower (32 :: r.take (6 - k.length)))[0]? = some 32 := rfl
      rw [h4] at h3
      exact brr_no 32 (List.mem_of_getElem? h3.symm) rfl
    · have e : (k ++ 32 :: r).take 7 = k ++ [32] := by
        rw [show 7 = k.length + 1 from by omega, List.take_length_add_append]
        rfl
      rw [e, lower_append] at h2
      exact hk (List.append_inj_left h2 (by rw [lower_len, heq]; rfl))
    · have e : (k ++ 32 :: r).take 7 = k.take 7 := by rw [List.take_append_of_le_length (by omega)]
      rw [e] at h2
      have h3 : (32 : UInt8) ∈ lower (k.take 7) := by rw [h2]; simp
      obtain ⟨x, hx, he⟩ := List.mem_map.1 h3
      exact h x (List.mem_of_mem_take hx) ((low32 x).1 he)
def authB : List UInt8 := [65, 117, 116, 104, 111, 114, 105, 122, 97, 116, 105, 111, 110]
def authS : List UInt8 := [97, 117, 116, 104, 111, 114, 105, 122, 97, 116, 105, 111, 110]
theorem auth_same (l : List Hd) : hall authB l = hall authS l := by
  have e : lower authB = lower authS := by decide
  unfold hall alike
  rw [e]
/-- The token that headers bear. -/
def bearL (l : List Hd) : List UInt8 := match hall authS l with
  | [s] => bear s
  | _ => []
theorem bearL_one {l : List Hd} {s : List UInt8} (h : hall authS l = [s]) : bearL l = bear s := by unfold bearL; rw [h]
theorem bearL_no {l : List Hd} (h : (hall authS l).length ≠ 1) : bearL l = [] := by
  unfold bearL
  split
  · rename_i s hs; rw [hs] at h; exact absurd rfl h
  · rfl
theorem hall_sub (name : List UInt8) (l : List Hd) : ∀ s ∈ hall name l, ∃ h ∈ l, h.v = s := by
  intro s hs
  obtain ⟨h, hh, he⟩ := List.mem_map.1 hs
  exact ⟨h, (List.mem_filter.1 hh).1, he⟩
/-- How long headers are. -/
def hsize (l : List Hd) : Nat := 2 + (l.map fun h => h.n.length + h.v.length + 4).sum
theorem hsize_succ (l : List Hd) (k : Nat) (hk : k < l.length) : hsize (l.take (k + 1)) = hsize (l.take k) + (l[k].n.length + l[k].v.length + 4) := by
  unfold hsize
  rw [List.take_succ_eq_append_getElem hk, List.map_append, List.sum_append]
  simp
  omega
theorem hsize_le (l : List Hd) (j : Nat) (h : j < l.length) : l[j].n.length + l[j].v.length ≤ hsize l := by
  have hs := hsize_succ l j h
  have hm : hsize (l.take (j + 1)) ≤ hsize l := by
    conv => rhs; rw [← List.take_append_drop (j + 1) l]
    unfold hsize
    rw [List.map_append, List.sum_append]
    omega
  omega
end Go.Proofs.YtcdljlaoedaliaaDoor
/- How long headers are, walked; a text cut at its first blank. -/
set_option linter.unusedVariables false
set_option linter.unusedSimpArgs false
namespace Go.Proofs.YtcdljlaoedaliaaDoor
open Go.RowKit Wd
theorem ix_at (c : UInt8) (k r : List UInt8) (h : ∀ x ∈ k, x ≠ c) : Lib.indexByte (k ++ c :: r) c = (k.length : Int) := by
  induction k with
  | nil => simp [Lib.indexByte]
  | cons b l ih =>
    have h0 : (b == c) = false := by simpa using h b (by simp)
    rw [List.cons_append]
    unfold Lib.indexByte
    rw [h0, ih (fun x hx => h x (List.mem_cons_of_mem _ hx))]
    have : ((l.length : Int) == -1) = false := by rw [beq_eq_false_iff_ne]; omega
    simp [this]
theorem ix_none (c : UInt8) (k : List UInt8) (h : ∀ x ∈ k, x ≠ c) : Lib.indexByte k c = -1 := by
  rcases idxb2 c k with ⟨h1, -⟩ | ⟨i, -, hi, -, he⟩
  · exact h1
  · exact absurd rfl (h c (by rw [he]; simp))
set_option maxRecDepth 100000 in
theorem index_blank (s : List UInt8) (w : World) : Calls Tryd.prog 83 #[.string (str s), .string (str [32])] w fun e w' => e = .returned (.int .i64 (Lib.indexByte s 32)) ∧ w = w' := by
  obtain ⟨R, hR⟩ : ∃ R, R = Lib.indexByte s 32 := ⟨_, rfl⟩
  have hsl := slite_any (str s) 32 w
  rw [show (str s).data.toList = s from by simp, show ((32 : Int).toNat.toUInt8) = 32 from rfl, ← hR] at hsl
  rw [← hR]
  have HSL := Lib.hid hsl
  have HR := Lib.hid hR
  clear hR hsl
  by_cases h : s = [32]
  · subst h
    have hr : R = 0 := by rw [HR.out]; rfl
    subst hr
    clear HR HSL
    go_enter Tryd.func83, Tryd.ntmps83
    go_wp2
    go_ret
    exact ⟨rfl, rfl⟩
  · have q1 : (([32] : List UInt8) == s) = false := by
      rw [beq_eq_false_iff_ne]
      exact fun he => h he.symm
    clear h
    go_enter Tryd.func83, Tryd.ntmps83
    go_wp2_with fail
    refine HSL.out.mono ?_
    rintro e w1 ⟨rfl, rfl⟩
    go_wp2
    go_ret
    exact ⟨rfl, rfl⟩
section
variable {w0 w : World} {M : Mem} {L : List Ent}
set_option maxRecDepth 100000 in
theorem lcut_yes (H : St w0 w M L) (s k r : List UInt8) (hs : s = k ++ 32 :: r) (hk : ∀ x ∈ k, x ≠ 32) (hl : s.length ≤ 1000000) :
    Calls Tryd.prog 67 #[.string (str s), .string (str [32])] w fun e w' => e = .returned (.tuple #[.string (str k), .string (str r), .bool true]) ∧ St w0 w' M L := by
  have hi := index_blank s w
  obtain ⟨a, ha⟩ : ∃ a, a = k.length := ⟨_, rfl⟩
  rw [hs, ix_at 32 k r hk, ← hs, ← ha] at hi
  have hla : s.length = a + 1 + r.length := by rw [hs, ha]; simp; omega
  have h1 := str_to (P := Tryd.prog) (t := 9) (k := .i64) Tryd.underlying9 s a (by omega) (i := a) rfl
  have h2 := str_from (P := Tryd.prog) (t := 9) (k := .i64) Tryd.underlying9 s (a + 1) (by omega) (i := (a : Int) + 1) (by omega)
  rw [show s.take a = k from by rw [hs, ha, List.take_left]] at h1
  rw [show s.drop (a + 1) = r from by rw [hs, ha, List.drop_length_add_append]; rfl] at h2
  have wr : IntKind.i64.wrap ((a : Int) + 1) = (a : Int) + 1 := by rw [IntKind.wrap_i64]; omega
  have WR := Lib.hid wr
  have HI := Lib.hid hi
  have H1 := Lib.hid h1
  have H2 := Lib.hid h2
  clear hi h1 h2 hs hk hl ha hla wr
  go_enter Tryd.func67, Tryd.ntmps67
  go_wp2_with fail
  refine HI.out.mono ?_
  rintro e w1 ⟨rfl, rfl⟩
  go_upto_region 3 with fail
  refine Pt.wp_plan (fun w' => St w0 w' M L) (Pt.prs [0, 1, 2, 3, 4, 5, 6, 7, 8, 9, 10, 11] .fin) [] Tryd.mixed (by kernel_rfl) (fun _ _ d _ _ h => by cases d <;> exact h) H.drew ?_
  have H3 := H.drew
  clear H
  have h1 := H1.out
  have h2 := H2.out
  have wr := WR.out
  simp only [Pt.toL, Pt.rds, Pt.prs, Pt.at_, List.drop_succ_cons, List.drop_zero]
  iterate 12 (refine Pt.pr_run (v := ?_) (by rfl) ?_ ?_; rotate_left; (focus (intro w'; go_simp; with_reducible rfl)); simp only [Act.put, List.setIfInBounds_toArray, List.set_cons_zero, List.set_cons_succ])
  clear h1 h2 wr
  refine Pt.run_fin ?_
  go_wp2
  go_ret3
  exact ⟨rfl, H3⟩
set_option maxRecDepth 100000 in
theorem lcut_no (H : St w0 w M L) (s : List UInt8) (hk : ∀ x ∈ s, x ≠ 32) :
    Calls Tryd.prog 67 #[.string (str s), .string (str [32])] w fun e w' => e = .returned (.tuple #[.string (str s), .string (str []), .bool false]) ∧ St w0 w' M L := by
  have hi := index_blank s w
  rw [ix_none 32 s hk] at hi
  have HI := Lib.hid hi
  clear hi hk
  go_enter Tryd.func67, Tryd.ntmps67
  go_wp2_with fail
  refine HI.out.mono ?_
  rintro e w1 ⟨rfl, rfl⟩
  go_wp2
  go_ret3
  exact ⟨rfl, H⟩
theorem cut_of {s k r : List UInt8} {b : Bool} (h : Calls Tryd.prog 67 #[.string (str s), .string (str [32])] w fun e w' => e = .returned (.tuple #[.string (str k), .string (str r), .bool b]) ∧ St w0 w' M L) :
    Calls Tryd.prog 44 #[.string (str s), .string (str [32])] w fun e w' => e = .returned (.tuple #[.string (str k), .string (str r), .bool b]) ∧ St w0 w' M L := by
  have HH := Lib.hid h
  clear h
  go_enter Tryd.func44, Tryd.ntmps44
  go_wp2_with fail
  refine HH.out.mono ?_
  rintro e w1 ⟨rfl, H⟩
  go_wp2
  go_ret3
  exact ⟨rfl, H⟩
theorem cut_yes (H : St w0 w M L) (s k r : List UInt8) (hs : s = k ++ 32 :: r) (hk : ∀ x ∈ k, x ≠ 32) (hl : s.length ≤ 1000000) :
    Calls Tryd.prog 44 #[.string (str s), .string (str [32])] w fun e w' => e = .returned (.tuple #[.string (str k), .string (str r), .bool true]) ∧ St w0 w' M L := cut_of (lcut_yes H s k r hs hk hl)
theorem cut_no (H : St w0 w M L) (s : List UInt8) (hk : ∀ x ∈ s, x ≠ 32) :
    Calls Tryd.prog 44 #[.string (str s), .string (str [32])] w fun e w' => e = .returned (.tuple #[.string (str s), .string (str []), .bool false]) ∧ St w0 w' M L := cut_of (lcut_no H s hk)
theorem hsize_take (l : List Hd) (hsz : ∀ (j : Nat) (h : j < l.length), l[j].n.length + l[j].v.length ≤ 281474976710656) (k : Nat) (hk : k ≤ l.length) : hsize (l.take k) ≤ 2 + k * 281474976710660 := by
  induction k with
  | zero => simp [hsize]
  | succ k ih =>
    have h1 := hsize_succ l k (by omega)
    have h2 := hsz k (by omega)
    have h3 := ih (by omega)
    omega
set_option maxRecDepth 100000 in
theorem rsize_any (H : St w0 w M L) {A : Option Addr} {c n : Nat} {l : List Hd} (hn : n = l.length) (hn2 : n ≤ 1000) (hl : SrA w0 M L A (hcs l)) (hsz : ∀ (j : Nat) (h : j < l.length), l[j].n.length + l[j].v.length ≤ 281474976710656) :
    Calls Tryd.prog 22 #[.slice A n c] w fun e w' => e = .returned (.int .i64 (hsize l : Int)) ∧ St w0 w' M L := by
  have hb := hsize_take l hsz
  obtain ⟨Z, hZ⟩ : ∃ Z, Z = hsize l := ⟨_, rfl⟩
  rw [← hZ]
  have HZ := Lib.hid hZ
  have HN := Lib.hid hn
  have HB := Lib.hid hb
  have HSZ := Lib.hid hsz
  clear hZ hn hb hsz
  go_enter Tryd.func22, Tryd.ntmps22
  go_wp2
  go_loopw [3, 4] (fun z i wr => ∃ k S : Nat, k ≤ n ∧ i = .int .i64 k ∧ z = .int .i64 S ∧ S = hsize (l.take k) ∧ St w0 wr M L) (fun _ i _ => n - (intOf i).toNat)
  case atStart => exact ⟨0, 2, by omega, rfl, rfl, by simp [hsize], H⟩
  case round =>
    obtain ⟨k, S, hk, rfl, rfl, hS, H1⟩ := hrel
    clear H
    have HS := Lib.hid hS
    clear hS
    by_cases hlt : k < n
    · have hk1 : k < l.length := by have := HN.out; omega
      obtain ⟨b, o, rfl, -⟩ := RA.at2 (hl.now H1) k hk1
      have hsr := hl.at2 k hk1
      have hsu := hsize_succ l k hk1
      have hbb := HB.out k (by omega)
      have hs2 := HSZ.out k hk1
      obtain ⟨y, hy⟩ : ∃ y, y = l[k] := ⟨_, rfl⟩
      rw [← hy] at hsr hsu hs2
      rw [← HS.out] at hsu hbb
      unfold hc at hsr
      obtain ⟨a, ha⟩ : ∃ a, a = y.n.length := ⟨_, rfl⟩
      obtain ⟨d, hd⟩ : ∃ d, d = y.v.length := ⟨_, rfl⟩
      obtain ⟨U, hU⟩ : ∃ U, U = str y.n := ⟨_, rfl⟩
      obtain ⟨V, hV⟩ : ∃ V, V = str y.v := ⟨_, rfl⟩
      have hu : U.size = a := by rw [hU, str_size, ha]
      have hv : V.size = d := by rw [hV, str_size, hd]
      rw [← ha, ← hd] at hsu hs2
      simp only [← hU, ← hV] at hsr
      have r1 : (k : Int) < (n : Int) := by omega
      have r2 : (S : Int) ≤ 281474976710660000 := by
        have : k * 281474976710660 ≤ 999 * 281474976710660 := Nat.mul_le_mul_right _ (by omega)
        omega
      have r3 : (a : Int) ≤ 281474976710656 := by omega
      have r4 : (d : Int) ≤ 281474976710656 := by omega
      have hsu2 : S + a + 2 + d + 2 = hsize (l.take (k + 1)) := by omega
      have w1 : IntKind.i64.wrap ((S : Int) + (a : Int)) = (S : Int) + (a : Int) := by rw [IntKind.wrap_i64]; omega
      have w2 : IntKind.i64.wrap ((S : Int) + (a : Int) + 2) = (S : Int) + (a : Int) + 2 := by rw [IntKind.wrap_i64]; omega
      have w3 : IntKind.i64.wrap ((S : Int) + (a : Int) + 2 + (d : Int)) = (S : Int) + (a : Int) + 2 + (d : Int) := by rw [IntKind.wrap_i64]; omega
      have w4 : IntKind.i64.wrap ((S : Int) + (a : Int) + 2 + (d : Int) + 2) = (S : Int) + (a : Int) + 2 + (d : Int) + 2 := by rw [IntKind.wrap_i64]; omega
      have WR := Lib.hid (And.intro w1 (And.intro w2 (And.intro w3 w4)))
      have HLT := Lib.hid hlt
      have HSR := Lib.hid hsr
      have HSU := Lib.hid hsu2
      clear hsr hsu hsu2 hbb hs2 hy ha hd hU hV hk1 hlt w1 w2 w3 w4 r2 r3 r4
      go_upto_region 5 with fail
      refine Pt.wp_plan (fun w' => St w0 w' M L) (Pt.prs [0, 1, 2, 3, 4, 9, 10, 11, 12] (Pt.rds [5] (Pt.prs [6, 7, 8] (Pt.rds [13] (Pt.prs [14, 15, 16, 17] .fin))))) [] Tryd.mixed (by kernel_rfl) (fun _ _ d _ _ h => by cases d <;> exact h) H1.drew ?_
      have H2 := H1.drew
      clear H1
      simp only [Pt.toL, Pt.rds, Pt.prs, Pt.at_, List.drop_succ_cons, List.drop_zero]
      obtain ⟨w1, w2, w3, w4⟩ := WR.out
      iterate 9 (refine Pt.pr_run (v := ?_) (by rfl) ?_ ?_; rotate_left; (focus (intro w'; go_simp; with_reducible rfl)); simp only [Act.put, List.setIfInBounds_toArray, List.set_cons_zero, List.set_cons_succ])
      (refine Pt.rd_run (v := ?_) (by rfl) ?_ ?_; rotate_left; (focus (intro w' hS; have c0 := HSR.out w' hS 0 _ rfl; rw [Nat.add_zero] at c0; go_simp; with_reducible rfl)); simp only [Act.put, List.setIfInBounds_toArray, List.set_cons_zero, List.set_cons_succ])
      iterate 3 (refine Pt.pr_run (v := ?_) (by rfl) ?_ ?_; rotate_left; (focus (intro w'; go_simp; with_reducible rfl)); simp only [Act.put, List.setIfInBounds_toArray, List.set_cons_zero, List.set_cons_succ])
      (refine Pt.rd_run (v := ?_) (by rfl) ?_ ?_; rotate_left; (focus (intro w' hS; have c1 := HSR.out w' hS 1 _ rfl; go_simp; with_reducible rfl)); simp only [Act.put, List.setIfInBounds_toArray, List.set_cons_zero, List.set_cons_succ])
      iterate 4 (refine Pt.pr_run (v := ?_) (by rfl) ?_ ?_; rotate_left; (focus (intro w'; go_simp; with_reducible rfl)); simp only [Act.put, List.setIfInBounds_toArray, List.set_cons_zero, List.set_cons_succ])
      refine Pt.run_fin ?_
      clear w1 w2 w3 w4
      go_wp2
      exact ⟨⟨k + 1, S + a + 2 + d + 2, by have := HLT.out; omega, by go_num, by simp, HSU.out, H2⟩, by have := HLT.out; simp [intOf]; omega⟩
    · obtain rfl : k = n := by omega
      have hfin : S = Z := by rw [HS.out, HZ.out, HN.out, List.take_length]
      subst hfin
      clear hlt
      go_wp2
      go_ret
      exact ⟨rfl, H1⟩
end
end Go.Proofs.YtcdljlaoedaliaaDoor
/- Which token headers bear, walked. -/
set_option linter.unusedVariables false
set_option linter.unusedSimpArgs false
namespace Go.Proofs.YtcdljlaoedaliaaDoor
open Go.RowKit Wd
section
variable {w0 w : World} {M : Mem} {L : List Ent}
set_option maxRecDepth 100000 in
set_option maxHeartbeats 1000000 in
theorem bearer_any (H : St w0 w M L) {A : Option Addr} {c n : Nat} {l : List Hd} (hn : n = l.length) (hn2 : n ≤ 1000) (hl : SrA w0 M L A (hcs l)) (hsz : ∀ (j : Nat) (h : j < l.length), l[j].n.length + l[j].v.length ≤ 9000) :
    Calls Tryd.prog 24 #[.slice A n c] w fun e w' => e = .returned (.tuple #[.string (str (bearL l)), .bool (decide (bearL l ≠ []))]) ∧ St w0 w' M L := by
  have hh := hall_any (c := c) H hn hn2 hl (fun j h => by have := hsz j h; omega) authB (by decide)
  obtain ⟨R, hR⟩ : ∃ R, R = bearL l := ⟨_, rfl⟩
  obtain ⟨B, hB⟩ : ∃ B, B = decide (R ≠ []) := ⟨_, rfl⟩
  rw [← hR, ← hB]
  have hal := auth_same l
  have hlen : ∀ s ∈ hall authB l, s.length ≤ 9000 := fun s hs => by
    obtain ⟨h, hh, he⟩ := hall_sub authB l s hs
    obtain ⟨j, hj, rfl⟩ := List.getElem_of_mem hh
    have := hsz j hj
    rw [← he]
    omega
  obtain ⟨X, hX⟩ : ∃ X, X = hall authB l := ⟨_, rfl⟩
  rw [← hX] at hh hal hlen
  clear hX H hn hsz hl
  by_cases h1 : X.length = 1
  · obtain ⟨s, rfl⟩ : ∃ s, X = [s] := List.length_eq_one_iff.1 h1
    have hb : R = bear s := hR.trans (bearL_one hal.symm)
    have hsl : s.length ≤ 9000 := hlen s (by simp)
    have hcut : ∃ k r b, (∀ W L', St w0 W M L' → Calls Tryd.prog 44 #[.string (str s), .string (str [32])] W fun e w' => e = .returned (.tuple #[.string (str k), .string (str r), .bool b]) ∧ St w0 w' M L') ∧ k.length ≤ 9000 ∧ R = if lower k = brr ∧ r ≠ [] then r else [] := by
      rcases idxb2 32 s with ⟨-, hno⟩ | ⟨i, -, hi, hno, he⟩
      · refine ⟨s, [], false, fun W L' HW => cut_no HW s hno, hsl, ?_⟩
        rw [if_neg (by simp), hb, bear_none hno]
      · refine ⟨s.take i, s.drop (i + 1), true, fun W L' HW => cut_yes HW s _ _ he hno (by omega), by rw [List.length_take]; omega, ?_⟩
        rw [hb]
        conv => lhs; rw [he]
        exact bear_cut hno
    obtain ⟨k, r, b, hc, hkl, hr⟩ := hcut
    have hlo := fun W L' (HW : St w0 W M L') => tlower_any HW k (by omega)
    obtain ⟨Y, hY⟩ : ∃ Y, Y = lower k := ⟨_, rfl⟩
    simp only [← hY] at hlo
    rw [← hY] at hr
    have HH := Lib.hid hh
    have HC := Lib.hid hc
    have HLO := Lib.hid hlo
    have HBB := Lib.hid hB
    have HRR := Lib.hid hr
    clear hh hc hlo hR hB hal hlen h1 hb hsl hkl hr hY
    go_enter Tryd.func24, Tryd.ntmps24
    go_wp2_with fail
    refine HH.out.mono ?_
    rintro e w1 ⟨v, rfl, H1⟩
    obtain ⟨A2, c2, rfl, -, -⟩ := H1.shape' 0 rfl
    obtain ⟨b2, o2, rfl, -, hrg⟩ := (SrA.row 0 rfl).now H1 (by simp [sv])
    have c0 := hrg 0 _ rfl
    rw [Nat.add_zero] at c0
    clear hrg HH
    go_wp2_with fail
    refine (HC.out _ _ H1).mono ?_
    rintro e w2 ⟨rfl, H2⟩
    clear c0 H1 HC
    go_wp2_with fail
    refine (HLO.out _ _ H2).mono ?_
    rintro e w3 ⟨rfl, H3⟩
    clear HLO H2
    by_cases hy : Y = [98, 101, 97, 114, 101, 114]
    · subst hy
      by_cases hr0 : r = []
      · subst hr0
        have hr := HRR.out
        rw [if_neg (by simp)] at hr
        have hb := HBB.out
        rw [hr, decide_eq_false (by simp)] at hb
        subst hr hb
        clear HRR HBB
        go_wp2
        go_ret2
        exact ⟨rfl, H3.d0⟩
      · have hr := HRR.out
        rw [if_pos ⟨rfl, hr0⟩] at hr
        have hb := HBB.out
        rw [hr, decide_eq_true hr0] at hb
        subst hr hb
        have q1 : (R == []) = false := by rw [beq_eq_false_iff_ne]; exact hr0
        clear HRR HBB hr0
        go_wp2
        go_ret2
        exact ⟨rfl, H3.d0⟩
    · have hr := HRR.out
      rw [if_neg (fun h => hy h.1)] at hr
      have hb := HBB.out
      rw [hr, decide_eq_false (by simp)] at hb
      subst hr hb
      have q1 : (Y == [98, 101, 97, 114, 101, 114]) = false := by rw [beq_eq_false_iff_ne]; exact hy
      clear HRR HBB hy
      go_wp2
      go_ret2
      exact ⟨rfl, H3.d0⟩
  · have hr : R = [] := hR.trans (bearL_no (by rw [← hal]; exact h1))
    rw [hr, decide_eq_false (by simp)] at hB
    subst hr hB
    obtain ⟨N, hN⟩ : ∃ N, N = X.length := ⟨_, rfl⟩
    rw [← hN] at hh h1
    have q1 : ((N : Int) == 1) = false := by rw [beq_eq_false_iff_ne]; omega
    have HH := Lib.hid hh
    clear hh hR hal hlen h1 hN
    go_enter Tryd.func24, Tryd.ntmps24
    go_wp2_with fail
    refine HH.out.mono ?_
    rintro e w1 ⟨v, rfl, H1⟩
    obtain ⟨A2, c2, rfl, -, -⟩ := H1.shape' 0 rfl
    go_wp2
    go_ret2
    exact ⟨rfl, H1.d0⟩
set_option maxRecDepth 100000 in
set_option maxHeartbeats 1000000 in
theorem rbearer_any (H : St w0 w M L) {A : Option Addr} {c n : Nat} {l : List Hd} (hn : n = l.length) (hn2 : n ≤ 1000) (hl : SrA w0 M L A (hcs l)) (hsz : ∀ (j : Nat) (h : j < l.length), l[j].n.length + l[j].v.length ≤ 9000) :
    Calls Tryd.prog 25 #[.slice A n c] w fun e w' => e = .returned (.string (str (bearL l))) ∧ St w0 w' M L := by
  have hh := rall_any (c := c) H hn hn2 hl (fun j h => by have := hsz j h; omega) authS (by decide)
  obtain ⟨R, hR⟩ : ∃ R, R = bearL l := ⟨_, rfl⟩
  rw [← hR]
  have hlen : ∀ s ∈ hall authS l, s.length ≤ 9000 := fun s hs => by
    obtain ⟨h, hh, he⟩ := hall_sub authS l s hs
    obtain ⟨j, hj, rfl⟩ := List.getElem_of_mem hh
    have := hsz j hj
    rw [← he]
    omega
  obtain ⟨X, hX⟩ : ∃ X, X = hall authS l := ⟨_, rfl⟩
  rw [← hX] at hh hlen
  clear H hn hsz hl
  by_cases h1 : X.length = 1
  · obtain ⟨s, rfl⟩ : ∃ s, X = [s] := List.length_eq_one_iff.1 h1
    have hb : R = bear s := hR.trans (bearL_one hX.symm)
    have hsl : s.length ≤ 9000 := hlen s (by simp)
    unfold bear at hb
    obtain ⟨N, hN⟩ : ∃ N, N = s.length := ⟨_, rfl⟩
    have hu : (str s).size = N := by rw [str_size, hN]
    by_cases h8 : 8 ≤ N
    · have hto := str_to (P := Tryd.prog) (t := 9) (k := .i64) Tryd.underlying9 s 7 (by omega) (i := 7) rfl
      have hfr := str_from (P := Tryd.prog) (t := 9) (k := .i64) Tryd.underlying9 s 7 (by omega) (i := 7) rfl
      have hlo := fun W L' (HW : St w0 W M L') => rlower_any HW (s.take 7) (by rw [List.length_take]; omega)
      obtain ⟨F, hF⟩ : ∃ F, F = s.take 7 := ⟨_, rfl⟩
      obtain ⟨D, hD⟩ : ∃ D, D = s.drop 7 := ⟨_, rfl⟩
      rw [← hF] at hto hb
      simp only [← hF] at hlo
      rw [← hD] at hfr hb
      obtain ⟨Y, hY⟩ : ∃ Y, Y = lower F := ⟨_, rfl⟩
      simp only [← hY] at hlo
      rw [← hY, ← hN] at hb
      have r8 : ¬ (N : Int) < 8 := by omega
      obtain ⟨U, hU⟩ : ∃ U, U = str s := ⟨_, rfl⟩
      rw [← hU] at hu hto hfr
      have hsv : sv [s] = [.string U] := by rw [hU]; rfl
      have HU := Lib.hid hsv
      have HH := Lib.hid hh
      have HLO := Lib.hid hlo
      have HTO := Lib.hid hto
      have HFR := Lib.hid hfr
      have HB := Lib.hid hb
      have H8 := Lib.hid h8
      clear hh hlo hto hfr hb hR hX hlen h1 hsl hN hF hD hY hU h8 hsv
      go_enter Tryd.func25, Tryd.ntmps25
      go_wp2_with fail
      refine HH.out.mono ?_
      rintro e w1 ⟨v, rfl, H1⟩
      obtain ⟨A2, c2, rfl, -, -⟩ := H1.shape' 0 rfl
      obtain ⟨b2, o2, rfl, -, hrg⟩ := (SrA.row 0 rfl).now H1 (by simp [sv])
      rw [HU.out] at hrg
      have hsr : ∀ W, St w0 W M (er 9 1 (.slice (some ⟨b2, o2, none⟩) [s].length c2) [s].length (sv [s]) :: L) → W.cell? ⟨b2, o2, none⟩ = some (.string U) := fun W HW => by
        obtain ⟨b3, o3, he, -, hr3⟩ := (SrA.row 0 rfl).now HW (by simp [sv])
        injection he with he
        injection he with e1 e2
        subst e1 e2
        rw [HU.out] at hr3
        have := hr3 0 _ rfl
        rwa [Nat.add_zero] at this
      have HSR := Lib.hid hsr
      have c0 := hsr _ H1
      have hto := HTO.out
      clear hrg HH hsr
      go_wp2_with fail
      refine (HLO.out _ _ H1).mono ?_
      rintro e w2 ⟨rfl, H2⟩
      clear c0 H1 hto
      have c0 := HSR.out _ H2
      by_cases hy : Y = [98, 101, 97, 114, 101, 114, 32]
      · subst hy
        have hb := HB.out
        rw [if_pos ⟨H8.out, rfl⟩] at hb
        subst hb
        have hfr := HFR.out
        clear HB HTO HFR HLO
        go_wp2
        go_ret
        exact ⟨rfl, H2.d0⟩
      · have q1 : (Y == [98, 101, 97, 114, 101, 114, 32]) = false := by rw [beq_eq_false_iff_ne]; exact hy
        have hb := HB.out
        rw [if_neg (fun h => hy h.2)] at hb
        subst hb
        clear HB HTO HFR HLO hy
        go_wp2
        go_ret
        exact ⟨rfl, H2.d0⟩
    · rw [if_neg (fun h => h8 (by rw [hN]; exact h.1))] at hb
      subst hb
      have r8 : (N : Int) < 8 := by omega
      have HH := Lib.hid hh
      clear hh hR hX hlen h1 hsl hN h8
      go_enter Tryd.func25, Tryd.ntmps25
      go_wp2_with fail
      refine HH.out.mono ?_
      rintro e w1 ⟨v, rfl, H1⟩
      obtain ⟨A2, c2, rfl, -, -⟩ := H1.shape' 0 rfl
      obtain ⟨b2, o2, rfl, -, hrg⟩ := (SrA.row 0 rfl).now H1 (by simp [sv])
      have c0 := hrg 0 _ rfl
      rw [Nat.add_zero] at c0
      clear hrg HH
      go_wp2
      go_ret
      exact ⟨rfl, H1.d0⟩
  · have hr : R = [] := hR.trans (bearL_no (by rw [← hX]; exact h1))
    subst hr
    obtain ⟨N, hN⟩ : ∃ N, N = X.length := ⟨_, rfl⟩
    rw [← hN] at hh h1
    have q1 : ((N : Int) == 1) = false := by rw [beq_eq_false_iff_ne]; omega
    have q2 : ((N : Int) != 1) = true := by rw [bne, q1]; rfl
    clear q1
    have HH := Lib.hid hh
    clear hh hR hX hlen h1 hN
    go_enter Tryd.func25, Tryd.ntmps25
    go_wp2_with fail
    refine HH.out.mono ?_
    rintro e w1 ⟨v, rfl, H1⟩
    obtain ⟨A2, c2, rfl, -, -⟩ := H1.shape' 0 rfl
    go_wp2
    go_ret
    exact ⟨rfl, H1.d0⟩
end
end Go.Proofs.YtcdljlaoedaliaaDoor
/- The document's Who, walked. -/
set_option linter.unusedVariables false
set_option linter.unusedSimpArgs false
namespace Go.Proofs.YtcdljlaoedaliaaDoor
open Go.RowKit Wd
open Va (Acc)
theorem Va.who_zero {l : List Acc} {s : List UInt8} (h : ∀ x ∈ l, Va.hit s x = false) : (Va.who l s).1 = 0 := by
  unfold Va.who
  split
  · rw [Va.who_none h]
  · rfl
theorem Va.who_not {l : List Acc} {s : List UInt8} (h : ¬ Va.May l) : (Va.who l s).1 = 0 := by
  unfold Va.who
  rw [if_neg h]
theorem Va.who_sec {l : List Acc} {s : List UInt8} (h : secretErr s.length ≠ 0) : (Va.who l s).1 = 0 := Va.who_zero fun x _ => by
  unfold Va.hit
  rw [decide_eq_false (fun h2 => h h2.1), Bool.and_false]
theorem SrA.salt {w0 : World} {M : Mem} {L : List Ent} {b o : Nat} {l : List Acc} (h : SrA w0 M L (some ⟨b, o, none⟩) (acs l)) (j : Nat) (hj : j < l.length) : Sr w0 M L (some ⟨b, o + j * 50 + 1, none⟩) l[j].salt := fun w' M' hM H => by
  have hr := h w' M' hM H
  intro _
  obtain ⟨b1, o1, he1, hlt, _⟩ := hr (by intro h0; have := acs_length l; rw [h0] at this; simp at this; omega)
  obtain ⟨b2, o2, he2, hc⟩ := RA.at50 hr j hj
  injection he1 with he1
  injection he1 with e1 e2
  injection he2 with he2
  injection he2 with e3 e4
  subst e1 e2 e3 e4
  refine ⟨_, _, rfl, hlt, fun q v hq => ?_⟩
  rw [← ac_salt, List.getElem?_take] at hq
  split at hq
  · rw [List.getElem?_drop] at hq
    rw [Nat.add_assoc]
    exact hc _ v hq
  · cases hq
section
variable {w0 w : World} {M : Mem} {L : List Ent}
set_option maxRecDepth 100000 in
set_option maxHeartbeats 4000000 in
theorem rwho_any (H : St w0 w M L) {A : Option Addr} {c n : Nat} {l : List Acc} (hn : n = l.length) (hn2 : n ≤ 900000) (hl : SrA w0 M L A (acs l)) (s : List UInt8) (hsn : s.length ≤ 100000) :
    Calls Tryd.prog 23 #[.slice A n c, .string (str s)] w fun e w' => e = .returned (.int .u64 ((Va.who l s).1 : Int)) ∧ St w0 w' M L := by
  have hma := fun W (H : St w0 W M L) => rmay_any (c := c) H hn (by omega) hl
  have hse := fun W => rsecret_any (str s) W
  rw [str_size] at hse
  obtain ⟨T, hT⟩ : ∃ T, T = (Va.who l s).1 := ⟨_, rfl⟩
  rw [← hT]
  have tz : (∀ x ∈ l, Va.hit s x = false) → T = 0 := fun h => hT.trans (Va.who_zero h)
  have tn : ¬ Va.May l → T = 0 := fun h => hT.trans (Va.who_not h)
  have ts : secretErr s.length ≠ 0 → T = 0 := fun h => hT.trans (Va.who_sec h)
  have ty : Va.May l → T = (Va.whoL s l).1 := fun h => by rw [hT]; unfold Va.who; rw [if_pos h]
  obtain ⟨E, hE⟩ : ∃ E, E = secretErr s.length := ⟨_, rfl⟩
  rw [← hE] at hse ts
  have HMA := Lib.hid hma
  have HSE := Lib.hid hse
  have HTZ := Lib.hid tz
  have HTN := Lib.hid tn
  have HTS := Lib.hid ts
  have HTY := Lib.hid ty
  have HN := Lib.hid hn
  have HE := Lib.hid hE
  clear hma hse tz tn ts ty hn hE hT
  go_enter Tryd.func23, Tryd.ntmps23
  go_wp2
  go_loopw [5] (fun i wr => ∃ k : Nat, k ≤ n ∧ i = .int .i64 k ∧ (∀ x ∈ l.take k, Va.hit s x = false) ∧ St w0 wr M L) (fun i _ => n - (intOf i).toNat)
  case atStart => exact ⟨0, by omega, rfl, by simp, H⟩
  case round =>
    obtain ⟨k, hk, rfl, hs, H2⟩ := hrel
    clear H
    have HS := Lib.hid hs
    clear hs
    by_cases hlt : k < n
    · have r1 : (k : Int) < (n : Int) := by omega
      have HLT := Lib.hid hlt
      clear hlt
      go_wp2_with fail
      refine (HMA.out _ H2).mono ?_
      rintro e w2 ⟨bm, rfl, hbm, H3⟩
      clear H2
      cases bm with
      | false =>
        have ht := HTN.out (fun h => by have := hbm.2 h; simp at this)
        subst ht
        clear hbm HTZ HTN HTS HTY
        go_wp2
        go_ret
        exact ⟨rfl, H3⟩
      | true =>
        have hmay := hbm.1 rfl
        have ht := HTY.out hmay
        have HT := Lib.hid ht
        clear hbm hmay ht
        go_wp2_with fail
        refine (HSE.out _).mono ?_
        rintro e w3 ⟨rfl, rfl⟩
        by_cases h0 : E = 0
        · subst h0
          have hk1 : k < l.length := by have := HN.out; have := HLT.out; omega
          obtain ⟨b, o, rfl, -⟩ := RA.at50 (hl.now H3) k hk1
          have hrg := hl.at50 k hk1
          have hsa := hl.salt k hk1
          have hX0 := ac_t l[k]
          have hXo := ac_off l[k]
          have hXt := ac_tag l[k]
          have hta : l.take (k + 1) = l.take k ++ [l[k]] := List.take_succ_eq_append_getElem hk1
          have hno : Va.hit s l[k] = false → ∀ x ∈ l.take (k + 1), Va.hit s x = false := fun h x hx => by
            rw [hta] at hx
            rcases List.mem_append.1 hx with hx | hx
            · exact HS.out x hx
            · obtain rfl := List.mem_singleton.1 hx
              exact h
          have hyes : Va.hit s l[k] = true → Va.whoL s l = (l[k].t, true) := fun h => Va.who_hit hk1 HS.out h
          have hsl := l[k].hs
          have htl := l[k].ht
          have hhit : Va.hit s l[k] = (!l[k].off && decide (Mac.mac l[k].salt s = l[k].tag)) := by
            unfold Va.hit
            have := HE.out
            simp [← this]
          obtain ⟨V, hV⟩ : ∃ V, V = Va.hit s l[k] := ⟨_, rfl⟩
          simp only [← hV] at hno hyes hhit
          obtain ⟨B, hB⟩ : ∃ B, B = decide (Mac.mac l[k].salt s = l[k].tag) := ⟨_, rfl⟩
          simp only [← hB] at hhit
          obtain ⟨X, hX⟩ : ∃ X, X = ac l[k] := ⟨_, rfl⟩
          simp only [← hX] at hrg hX0 hXo hXt
          obtain ⟨sal, hsal⟩ : ∃ sal, sal = l[k].salt := ⟨_, rfl⟩
          obtain ⟨tag, htag⟩ : ∃ tag, tag = l[k].tag := ⟨_, rfl⟩
          simp only [← hsal, ← htag] at hsa hXt hsl htl hB
          obtain ⟨z, hz⟩ : ∃ z, z = l[k].t := ⟨_, rfl⟩
          obtain ⟨off, hoff⟩ : ∃ off, off = l[k].off := ⟨_, rfl⟩
          simp only [← hz, ← hoff] at hX0 hXo hyes hhit
          have hcells : ∀ W, St w0 W M L → W.cell? ⟨b, o + k * 50, none⟩ = some (.int .u64 (z : Int)) ∧ W.cell? ⟨b, o + k * 50 + 49, none⟩ = some (.bool off) ∧ W.rangeAt b (o + k * 50 + 17) (bv tag) := fun W HW => by
            have h := hrg W HW
            refine ⟨?_, h 49 _ hXo, fun q v hq => ?_⟩
            · have := h 0 _ hX0
              rwa [Nat.add_zero] at this
            · rw [← hXt, List.getElem?_take] at hq
              split at hq
              · rw [List.getElem?_drop] at hq
                rw [Nat.add_assoc]
                exact h _ v hq
              · cases hq
          have hbt : (bv tag).length = 32 := by rw [bv_length, htl]
          have HCE := Lib.hid hcells
          have HSA := Lib.hid hsa
          have HNO := Lib.hid hno
          have HYES := Lib.hid hyes
          have HHIT := Lib.hid hhit
          have HSL := Lib.hid hsl
          have HTL := Lib.hid htl
          have HBT := Lib.hid hbt
          have HB := Lib.hid hB
          clear hrg hsa hX0 hXo hXt hta hno hyes hsl htl hhit hV hB hX hsal htag hz hoff hcells hbt hk1
          go_upto_region 4 with fail
          refine Pt.wp_plan (fun w' => St w0 w' M L) (Pt.prs [0, 1, 2, 3] (Pt.rds [4] (Pt.prs [5, 6, 7, 8, 9, 10, 11, 12, 15, 16, 17, 18] (Pt.rds [19] (.go 13 (.go 14 (Pt.prs [20, 21] .fin))))))) [] Tryd.mixed (by kernel_rfl) (fun _ _ d _ _ h => by cases d <;> exact h) H3.drew ?_
          have HA := H3.drew
          clear H3
          simp only [Pt.toL, Pt.rds, Pt.prs, Pt.at_, List.drop_succ_cons, List.drop_zero]
          iterate 4 (refine Pt.pr_run (v := ?_) (by rfl) ?_ ?_; rotate_left; (focus (intro w'; go_simp; with_reducible rfl)); simp only [Act.put, List.setIfInBounds_toArray, List.set_cons_zero, List.set_cons_succ])
          (refine Pt.rd_run (v := ?_) (by rfl) ?_ ?_; rotate_left; (focus (intro w' hS; have c49 := (HCE.out w' hS).2.1; go_simp; with_reducible rfl)); simp only [Act.put, List.setIfInBounds_toArray, List.set_cons_zero, List.set_cons_succ])
          cases off with
          | true =>
            have hf := HNO.out (by rw [HHIT.out]; rfl)
            have HF := Lib.hid hf
            clear hf
            iterate 2 (refine Pt.pr_run (v := ?_) (by rfl) ?_ ?_; rotate_left; (focus (intro w'; go_simp; with_reducible rfl)); simp only [Act.put, List.setIfInBounds_toArray, List.set_cons_zero, List.set_cons_succ])
            iterate 10 (refine Pt.pr_skip (by rfl) ?_; simp only [Act.put, List.setIfInBounds_toArray, List.set_cons_zero, List.set_cons_succ])
            (refine Pt.rd_skip (by rfl) ?_; simp only [Act.put, List.setIfInBounds_toArray, List.set_cons_zero, List.set_cons_succ])
            refine Pt.run_go ?_
            go_wp2_with fail
            refine Pt.same HA ?_
            refine Pt.run_go ?_
            go_wp2_with fail
            refine Pt.same HA ?_
            (refine Pt.pr_skip (by rfl) ?_; simp only [Act.put, List.setIfInBounds_toArray, List.set_cons_zero, List.set_cons_succ])
            (refine Pt.pr_run (v := ?_) (by rfl) ?_ ?_; rotate_left; (focus (intro w'; go_simp; with_reducible rfl)); simp only [Act.put, List.setIfInBounds_toArray, List.set_cons_zero, List.set_cons_succ])
            refine Pt.run_fin ?_
            go_wp2
            exact ⟨⟨k + 1, by have := HLT.out; omega, by go_num, HF.out, HA⟩, by have := HLT.out; simp [intOf]; omega⟩
          | false =>
            iterate 2 (refine Pt.pr_run (v := ?_) (by rfl) ?_ ?_; rotate_left; (focus (intro w'; go_simp; with_reducible rfl)); simp only [Act.put, List.setIfInBounds_toArray, List.set_cons_zero, List.set_cons_succ])
            iterate 10 (refine Pt.pr_run (v := ?_) (by rfl) ?_ ?_; rotate_left; (focus (intro w'; go_simp; with_reducible rfl)); simp only [Act.put, List.setIfInBounds_toArray, List.set_cons_zero, List.set_cons_succ])
            (refine Pt.rd_load (by rfl) 40 (.tmp 39) (by rfl) b (o + k * 50 + 17) (by rfl) (bv tag) _ (fun w' h => (HCE.out w' h).2.2) Tryd.underlying40 rfl (by rw [HBT.out]; exact Tryd.size24) ?_; simp only [Act.put, List.setIfInBounds_toArray, List.set_cons_zero, List.set_cons_succ])
            obtain ⟨g1, k1, u1, M1, hcv1, hM1, H1, hin1⟩ := conv_keep HA s hsn
            refine Pt.run_go ?_
            go_wp2_with fail
            refine Pt.same (H1.weak HA hM1) ?_
            clear hcv1
            have hmc := rmac_any H1 (A := some ⟨b, o + k * 50 + 1, none⟩) (c := 16) (k := sal) (by rintro ⟨⟩) (HSA.out.le hM1) (by rw [HSL.out]; decide) (by rw [HSL.out]; exact Nat.le_refl _) (B := some ⟨g1, 0, none⟩) (d := k1) (b := s) (by rintro ⟨⟩) (Sr.of_in hin1) (by omega)
            rw [HSL.out] at hmc
            obtain ⟨D, hD⟩ : ∃ D, D = Mac.mac sal s := ⟨_, rfl⟩
            rw [← hD] at hmc
            have hdl : D.length = 32 := by rw [hD, Mac.mac_len]
            have hbb : B = decide (D = tag) := by rw [HB.out, hD]
            have HMC := Lib.hid hmc
            have HDL := Lib.hid hdl
            have HBB := Lib.hid hbb
            clear hmc hD hdl hbb
            refine Pt.run_go ?_
            go_wp2_with fail
            refine HMC.out.mono ?_
            rintro e u2 ⟨rfl, H5⟩
            go_wp2_with fail
            refine Pt.same (H5.weak HA hM1) ?_
            have HF := H5.weak HA hM1
            clear HMC H5 H1 HA
            have heq : ∀ w, (Op.equalIn 10000 40 (.agg (bv D).toArray) (.agg (bv tag).toArray)).run Tryd.prog w = .ok B w := fun w => by
              rw [Tryd.eqb32 w _ _ HDL.out HTL.out, HBB.out]
            iterate 2 (refine Pt.pr_run (v := ?_) (by rfl) ?_ ?_; rotate_left; (focus (intro w'; go_simp; with_reducible rfl)); simp only [Act.put, List.setIfInBounds_toArray, List.set_cons_zero, List.set_cons_succ])
            clear heq
            refine Pt.run_fin ?_
            obtain ⟨c0, -, -⟩ := HCE.out _ HF
            cases B with
            | true =>
              have hy := HYES.out (by rw [HHIT.out]; rfl)
              have ht := HT.out
              rw [hy] at ht
              simp only at ht
              subst ht
              clear hy
              go_wp2
              go_ret
              exact ⟨rfl, HF⟩
            | false =>
              have hf := HNO.out (by rw [HHIT.out]; rfl)
              have HF2 := Lib.hid hf
              clear hf c0
              go_wp2
              exact ⟨⟨k + 1, by have := HLT.out; omega, by go_num, HF2.out, HF⟩, by have := HLT.out; simp [intOf]; omega⟩
        · have ht := HTS.out h0
          subst ht
          have q1 : (E == 0) = false := by rw [beq_eq_false_iff_ne]; exact h0
          clear h0 HTZ HTN HTS HTY HT
          go_wp2
          go_ret
          exact ⟨rfl, H3⟩
    · obtain rfl : k = n := by omega
      have ht := HTZ.out (by have := HS.out; rw [HN.out, List.take_length] at this; exact this)
      subst ht
      clear hlt HTZ HTN HTS HTY
      go_wp2
      go_ret
      exact ⟨rfl, H2⟩
end
end Go.Proofs.YtcdljlaoedaliaaDoor
/- VaultWho walked. -/
set_option linter.unusedVariables false
set_option linter.unusedSimpArgs false
namespace Go.Proofs.YtcdljlaoedaliaaDoor
open Go.RowKit Wd
open Va (Acc)
theorem Va.who_iff (l : List Acc) (s : List UInt8) : (Va.who l s).2 = decide ((Va.who l s).1 ≠ 0) := by
  unfold Va.who
  split
  · rename_i hm
    unfold Va.whoL
    split
    · rename_i a ha
      have := hm.ne a (List.mem_of_find?_eq_some ha)
      exact (decide_eq_true this).symm
    · rfl
  · rfl
section
set_option maxRecDepth 100000 in
set_option maxHeartbeats 4000000 in
theorem vaultWho_any {w : World} (ht : Tabs w) {A : Option Addr} {c n : Nat} {l : List Acc} (hr : RA w A (acs l)) (hn : n = l.length) (s : List UInt8)
    {A2 : Option Addr} {c2 n2 : Nat} {lh : List Hd} (hr2 : RA w A2 (hcs lh)) (hn2 : n2 = lh.length) (hsz : ∀ (j : Nat) (h : j < lh.length), lh[j].n.length + lh[j].v.length ≤ 281474976710656) :
    Calls Tryd.prog 5 #[.slice A n c, .string (str s), .slice A2 n2 c2] w fun e w' => e = .returned (.bool true) ∧ Below w.heap.size w w' := by
  have H0 := St.start w
  have sA : SrA w (w.heap[·]?) [] A (acs l) := SrA.of_in (In.oldRA H0 hr)
  have sB : SrA w (w.heap[·]?) [] A2 (hcs lh) := SrA.of_in (In.oldRA H0 hr2)
  have aw : ∀ w', St w w' (w.heap[·]?) [] → Calls Tryd.prog 8 #[] w' fun e w' => e = .returned (.bool true) ∧ St w w' (w.heap[·]?) [] := fun w' H => awake22_any ht H
  have AW := Lib.hid aw
  have hu : (str s).size = s.length := str_size s
  have HN := Lib.hid hn
  have HN2 := Lib.hid hn2
  have HSZ := Lib.hid hsz
  have hwho := fun (h : n ≤ 900000) (h2 : s.length ≤ 100000) W (H : St w W (w.heap[·]?) []) => who_any (c := c) ht H hn h sA s (by omega)
  have hrwho := fun (h : n ≤ 900000) (h2 : s.length ≤ 100000) W (H : St w W (w.heap[·]?) []) => rwho_any (c := c) H hn h sA s h2
  have hsizw := fun (h : n2 ≤ 1000) W (H : St w W (w.heap[·]?) []) => rsize_any (c := c2) H hn2 h sB hsz
  have hbr := fun (h : n2 ≤ 1000) (hz : ∀ (j : Nat) (h : j < lh.length), lh[j].n.length + lh[j].v.length ≤ 9000) W (H : St w W (w.heap[·]?) []) => bearer_any (c := c2) H hn2 h sB hz
  have hrbr := fun (h : n2 ≤ 1000) (hz : ∀ (j : Nat) (h : j < lh.length), lh[j].n.length + lh[j].v.length ≤ 9000) W (H : St w W (w.heap[·]?) []) => rbearer_any (c := c2) H hn2 h sB hz
  obtain ⟨ns, hns⟩ : ∃ ns, ns = s.length := ⟨_, rfl⟩
  rw [← hns] at hu
  simp only [← hns] at hwho hrwho
  have hxf := Va.who_iff l s
  obtain ⟨⟨x, f⟩, hxf2⟩ : ∃ q, q = Va.who l s := ⟨_, rfl⟩
  simp only [← hxf2] at hwho hrwho hxf
  obtain ⟨T, hT⟩ : ∃ T, T = bearL lh := ⟨_, rfl⟩
  simp only [← hT] at hbr hrbr
  obtain ⟨B, hB⟩ : ∃ B, B = decide (T ≠ []) := ⟨_, rfl⟩
  simp only [← hB] at hbr
  have hle := fun j h => hsize_le lh j h
  obtain ⟨Z, hZ⟩ : ∃ Z, Z = hsize lh := ⟨_, rfl⟩
  simp only [← hZ] at hle hsizw
  obtain ⟨U, hU⟩ : ∃ U, U = str s := ⟨_, rfl⟩
  simp only [← hU] at hu hwho hrwho ⊢
  have HW := Lib.hid hwho
  have HRW := Lib.hid hrwho
  have HSI := Lib.hid hsizw
  have HBR := Lib.hid hbr
  have HRB := Lib.hid hrbr
  have HXF := Lib.hid hxf
  have HB := Lib.hid hB
  have HLE := Lib.hid hle
  clear hwho hrwho hsizw hbr hrbr hxf hxf2 hT hB hle hZ hU hns hn hn2 hsz hr hr2 sA sB aw ht
  by_cases h70 : 70 < n
  · have q1 : (70 : Int) < (n : Int) := by omega
    clear h70
    go_enter Tryd.func5, Tryd.ntmps5
    go_wp2_with fail
    refine (AW.out _ H0).mono ?_
    rintro e w1 ⟨rfl, H2⟩
    go_wp2
    go_ret
    exact ⟨rfl, H2.below⟩
  · have q1 : ¬ (70 : Int) < (n : Int) := by omega
    have h9 : n ≤ 900000 := by omega
    have H9 := Lib.hid h9
    clear h70 h9
    by_cases h1000 : 1000 < ns
    · have q2 : (1000 : Int) < (ns : Int) := by omega
      clear h1000
      go_enter Tryd.func5, Tryd.ntmps5
      go_wp2_with fail
      refine (AW.out _ H0).mono ?_
      rintro e w1 ⟨rfl, H2⟩
      go_wp2
      go_ret
      exact ⟨rfl, H2.below⟩
    · have q2 : ¬ (1000 : Int) < (ns : Int) := by omega
      have hs9 : ns ≤ 100000 := by omega
      have HS9 := Lib.hid hs9
      clear h1000 hs9
      by_cases h100 : 100 < n2
      · have q3 : (100 : Int) < (n2 : Int) := by omega
        clear h100
        go_enter Tryd.func5, Tryd.ntmps5
        go_wp2_with fail
        refine (AW.out _ H0).mono ?_
        rintro e w1 ⟨rfl, H2⟩
        go_wp2
        go_ret
        exact ⟨rfl, H2.below⟩
      · have q3 : ¬ (100 : Int) < (n2 : Int) := by omega
        have hn9 : n2 ≤ 1000 := by omega
        have HN9 := Lib.hid hn9
        clear h100 hn9
        go_enter Tryd.func5, Tryd.ntmps5
        go_wp2_with fail
        refine (HSI.out HN9.out _ H0).mono ?_
        rintro e w1 ⟨rfl, H1⟩
        clear H0 HSI
        by_cases h9000 : 9000 < Z
        · have q4 : (9000 : Int) < (Z : Int) := by omega
          clear h9000
          go_wp2_with fail
          refine (AW.out _ H1).mono ?_
          rintro e w2 ⟨rfl, H2⟩
          go_wp2
          go_ret
          exact ⟨rfl, H2.below⟩
        · have q4 : ¬ (9000 : Int) < (Z : Int) := by omega
          have hz : ∀ (j : Nat) (h : j < lh.length), lh[j].n.length + lh[j].v.length ≤ 9000 := fun j h => by have := HLE.out j h; omega
          have HZ := Lib.hid hz
          clear h9000 hz
          go_wp2_with fail
          refine (HW.out H9.out HS9.out _ H1).mono ?_
          rintro e w2 ⟨rfl, H2⟩
          clear H1 HW
          go_wp2_with fail
          refine (HRW.out H9.out HS9.out _ H2).mono ?_
          rintro e w3 ⟨rfl, H3⟩
          clear H2 HRW
          go_wp2_with fail
          refine (HBR.out HN9.out HZ.out _ H3).mono ?_
          rintro e w4 ⟨rfl, H4⟩
          clear H3 HBR
          go_wp2_with fail
          refine (HRB.out HN9.out HZ.out _ H4).mono ?_
          rintro e w5 ⟨rfl, H5⟩
          clear H4 HRB
          have hx : f = ((x : Int) != 0) := by
            rw [HXF.out]
            by_cases h : x = 0
            · subst h; rfl
            · rw [decide_eq_true h]
              have : ((x : Int) == 0) = false := by rw [beq_eq_false_iff_ne]; omega
              rw [bne, this]; rfl
          have hb : B = (T != []) := by
            rw [HB.out]
            by_cases h : T = []
            · subst h; rfl
            · rw [decide_eq_true h]
              have : (T == []) = false := by rw [beq_eq_false_iff_ne]; exact h
              rw [bne, this]; rfl
          clear HXF HB
          by_cases h0 : x = 0
          · subst h0
            have hx2 : f = false := hx
            subst hx2
            clear hx
            by_cases hT : T = []
            · subst hT
              have hb2 : B = false := hb
              subst hb2
              clear hb
              go_wp2_with fail
              refine (AW.out _ H5).mono ?_
              rintro e w6 ⟨rfl, H6⟩
              go_wp2
              go_ret
              exact ⟨rfl, H6.below⟩
            · have qT : (T == []) = false := by rw [beq_eq_false_iff_ne]; exact hT
              rw [bne, qT] at hb
              have hb2 : B = true := hb
              subst hb2
              clear hb hT
              go_wp2_with fail
              refine (AW.out _ H5).mono ?_
              rintro e w6 ⟨rfl, H6⟩
              go_wp2
              go_ret
              exact ⟨rfl, H6.below⟩
          · have qx : ((x : Int) == 0) = false := by rw [beq_eq_false_iff_ne]; omega
            have qx2 : ((x : Int) != 0) = true := by rw [bne, qx]; rfl
            rw [qx2] at hx
            have hx2 : f = true := hx
            subst hx2
            clear hx h0 qx
            by_cases hT : T = []
            · subst hT
              have hb2 : B = false := hb
              subst hb2
              clear hb
              go_wp2_with fail
              refine (AW.out _ H5).mono ?_
              rintro e w6 ⟨rfl, H6⟩
              go_wp2
              go_ret
              exact ⟨rfl, H6.below⟩
            · have qT : (T == []) = false := by rw [beq_eq_false_iff_ne]; exact hT
              rw [bne, qT] at hb
              have hb2 : B = true := hb
              subst hb2
              clear hb hT
              go_wp2_with fail
              refine (AW.out _ H5).mono ?_
              rintro e w6 ⟨rfl, H6⟩
              go_wp2
              go_ret
              exact ⟨rfl, H6.below⟩
end
end Go.Proofs.YtcdljlaoedaliaaDoor
/- Arguments: slices of headers. -/
set_option linter.unusedVariables false
set_option linter.unusedSimpArgs false
set_option maxRecDepth 100000
namespace Go.Proofs.YtcdljlaoedaliaaDoor
open Go.ChangeShapes Go.WideShapes Go.ChangeAt Go.RowKit Wd
theorem Tryd.cells_head : Tryd.prog.cellsOf 80 = 2 := by kernel_rfl
theorem weightsAll_mem {H : Type} {P : Program} {e : TypeId} {d : DataW H} {l : List (DataW H)} (hd : d ∈ l) {x : Nat} (hx : x ∈ d.weights P e) : x ∈ DataW.weightsAll P e l := by
  induction l with
  | nil => cases hd
  | cons a l ih =>
    unfold DataW.weightsAll
    rcases List.mem_cons.1 hd with rfl | h
    · exact List.mem_append_left _ hx
    · exact List.mem_append_right _ (ih h)
theorem hcs_get (l : List Hd) (j : Nat) (u : Value) (h : (hcs l)[j]? = some u) : ∃ h1 : j / 2 < l.length, (hc l[j / 2])[j % 2]? = some u := by
  have hj := (List.getElem?_eq_some_iff.1 h).1
  rw [hcs_length] at hj
  have h1 : j / 2 < l.length := by omega
  refine ⟨h1, ?_⟩
  rw [← hcs_at l (j / 2) h1, List.getElem?_take, if_pos (Nat.mod_lt _ (by decide)), List.getElem?_drop, show j / 2 * 2 + j % 2 = j from by omega]
  exact h
theorem arg_heads {H : Type} {enc : TypeId × Value → H} {W : World} {v : Value} {d : DataW H} {ps : List MemPlace} {r : Reach} {b0 : Nat}
    (hw : Value.okWide Tryd.prog W r b0 44 v) (h : DataW.Trod enc Tryd.prog W 0 (fun _ => true) true 44 v d ps) (hwt : ∀ x ∈ d.weights Tryd.prog 44, x ≤ reachBytes) :
    ∃ (A : Option Addr) (c : Nat) (l : List Hd), v = .slice A l.length c ∧ RA W A (hcs l) ∧ ∀ (j : Nat) (h : j < l.length), l[j].n.length + l[j].v.length ≤ 281474976710656 := by
  obtain ⟨a0, len, cap, rfl⟩ := okWide_slice Tryd.underlying44 hw
  obtain ⟨fuel, hf⟩ := h
  rcases Deep.open_slice_pairs Tryd.underlying44 Tryd.underlying80 Tryd.cells_head rfl rfl Tryd.cells_str Tryd.cells_str hf with ⟨hcs0, hx⟩ | ⟨a, len', cap', m, n, V0, V1, D0, D1, P0, P1, hcs0, hb, hl, hm, hmm, hx, hel⟩
  · have hv : a0 = none ∧ len = 0 ∧ cap = 0 := by simpa [Value.cells] using hcs0
    obtain ⟨rfl, rfl, rfl⟩ := hv
    exact ⟨none, 0, [], rfl, fun h => absurd rfl h, fun j h => absurd h (Nat.not_lt_zero j)⟩
  · have hv : a0 = some a ∧ len = len' ∧ cap = cap' := by simpa [Value.cells] using hcs0
    obtain ⟨rfl, rfl, rfl⟩ := hv
    simp only [if_true] at hmm
    subst hmm
    have hd : d = .slice ((List.range len).map fun i => .agg [D0 i, D1 i]) ((List.range (m - len)).map fun j => .agg [D0 (len + j), D1 (len + j)]) := (Prod.ext_iff.1 hx).1
    have hs : ∀ i, i < len → ∃ hd : Hd, V0 i = .string (str hd.n) ∧ V1 i = .string (str hd.v) ∧ hd.n.length + hd.v.length ≤ 281474976710656 := fun i hi => by
      obtain ⟨_, _, t0, t1⟩ := hel i (by omega)
      obtain ⟨⟨⟨s0⟩⟩, e0, x0, _⟩ := DataW.trod_string Tryd.underlying9 t0
      obtain ⟨⟨⟨s1⟩⟩, e1, x1, _⟩ := DataW.trod_string Tryd.underlying9 t1
      have d0 := (Prod.ext_iff.1 x0).1
      have d1 := (Prod.ext_iff.1 x1).1
      simp only at d0 d1
      have hmem : ∀ x ∈ (DataW.agg [D0 i, D1 i]).weights Tryd.prog 80, x ≤ reachBytes := fun x hx => hwt x (by
        rw [hd]
        unfold DataW.weights
        rw [Tryd.underlying44]
        refine List.mem_cons_of_mem _ (List.mem_append_left _ (weightsAll_mem (List.mem_map.2 ⟨i, List.mem_range.2 hi, rfl⟩) hx))) 
      have hw2 : (DataW.agg [D0 i, D1 i]).weights Tryd.prog 80 = [s0.length, s1.length] := by
        unfold DataW.weights
        rw [Tryd.underlying80, d0, d1]
        rfl
      rw [hw2] at hmem
      have g0 := hmem s0.length (by simp)
      have g1 := hmem s1.length (by simp)
      have hrb : reachBytes = 140737488351232 := rfl
      refine ⟨⟨s0, s1⟩, by simpa using e0, by simpa using e1, ?_⟩
      show s0.length + s1.length ≤ _
      omega
    obtain ⟨ax, hlx, hp⟩ := choose_list (p := fun i (hd : Hd) => V0 i = .string (str hd.n) ∧ V1 i = .string (str hd.v) ∧ hd.n.length + hd.v.length ≤ 281474976710656) len hs
    subst hlx
    refine ⟨some a, m, ax, rfl, fun hne => ?_, fun j h => (hp j h).2.2⟩
    have h0 : 0 < ax.length := by cases ax with | nil => exact absurd rfl hne | cons _ _ => simp
    obtain ⟨z0, -⟩ := hel 0 (by omega)
    rw [show a.add (0 * 2) = a from by simp [Addr.add]] at z0
    obtain ⟨b, o, rfl, hlt⟩ := addr_of z0
    refine ⟨b, o, rfl, hlt, fun j u hj => ?_⟩
    obtain ⟨h1, h2⟩ := hcs_get ax j u hj
    obtain ⟨y0, y1, -, -⟩ := hel (j / 2) (by omega)
    obtain ⟨p0, p1, -⟩ := hp (j / 2) h1
    rw [p0] at y0
    rw [p1] at y1
    rcases Nat.mod_two_eq_zero_or_one j with hj2 | hj2
    · rw [hj2] at h2
      have hu : Value.string (str ax[j / 2].n) = u := Option.some.inj h2
      rw [← hu, ← y0]
      have hj3 : o + j = o + j / 2 * 2 := by omega
      by_cases hz : j / 2 * 2 = 0
      · rw [hj3, hz]; simp [Addr.add]
      · rw [hj3]; simp [Addr.add, hz]
    · rw [hj2] at h2
      have hu : Value.string (str ax[j / 2].v) = u := Option.some.inj h2
      rw [← hu, ← y1]
      have hj3 : o + j = o + (j / 2 * 2 + 1) := by omega
      simp [Addr.add, hj3]
end Go.Proofs.YtcdljlaoedaliaaDoor
