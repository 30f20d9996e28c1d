/- maps.Clone, kv.Open, and Apply where the record has room. -/
import Derived.Test.YtepgmebklhemgaaGreatDoorG7
import Derived.Test.YtepgmebklhemgaaGreatDoorQ1
import Derived.Test.YtepgmebklhemgaaGreatDoorG4
import Derived.Shelf.SlMaps.Clone
import Derived.Deep.DeepCutAuto
import Derived.Test.YtepgmebklhemgaaGreatDoorG6
import Derived.Test.YtepgmebklhemgaaGreatDoorG2
set_option linter.unusedVariables false
set_option linter.unusedSimpArgs false
namespace Go.Proofs.YtepgmebklhemgaaGreatDoor
open Go.RowKit Wd
/-- What a log's records make of a map. -/
def Kv.mload (D : List Kv.Pr) : List (List UInt8) → Option (List Kv.Pr)
  | [] => some D
  | b :: r => match Kv.decode b with
    | none => none
    | some l => Kv.mload (Kv.mturn D l) r
theorem Kv.mload_none {D : List Kv.Pr} {ls : List (List UInt8)} {k : Nat} (hk : k < ls.length) (h : Kv.decode ls[k] = none) : Kv.mload D (ls.drop k) = none := by
  rw [List.drop_eq_getElem_cons hk, Kv.mload, h]
theorem Kv.mload_step {D : List Kv.Pr} {ls : List (List UInt8)} {k : Nat} {l : List Kv.Act} (hk : k < ls.length) (h : Kv.decode ls[k] = some l) : Kv.mload D (ls.drop k) = Kv.mload (Kv.mturn D l) (ls.drop (k + 1)) := by
  rw [List.drop_eq_getElem_cons hk, Kv.mload, h]
theorem LS.fs {w0 w : World} {M : Mem} {L : List Ent} {g f gen en : Nat} {F : FM} {ls : List (List UInt8)} (H : LS w0 w M g f F gen ls en L) : FS w0 w M f F L := by
  obtain ⟨v, ps, _, H⟩ := H
  exact H.drop.drop
theorem KS.fs {w0 w : World} {M : Mem} {L : List Ent} {s g f mb gen en : Nat} {F : FM} {ls : List (List UInt8)} {D : List Pa} (H : KS w0 w M s g f mb F gen ls en D L) : FS w0 w M f F L := H.2.fs.drop.drop
theorem KS.mk {w0 w' : World} {M M' : Mem} {L Hd : List Ent} {s g f mb gen en : Nat} {F : FM} {ls : List (List UInt8)} {D : List Pa} (hb : ∀ w' M' L', M.le M' → St w0 w' M' (Hd ++ L') → LS w0 w' M' g f F gen ls en L') (hM : M.le M') (hD : PaIn M' D) (h : St w0 w' M' (mp mb D :: eb s 138 (scells g mb) :: (Hd ++ L))) : KS w0 w' M' s g f mb F gen ls en D L := ⟨hD, hb _ _ _ hM (h.perm mid_front.symm)⟩
/-- A row on top is never written again. -/
theorem LS.keepTop {w0 w : World} {M : Mem} {L : List Ent} {g f gen en : Nat} {F : FM} {ls : List (List UInt8)} {e : TypeId} {n c : Nat} {A : Option Addr} {l : List UInt8} (H : LS w0 w M g f F gen ls en (er e 1 (.slice A n c) n (bv l) :: L)) : n ≤ c ∧ (A = none → c = 0) ∧ ∃ M', M.le M' ∧ LS w0 w M' g f F gen ls en L ∧ In M' fun W => RB W A l := by
  obtain ⟨Hd, h, hb⟩ := H.head
  have h1 := h.perm (L' := er e 1 (.slice A n c) n (bv l) :: (Hd ++ L)) List.perm_middle
  obtain ⟨A2, c2, he, hc, hA⟩ := h1.shape' 0 rfl
  injection he with e1 e2 e3
  subst e1 e3
  obtain ⟨M', hM, h2, hin⟩ := h1.keepRow
  exact ⟨hc, hA, M', hM, hb _ _ _ hM h2, hin⟩
/-- What opening a file's store gives. -/
def RetKOpen (w0 : World) (M : Mem) (f : Nat) (F : FM) (L : List Ent) (gen : Nat) (ls : List (List UInt8)) (en : Nat) (e : Ending) (w' : World) : Prop :=
  (∃ M', Kv.mload [] ls = none ∧ e = .returned (.tuple #[.pointer none, .int .i64 5]) ∧ M.le M' ∧ FS w0 w' M' f F L) ∨
  ∃ s g mb D M', Kv.mload [] ls = some (D.map Pa.pr) ∧ e = .returned (.tuple #[.pointer (some ⟨s, 0, none⟩), .int .i64 0]) ∧ M.le M' ∧ KS w0 w' M' s g f mb F gen ls en D L
section
variable {w0 w : World} {M : Mem} {L : List Ent}
set_option maxRecDepth 100000 in
theorem mclone_any {g : Nat} {D : List Pa} (H : St w0 w M (mp g D :: L)) :
    Calls Tryz.prog 67 #[.map (some g)] w fun e w' => ∃ g', e = .returned (.map (some g')) ∧ St w0 w' M (mp g' D :: mp g D :: L) := by
  obtain ⟨es, clock, hi, H1⟩ := H.openMap
  have hb := mr_heap (H1.get 0 rfl)
  have H2 := (H1.shutMap hi).newMap hi
  have hq := fun w => run_eql_map_nil_sl (P := Tryz.prog) w 134 _ _ (some g) Tryz.underlying134
  go_enter Tryz.func67, Tryz.ntmps67
  go_wp2
  rw [run_callFunc_extern Tryz.func95 (by kernel_rfl) (by kernel_rfl) (by kernel_rfl) (e := Extern.MapsClone.clone) (by kernel_rfl), run_maps_clone_sl w 134 hb]
  simp only [Result.andThen]
  rw [Oper.upon_value]
  go_wp2
  rw [run_typeAssert_map_sl _ 134 20 _ _ _ Tryz.underlying134]
  simp only [Result.andThen]
  rw [Oper.upon_value]
  go_wp2
  go_ret
  exact ⟨_, rfl, H2⟩
set_option maxRecDepth 100000 in
set_option maxHeartbeats 4000000 in
theorem kopen_any {f : Nat} {F : FM} (H : FS w0 w M f F L) (h6 : 6 ≤ F.n) (gen : Nat) (ls : List (List UInt8)) (en : Nat) (hgen : Lg.generation F.l = gen) (hls : Lg.records gen (Lg.half F.l gen) = (ls, en)) (hl : ∀ l ∈ ls, l.length ≤ 200000) (hln : ls.length ≤ 1000000) :
    Calls Tryz.prog 51 #[.pointer (some ⟨f, 0, none⟩)] w (RetKOpen w0 M f F L gen ls en) := by
  have ho := open_any H h6
  rw [hgen, hls] at ho
  have HO := Lib.hid ho
  have HL := Lib.hid hl
  have HLN := Lib.hid hln
  clear ho hgen hls hl hln
  go_enter Tryz.func51, Tryz.ntmps51
  go_wp2_with fail
  refine HO.out.mono ?_
  rintro e w1 ⟨g, M1, rfl, hM1, H1⟩
  have HM1 := Lib.hid hM1
  clear HO hM1
  obtain ⟨Hd, h, hb⟩ := H1.head
  have h2 := h.newMap MIs.empty
  have hsz : (w1.alloc (.map #[] 0)).heap.size = w1.heap.size + 1 := Array.size_push _
  have h3 := (h2.newg (scells g w1.heap.size) 138 (g := w1.heap.size + 1) hsz.symm).f1
  have HB := Lib.hid hb
  have hmm := @run_makeMap Tryz.prog
  clear hb H1 h2 h
  go_upto_region 5 with fail
  have H2 : KS w0 _ M1 (w1.heap.size + 1) g f w1.heap.size F gen ls en [] L := KS.mk HB.out (Mem.le.refl _) (PaIn.nil _) h3
  unfold scells at H2
  clear HB h3 hsz hmm
  obtain ⟨n, hn⟩ : ∃ n, n = ls.length := ⟨_, rfl⟩
  have hlen := len_any H2.2
  rw [← hn] at hlen
  have HN := Lib.hid hn
  have HLEN := Lib.hid hlen
  clear hlen hn
  go_wp2_with fail
  refine HLEN.out.mono ?_
  rintro e w2 ⟨rfl, rfl⟩
  clear HLEN
  go_wp2_with fail
  go_loopw [26] (fun i wr => ∃ (k : Nat) (D' : List Pa) (M' : Mem), k ≤ n ∧ i = .int .i64 k ∧ M1.le M' ∧ Kv.mload [] ls = Kv.mload (D'.map Pa.pr) (ls.drop k) ∧ KS w0 wr M' (w1.heap.size + 1) g f w1.heap.size F gen ls en D' L) (fun i _ => n - (intOf i).toNat)
  case atStart => exact ⟨0, [], M1, by omega, rfl, Mem.le.refl _, rfl, H2⟩
  case round =>
    obtain ⟨k, D', M', hk, rfl, hM, hml, H3⟩ := hrel
    clear H2
    have HM := Lib.hid (And.intro hM hml)
    clear hM hml
    by_cases hlt : k < n
    · have q1 : (k : Int) < (n : Int) := by omega
      have q1n : k < n := hlt
      have hk1 : k < ls.length := by have := HN.out; omega
      have hget := get_any H3.2 k hk1 (fun l hl => by have := HL.out l hl; omega)
      have hbl := HL.out _ (List.getElem_mem hk1)
      have hst := @Kv.mload_step (D'.map Pa.pr) ls k
      have hno := Kv.mload_none (D := D'.map Pa.pr) hk1
      obtain ⟨r, hr⟩ : ∃ r, r = ls[k] := ⟨_, rfl⟩
      rw [← hr] at hget hbl hno
      have HST := Lib.hid (fun l => hst (l := l) hk1)
      rw [← hr] at HST
      have HNO := Lib.hid hno
      have HG := Lib.hid hget
      have HK := Lib.hid (And.intro hk1 hbl)
      have hc1 := H3.c1
      have HD := Lib.hid H3.1
      clear hget hbl hst hno hr hk1 H3
      go_wp2_with fail
      refine HG.out.mono ?_
      rintro e w2 ⟨v, rfl, H4⟩
      clear HG hc1
      obtain ⟨Av, cv, rfl⟩ : ∃ A c, v = .slice A r.length c := by
        obtain ⟨Hd, h, _⟩ := H4.head
        obtain ⟨A, c, h1, _⟩ := (h.perm (L' := er 5 1 v r.length (bv r) :: (Hd ++ _)) List.perm_middle).shape' 0 rfl
        exact ⟨A, c, h1⟩
      obtain ⟨hnc, hAc, M2, hM2, H5, hin⟩ := H4.keepTop
      have H6 : KS w0 w2 M2 (w1.heap.size + 1) g f w1.heap.size F gen ls en D' L := ⟨HD.out.le hM2, H5⟩
      obtain ⟨Hd, h7, hb⟩ := H6.open_
      have hdec := decode_any h7 (n := r.length) rfl hin hnc (by have := HK.out.2; omega)
      have HDE := Lib.hid hdec
      have HM2 := Lib.hid hM2
      have HB := Lib.hid hb
      have HD2 := Lib.hid H6.1
      clear hdec hin hnc hAc H4 H5 H6 h7 hb HD hM2
      go_wp2_with fail
      refine HDE.out.mono ?_
      rintro e w3 (⟨hdn, rfl, H8⟩ | ⟨ps, v, M3, hds, rfl, hM3, hps, H8⟩)
      · have H9 := (HB.out _ _ _ _ (Mem.le.refl _) HD2.out H8).fs
        clear H8 HDE
        go_wp2
        go_ret2
        exact .inl ⟨M2, by rw [HM.out.2]; exact HNO.out hdn, rfl, HM1.out.trans (HM.out.1.trans HM2.out), H9⟩
      · obtain ⟨Ap, cp, rfl, -⟩ := H8.shape 0 rfl
        obtain ⟨M4, hM4, H9, hin, -⟩ := H8.lendRowA
        obtain ⟨hc1, hc2⟩ := Kv.decode_check hds
        have hz : ∀ a ∈ ps, a.p.l.length ≤ 1000000 := fun a ha => by
          have := (Kv.check_fine hc1 a.act (List.mem_map.2 ⟨a, ha, rfl⟩)).2.1
          have h2 : a.act.data = a.p.l := rfl
          rw [h2] at this
          omega
        have hlen : ps.length ≤ 1000000 := by
          have := (Kv.check_zero hc1).2.1
          rw [List.length_map] at this
          omega
        have hturn := turn_any H9 (HD2.out.le (hM3.trans hM4)) (A := Ap) (c := cp) (l := ps) rfl (SrA.of_in hin) (hps.le hM4) hlen hz
        have HT := Lib.hid hturn
        have HDS := Lib.hid hds
        have hcc : w3.cell? ⟨w1.heap.size + 1, 1, none⟩ = some (.map (some w1.heap.size)) := H9.cell 1 rfl 1
        have HM4 := Lib.hid (And.intro hM3 hM4)
        clear hturn hz hlen hc1 hc2 H9 H8 hin hps hds HDE hM3 hM4
        go_wp2_with fail
        refine HT.out.mono ?_
        rintro e w4 ⟨D4, M5, rfl, hM5, hD4, hD4e, H10⟩
        have H11 := HB.out _ _ _ _ (HM4.out.1.trans (HM4.out.2.trans hM5)) hD4 H10
        clear H10 HT hcc
        have HH := Lib.hid (And.intro hM5 hD4e)
        clear hM5 hD4 hD4e
        have hn2 : n ≤ 1000000 := by have := HLN.out; have := HN.out; omega
        go_wp2
        refine ⟨⟨k + 1, D4, M5, by omega, by go_num, HM.out.1.trans (HM2.out.trans (HM4.out.1.trans (HM4.out.2.trans HH.out.1))), ?_, H11⟩, by simp [intOf]; omega⟩
        rw [HM.out.2, HST.out _ HDS.out, HH.out.2]
    · have hkn : k = n := by omega
      subst hkn
      clear hlt hk
      go_wp2
      go_ret2
      refine .inr ⟨_, _, _, D', M', ?_, rfl, HM1.out.trans HM.out.1, H3⟩
      rw [HM.out.2, HN.out, List.drop_length]
      rfl
end
end Go.Proofs.YtepgmebklhemgaaGreatDoor
/- kv.Store.Apply where nothing is written, and where the record has room. -/
set_option linter.unusedVariables false
set_option linter.unusedSimpArgs false
namespace Go.Proofs.YtepgmebklhemgaaGreatDoor
open Go.RowKit Wd
theorem Kv.enc_snd (l : List Kv.Act) : (Kv.enc l).2 = Kv.check l := by
  unfold Kv.enc
  split
  · rename_i h; rw [h]
  · rfl
theorem Kv.enc_fst {l : List Kv.Act} (h : Kv.check l = 0) : (Kv.enc l).1 = Kv.bytes l := by
  unfold Kv.enc
  rw [if_pos h]
/-- The store with entries on top; its map first. -/
theorem LS.mid {w0 w : World} {M : Mem} {L : List Ent} {g f gen en : Nat} {F : FM} {ls : List (List UInt8)} {a b c : Ent} (H : LS w0 w M g f F gen ls en (a :: b :: c :: L)) : ∃ Hd : List Ent, St w0 w M (b :: a :: c :: (Hd ++ L)) ∧ ∀ w' M' a' b' L', M.le M' → St w0 w' M' (b' :: a' :: (Hd ++ L')) → LS w0 w' M' g f F gen ls en (a' :: b' :: L') := by
  obtain ⟨Hd, h, hb⟩ := H.head
  have pm : ∀ (a b c : Ent) (L : List Ent), (Hd ++ a :: b :: c :: L).Perm (b :: a :: c :: (Hd ++ L)) := fun a b c L => by
    have h1 : (Hd ++ a :: b :: c :: L).Perm (a :: (Hd ++ b :: c :: L)) := List.perm_middle
    have h2 : (Hd ++ b :: c :: L).Perm (b :: (Hd ++ c :: L)) := List.perm_middle
    have h3 : (Hd ++ c :: L).Perm (c :: (Hd ++ L)) := List.perm_middle
    exact h1.trans (((h2.trans (h3.cons b)).cons a).trans (List.Perm.swap _ _ _))
  exact ⟨Hd, h.perm (pm a b c L), fun w' M' a' b' L' hM h => hb _ _ _ hM (h.perm mid_front.symm)⟩
section
variable {w0 w : World} {M : Mem} {L : List Ent} {s g f mb gen en : Nat} {F : FM} {ls : List (List UInt8)} {D : List Pa}
/-- Nothing is written. -/
def RetNo (w0 : World) (M : Mem) (s g f mb : Nat) (F : FM) (gen : Nat) (ls : List (List UInt8)) (en : Nat) (D : List Pa) (L : List Ent) (C : Int) (e : Ending) (w' : World) : Prop :=
  ∃ M', e = .returned (.int .i64 C) ∧ M.le M' ∧ KS w0 w' M' s g f mb F gen ls en D L
set_option maxRecDepth 100000 in
theorem apply_no (H : KS w0 w M s g f mb F gen ls en D L) {A : Option Addr} {c n : Nat} {l : List Ac} (hn : n = l.length) (hl : SrA w0 M L A (acs l)) (hi : AcIn M l) (hn2 : n ≤ 1000000) (hno : Kv.check (l.map Ac.act) ≠ 0 ∨ l = []) :
    Calls Tryz.prog 45 #[.pointer (some ⟨s, 0, none⟩), .slice A n c] w (RetNo w0 M s g f mb F gen ls en D L (Kv.check (l.map Ac.act))) := by
  have c1 := H.c1
  have HI := Lib.hid (sis_any H)
  have HD := Lib.hid H.1
  obtain ⟨Hd, h, hb⟩ := H.open_
  have he := encode_any (c := c) h hn ((hl.app.cons _).cons _) hi hn2
  rw [Kv.enc_snd] at he
  obtain ⟨R, hR⟩ : ∃ R, R = (Kv.enc (l.map Ac.act)).1 := ⟨_, rfl⟩
  have hn0 : l = [] → n = 0 := fun h => by rw [hn, h]; rfl
  obtain ⟨C, hC⟩ : ∃ C, C = Kv.check (l.map Ac.act) := ⟨_, rfl⟩
  rw [← hR, ← hC] at he
  rw [← hC] at hno ⊢
  have HE := Lib.hid he
  have HB := Lib.hid hb
  clear he hb hR hC H h hl hi hn
  by_cases hc : C = 0
  · have hn00 : n = 0 := hn0 (by rcases hno with h | h; exact absurd hc h; exact h)
    subst hn00 hc
    clear hn0 hno
    go_enter Tryz.func45, Tryz.ntmps45
    go_wp2_with fail
    refine HI.out.mono ?_
    rintro e w' ⟨rfl, rfl⟩
    clear HI
    go_wp2_with fail
    refine HE.out.mono ?_
    rintro e w1 ⟨B, d, M1, rfl, hd1, hd2, hM1, hin, H1⟩
    have H2 := HB.out _ _ _ _ hM1 (HD.out.le hM1) H1
    have HM1 := Lib.hid hM1
    clear H1 hd1 hd2 hM1 hin HE c1
    go_wp2
    go_ret
    exact ⟨M1, rfl, HM1.out, H2⟩
  · clear hn0 hno
    go_enter Tryz.func45, Tryz.ntmps45
    go_wp2_with fail
    refine HI.out.mono ?_
    rintro e w' ⟨rfl, rfl⟩
    clear HI
    go_wp2_with fail
    refine HE.out.mono ?_
    rintro e w1 ⟨B, d, M1, rfl, hd1, hd2, hM1, hin, H1⟩
    have H2 := HB.out _ _ _ _ hM1 (HD.out.le hM1) H1
    have HM1 := Lib.hid hM1
    clear H1 hd1 hd2 hM1 hin HE c1
    go_wp2
    go_ret
    exact ⟨M1, rfl, HM1.out, H2⟩
/-- The record follows, the map is turned. -/
def RetYes (w0 : World) (M : Mem) (s g f : Nat) (F : FM) (gen : Nat) (ls : List (List UInt8)) (en : Nat) (D : List Pa) (L : List Ent) (l : List Kv.Act) (e : Ending) (w' : World) : Prop :=
  ∃ mb' D' M', e = .returned (.int .i64 0) ∧ M.le M' ∧ D'.map Pa.pr = Kv.mturn (D.map Pa.pr) l ∧ KS w0 w' M' s g f mb' (Lg.appF F gen en (Kv.bytes l)) gen (ls ++ [Kv.bytes l]) (en + ((Kv.bytes l).length + 6)) D' L
set_option maxRecDepth 100000 in
set_option maxHeartbeats 1000000 in
theorem apply_room (H : KS w0 w M s g f mb F gen ls en D L) (h2n : 2 ≤ F.n) (hF2 : F.n ≤ 4096) (hg : gen < 18446744073709551616) (hp : F.pend.length < 900000000) (hls : ls.length ≤ 1000000) (hen : en ≤ 1000000) {A : Option Addr} {c n : Nat} {l : List Ac} (hn : n = l.length) (hl : SrA w0 M L A (acs l)) (hi : AcIn M l) (hok : Kv.check (l.map Ac.act) = 0) (hne : l ≠ [])
    (hr : (Kv.bytes (l.map Ac.act)).length ≤ Lg.room (64 * Lg.halfN F.n) en) :
    Calls Tryz.prog 45 #[.pointer (some ⟨s, 0, none⟩), .slice A n c] w (RetYes w0 M s g f F gen ls en D L (l.map Ac.act)) := by
  have c0 := H.c0
  have c1 := H.c1
  have HI := Lib.hid (sis_any H)
  have HD := Lib.hid H.1
  obtain ⟨Hd, h, hb⟩ := H.open_
  have hck := Kv.check_zero hok
  have hn2 : n ≤ 255 := by have := hck.2.1; rw [List.length_map] at this; omega
  have hnp : 0 < n := by have := List.length_pos_iff.2 hne; omega
  have he := encode_any (c := c) h hn ((hl.app.cons _).cons _) hi (by omega)
  rw [Kv.enc_snd, Kv.enc_fst hok, hok] at he
  have hsz : ∀ a ∈ l, a.p.l.length ≤ 1000000 := fun a ha => by
    have := (Kv.check_fine hok a.act (List.mem_map.2 ⟨a, ha, rfl⟩)).2.1
    have h2 : a.act.data = a.p.l := rfl
    rw [h2] at this
    omega
  have HT := Lib.hid (And.intro hn (And.intro (((hl.app (Hd := Hd)).cons (eb s 138 (scells g mb))).cons (mp mb D)) (And.intro hi (And.intro hn2 hsz))))
  have hbl : 1 ≤ (Kv.bytes (l.map Ac.act)).length := by unfold Kv.bytes; simp
  obtain ⟨R, hR⟩ : ∃ R, R = Kv.bytes (l.map Ac.act) := ⟨_, rfl⟩
  unfold RetYes
  rw [← hR] at he hr hbl ⊢
  have HE := Lib.hid he
  have HB := Lib.hid hb
  obtain ⟨rm, hrm⟩ : ∃ rm, rm = Lg.room (64 * Lg.halfN F.n) en := ⟨_, rfl⟩
  obtain ⟨m, hm⟩ : ∃ m, m = R.length := ⟨_, rfl⟩
  have hrm2 : m ≤ rm := by omega
  have q1 : (m : Int) ≤ (rm : Int) := by omega
  have q2 : ¬ (n : Int) = 0 := by omega
  have HR := Lib.hid (And.intro hr (And.intro hrm (And.intro hm (And.intro hbl (And.intro h2n (And.intro hF2 (And.intro hg (And.intro hp (And.intro hls hen)))))))))
  clear he hb hR H h hl hi hn hsz hr hrm hm hbl h2n hF2 hg hp hls hen hck hok hne
  go_enter Tryz.func45, Tryz.ntmps45
  go_wp2_with fail
  refine HI.out.mono ?_
  rintro e w' ⟨rfl, rfl⟩
  clear HI
  go_wp2_with fail
  refine HE.out.mono ?_
  rintro e w1 ⟨B, d, M1, rfl, hd1, hd2, hM1, hin, H1⟩
  have HM1 := Lib.hid (And.intro hM1 (And.intro hd1 (And.intro hd2 hin)))
  rw [← HR.out.2.2.1]
  clear hd1 hd2 hM1 hin HE c1 c0
  have hmc := mclone_any H1
  have HMC := Lib.hid hmc
  have c1 : w1.cell? ⟨s, 1, none⟩ = some (.map (some mb)) := H1.cell 1 rfl 1
  clear hmc H1
  go_wp2_with fail
  refine HMC.out.mono ?_
  rintro e w2 ⟨g', rfl, H2⟩
  have ht := turn_any H2 (HD.out.le HM1.out.1) (A := A) (c := c) HT.out.1 (HT.out.2.1.le HM1.out.1) (HT.out.2.2.1.le HM1.out.1) (by have := HT.out.2.2.2.1; omega) HT.out.2.2.2.2
  have HTU := Lib.hid ht
  clear ht H2 HMC c1
  go_wp2_with fail
  refine HTU.out.mono ?_
  rintro e w3 ⟨D', M2, rfl, hM2, hD', hDe, H3⟩
  have hM12 := HM1.out.1.trans hM2
  have K3 := KS.top HB.out hM12 (HD.out.le hM12) H3
  have HM2 := Lib.hid (And.intro hM2 (And.intro hD' (And.intro hDe hM12)))
  clear hM2 hD' hDe hM12 H3 HTU
  have c0 := K3.c0
  have hro := room_any K3.2 HR.out.2.2.2.2.1 HR.out.2.2.2.2.2.1 HR.out.2.2.2.2.2.2.1 HR.out.2.2.2.2.2.2.2.2.2
  rw [← HR.out.2.1] at hro
  have HRO := Lib.hid hro
  have HK3 := Lib.hid K3.1
  clear hro K3
  go_wp2_with fail
  refine HRO.out.mono ?_
  rintro e w4 ⟨rfl, H4⟩
  have K4 : KS w0 w4 M2 s g f mb F gen ls en D (mp g' D' :: L) := ⟨HK3.out, H4⟩
  clear c0
  have c0 := K4.c0
  have hap := append_any K4.2 HR.out.2.2.2.2.1 HR.out.2.2.2.2.2.1 HR.out.2.2.2.2.2.2.1 (B := B) (d := d) HR.out.2.2.1 HM1.out.2.2.1 (by have := HM1.out.2.1; have := HR.out.2.2.1; omega) (Sr.of_in (HM1.out.2.2.2.le HM2.out.1)) (by have := HR.out.2.2.2.1; have := HR.out.2.2.1; omega) (by rw [HR.out.2.2.1]; exact HR.out.1) HR.out.2.2.2.2.2.2.2.1 HR.out.2.2.2.2.2.2.2.2.1
  have HAP := Lib.hid hap
  clear hap H4 K4 HRO
  go_wp2_with fail
  refine HAP.out.mono ?_
  rintro e w5 ⟨M3, rfl, hM3, H5⟩
  obtain ⟨Hd2, H6, hb2⟩ := H5.mid
  have z1 := H6.frozen 1 rfl 1
  have y1 : w5.cell? ⟨s, 1, none⟩ = some (.map (some mb)) := H6.cell 1 rfl 1
  have H7 := H6.f1.set 1 (.map (some g'))
  unfold scells at H7
  simp only [List.set_cons_succ, List.set_cons_zero] at H7
  have H8 := hb2 _ _ _ _ _ (Mem.le.refl _) H7.d1.f1
  have HM3 := Lib.hid hM3
  clear hM3 H5 H6 hb2 H7 c0 HAP
  go_wp2
  go_ret
  refine ⟨g', D', M3, rfl, HM2.out.2.2.2.trans HM3.out, HM2.out.2.2.1, HM2.out.2.1.le HM3.out, ?_⟩
  exact H8
end
end Go.Proofs.YtepgmebklhemgaaGreatDoor
/- The law's own small question (awake), layer 20. -/
set_option linter.unusedVariables false
set_option linter.unusedSimpArgs false
namespace Go.Proofs.YtepgmebklhemgaaGreatDoor
open Go.RowKit Wd
/-- An act made of two texts. -/
def RetSet (w0 : World) (M : Mem) (L : List Ent) (k d : List UInt8) (e : Ending) (w' : World) : Prop :=
  ∃ g c M', e = .returned (.agg #[.string (str k), .bool true, .slice (some ⟨g, 0, none⟩) d.length c]) ∧ d.length ≤ c ∧ M.le M' ∧ In M' (RB · (some ⟨g, 0, none⟩) d) ∧ St w0 w' M' L
section
variable {w0 w : World} {M : Mem} {L : List Ent}
end
def f20 : FM := FM.new 10
def la20 : List Kv.Act := [⟨[97], true, [49]⟩, ⟨[98], true, [50]⟩]
def lb20 : List Kv.Act := [⟨[97], false, []⟩]
def g20 : FM := Lg.appF f20 0 0 (Kv.bytes la20)
theorem f20_gen : Lg.generation f20.l = 0 := by decide +kernel
theorem f20_rec : Lg.records 0 (Lg.half f20.l 0) = ([], 0) := by decide +kernel
theorem g20_n : g20.n = 10 := by decide +kernel
theorem g20_pend : g20.pend.length = 0 := by decide +kernel
section
variable {w0 w : World} {M : Mem} {L : List Ent} {s g f mb gen en : Nat} {F : FM} {ls : List (List UInt8)} {D : List Pa}
theorem KS.out (H : KS w0 w M s g f mb F gen ls en D L) : ∃ Z : List Ent, St w0 w M Z ∧ (∀ w' M', M.le M' → St w0 w' M' Z → KS w0 w' M' s g f mb F gen ls en D L) ∧ ∀ w' M' e', M.le M' → St w0 w' M' (e' :: Z) → KS w0 w' M' s g f mb F gen ls en D (e' :: L) := by
  obtain ⟨Hd, h, hb⟩ := H.open_
  exact ⟨_, h, fun w' M' hM h => hb _ _ _ _ hM (H.1.le hM) h, fun w' M' e' hM h => KS.top hb hM (H.1.le hM) h⟩
end
end Go.Proofs.YtepgmebklhemgaaGreatDoor
