/- A file's store of partitions. -/
import Derived.Test.YtepgmebklhemgaaGreatDoorJ6
set_option linter.unusedVariables false
set_option linter.unusedSimpArgs false
namespace Go.Proofs.YtepgmebklhemgaaGreatDoor
open Go.RowKit Wd
def RetCOpen (w0 : World) (M : Mem) (f : Nat) (F : FM) (gen : Nat) (ls : List (List UInt8)) (en : Nat) (L : List Ent) (S : Kv.RS) (e : Ending) (w' : World) : Prop :=
  (Cp.Good S.L ∧ ∃ t s g mb D M', e = .returned (.tuple #[.pointer (some ⟨t, 0, none⟩), .int .i64 0]) ∧ M.le M' ∧ CapAt M' t s ∧ (∀ t0 s0, CapAt M t0 s0 → t0 ≠ t) ∧ KS w0 w' M' s g f mb F gen ls en D L ∧ Kv.SI F gen ls en (D.map Pa.pr) S) ∨
  (¬ Cp.Good S.L ∧ ∃ M', e = .returned (.tuple #[.pointer none, .int .i64 5]) ∧ M.le M' ∧ St w0 w' M' L)
theorem CapAt.lt {w0 w : World} {M : Mem} {L : List Ent} {t s : Nat} (h : CapAt M t s) (H : St w0 w M L) : t < w.heap.size := (Wd.In.now h H).lt
theorem pas_cells {w0 : World} {M : Mem} {A : Option Addr} {n c : Nat} {ps : List Pa} (h : PasAt M A n c ps) {w : World} {M1 : Mem} {L : List Ent} (hM : M.le M1) (H : St w0 w M1 L) (k : Nat) (hk : k < ps.length) :
    ∃ b o, A = some ⟨b, o, none⟩ ∧ ∀ W M2 L2, M.le M2 → St w0 W M2 L2 → W.rangeAt b (o + k * 2) (pa ps[k]) := by
  obtain ⟨b, o, rfl, hr⟩ := RA.pa2 (Wd.In.now (Wd.In.le h.2.2.2.2 hM) H) k hk
  refine ⟨b, o, rfl, fun W M2 L2 hM2 H2 => ?_⟩
  obtain ⟨b2, o2, he, hr2⟩ := RA.pa2 (Wd.In.now (Wd.In.le h.2.2.2.2 hM2) H2) k hk
  injection he with he
  injection he with e1 e2
  subst e1 e2
  exact hr2
section
variable {w0 w : World} {M : Mem} {L : List Ent} {f gen en : Nat} {F : FM} {ls : List (List UInt8)} {S : Kv.RS}
def RetKv (w0 : World) (M : Mem) (f : Nat) (F : FM) (gen : Nat) (ls : List (List UInt8)) (en : Nat) (L : List Ent) (S : Kv.RS) (e : Ending) (w' : World) : Prop :=
  ∃ s g mb D M1, e = .returned (.tuple #[.pointer (some ⟨s, 0, none⟩), .int .i64 0]) ∧ M.le M1 ∧ KS w0 w' M1 s g f mb F gen ls en D L ∧ Kv.SI F gen ls en (D.map Pa.pr) S
set_option maxRecDepth 100000 in
set_option maxHeartbeats 4000000 in
theorem copen_of {v : Value} (hk : Calls Tryz.prog 51 #[v] w (RetKv w0 M f F gen ls en L S)) :
    Calls Tryz.prog 19 #[v] w (RetCOpen w0 M f F gen ls en L S) := by
  have HK := Lib.hid hk
  clear hk
  go_enter Tryz.func19, Tryz.ntmps19
  go_wp2_with fail
  refine HK.out.mono ?_
  rintro e w1 ⟨s, g, mb, D, M1, rfl, hM1, K, hsi⟩
  have hsc := scanK_any K hsi []
  rw [Kv.scan_all] at hsc
  have HS := Lib.hid hsc
  have HM1 := Lib.hid (And.intro hM1 hsi)
  clear hsc hM1 hsi HK
  go_wp2_with fail
  refine HS.out.mono ?_
  rintro e w2 ⟨A, n, c, ps, M2, rfl, hM2, hps, hpl, K2⟩
  obtain ⟨Z, h, hb1, -⟩ := K2.out
  have hok := HM1.out.2.ok
  have hn : n = ps.length := hps.1
  have hkl : ∀ p ∈ ps, p.key.length ≤ 1024 := fun p hp => by
    have h1 : p.pr ∈ S.L := by rw [← hpl]; exact List.mem_map.2 ⟨p, hp, rfl⟩
    exact (hok.1 _ (HM1.out.2.rel.2.mem_iff.1 h1)).2.1
  have hnb : n ≤ 1000000 := by
    have h1 := congrArg List.length hpl
    have h2 := HM1.out.2.rel.2.length_eq
    have h3 := hok.2
    rw [List.length_map] at h1
    omega
  have HH := Lib.hid (And.intro hM2 (And.intro hps (And.intro hpl (And.intro hb1 (And.intro hkl hn)))))
  clear hM2 hps hpl hb1 hok hkl hn K2 K HS
  go_wp2_with fail
  go_loopw [22] (fun i wr => ∃ (k : Nat) (M' : Mem), k ≤ n ∧ i = .int .i64 k ∧ M2.le M' ∧ (∀ p ∈ ps.take k, ∃ T l, Cp.OwnK p.key T l) ∧ St w0 wr M' Z) (fun i _ => n - (intOf i).toNat)
  case atStart => exact ⟨0, M2, by omega, rfl, Mem.le.refl _, (fun p hp => by cases hp), h⟩
  case round =>
    clear h
    obtain ⟨k, M', hk, rfl, hM, hin, H1⟩ := hrel
    by_cases hlt : k < n
    · have hk1 : k < ps.length := by have := HH.out.2.2.2.2.2; omega
      obtain ⟨b, o, rfl, hc⟩ := pas_cells HH.out.2.1 hM H1 k hk1
      have hkl := HH.out.2.2.2.2.1 _ (List.getElem_mem hk1)
      have hta : ps.take (k + 1) = ps.take k ++ [ps[k]] := List.take_succ_eq_append_getElem hk1
      have hmem : ps[k].pr ∈ S.L := by rw [← HH.out.2.2.1]; exact List.mem_map.2 ⟨_, List.getElem_mem hk1, rfl⟩
      have hrg := hc _ M' _ hM H1
      obtain ⟨q, hq⟩ : ∃ q, q = ps[k] := ⟨_, rfl⟩
      rw [← hq] at hkl hta hrg hmem
      obtain ⟨key, ⟨PA, pn, pc, pl⟩⟩ := q
      dsimp only at hkl
      unfold pa Pc.v at hrg
      dsimp only at hrg
      have H2 := H1.new [.string (str key), .slice PA pn pc] 115
      have HO := Lib.hid (own_any H2 key hkl)
      have HR := Lib.hid hrg
      have HKK := Lib.hid (And.intro hlt (And.intro hM (And.intro hin (And.intro hta hmem))))
      have q1 : (k : Int) < (n : Int) := by omega
      clear hkl hrg hlt hM hin hta hmem hk1 hq hc hk
      go_wp2_with (refine wpList_load_mid (by rfl) 115 (.tmp 24) (by rfl) b (o + k * 2) (by rfl) [.string (str key), .slice PA pn pc] _ HR.out Tryz.underlying115 rfl (by exact Tryz.sizePair) ?_)
      refine HO.out.mono ?_
      rintro e w3 (⟨T, m, M3, ho, rfl, hM3, hm, H3⟩ | ⟨hno, rfl, H3⟩)
      · have H4 := H3.d0
        have HX := Lib.hid (And.intro ho hM3)
        clear ho hM3 hm H3 H2 H1 HO HR
        go_wp2
        exact ⟨⟨k + 1, M3, by have := HKK.out.1; omega, by go_num, HKK.out.2.1.trans HX.out.2, (fun p hp => by
          rw [HKK.out.2.2.2.1] at hp
          rcases List.mem_append.1 hp with hp | hp
          · exact HKK.out.2.2.1 p hp
          · rw [List.mem_singleton.1 hp]; exact ⟨_, _, HX.out.1⟩), H4⟩, by have := HKK.out.1; simp [intOf]; omega⟩
      · have H4 := H3.d0
        have HX := Lib.hid hno
        clear hno H3 H2 H1 HO HR
        go_wp2
        go_ret2
        refine .inr ⟨fun hg => ?_, M', rfl, HM1.out.1.trans (HH.out.1.trans HKK.out.2.1), (HH.out.2.2.2.1 _ _ HKK.out.2.1 H4).rest⟩
        obtain ⟨T, l, h⟩ := hg _ HKK.out.2.2.2.2
        exact HX.out T l h
    · obtain rfl : k = n := by omega
      have H2 := H1.new [.pointer (some ⟨s, 0, none⟩)] 109
      obtain ⟨M3, hM3, H3, hct⟩ := H2.keepBlk
      have hfr : ∀ t0 s0, CapAt M t0 s0 → t0 ≠ wr.heap.size := fun t0 s0 h0 => by
        have := (h0.le (HM1.out.1.trans (HH.out.1.trans hM))).lt H1
        omega
      have HX := Lib.hid (And.intro hM (And.intro hM3 (And.intro hct (And.intro hin hfr))))
      clear hM hM3 hct hin hfr H2 H1 hlt
      go_wp2
      go_ret2
      refine .inl ⟨fun p hp => ?_, wr.heap.size, s, g, mb, D, M3, rfl, HM1.out.1.trans (HH.out.1.trans (HX.out.1.trans HX.out.2.1)), HX.out.2.2.1, HX.out.2.2.2.2, HH.out.2.2.2.1 _ _ (HX.out.1.trans HX.out.2.1) H3, HM1.out.2⟩
      rw [← HH.out.2.2.1] at hp
      obtain ⟨q, hq, rfl⟩ := List.mem_map.1 hp
      exact HX.out.2.2.2.1 q (by rw [HH.out.2.2.2.2.2, List.take_length]; exact hq)
end
end Go.Proofs.YtepgmebklhemgaaGreatDoor
/- A store of a fresh file. -/
set_option linter.unusedVariables false
set_option linter.unusedSimpArgs false
namespace Go.Proofs.YtepgmebklhemgaaGreatDoor
open Go.RowKit Wd
/-- A fresh file's store. -/
def Cp.S0 (n : Nat) : Kv.RS := ⟨[], [], 0, 64 * Lg.halfN n⟩
theorem Cp.zero_gen {n : Nat} (h : n = 10 ∨ n = 24 ∨ n = 100) : Lg.generation (FM.new n).l = 0 := by rcases h with rfl | rfl | rfl <;> decide +kernel
theorem Cp.zero_rec {n : Nat} (h : n = 10 ∨ n = 24 ∨ n = 100) : Lg.records 0 (Lg.half (FM.new n).l 0) = ([], 0) := by rcases h with rfl | rfl | rfl <;> decide +kernel
theorem Cp.zero_len (n : Nat) : (FM.new n).l.length = 64 * n := by show (List.replicate (64 * n) (0 : UInt8)).length = _; simp
theorem Cp.zero_si {n : Nat} (h : n = 10 ∨ n = 24 ∨ n = 100) : Kv.SI (FM.new n) 0 [] 0 [] (Cp.S0 n) :=
  ⟨by show 6 ≤ n; omega, by show n ≤ 128; omega, Cp.zero_len n, Cp.zero_gen h, Cp.zero_rec h, ⟨[], rfl, List.Perm.refl _⟩, Kv.Rel.nil, rfl, rfl, rfl⟩
theorem Cp.zero_of {n : Nat} (h : n = 10 ∨ n = 24 ∨ n = 100) : Kv.RS.of (FM.new n).l = some (Cp.S0 n) := by
  unfold Kv.RS.of
  rw [Cp.zero_gen h, Cp.zero_rec h]
  show some (⟨[], [], 0, (Lg.half (FM.new n).l 0).length⟩ : Kv.RS) = _
  rw [Lg.half_len (n := n) (Cp.zero_len n) (by omega)]
  rfl
theorem Cp.good_nil : Cp.Good [] := fun p hp => by cases hp
section
variable {w0 w : World} {M : Mem} {L : List Ent} {f : Nat}
theorem kopen_zero {n : Nat} (hn : n = 10 ∨ n = 24 ∨ n = 100) (H : FS w0 w M f (FM.new n) L) :
    Calls Tryz.prog 51 #[.pointer (some ⟨f, 0, none⟩)] w (RetKv w0 M f (FM.new n) 0 [] 0 L (Cp.S0 n)) := by
  refine (kopen_any H (by show 6 ≤ n; omega) 0 [] 0 (Cp.zero_gen hn) (Cp.zero_rec hn) (fun l hl => by cases hl) (by simp)).mono ?_
  rintro e w' (⟨M', h1, -⟩ | ⟨s, g, mb, D, M', h1, rfl, hM, K⟩)
  · cases h1
  · have h2 : D.map Pa.pr = [] := by
      have : (some [] : Option (List Kv.Pr)) = some (D.map Pa.pr) := h1
      injection this with this
      exact this.symm
    have := Cp.zero_si hn
    rw [← h2] at this
    exact ⟨s, g, mb, D, M', rfl, hM, K, this⟩
def RetFresh (w0 : World) (M : Mem) (L : List Ent) (n : Nat) (e : Ending) (w' : World) : Prop :=
  ∃ f t s g mb D M', e = .returned (.tuple #[.pointer (some ⟨f, 0, none⟩), .pointer (some ⟨t, 0, none⟩), .bool true]) ∧ M.le M' ∧ CapAt M' t s ∧ (∀ t0 s0, CapAt M t0 s0 → t0 ≠ t) ∧ KS w0 w' M' s g f mb (FM.new n) 0 [] 0 D L ∧ Kv.SI (FM.new n) 0 [] 0 (D.map Pa.pr) (Cp.S0 n)
set_option maxRecDepth 100000 in
theorem fresh_any (H : St w0 w M L) {n : Nat} (hn : n = 10 ∨ n = 24 ∨ n = 100) : Calls Tryz.prog 6 #[.int .i64 (n : Int)] w (RetFresh w0 M L n) := by
  have HN := Lib.hid (fs_new H n (by omega) (by omega))
  obtain ⟨F, hF⟩ : ∃ F, F = FM.new n := ⟨_, rfl⟩
  have hko := fun w f (H : FS w0 w M f (FM.new n) L) => copen_of (kopen_zero hn H)
  rw [← hF] at hko HN
  have HK := Lib.hid hko
  have HF := Lib.hid hF
  clear hko hn hF H
  go_enter Tryz.func6, Tryz.ntmps6
  go_wp2_with fail
  refine HN.out.mono ?_
  rintro e w1 ⟨f, rfl, H1⟩
  clear HN
  go_wp2_with fail
  refine (HK.out _ _ H1).mono ?_
  rintro e w2 (⟨-, t, s, g, mb, D, M', rfl, hM, hct, hfr, K, hsi⟩ | ⟨hg, -⟩)
  · have HX := Lib.hid (And.intro hM (And.intro hct (And.intro hfr (And.intro K hsi))))
    clear hM hct hfr K hsi H1 HK
    go_wp2
    go_ret3
    obtain ⟨hM, hct, hfr, K, hsi⟩ := HX.out
    rw [HF.out] at K hsi
    exact ⟨f, t, s, g, mb, D, M', rfl, hM, hct, hfr, K, hsi⟩
  · exact absurd Cp.good_nil hg
theorem RetFresh.kc {w0 : World} {M : Mem} {L : List Ent} {n : Nat} {s g mb : Nat} {D : List Pa} (K : KS w0 w M s g f mb (FM.new n) 0 [] 0 D L) (hsi : Kv.SI (FM.new n) 0 [] 0 (D.map Pa.pr) (Cp.S0 n)) : KC w0 w M s f (Cp.S0 n) L :=
  ⟨⟨g, mb, FM.new n, 0, [], 0, D, K, hsi, rfl, rfl, rfl⟩, Cp.good_nil⟩
theorem lopen_nil (w : World) : Calls Tryz.prog 80 #[.pointer none] w fun e w' => e = .returned (.tuple #[.pointer none, .int .i64 1]) ∧ w = w' := by
  go_enter Tryz.func80, Tryz.ntmps80
  go_wp2
  go_ret2
  exact ⟨rfl, rfl⟩
set_option maxRecDepth 100000 in
theorem kopen_nil (w : World) : Calls Tryz.prog 51 #[.pointer none] w fun e w' => e = .returned (.tuple #[.pointer none, .int .i64 1]) ∧ w = w' := by
  have HI := Lib.hid (lopen_nil w)
  go_enter Tryz.func51, Tryz.ntmps51
  go_wp2_with fail
  refine HI.out.mono ?_
  rintro e w' ⟨rfl, rfl⟩
  go_wp2
  go_ret2
  exact ⟨rfl, rfl⟩
set_option maxRecDepth 100000 in
theorem copen_nil (w : World) : Calls Tryz.prog 19 #[.pointer none] w fun e w' => e = .returned (.tuple #[.pointer none, .int .i64 1]) ∧ w = w' := by
  have HK := Lib.hid (kopen_nil w)
  go_enter Tryz.func19, Tryz.ntmps19
  go_wp2_with fail
  refine HK.out.mono ?_
  rintro e w1 ⟨rfl, rfl⟩
  go_wp2
  go_ret2
  exact ⟨rfl, rfl⟩
end
end Go.Proofs.YtepgmebklhemgaaGreatDoor
/- What a capability tells. -/
set_option linter.unusedVariables false
set_option linter.unusedSimpArgs false
namespace Go.Proofs.YtepgmebklhemgaaGreatDoor
open Go.RowKit Wd
def Cp.get (L : List Kv.Pr) (T : Nat) (l : List Tu.Part) : Option (List UInt8) := if Cp.kerr T l ≠ 0 then none else Cp.look L (Cp.key T l)
noncomputable def Cp.item (p : Kv.Pr) : List Tu.Part × List UInt8 := ((Cp.tn p.1).2, p.2)
noncomputable def Cp.list (L : List Kv.Pr) (T : Nat) (l : List Tu.Part) : List (List Tu.Part × List UInt8) := if Tu.check (Cp.full T l) ≠ 0 then [] else (Kv.scan L (Tu.enc (Cp.full T l))).map Cp.item
def It.ab (i : It) : List Tu.Part × List UInt8 := (i.m.l, i.p.l)
def RetGetC (w0 : World) (M : Mem) (s f : Nat) (S : Kv.RS) (L : List Ent) (o : Option (List UInt8)) (e : Ending) (w' : World) : Prop :=
  ∃ A c M', e = .returned (.tuple #[.slice A (o.getD []).length c, .bool o.isSome]) ∧ M.le M' ∧ In M' (RB · A (o.getD [])) ∧ KC w0 w' M' s f S L
section
variable {w0 w : World} {M : Mem} {L : List Ent} {t s f : Nat} {S : Kv.RS}
set_option maxRecDepth 100000 in
theorem cget_nil (H : St w0 w M L) (hx : In M Tp.MaxI) (T : Nat) {m : Nm} (hm : Nm.In M m) (ht : Mild T m.l) :
    Calls Tryz.prog 20 #[capV none T, Nm.v m] w fun e w' => e = .returned (.tuple #[.slice none 0 0, .bool false]) ∧ St w0 w' M L := by
  have H1 := H.new [.pointer none, .int .u64 (T : Int)] 60
  have hk := key_any H1 hx none T hm ht
  unfold capV at hk ⊢
  simp only [Option.map_none] at hk ⊢
  obtain ⟨V, hV⟩ : ∃ V, V = Nm.v m := ⟨_, rfl⟩
  rw [← hV] at hk ⊢
  have HK := Lib.hid hk
  have HI := Lib.hid cis_nil
  have RG := Lib.hid ((H1.blk 0 rfl).range 0 2 [.pointer none, .int .u64 (T : Int)] rfl)
  clear hk hV hm ht hx
  go_enter Tryz.func20, Tryz.ntmps20
  go_wp2_with (refine wpList_load_mid (by rfl) 60 (.tmp 2) (by rfl) w.heap.size 0 (by rfl) [.pointer none, .int .u64 (T : Int)] _ RG.out Tryz.underlying60 rfl (by exact Tryz.sizeCap) ?_)
  refine HK.out.mono ?_
  rintro e w1 ⟨rfl, H2⟩
  have c0 := (H2.blk 0 rfl).cell 0
  simp only [List.getElem?_cons_zero] at c0
  generalize w.heap.size = g at *
  clear HK RG H1
  go_wp2_with fail
  refine (HI.out _).mono ?_
  rintro e w2 ⟨rfl, rfl⟩
  go_wp2
  go_ret2
  exact ⟨rfl, H2.d0⟩
set_option maxRecDepth 100000 in
set_option maxHeartbeats 2000000 in
theorem cget_any (H : KC w0 w M s f S L) (hx : In M Tp.MaxI) (hct : CapAt M t s) (T : Nat) {m : Nm} (hm : Nm.In M m) (ht : Mild T m.l) :
    Calls Tryz.prog 20 #[capV (some t) T, Nm.v m] w (RetGetC w0 M s f S L (Cp.get S.L T m.l)) := by
  obtain ⟨K, hg⟩ := H
  obtain ⟨Z, h, hb1, hb2⟩ := K.out
  have H1 := h.new [.pointer (some ⟨t, 0, none⟩), .int .u64 (T : Int)] 60
  have hk := key_any H1 hx (some t) T hm ht
  unfold capV at hk ⊢
  simp only [Option.map_some] at hk ⊢
  obtain ⟨V, hV⟩ : ∃ V, V = Nm.v m := ⟨_, rfl⟩
  obtain ⟨C, hC⟩ : ∃ C, C = Cp.kerr T m.l := ⟨_, rfl⟩
  obtain ⟨KY, hKY⟩ : ∃ KY, KY = Cp.key T m.l := ⟨_, rfl⟩
  have ho : Cp.get S.L T m.l = if C ≠ 0 then none else Cp.look S.L KY := by unfold Cp.get; rw [hC, hKY]
  rw [← hV, ← hC, ← hKY] at hk
  obtain ⟨o, hoo⟩ : ∃ o, o = Cp.get S.L T m.l := ⟨_, rfl⟩
  rw [← hV, ← hoo]
  rw [← hoo] at ho
  have HO := Lib.hid ho
  clear hoo
  have HK := Lib.hid hk
  have HH := Lib.hid (And.intro hg (And.intro hb1 (And.intro hb2 hct)))
  have RG := Lib.hid ((H1.blk 0 rfl).range 0 2 [.pointer (some ⟨t, 0, none⟩), .int .u64 (T : Int)] rfl)
  clear hk hV hm ht hx hC hKY ho hg hb1 hb2 hct h K
  go_enter Tryz.func20, Tryz.ntmps20
  go_wp2_with (refine wpList_load_mid (by rfl) 60 (.tmp 2) (by rfl) w.heap.size 0 (by rfl) [.pointer (some ⟨t, 0, none⟩), .int .u64 (T : Int)] _ RG.out Tryz.underlying60 rfl (by exact Tryz.sizeCap) ?_)
  refine HK.out.mono ?_
  rintro e w1 ⟨rfl, H2⟩
  have c0 := (H2.blk 0 rfl).cell 0
  have ct := HH.out.2.2.2.c0 H2
  simp only [List.getElem?_cons_zero] at c0
  have HI := Lib.hid (cis_any H2 HH.out.2.2.2)
  generalize w.heap.size = gb at *
  clear HK RG H1
  go_wp2_with fail
  refine HI.out.mono ?_
  rintro e w2 ⟨rfl, rfl⟩
  by_cases h0 : C = 0
  · subst h0
    obtain rfl : o = Cp.look S.L KY := by rw [HO.out]; exact if_neg (by decide)
    have K2 := HH.out.2.2.1 _ _ _ (Mem.le.refl _) H2
    have HG := Lib.hid (getP_any K2 KY)
    clear K2
    go_wp2_with fail
    refine HG.out.mono ?_
    rintro e w3 ⟨A, c, M3, rfl, hM3, hin, K3⟩
    go_wp2
    go_ret2
    exact ⟨A, c, M3, rfl, hM3, hin, K3.drop, HH.out.1⟩
  · have q1 : ¬ (C : Int) = 0 := by omega
    have qb : ((C : Int) == 0) = false := beq_eq_false_iff_ne.2 q1
    obtain rfl : o = none := by rw [HO.out]; exact if_pos h0
    clear HO
    go_wp2
    go_ret2
    exact ⟨none, 0, M, rfl, Mem.le.refl _, fun W hW h => absurd rfl h, HH.out.2.1 _ _ (Mem.le.refl _) H2.d0, HH.out.1⟩
end
end Go.Proofs.YtepgmebklhemgaaGreatDoor
/- What a capability lists. -/
set_option linter.unusedVariables false
set_option linter.unusedSimpArgs false
namespace Go.Proofs.YtepgmebklhemgaaGreatDoor
open Go.RowKit Wd
theorem its_append (l m : List It) : its (l ++ m) = its l ++ its m := by simp [its]
def ItsAt (M : Mem) (A : Option Addr) (n c : Nat) (l : List It) : Prop := n = l.length ∧ n ≤ c ∧ (A = none → c = 0) ∧ (∀ i ∈ l, It.In M i) ∧ In M (RA · A (its l))
theorem ItsAt.le {M M' : Mem} {A : Option Addr} {n c : Nat} {l : List It} (h : ItsAt M A n c l) (hm : M.le M') : ItsAt M' A n c l := ⟨h.1, h.2.1, h.2.2.1, fun i hi => (h.2.2.2.1 i hi).le hm, h.2.2.2.2.le hm⟩
def RetList (w0 : World) (M : Mem) (s f : Nat) (S : Kv.RS) (L : List Ent) (l : List (List Tu.Part × List UInt8)) (e : Ending) (w' : World) : Prop :=
  ∃ A n c is M', e = .returned (.slice A n c) ∧ M.le M' ∧ ItsAt M' A n c is ∧ is.map It.ab = l ∧ KC w0 w' M' s f S L
section
variable {w0 w : World} {M : Mem} {L : List Ent} {t s f : Nat} {S : Kv.RS}
set_option maxRecDepth 100000 in
theorem clist_nil (H : St w0 w M L) (hx : In M Tp.MaxI) (T : Nat) {m : Nm} (hm : Nm.In M m) (ht : Mild T m.l) :
    Calls Tryz.prog 22 #[capV none T, Nm.v m] w fun e w' => e = .returned (.slice none 0 0) ∧ St w0 w' M L := by
  obtain ⟨A, n, c, l⟩ := m
  obtain ⟨h1, h2, h3, h4⟩ := hm
  unfold capV
  simp only [Nm.v, Option.map_none] at h1 h2 h3 h4 ht ⊢
  have h0 := ht.2.1
  have H0 := H.new [.pointer none, .int .u64 (T : Int)] 60
  have HN := Lib.hid (Tp.num_any H0 T)
  have hlen : (Tp.pcs l).length = n * 3 := by rw [Tp.pcs_length, h1]
  have HL := Lib.hid (And.intro h4 (And.intro hlen (And.intro (pcs_one l) (And.intro ht.tame h1))))
  have HI := Lib.hid cis_nil
  have hnb : n ≤ 1000 := by omega
  clear ht h4 hlen h1 h0
  go_enter Tryz.func22, Tryz.ntmps22
  go_wp2_with fail
  refine HN.out.mono ?_
  rintro e w1 ⟨rfl, H1⟩
  have H2 := H1.litS (Tp.pc ⟨[], T, false⟩) 79 3 1 rfl (by decide) rfl
  unfold Tp.pv
  unfold Tp.pc at H2
  clear HN H0
  go_wp2_with (at_builtin; refine wpList_append_any_st H2 (by rfl) (.tmp 17) (.tmp 18) 24 (by rfl) Tryz.infoPart (by rfl) (by decide) Tryz.underlying24 (by rfl) A n c (Tp.pcs l) (by rfl) HL.out.2.1 h2 (HL.out.1.now H2) HL.out.2.2.1 (by omega) (by omega) ?_; intro v2 w2 H3)
  obtain ⟨B, d, rfl, -⟩ := H3.shape 0 rfl
  have hen := Tp.encode_any (c := d) (A := B) (n := 1 + n) (l := Cp.full T l) H3 hx (by have := HL.out.2.2.2.2; unfold Cp.full; simp; omega) (SrA.row 0 rfl) HL.out.2.2.2.1
  have HE := Lib.hid hen
  clear hen H2
  go_wp2_with fail
  refine HE.out.mono ?_
  rintro e w3 ⟨rfl, H4⟩
  have c0 := (H4.blk 1 rfl).cell 0
  simp only [List.getElem?_cons_zero] at c0
  generalize w.heap.size = g at *
  clear HE H3
  go_wp2_with fail
  refine (HI.out _).mono ?_
  rintro e w2 ⟨rfl, rfl⟩
  go_wp2
  go_ret
  exact ⟨rfl, H4.d0.d0⟩
set_option maxRecDepth 100000 in
set_option maxHeartbeats 4000000 in
theorem clist_any (H : KC w0 w M s f S L) (hx : In M Tp.MaxI) (hct : CapAt M t s) (T : Nat) {m : Nm} (hm : Nm.In M m) (ht : Mild T m.l) :
    Calls Tryz.prog 22 #[capV (some t) T, Nm.v m] w (RetList w0 M s f S L (Cp.list S.L T m.l)) := by
  obtain ⟨K, hg⟩ := H
  have hok := K.okP
  obtain ⟨Z, h, hb1, hb2⟩ := K.out
  obtain ⟨A, n, c, l⟩ := m
  obtain ⟨h1, h2, h3, h4⟩ := hm
  unfold capV
  simp only [Nm.v, Option.map_some] at h1 h2 h3 h4 ht ⊢
  have h0 := ht.2.1
  have H0 := h.new [.pointer (some ⟨t, 0, none⟩), .int .u64 (T : Int)] 60
  obtain ⟨M1, hM1, H1, hbox⟩ := H0.keepBlk
  have HN := Lib.hid (Tp.num_any H1 T)
  have hlen : (Tp.pcs l).length = n * 3 := by rw [Tp.pcs_length, h1]
  obtain ⟨C, hC⟩ : ∃ C, C = Tu.check (Cp.full T l) := ⟨_, rfl⟩
  obtain ⟨KY, hKY⟩ : ∃ KY, KY = Tp.encS (Cp.full T l) := ⟨_, rfl⟩
  obtain ⟨O, hO⟩ : ∃ O, O = Cp.list S.L T l := ⟨_, rfl⟩
  rw [← hO]
  have ho : O = if C ≠ 0 then [] else (Kv.scan S.L KY).map Cp.item := by
    rw [hO]
    unfold Cp.list
    rw [← hC]
    by_cases hc : C = 0
    · rw [if_neg (by simpa using hc), if_neg (by simpa using hc), hKY]
      unfold Tp.encS
      rw [if_pos (by rw [← hC]; exact hc)]
    · rw [if_pos hc, if_pos hc]
  have HL := Lib.hid (And.intro (h4.le hM1) (And.intro hlen (And.intro (pcs_one l) (And.intro ht.tame (And.intro h1 (And.intro hC (And.intro hKY ho)))))))
  have HH := Lib.hid (And.intro hg (And.intro hb1 (And.intro hb2 (And.intro (hct.le hM1) (And.intro hM1 (And.intro hok (hx.le hM1)))))))
  have c1 := (hbox.now H1).cell 1
  simp only [List.getElem?_cons_zero, List.getElem?_cons_succ] at c1
  have HB := Lib.hid hbox
  have hnb : n ≤ 1000 := by omega
  clear ht h4 hlen h1 h0 hC hKY hO ho hg hb1 hb2 hct hM1 hok hx hbox K h
  go_enter Tryz.func22, Tryz.ntmps22
  go_wp2_with fail
  refine HN.out.mono ?_
  rintro e w1 ⟨rfl, H1'⟩
  have H2 := H1'.litS (Tp.pc ⟨[], T, false⟩) 79 3 1 rfl (by decide) rfl
  unfold Tp.pv
  unfold Tp.pc at H2
  clear HN H0 H1 c1
  go_wp2_with (at_builtin; refine wpList_append_any_st H2 (by rfl) (.tmp 17) (.tmp 18) 24 (by rfl) Tryz.infoPart (by rfl) (by decide) Tryz.underlying24 (by rfl) A n c (Tp.pcs l) (by rfl) HL.out.2.1 h2 (HL.out.1.now H2) HL.out.2.2.1 (by omega) (by omega) ?_; intro v2 w2 H3)
  obtain ⟨B, d, rfl, -⟩ := H3.shape 0 rfl
  have hen := Tp.encode_any (c := d) (A := B) (n := 1 + n) (l := Cp.full T l) H3 HH.out.2.2.2.2.2.2 (by have := HL.out.2.2.2.2.1; unfold Cp.full; simp; omega) (SrA.row 0 rfl) HL.out.2.2.2.1
  rw [← HL.out.2.2.2.2.2.1, ← HL.out.2.2.2.2.2.2.1] at hen
  have HE := Lib.hid hen
  clear hen H2 H1'
  go_wp2_with fail
  refine HE.out.mono ?_
  rintro e w3 ⟨rfl, H4⟩
  have H5 := H4.d0
  have c0 := (Wd.In.now HB.out H5).cell 0
  simp only [List.getElem?_cons_zero] at c0
  have ct := HH.out.2.2.2.1.c0 H5
  have HI := Lib.hid (cis_any H5 HH.out.2.2.2.1)
  generalize w.heap.size = gb at *
  clear HE H3 H4
  go_wp2_with fail
  refine HI.out.mono ?_
  rintro e w4 ⟨rfl, rfl⟩
  have HO := Lib.hid HL.out.2.2.2.2.2.2.2
  have hMM := Lib.hid HH.out.2.2.2.2.1
  clear HI HL
  by_cases h0 : C = 0
  · subst h0
    have ho : O = (Kv.scan S.L KY).map Cp.item := by rw [HO.out]; exact if_neg (by decide)
    have K2 := HH.out.2.1 _ _ HH.out.2.2.2.2.1 H5
    have HS := Lib.hid (scanP_any K2 KY)
    have HO2 := Lib.hid ho
    clear K2 ho HO
    go_wp2_with fail
    refine HS.out.mono ?_
    rintro e w5 ⟨A5, n5, c5, ps, M5, rfl, hM5, hps, hpl, K5⟩
    obtain ⟨Z5, h5, hb5, hb6⟩ := K5.out
    have hn : n5 = ps.length := hps.1
    have hmm : ∀ p ∈ ps, p.pr ∈ S.L := fun p hp => by
      have h1 : p.pr ∈ Kv.scan S.L KY := by rw [← hpl]; exact List.mem_map.2 ⟨p, hp, rfl⟩
      exact (List.mem_filter.1 h1).1
    have hnb5 : n5 ≤ 1000000 := by
      have h1 := congrArg List.length hpl
      have h2 := HH.out.2.2.2.2.2.1.2
      have h3 : (Kv.scan S.L KY).length ≤ S.L.length := List.length_filter_le _ _
      rw [List.length_map] at h1
      omega
    have HX := Lib.hid (And.intro hM5 (And.intro hps (And.intro hpl (And.intro hb5 (And.intro hb6 (And.intro hmm hn))))))
    have H6 := h5.addNil 113 2
    clear hM5 hps hpl hb5 hb6 hmm hn K5 HS h5 H5 c0 ct
    go_wp2_with fail
    go_loopw [7, 39] (fun v i wr => ∃ (k d : Nat) (B : Option Addr) (is : List It) (M' : Mem), k ≤ n5 ∧ i = .int .i64 k ∧ v = .slice B k d ∧ M5.le M' ∧ is.map It.ab = (ps.take k).map (fun p => Cp.item p.pr) ∧ (∀ a ∈ is, It.In M' a) ∧ St w0 wr M' (er 113 2 (.slice B k d) k (its is) :: Z5)) (fun v i _ => n5 - (intOf i).toNat)
    case atStart => exact ⟨0, 0, none, [], M5, by omega, rfl, rfl, Mem.le.refl _, rfl, (fun a ha => by cases ha), H6⟩
    case round =>
      clear H6
      obtain ⟨k, d, B, is, M', hk, rfl, rfl, hM, hab, hin, H1⟩ := hrel
      by_cases hlt : k < n5
      · have hk1 : k < ps.length := by have := HX.out.2.2.2.2.2.2; omega
        obtain ⟨b, o, rfl, hc⟩ := pas_cells HX.out.2.1 hM H1 k hk1
        have hmem := HX.out.2.2.2.2.2.1 _ (List.getElem_mem hk1)
        have hta : ps.take (k + 1) = ps.take k ++ [ps[k]] := List.take_succ_eq_append_getElem hk1
        have hpi := HX.out.2.1.2.2.2.1 _ (List.getElem_mem hk1)
        have hrg := hc _ M' _ hM H1
        obtain ⟨q, hq⟩ : ∃ q, q = ps[k] := ⟨_, rfl⟩
        rw [← hq] at hta hrg hmem hpi
        obtain ⟨key, ⟨PA, pn, pc, pl⟩⟩ := q
        have hkl : key.length ≤ 1024 := (HH.out.2.2.2.2.2.1.1 _ hmem).2.1
        obtain ⟨T0, l0, hown⟩ := HH.out.1 _ hmem
        dsimp only at hpi hown
        unfold pa Pc.v at hrg
        dsimp only at hrg
        have H2 := H1.new [.string (str key), .slice PA pn pc] 115
        have HO := Lib.hid (own_any H2 key hkl)
        have HR := Lib.hid hrg
        have HKK := Lib.hid (And.intro hlt (And.intro hM (And.intro hin (And.intro hta (And.intro hab (And.intro hpi hown))))))
        have q1 : (k : Int) < (n5 : Int) := by omega
        clear hkl hrg hlt hM hin hta hmem hk1 hq hc hk hab hpi hown
        go_wp2_with (refine wpList_load_mid (by rfl) 115 (.tmp 41) (by rfl) b (o + k * 2) (by rfl) [.string (str key), .slice PA pn pc] _ HR.out Tryz.underlying115 rfl (by exact Tryz.sizePair) ?_)
        refine HO.out.mono ?_
        rintro e w6 (⟨T, m, M6, hown, rfl, hM6, hm, H3⟩ | ⟨hno, -⟩)
        · have p1 := (H3.blk 0 rfl).cell 1
          simp only [List.getElem?_cons_zero, List.getElem?_cons_succ] at p1
          have H4 := (H3.d0).alloc (.cells #[Nm.v m, .slice PA pn pc] 113)
          have hra : RA (w6.alloc (.cells #[Nm.v m, .slice PA pn pc] 113)) (some ⟨w6.heap.size, 0, none⟩) (it ⟨m, ⟨PA, pn, pc, pl⟩⟩) := fun _ => ⟨_, 0, rfl, (Blk.new w6 113 [Nm.v m, .slice PA pn pc]).lt, (Blk.new w6 113 [Nm.v m, .slice PA pn pc]).range 0 2 _ rfl⟩
          have HRA := Lib.hid hra
          have HY := Lib.hid (And.intro hown (And.intro hM6 hm))
          unfold Nm.v at H4 HRA ⊢
          clear hra H3 H2 H1 HO HR hown hM6 hm
          go_wp2_with (at_builtin; refine wpList_append_any_st H4 (by rfl) (.tmp 50) (.tmp 55) 66 (by rfl) Tryz.infoItem (by rfl) (by decide) Tryz.underlying66 (by rfl) (some ⟨w6.heap.size, 0, none⟩) 1 1 (it ⟨m, ⟨PA, pn, pc, pl⟩⟩) (by rfl) rfl (by rintro ⟨⟩) HRA.out (it_one _) (by omega) (by omega) ?_; intro v2 w7 H5)
          obtain ⟨B9, d9, rfl, -⟩ := H5.shape 0 rfl
          have he : its is ++ it ⟨m, ⟨PA, pn, pc, pl⟩⟩ = its (is ++ [⟨m, ⟨PA, pn, pc, pl⟩⟩]) := by rw [its_append]; simp [its]
          rw [he] at H5
          clear HRA H4 p1
          go_wp2
          exact ⟨⟨k + 1, d9, B9, is ++ [⟨m, ⟨PA, pn, pc, pl⟩⟩], M6, by have := HKK.out.1; omega, by go_num, rfl, HKK.out.2.1.trans HY.out.2.1, by
            rw [HKK.out.2.2.2.1, List.map_append, List.map_append, HKK.out.2.2.2.2.1]
            congr 1
            show [(m.l, pl)] = [((Cp.tn key).2, pl)]
            rw [Cp.tn_eq HY.out.1], (fun a ha => by
            rcases List.mem_append.1 ha with ha | ha
            · exact (HKK.out.2.2.1 a ha).le HY.out.2.1
            · rw [List.mem_singleton.1 ha]
              exact ⟨HY.out.2.2, HKK.out.2.2.2.2.2.1.1, Wd.In.le HKK.out.2.2.2.2.2.1.2 (HKK.out.2.1.trans HY.out.2.1)⟩), H5⟩, by have := HKK.out.1; simp [intOf]; omega⟩
        · exact absurd HKK.out.2.2.2.2.2.2 (hno _ _)
      · obtain rfl : k = n5 := by omega
        rw [HX.out.2.2.2.2.2.2, List.take_length] at hab
        have K7 := HX.out.2.2.2.2.1 _ _ _ hM H1
        obtain ⟨A0, c0, he, hc0, hA0⟩ := H1.shape' 0 rfl
        injection he with e1 e2 e3
        subst e1 e3
        obtain ⟨M8, hM8, K8, hin8⟩ := K7.keepA
        have hlen : k = is.length := by
          have := congrArg List.length hab
          simp only [List.length_map] at this
          rw [this]
          exact HX.out.2.2.2.2.2.2
        have hmap : is.map It.ab = (Kv.scan S.L KY).map Cp.item := by rw [hab, ← HX.out.2.2.1, List.map_map]; rfl
        have HW := Lib.hid (And.intro hM (And.intro hM8 (And.intro K8 (And.intro hin8 (And.intro hlen (And.intro hmap (And.intro hin (And.intro hc0 hA0))))))))
        clear hM hM8 K8 hin8 hlen hmap hin hc0 hA0 K7 H1 hab hlt
        go_wp2
        go_ret
        obtain ⟨hM, hM8, K8, hin8, hlen, hmap, hin, hc0, hA0⟩ := HW.out
        exact ⟨B, k, d, is, M8, rfl, hMM.out.trans (HX.out.1.trans (hM.trans hM8)), ⟨hlen, hc0, hA0, fun i hi => (hin i hi).le hM8, hin8⟩, by rw [hmap, HO2.out], K8, HH.out.1⟩
  · have q1 : ¬ (C : Int) = 0 := by omega
    have qb : ((C : Int) == 0) = false := beq_eq_false_iff_ne.2 q1
    obtain rfl : O = [] := by rw [HO.out]; exact if_pos h0
    clear HO
    go_wp2
    go_ret
    exact ⟨none, 0, 0, [], M1, rfl, hMM.out, ⟨rfl, Nat.le_refl _, fun _ => rfl, (fun i hi => by cases hi), fun W hW h => absurd rfl h⟩, rfl, HH.out.2.1 _ _ hMM.out H5, HH.out.1⟩
end
end Go.Proofs.YtepgmebklhemgaaGreatDoor
