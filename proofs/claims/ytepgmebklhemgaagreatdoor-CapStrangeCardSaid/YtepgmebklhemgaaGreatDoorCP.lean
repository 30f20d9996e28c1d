/- CapStrange walked. -/
import Derived.Test.YtepgmebklhemgaaGreatDoorJ8
set_option linter.unusedVariables false
set_option linter.unusedSimpArgs false
namespace Go.Proofs.YtepgmebklhemgaaGreatDoor
open Go.RowKit Wd
section
variable {w0 w : World} {M : Mem} {L : List Ent} {t s s' f : Nat} {S : Kv.RS}
/-- A literal laid beside a store, never written again. -/
theorem KC.lit (H : KC w0 w M s f S L) (cs : List Value) (ty : TypeId) (sz n : Nat) (hn : n * sz = cs.length) (hm : n ≤ maxLen) : ∃ M', M.le M' ∧ KC w0 (w.alloc (.cells cs.toArray ty)) M' s f S L ∧ In M' (RA · (some ⟨w.heap.size, 0, none⟩) cs) := by
  obtain ⟨K, hg⟩ := H
  obtain ⟨Z, h, hb, -⟩ := K.out
  obtain ⟨M', h1, h2, h3, -⟩ := (h.litS cs ty sz n hn hm rfl).lendRowA
  exact ⟨M', h1, ⟨hb _ _ h1 h2, hg⟩, h3⟩
theorem KC.new (H : KC w0 w M s f S L) (cs : List Value) (ty : TypeId) : ∃ M', M.le M' ∧ KC w0 (w.alloc (.cells cs.toArray ty)) M' s f S L ∧ In M' fun W => Blk W w.heap.size ty cs := by
  obtain ⟨K, hg⟩ := H
  obtain ⟨Z, h, hb, -⟩ := K.out
  obtain ⟨M', h1, h2, h3⟩ := (h.new cs ty).keepBlk
  exact ⟨M', h1, ⟨hb _ _ h1 h2, hg⟩, h3⟩
theorem KC.rg (H : KC w0 w M s f S L) {g : Nat} {ty : TypeId} {cs : List Value} (h : In M fun W => Blk W g ty cs) : w.rangeAt g 0 cs := (Wd.In.now h H.rest).range 0 cs.length cs (by simp)
/-- A fresh store beside another. -/
theorem freshK (H : KC w0 w M s f S L) : Calls Tryz.prog 6 #[.int .i64 10] w fun e w' => ∃ f2 t2 s2 M', e = .returned (.tuple #[.pointer (some ⟨f2, 0, none⟩), .pointer (some ⟨t2, 0, none⟩), .bool true]) ∧ M.le M' ∧ CapAt M' t2 s2 ∧ (∀ t0 s0, CapAt M t0 s0 → t0 ≠ t2) ∧ KC w0 w' M' s f S L := by
  obtain ⟨K, hg⟩ := H
  obtain ⟨Z, h, hb, -⟩ := K.out
  refine (fresh_any h (n := 10) (.inl rfl)).mono ?_
  rintro e w' ⟨f2, t2, s2, g, mb, D, M', rfl, hM, hct, hfr, K2, -⟩
  exact ⟨f2, t2, s2, M', rfl, hM, hct, hfr, hb _ _ hM K2.rest, hg⟩
/-- Calls that lay what is never written again. -/
theorem callsKM (H : KC w0 w M s f S L) {g : Nat} {args : Array Value} {P : Mem → Ending → World → Prop} (hc : ∀ Z, St w0 w M Z → Calls Tryz.prog g args w fun e w' => ∃ M', M.le M' ∧ P M' e w' ∧ St w0 w' M' Z) : Calls Tryz.prog g args w fun e w' => ∃ M', M.le M' ∧ P M' e w' ∧ KC w0 w' M' s f S L := by
  obtain ⟨K, hg⟩ := H
  obtain ⟨Z, h, hb, -⟩ := K.out
  exact (hc Z h).mono fun e w' ⟨M', h0, h1, h2⟩ => ⟨M', h0, h1, hb _ _ h0 h2, hg⟩
theorem Cp.done_bad {S : Kv.RS} {t : Nat} {a : Wt} (h : Wt.bad t a = true) : Cp.done S t [a] = (S, 1) := by
  have : Cp.err t [a] = 1 := by unfold Cp.err; rw [List.any_cons, h]; rfl
  unfold Cp.done
  rw [this]
  rfl
theorem Wt.bad_none (t : Nat) {a : Wt} (h : a.s ≠ some t) : Wt.bad t a = true := by unfold Wt.bad; simp [h]
theorem writesK (H : KC w0 w M s f S L) (ht : CapAt M t s') {A : Option Addr} {c n : Nat} {l : List Dd} (hn : n = l.length) (hA : In M (RA · A (dds l))) (hl : ∀ d ∈ l, Dd.In M d ∧ d.m.n ≤ 100000 ∧ d.p.n ≤ 100000000) (hn2 : n ≤ 100000) :
    Calls Tryz.prog 14 #[.pointer (some ⟨t, 0, none⟩), .slice A n c] w fun e w' => ∃ B d ws M', e = .returned (.slice B n d) ∧ ws.map Wt.ab = l.map (Dd.wr t) ∧ M.le M' ∧ (∀ a ∈ ws, Wt.In M' a) ∧ In M' (RA · B (wts ws)) ∧ KC w0 w' M' s f S L := by
  obtain ⟨K, hg⟩ := H
  obtain ⟨Z, h, hb, -⟩ := K.out
  refine (writes_any h ht hn hA hl hn2).mono ?_
  rintro e w' ⟨B, d, ws, M', rfl, hab, hM, hin, h2⟩
  obtain ⟨M2, hM2, h3, hr, -⟩ := h2.lendRowA
  exact ⟨B, d, ws, M2, rfl, hab, hM.trans hM2, fun a ha => (hin a ha).le hM2, hr, hb _ _ (hM.trans hM2) h3, hg⟩
theorem awakeK (H : KC w0 w M s f S L) (hx : In M Tp.MaxI) : Calls Tryz.prog 8 #[] w fun e w' => ∃ M', e = .returned (.bool true) ∧ M.le M' ∧ KC w0 w' M' s f S L := by
  obtain ⟨K, hg⟩ := H
  obtain ⟨Z, h, hb, -⟩ := K.out
  refine (awake_any h hx).mono ?_
  rintro e w' ⟨M', rfl, hM, h2⟩
  exact ⟨M', rfl, hM, hb _ _ hM h2, hg⟩
theorem dropK (H : KC w0 w M s f S L) (q : Option Nat) (T : Nat) {m : Nm} (hm : Nm.In M m) (hn : m.n ≤ 100000) :
    Calls Tryz.prog 21 #[capV q T, Nm.v m] w fun e w' => ∃ a M', e = .returned (.agg (wt a).toArray) ∧ a.s = q ∧ a.T = T ∧ a.m.l = m.l ∧ M.le M' ∧ Wt.In M' a ∧ KC w0 w' M' s f S L := by
  obtain ⟨K, hg⟩ := H
  obtain ⟨Z, h, hb, -⟩ := K.out
  refine (drop_any h q T hm hn).mono ?_
  rintro e w' ⟨a, M', rfl, h1, h2, h3, -, -, hM, hin, h4⟩
  exact ⟨a, M', rfl, h1, h2, h3, hM, hin, hb _ _ hM h4, hg⟩
theorem start21 {w : World} (hw : Tp.MaxI w) : ∃ M0, St w w M0 [] ∧ In M0 Tp.MaxI := by
  obtain ⟨m, hm⟩ := hw
  exact ⟨_, St.start w, fun W hW => ⟨m, In.oldCell (St.start w) hm W hW⟩⟩
def RetBool (w : World) (e : Ending) (w' : World) : Prop := e = .returned (.bool true) ∧ Below w.heap.size w w'
set_option maxRecDepth 100000 in
set_option maxHeartbeats 8000000 in
theorem capStrange_any {w : World} (hx : Tp.MaxI w) {d : Dd} (hT : d.T < 18446744073709551616) (hm1 : d.m.n = d.m.l.length) (hm2 : d.m.A = none → d.m.c = 0) (hm3 : d.m.n ≤ d.m.c) (hm4 : RA w d.m.A (Tp.pcs d.m.l)) (hm5 : ∀ q ∈ d.m.l, q.num < 18446744073709551616) (hp : d.p.ok) (hp2 : RB w d.p.A d.p.l) :
    Calls Tryz.prog 4 #[.agg (dd d).toArray] w (RetBool w) := by
  obtain ⟨M, H, hx'⟩ := start21 hx
  have hm4' := In.oldRA H hm4
  have hp2' := In.oldRB H hp2
  have hd : Dd.In M d := ⟨⟨hm1, hm2, hm3, hm4'⟩, hp, hp2'⟩
  obtain ⟨T, m, dr, p⟩ := d
  obtain ⟨V, hV⟩ : ∃ V, V = Nm.v m := ⟨_, rfl⟩
  obtain ⟨PV, hPV⟩ : ∃ PV, PV = Pc.v p := ⟨_, rfl⟩
  have hdd : dd ⟨T, m, dr, p⟩ = [.int .u64 (T : Int), V, .bool dr, PV] := by unfold dd; rw [hV, hPV]
  rw [hdd]
  have H1 := H.new [.int .u64 (T : Int), V, .bool dr, PV] 32
  obtain ⟨M1, hM1, H1', hbox⟩ := H1.keepBlk
  have H2 := H1'.litS (dd ⟨T, m, dr, p⟩) 32 4 1 rfl (by decide) (g := w.heap.size + 1) (by simp)
  obtain ⟨M2, hM2, H2', hrow, -⟩ := H2.lendRowA
  rw [hdd] at H2'
  have hsm := small21_any (c := 1) (n := 1) (A := some ⟨w.heap.size + 1, 0, none⟩) (l := [⟨T, m, dr, p⟩]) H2' rfl (by unfold dds; rw [List.flatMap_cons, List.flatMap_nil, List.append_nil]; exact hrow) (fun d h => by rw [List.mem_singleton.1 h]; exact hd.le (hM1.trans hM2))
  have HSM := Lib.hid hsm
  have RG1 := Lib.hid ((hbox.now H1').range 0 4 _ rfl)
  have HD := Lib.hid (And.intro hd (And.intro hT (And.intro hm5 (And.intro hdd (And.intro hV (And.intro hPV (And.intro (hM1.trans hM2) (And.intro (hbox.le hM2) (hx'.le (hM1.trans hM2))))))))))
  clear hd hT hm1 hm2 hm3 hm4 hm5 hp hp2 hdd hV hPV hM1 hM2 hbox hx' hx hm4' hp2' H H1 H1' H2 H2' hrow hsm
  go_enter Tryz.func4, Tryz.ntmps4
  go_wp2_with (refine wpList_load_mid (by rfl) 32 (.tmp 1) (by rfl) w.heap.size 0 (by rfl) [.int .u64 (T : Int), V, .bool dr, PV] _ RG1.out Tryz.underlying32 rfl (by exact Tryz.sizeDo) ?_)
  refine HSM.out.mono ?_
  rintro e w2 ⟨b, rfl, hb, H3⟩
  clear HSM RG1
  cases b with
  | false =>
    have HAW := Lib.hid (awake_any H3 HD.out.2.2.2.2.2.2.2.2)
    clear H3 hb
    go_wp2_with fail
    refine HAW.out.mono ?_
    rintro e w3 ⟨M', rfl, hM, H4⟩
    go_wp2
    go_ret
    exact ⟨rfl, H4.below⟩
  | true =>
    obtain ⟨-, hs⟩ := hb rfl
    have hs := hs _ (List.mem_singleton.2 rfl)
    have hmild : Mild T m.l := ⟨HD.out.2.1, by have := HD.out.1.1.1; have := hs.2.1; dsimp only at *; omega, fun q hq => ⟨by have := hs.2.2 q hq; omega, HD.out.2.2.1 q hq⟩⟩
    have HMI := Lib.hid (And.intro hmild hs)
    have HF := Lib.hid (fresh_any H3 (n := 10) (.inl rfl))
    generalize w.heap.size = gb at *
    clear hb hs hmild H3
    go_wp2_with fail
    refine HF.out.mono ?_
    rintro e w3 ⟨f1, t1, s1, g1, mb1, D1, M3, rfl, hM3, hct1, -, K, hsi⟩
    have K3 := RetFresh.kc K hsi
    have HF2 := Lib.hid (freshK K3)
    have H3' := Lib.hid (And.intro hM3 hct1)
    clear K hsi K3 HF hM3 hct1
    go_wp2_with fail
    refine HF2.out.mono ?_
    rintro e w4 ⟨f2, t2, s2, M4, rfl, hM4, hct2, hfr, K4⟩
    have hle4 := H3'.out.1.trans hM4
    have hne := hfr _ _ H3'.out.2
    obtain ⟨M5, hM5, K5, hz⟩ := K4.new [.pointer none, .int .u64 0] 60
    have hle5 := hle4.trans hM5
    -- what holds from here on
    have HG := Lib.hid (And.intro (HD.out.2.2.2.2.2.2.2.1.le hle5) (And.intro hz (And.intro (HD.out.2.2.2.2.2.2.2.2.le hle5) (And.intro (H3'.out.2.le (hM4.trans hM5)) (And.intro (hct2.le hM5) (And.intro hne (HD.out.1.le (HD.out.2.2.2.2.2.2.1.trans hle5))))))))
    clear hM4 hct2 hfr hle4 hM5 hle5 hz hne K4 H3' HF2
    have RZ := Lib.hid (K5.rg HG.out.2.1)
    have c1 := (Wd.In.now HG.out.1 K5.rest).cell 1
    simp only [List.getElem?_cons_zero, List.getElem?_cons_succ] at c1
    have hge := callsK K5 fun Z h => cget_nil h HG.out.2.2.1 0 HG.out.2.2.2.2.2.2.1 ⟨by decide, HMI.out.1.2⟩
    unfold capV at hge
    simp only [Option.map_none] at hge
    rw [← HD.out.2.2.2.2.1] at hge
    have HGE := Lib.hid hge
    clear hge K5
    go_wp2_with (refine wpList_load_mid (by rfl) 60 (.tmp 9) (by rfl) w4.heap.size 0 (by rfl) [.pointer none, .int .u64 0] _ RZ.out Tryz.underlying60 rfl (by exact Tryz.sizeCap) ?_)
    refine HGE.out.mono ?_
    rintro e w5 ⟨rfl, K6⟩
    have HCO := Lib.hid copen_nil
    clear RZ c1 HGE
    go_wp2_with fail
    refine (HCO.out _).mono ?_
    rintro e w6 ⟨rfl, rfl⟩
    generalize w4.heap.size = gz at *
    have hdds : dds [⟨T, m, dr, p⟩] = [.int .u64 (T : Int), V, .bool dr, PV] := by unfold dds; rw [List.flatMap_cons, List.flatMap_nil, List.append_nil, HD.out.2.2.2.1]
    have RB := Lib.hid (K6.rg HG.out.1)
    obtain ⟨M6, hM6, K7, hrow⟩ := K6.lit [.int .u64 (T : Int), V, .bool dr, PV] 32 4 1 rfl (by decide)
    rw [← hdds] at hrow
    have hwr := writesK (c := 1) (n := 1) (l := [⟨T, m, dr, p⟩]) K7 (HG.out.2.2.2.2.1.le hM6) rfl hrow (fun d h => by
      rw [List.mem_singleton.1 h]
      exact ⟨HG.out.2.2.2.2.2.2.le hM6, by have := HMI.out.2.2.1; dsimp only at *; omega, by have := HMI.out.2.1; dsimp only at *; omega⟩) (by decide)
    have HW := Lib.hid hwr
    have HM6 := Lib.hid hM6
    clear hwr hrow hdds K7 K6 hM6 HCO
    go_wp2_with (refine wpList_load_mid (by rfl) 32 (.tmp 1) (by rfl) gb 0 (by rfl) [.int .u64 (T : Int), V, .bool dr, PV] _ RB.out Tryz.underlying32 rfl (by exact Tryz.sizeDo) ?_)
    refine HW.out.mono ?_
    rintro e w7 ⟨B, d, ws, M7, rfl, hab, hM7, hws, hwr, K8⟩
    clear HW RB
    obtain ⟨a, rfl⟩ : ∃ a, ws = [a] := by
      cases ws with
      | nil => cases hab
      | cons a r => cases r with
        | nil => exact ⟨a, rfl⟩
        | cons b r => simp at hab
    have ha : Wt.ab a = Dd.wr t2 ⟨T, m, dr, p⟩ := by simpa using hab
    have ha1 : a.s = some t2 := congrArg Prod.fst ha
    have ha2 : a.T = T := congrArg (·.2.1) ha
    have ha3 : a.m.l = m.l := congrArg (·.2.2.1) ha
    have hM57 := HM6.out.trans hM7
    have hap := capplyK (c := d) (n := 1) K8 (HG.out.2.2.1.le hM57) (HG.out.2.2.2.1.le hM57) rfl hwr (fun x h => by
      rw [List.mem_singleton.1 h]
      exact ⟨hws a (by simp), (by rw [ha2, ha3]; exact HMI.out.1), .inr (.inr ⟨t2, s2, ha1, fun h => HG.out.2.2.2.2.2.1 h.symm, HG.out.2.2.2.2.1.le hM57⟩)⟩) (by decide)
    rw [Cp.done_bad (Wt.bad_none t1 (by rw [ha1]; intro h; injection h with h; exact HG.out.2.2.2.2.2.1 h.symm))] at hap
    have HAP := Lib.hid hap
    have HM7 := Lib.hid hM57
    clear hap hM57 ha ha1 ha2 ha3 hab hM7 hws hwr K8 HM6
    go_wp2_with fail
    refine HAP.out.mono ?_
    rintro e w8 ⟨M8, hM8, rfl, K9⟩
    have hM8' := HM7.out.trans hM8
    have RZ := Lib.hid (K9.rg (Wd.In.le HG.out.2.1 hM8'))
    have c1 := (Wd.In.now (Wd.In.le HG.out.1 hM8') K9.rest).cell 1
    simp only [List.getElem?_cons_zero, List.getElem?_cons_succ] at c1
    have hdr := dropK K9 none 0 (HG.out.2.2.2.2.2.2.1.le hM8') (by have := HMI.out.2.2.1; dsimp only at *; omega)
    unfold capV at hdr
    simp only [Option.map_none] at hdr
    rw [← HD.out.2.2.2.2.1] at hdr
    have HDR := Lib.hid hdr
    have HM8 := Lib.hid hM8'
    clear hdr hM8' hM8 K9 HM7 HAP
    go_wp2_with (refine wpList_load_g (by rfl) 60 (.tmp 9) (by rfl) gz 0 (by rfl) [.pointer none, .int .u64 0] _ RZ.out Tryz.underlying60 rfl (by exact Tryz.sizeCap) ?_)
    refine HDR.out.mono ?_
    rintro e w9 ⟨⟨q2, T2, ⟨A2, n2, c2, l2⟩, b2, ⟨PA2, pn2, pc2, pl2⟩⟩, M9, rfl, hq, hT2, hl2, hM9, hin9, K10⟩
    dsimp only at hq hT2 hl2
    subst hq
    subst hT2
    unfold wt Nm.v Pc.v
    simp only [Option.map_none]
    obtain ⟨M10, hM10, K11, hrow⟩ := K10.lit [.pointer none, .int .u64 ((0 : Nat) : Int), .slice A2 n2 c2, .bool b2, .slice PA2 pn2 pc2] 64 5 1 rfl (by decide)
    have hM10' := HM8.out.trans (hM9.trans hM10)
    have hap := capplyK (c := 1) (n := 1) (ws := [⟨none, 0, ⟨A2, n2, c2, l2⟩, b2, ⟨PA2, pn2, pc2, pl2⟩⟩]) K11 (HG.out.2.2.1.le hM10') (HG.out.2.2.2.1.le hM10') rfl hrow (fun x h => by
      rw [List.mem_singleton.1 h]
      exact ⟨hin9.le hM10, ⟨(by show 0 < 18446744073709551616; decide), by show l2.length ≤ 1000; rw [hl2]; exact HMI.out.1.2.1, by show ∀ p ∈ l2, _; rw [hl2]; exact HMI.out.1.2.2⟩, .inl rfl⟩) (by decide)
    rw [Cp.done_bad (Wt.bad_none t1 (by intro h; cases h))] at hap
    have HAP := Lib.hid hap
    have HM10 := Lib.hid hM10'
    clear hap hM10' hM10 hM9 hin9 hl2 K11 K10 hrow HDR RZ c1 HM8
    go_wp2_with fail
    refine HAP.out.mono ?_
    rintro e w10 ⟨M11, hM11, rfl, K12⟩
    obtain ⟨M12, hM12, K13, hrow⟩ := K12.lit [.pointer none, .int .u64 ((0 : Nat) : Int), .slice none 0 0, .bool false, .slice none 0 0] 64 5 1 rfl (by decide)
    have hM12' := HM10.out.trans (hM11.trans hM12)
    have hap := capplyK (c := 1) (n := 1) (ws := [⟨none, 0, ⟨none, 0, 0, []⟩, false, ⟨none, 0, 0, []⟩⟩]) K13 (HG.out.2.2.1.le hM12') (HG.out.2.2.2.1.le hM12') rfl hrow (fun x h => by
      rw [List.mem_singleton.1 h]
      exact ⟨⟨Nm.nil _, ⟨rfl, fun _ => rfl, Nat.le_refl _⟩, fun W _ h => absurd rfl h⟩, Cp.mild0 (by decide), .inl rfl⟩) (by decide)
    rw [Cp.done_bad (Wt.bad_none t1 (by intro h; cases h))] at hap
    have HAP2 := Lib.hid hap
    have HM12 := Lib.hid hM12'
    clear hap hM12' hM12 hM11 K13 K12 hrow HAP HM10
    go_wp2_with fail
    refine HAP2.out.mono ?_
    rintro e w11 ⟨M13, hM13, rfl, K14⟩
    have hM := HM12.out.trans hM13
    have HX := Lib.hid (And.intro hM (And.intro (HG.out.2.2.1.le hM) (HG.out.2.2.2.1.le hM)))
    have HZ := Lib.hid (And.intro (Wd.In.le HG.out.2.1 hM) (Wd.In.le HG.out.1 hM))
    have RZ := Lib.hid (K14.rg HZ.out.1)
    have hli := callsK K14 fun Z h => clist_nil h HX.out.2.1 0 (Nm.nil M13) (Cp.mild0 (by decide))
    unfold capV at hli
    simp only [Option.map_none] at hli
    have HL := Lib.hid hli
    clear hli hM hM13 K14 HAP2 HM12
    go_wp2_with (refine wpList_load_g (by rfl) 60 (.tmp 9) (by rfl) gz 0 (by rfl) [.pointer none, .int .u64 0] _ RZ.out Tryz.underlying60 rfl (by exact Tryz.sizeCap) ?_)
    refine HL.out.mono ?_
    rintro e w12 ⟨rfl, K15⟩
    have RZ2 := Lib.hid (K15.rg HZ.out.1)
    have hte := tenantK K15 none 0
    unfold capV at hte
    simp only [Option.map_none] at hte
    have HT := Lib.hid hte
    clear hte K15 HL RZ
    go_wp2_with (refine wpList_load_g (by rfl) 60 (.tmp 9) (by rfl) gz 0 (by rfl) [.pointer none, .int .u64 0] _ RZ2.out Tryz.underlying60 rfl (by exact Tryz.sizeCap) ?_)
    refine HT.out.mono ?_
    rintro e w13 ⟨rfl, K16⟩
    have HN := Lib.hid (callsK K16 fun Z h => capply_nil h (.slice none 0 0))
    clear K16 HT RZ2
    go_wp2_with fail
    refine HN.out.mono ?_
    rintro e w14 ⟨rfl, K17⟩
    have HTN := Lib.hid ctens_nil
    clear HN
    go_wp2_with fail
    refine (HTN.out _).mono ?_
    rintro e w15 ⟨rfl, rfl⟩
    have HGN := Lib.hid (callsK K17 fun Z h => grant_nil h 3)
    clear K17 HTN
    go_wp2_with fail
    refine HGN.out.mono ?_
    rintro e w16 ⟨rfl, K18⟩
    have HL := Lib.hid (callsK K18 fun Z h => clist_nil h HX.out.2.1 0 (Nm.nil M13) (Cp.mild0 (by decide)))
    clear K18 HGN
    go_wp2_with fail
    refine HL.out.mono ?_
    rintro e w17 ⟨rfl, K19⟩
    have c0 := (Wd.In.now HZ.out.2 K19.rest).cell 0
    simp only [List.getElem?_cons_zero] at c0
    have HGR := Lib.hid (grantK K19 HX.out.2.2 T)
    clear K19 HL
    go_wp2_with fail
    refine HGR.out.mono ?_
    rintro e w18 ⟨rfl, K20⟩
    have HL := Lib.hid (clist_any K20 HX.out.2.1 HX.out.2.2 T (Nm.nil M13) (Cp.mild0 HD.out.2.1))
    clear K20 HGR c0
    go_wp2_with fail
    refine HL.out.mono ?_
    rintro e w19 ⟨A5, n5, c5, is, M14, rfl, hM14, hit, hmap, K21⟩
    obtain rfl : n5 = 0 := by
      have h1 : is.map It.ab = [] := by rw [hmap]; exact Cp.list_nil T
      have h2 := hit.1
      have h3 : is = [] := List.map_eq_nil_iff.1 h1
      rw [h2, h3]; rfl
    have HAW := Lib.hid (awakeK K21 (HX.out.2.1.le hM14))
    clear hM14 hit hmap K21 HL
    go_wp2_with fail
    refine HAW.out.mono ?_
    rintro e w20 ⟨M15, rfl, hM15, K22⟩
    go_wp2
    go_ret
    exact ⟨rfl, K22.rest.below⟩
end
end Go.Proofs.YtepgmebklhemgaaGreatDoor
