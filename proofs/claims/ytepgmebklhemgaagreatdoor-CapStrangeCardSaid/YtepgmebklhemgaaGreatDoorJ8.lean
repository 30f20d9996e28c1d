/- The partitions in which something is set. -/
import Derived.Test.YtepgmebklhemgaaGreatDoorJ7
import Derived.Lib.SlBytesConst
set_option linter.unusedVariables false
set_option linter.unusedSimpArgs false
namespace Go.Proofs.YtepgmebklhemgaaGreatDoor
open Go.RowKit Wd
def uv (l : List Nat) : List Value := l.map fun (t : Nat) => .int .u64 (t : Int)
theorem uv_length (l : List Nat) : (uv l).length = l.length := by simp [uv]
theorem uv_snoc (l : List Nat) (t : Nat) : uv (l ++ [t]) = uv l ++ [.int .u64 (t : Int)] := by simp [uv]
def Cp.addT (acc : List Nat) (t : Nat) : List Nat := if acc = [] ∨ acc.getLast? ≠ some t then acc ++ [t] else acc
def Cp.tens (l : List Nat) : List Nat := l.foldl Cp.addT []
theorem Cp.tens_snoc (l : List Nat) (t : Nat) : Cp.tens (l ++ [t]) = Cp.addT (Cp.tens l) t := by unfold Cp.tens; rw [List.foldl_append]; rfl
theorem Cp.addT_len (acc : List Nat) (t : Nat) : (Cp.addT acc t).length ≤ acc.length + 1 := by unfold Cp.addT; split <;> simp
theorem Cp.tens_lt {l : List Nat} {b : Nat} : (∀ t ∈ l, t < b) → ∀ t ∈ Cp.tens l, t < b := by
  have : ∀ (l acc : List Nat), (∀ t ∈ l, t < b) → (∀ t ∈ acc, t < b) → ∀ t ∈ l.foldl Cp.addT acc, t < b := by
    intro l
    induction l with
    | nil => intro acc _ h; exact h
    | cons a l ih =>
      intro acc hl hacc
      refine ih _ (fun t ht => hl t (by simp [ht])) fun t ht => ?_
      unfold Cp.addT at ht
      split at ht
      · rcases List.mem_append.1 ht with ht | ht
        · exact hacc t ht
        · rw [List.mem_singleton.1 ht]; exact hl a (by simp)
      · exact hacc t ht
  exact fun h => this l [] h fun t ht => by cases ht
noncomputable def Cp.tenants (L : List Kv.Pr) : List Nat := Cp.tens (L.map fun p => (Cp.tn p.1).1)
def RetTens (w0 : World) (M : Mem) (s f : Nat) (S : Kv.RS) (L : List Ent) (l : List Nat) (e : Ending) (w' : World) : Prop :=
  ∃ A c M', e = .returned (.slice A l.length c) ∧ M.le M' ∧ In M' (RA · A (uv l)) ∧ KC w0 w' M' s f S L
section
variable {w0 w : World} {M : Mem} {L : List Ent} {t s f : Nat} {S : Kv.RS}
set_option maxRecDepth 100000 in
theorem ctens_nil (w : World) : Calls Tryz.prog 17 #[.pointer none] w fun e w' => e = .returned (.slice none 0 0) ∧ w = w' := by
  have HI := Lib.hid cis_nil
  go_enter Tryz.func17, Tryz.ntmps17
  go_wp2_with fail
  refine (HI.out _).mono ?_
  rintro e w2 ⟨rfl, rfl⟩
  go_wp2
  go_ret
  exact ⟨rfl, rfl⟩
set_option maxRecDepth 100000 in
set_option maxHeartbeats 4000000 in
theorem ctens_any (H : KC w0 w M s f S L) (hct : CapAt M t s) :
    Calls Tryz.prog 17 #[.pointer (some ⟨t, 0, none⟩)] w (RetTens w0 M s f S L (Cp.tenants S.L)) := by
  obtain ⟨K, hg⟩ := H
  have hok := K.okP
  have ct := hct.c0 K.rest
  have HI := Lib.hid (cis_any K.rest hct)
  have HS := Lib.hid (scanP_any K [])
  have HH := Lib.hid (And.intro hg (And.intro hct hok))
  obtain ⟨O, hO⟩ : ∃ O, O = Cp.tenants S.L := ⟨_, rfl⟩
  rw [← hO]
  have HO := Lib.hid hO
  clear hg hct hok K hO
  go_enter Tryz.func17, Tryz.ntmps17
  go_wp2_with fail
  refine HI.out.mono ?_
  rintro e w1 ⟨rfl, rfl⟩
  clear HI
  go_wp2_with fail
  refine HS.out.mono ?_
  rintro e w5 ⟨A5, n5, c5, ps, M5, rfl, hM5, hps, hpl, K5⟩
  rw [Kv.scan_all] at hpl
  obtain ⟨Z5, h5, hb5, hb6⟩ := K5.out
  have hn : n5 = ps.length := hps.1
  have hmm : ∀ p ∈ ps, p.pr ∈ S.L := fun p hp => by rw [← hpl]; exact List.mem_map.2 ⟨p, hp, rfl⟩
  have hnb5 : n5 ≤ 1000000 := by
    have h1 := congrArg List.length hpl
    have h2 := HH.out.2.2.2
    rw [List.length_map] at h1
    omega
  have HX := Lib.hid (And.intro hM5 (And.intro hps (And.intro hpl (And.intro hb5 (And.intro hb6 (And.intro hmm hn))))))
  have H6 := h5.addNil 23 1
  clear hM5 hps hpl hb5 hb6 hmm hn K5 HS h5 ct
  go_wp2_with fail
  go_loopw [3, 18] (fun v i wr => ∃ (k m d : Nat) (B : Option Addr) (ts : List Nat) (M' : Mem), k ≤ n5 ∧ i = .int .i64 k ∧ v = .slice B m d ∧ M5.le M' ∧ ts = Cp.tens ((ps.take k).map fun p => (Cp.tn p.key).1) ∧ m = ts.length ∧ m ≤ k ∧ St w0 wr M' (er 23 1 (.slice B m d) m (uv ts) :: Z5)) (fun v i _ => n5 - (intOf i).toNat)
  case atStart => exact ⟨0, 0, 0, none, [], M5, by omega, rfl, rfl, Mem.le.refl _, rfl, rfl, Nat.le_refl _, H6⟩
  case round =>
    clear H6
    obtain ⟨k, m, d, B, ts, M', hk, rfl, rfl, hM, hts, hm, hmk, H1⟩ := hrel
    by_cases hlt : k < n5
    · have hk1 : k < ps.length := by have := HX.out.2.2.2.2.2.2; omega
      obtain ⟨b, o, rfl, hc⟩ := pas_cells HX.out.2.1 hM H1 k hk1
      have hmem := HX.out.2.2.2.2.2.1 _ (List.getElem_mem hk1)
      have hta : ps.take (k + 1) = ps.take k ++ [ps[k]] := List.take_succ_eq_append_getElem hk1
      have hrg := hc _ M' _ hM H1
      obtain ⟨q, hq⟩ : ∃ q, q = ps[k] := ⟨_, rfl⟩
      rw [← hq] at hta hrg hmem
      obtain ⟨key, ⟨PA, pn, pc, pl⟩⟩ := q
      have hkl : key.length ≤ 1024 := (HH.out.2.2.1 _ hmem).2.1
      obtain ⟨T0, l0, hown⟩ := HH.out.1 _ hmem
      replace hown : Cp.OwnK key T0 l0 := hown
      have ht2 : Cp.tens ((ps.take (k + 1)).map fun p => (Cp.tn p.key).1) = Cp.addT ts T0 := by
        rw [hta, List.map_append, List.map_cons, List.map_nil, Cp.tens_snoc, ← hts, Cp.tn_eq hown]
      unfold pa Pc.v at hrg
      dsimp only at hrg
      have H2 := H1.new [.string (str key), .slice PA pn pc] 115
      have HO2 := Lib.hid (own_any H2 key hkl)
      have HR := Lib.hid hrg
      have HKK := Lib.hid (And.intro hlt (And.intro hM (And.intro hm (And.intro ht2 (And.intro hmk hown)))))
      have q1 : (k : Int) < (n5 : Int) := by omega
      clear hkl hrg hlt hM hta hmem hk1 hq hc hk hts hm hmk hown ht2
      go_wp2_with (refine wpList_load_mid (by rfl) 115 (.tmp 20) (by rfl) b (o + k * 2) (by rfl) [.string (str key), .slice PA pn pc] _ HR.out Tryz.underlying115 rfl (by exact Tryz.sizePair) ?_)
      refine HO2.out.mono ?_
      rintro e w6 (⟨T, nm, M6, hown, rfl, hM6, hnm, H3⟩ | ⟨hno, -⟩)
      · obtain ⟨rfl, -⟩ := hown.one HKK.out.2.2.2.2.2
        have H4 := H3.d0
        have HY := Lib.hid hM6
        have hM'' := HKK.out.2.1.trans hM6
        clear hown hnm HO2 HR H2 H1 hM6 H3
        -- the partition is appended
        have hap : (ts = [] ∨ ts.getLast? ≠ some T) → Cp.addT ts T = ts ++ [T] := fun h => by unfold Cp.addT; rw [if_pos h]
        have hnap : ¬ (ts = [] ∨ ts.getLast? ≠ some T) → Cp.addT ts T = ts := fun h => by unfold Cp.addT; rw [if_neg h]
        by_cases h0 : ts = []
        · subst h0
          obtain rfl : m = 0 := HKK.out.2.2.1
          have HA := Lib.hid (hap (.inl rfl))
          have H5 := H4.alloc (.cells #[.int .u64 (T : Int)] 23)
          have hra : RA (w6.alloc (.cells #[.int .u64 (T : Int)] 23)) (some ⟨w6.heap.size, 0, none⟩) [.int .u64 (T : Int)] := fun _ => ⟨_, 0, rfl, (Blk.new w6 23 [.int .u64 (T : Int)]).lt, (Blk.new w6 23 [.int .u64 (T : Int)]).range 0 1 _ rfl⟩
          have HRA := Lib.hid hra
          have HM := Lib.hid hM''
          clear hra hap hnap H4 hM''
          go_wp2_with (at_builtin; refine wpList_append_any_st H5 (by rfl) (.tmp 42) (.tmp 44) 53 (by rfl) Tryz.infoU64 (by rfl) (by decide) Tryz.underlying53 (by rfl) (some ⟨w6.heap.size, 0, none⟩) 1 1 [.int .u64 (T : Int)] (by rfl) rfl (by rintro ⟨⟩) HRA.out (by simp [Value.oneCell']) (by omega) (by omega) ?_; intro v2 w7 H7)
          obtain ⟨B9, d9, rfl, -⟩ := H7.shape 0 rfl
          clear HRA H5
          go_wp2
          exact ⟨⟨k + 1, 1, d9, B9, [T], M6, by have := HKK.out.1; omega, by go_num, rfl, HM.out, by rw [HKK.out.2.2.2.1, HA.out]; rfl, rfl, by omega, H7⟩, by have := HKK.out.1; simp [intOf]; omega⟩
        · obtain ⟨m1, hm1⟩ : ∃ m1, ts.length = m1 + 1 := by
            cases ts with
            | nil => exact absurd rfl h0
            | cons a r => exact ⟨r.length, rfl⟩
          have hml : m = m1 + 1 := HKK.out.2.2.1.trans hm1
          have hgl : ts.getLast? = some (ts[m1]'(by omega)) := by
            rw [List.getLast?_eq_getElem?]
            have h9 : ts.length - 1 = m1 := by omega
            simp only [h9]
            exact List.getElem?_eq_getElem _
          obtain ⟨b2, o2, rfl, hcl⟩ := SrA.at (SrA.now (SrA.row 0 rfl : SrA w0 M6 _ B (uv ts)) H4) m1 (by rw [uv_length]; omega)
          obtain ⟨X, hX⟩ : ∃ X, X = ts[m1]'(by omega) := ⟨_, rfl⟩
          have hcl2 : w6.cell? ⟨b2, o2 + m1, none⟩ = some (.int .u64 (X : Int)) := by rw [hcl, hX]; simp [uv]
          rw [← hX] at hgl
          have e1 : (m : Int) - 1 = (m1 : Int) := by omega
          have e2 : ¬ (m : Int) = 0 := by omega
          have eb1 : ((m : Int) == 0) = false := beq_eq_false_iff_ne.2 e2
          have e3 : (m1 : Int) < (m : Int) := by omega
          have hmb : m ≤ 1000000 := by have := HKK.out.2.2.2.2.1; have := HKK.out.1; omega
          by_cases hXT : X = T
          · subst hXT
            have HA := Lib.hid (hnap (by rw [hgl]; simp [h0]))
            have HM := Lib.hid hM''
            clear hap hnap hM'' hcl hX hgl hm1 hml
            go_wp2
            exact ⟨⟨k + 1, m, d, some ⟨b2, o2, none⟩, ts, M6, by have := HKK.out.1; omega, by go_num, rfl, HM.out, by rw [HKK.out.2.2.2.1, HA.out], HKK.out.2.2.1, by have := HKK.out.2.2.2.2.1; omega, H4⟩, by have := HKK.out.1; simp [intOf]; omega⟩
          · have HA := Lib.hid (hap (.inr (by rw [hgl]; intro h; injection h with h; exact hXT h)))
            have hXT' : ¬ (X : Int) = (T : Int) := by omega
            have ebx : ((X : Int) == (T : Int)) = false := beq_eq_false_iff_ne.2 hXT'
            have H5 := H4.alloc (.cells #[.int .u64 (T : Int)] 23)
            have hra : RA (w6.alloc (.cells #[.int .u64 (T : Int)] 23)) (some ⟨w6.heap.size, 0, none⟩) [.int .u64 (T : Int)] := fun _ => ⟨_, 0, rfl, (Blk.new w6 23 [.int .u64 (T : Int)]).lt, (Blk.new w6 23 [.int .u64 (T : Int)]).range 0 1 _ rfl⟩
            have HRA := Lib.hid hra
            have HM := Lib.hid hM''
            clear hra hap hnap H4 hM'' hcl hX hgl hm1 hml
            go_wp2_with (at_builtin; refine wpList_append_any_st H5 (by rfl) (.tmp 42) (.tmp 44) 53 (by rfl) Tryz.infoU64 (by rfl) (by decide) Tryz.underlying53 (by rfl) (some ⟨w6.heap.size, 0, none⟩) 1 1 [.int .u64 (T : Int)] (by rfl) rfl (by rintro ⟨⟩) HRA.out (by simp [Value.oneCell']) (by omega) (by omega) ?_; intro v2 w7 H7)
            obtain ⟨B9, d9, rfl, -⟩ := H7.shape 0 rfl
            clear HRA H5
            go_wp2
            exact ⟨⟨k + 1, m + 1, d9, B9, ts ++ [T], M6, by have := HKK.out.1; omega, by go_num, rfl, HM.out, by rw [HKK.out.2.2.2.1, HA.out], by rw [List.length_append, ← HKK.out.2.2.1]; rfl, by have := HKK.out.2.2.2.2.1; omega, by rw [uv_snoc]; exact H7⟩, by have := HKK.out.1; simp [intOf]; omega⟩
      · exact absurd HKK.out.2.2.2.2.2 (hno _ _)
    · obtain rfl : k = n5 := by omega
      rw [HX.out.2.2.2.2.2.2, List.take_length] at hts
      have hO : O = ts := by
        rw [HO.out, hts]
        unfold Cp.tenants
        rw [← HX.out.2.2.1, List.map_map]
        rfl
      have K7 := HX.out.2.2.2.2.1 _ _ _ hM H1
      obtain ⟨M8, hM8, K8, hin8⟩ := K7.keepA
      have HW := Lib.hid (And.intro hM (And.intro hM8 (And.intro K8 (And.intro hin8 (And.intro hO hm)))))
      clear hM hM8 K8 hin8 hO hm K7 H1 hts hlt hmk
      go_wp2
      go_ret
      obtain ⟨hM, hM8, K8, hin8, hO, hm⟩ := HW.out
      rw [hO]
      exact ⟨B, d, M8, by rw [← hm]; rfl, HX.out.1.trans (hM.trans hM8), hin8, K8, HH.out.1⟩
end
end Go.Proofs.YtepgmebklhemgaaGreatDoor
/- All keys stay names in partitions; what is asked of awake's store. -/
set_option linter.unusedVariables false
set_option linter.unusedSimpArgs false
namespace Go.Proofs.YtepgmebklhemgaaGreatDoor
open Go.RowKit Wd
theorem Kv.turn1_mem {l : List Kv.Pr} {a : Kv.Act} {p : Kv.Pr} (h : p ∈ Kv.turn1 l a) : p ∈ l ∨ (a.set = true ∧ p = (a.key, a.data)) := by
  unfold Kv.turn1 Kv.mid at h
  rcases List.mem_append.1 h with h | h
  · rcases List.mem_append.1 h with h | h
    · exact .inl (List.mem_of_mem_take h)
    · split at h
      · rename_i hs
        exact .inr ⟨hs, List.mem_singleton.1 h⟩
      · cases h
  · exact .inl (List.mem_of_mem_drop h)
theorem Kv.turn_mem : ∀ (acts : List Kv.Act) {l : List Kv.Pr} {p : Kv.Pr}, p ∈ Kv.turn l acts → p ∈ l ∨ ∃ a ∈ acts, a.set = true ∧ p = (a.key, a.data)
  | [], l, p, h => .inl h
  | a :: r, l, p, h => by
    have h : p ∈ Kv.turn (Kv.turn1 l a) r := h
    rcases Kv.turn_mem r h with h | ⟨b, hb, h1, h2⟩
    · rcases Kv.turn1_mem h with h | h
      · exact .inl h
      · exact .inr ⟨a, by simp, h⟩
    · exact .inr ⟨b, by simp [hb], h1, h2⟩
theorem Kv.apply_L (S : Kv.RS) (l : List Kv.Act) : (S.apply l).1.L = S.L ∨ (S.apply l).1.L = Kv.turn S.L l := by
  unfold Kv.RS.apply
  split
  · exact .inl rfl
  · split
    · exact .inr rfl
    · split
      · exact .inl rfl
      · exact .inr rfl
theorem Cp.good_apply {S : Kv.RS} {l : List Kv.Act} (h : Cp.Good S.L) (hl : ∀ a ∈ l, ∃ T n, Cp.OwnK a.key T n) : Cp.Good (S.apply l).1.L := by
  rcases Kv.apply_L S l with e | e <;> rw [e]
  · exact h
  · intro p hp
    rcases Kv.turn_mem l hp with hp | ⟨a, ha, -, rfl⟩
    · exact h p hp
    · exact hl a ha
theorem Cp.err_zero {t : Nat} {ws : List Wt} (h : Cp.err t ws = 0) : ∀ a ∈ ws, Cp.kerr a.T a.m.l = 0 := by
  unfold Cp.err at h
  split at h
  · cases h
  · exact fun a ha => (Cp.first_zero _).1 h _ (List.mem_map.2 ⟨a, ha, rfl⟩)
theorem Cp.good_done {S : Kv.RS} {t : Nat} {ws : List Wt} (h : Cp.Good S.L) (hm : ∀ a ∈ ws, Mild a.T a.m.l) : Cp.Good (Cp.done S t ws).1.L := by
  unfold Cp.done
  split
  · exact h
  · rename_i he
    refine Cp.good_apply h fun a ha => ?_
    obtain ⟨b, hb, rfl⟩ := List.mem_map.1 ha
    exact ⟨_, _, (Cp.own_key (hm b hb) (Cp.err_zero (by simpa using he) b hb)).1⟩
section
variable {w0 w : World} {M : Mem} {L : List Ent} {t s f : Nat} {S : Kv.RS}
def RetKC (w0 : World) (M : Mem) (s f : Nat) (L : List Ent) (r : Kv.RS × Int) (e : Ending) (w' : World) : Prop := ∃ M', M.le M' ∧ e = .returned (.int .i64 r.2) ∧ KC w0 w' M' s f r.1 L
theorem capplyK (H : KC w0 w M s f S L) (hx : In M Tp.MaxI) (ht : CapAt M t s) {A : Option Addr} {c n : Nat} {ws : List Wt} (hn : n = ws.length) (hl : In M (RA · A (wts ws))) (hi : ∀ a ∈ ws, Wt.may M t a) (hn2 : n ≤ 100000) :
    Calls Tryz.prog 13 #[.pointer (some ⟨t, 0, none⟩), .slice A n c] w (RetKC w0 M s f L (Cp.done S t ws)) := by
  obtain ⟨⟨g, mb, F, gen, ls, en, D, K, hsi, hc⟩, hg⟩ := H
  refine (capply_any K hsi hc hx ht hn hl hi hn2).mono ?_
  rintro e w' ⟨mb', F', gen', ls', en', D', M', hM, he, K', hsi', hc'⟩
  exact ⟨M', hM, he, ⟨_, mb', F', gen', ls', en', D', K', hsi', hc'⟩, Cp.good_done hg fun a ha => (hi a ha).2.1⟩
end
/-! ### What awake asks -/
def Cp.n1 : List Tu.Part := [⟨[], 1, false⟩, ⟨[97], 0, true⟩]
theorem Cp.digs_small {n : Nat} (h0 : n ≠ 0) (h : n < 256) : Tu.digs n = [UInt8.ofNat n] := by
  rw [Tu.digs_pos h0, Nat.div_eq_of_lt h, Tu.digs_zero]; rfl
theorem Cp.enc7 : Tu.enc (Cp.full 7 Cp.n1) = [17, 7, 17, 1, 32, 97, 0, 1] := by
  simp [Cp.full, Cp.n1, Tu.enc, Tu.one, Cp.digs_small, Tu.esc]
theorem Cp.enc8 : Tu.enc (Cp.full 8 Cp.n1) = [17, 8, 17, 1, 32, 97, 0, 1] := by
  simp [Cp.full, Cp.n1, Tu.enc, Tu.one, Cp.digs_small, Tu.esc]
theorem Cp.enc70 : Tu.enc (Cp.full 7 []) = [17, 7] := by
  simp [Cp.full, Tu.enc, Tu.one, Cp.digs_small]
theorem Cp.chk7 : Tu.check (Cp.full 7 Cp.n1) = 0 := by
  unfold Tu.check
  rw [Cp.enc7]
  rfl
theorem Cp.chk8 : Tu.check (Cp.full 8 Cp.n1) = 0 := by
  unfold Tu.check
  rw [Cp.enc8]
  rfl
theorem Cp.chk70 : Tu.check (Cp.full 7 []) = 0 := by
  unfold Tu.check
  rw [Cp.enc70]
  rfl
theorem Cp.kerr7 : Cp.kerr 7 Cp.n1 = 0 := by
  unfold Cp.kerr
  rw [if_neg (by simp [Cp.n1]), Cp.chk7]
theorem Cp.kerr8 : Cp.kerr 8 Cp.n1 = 0 := by
  unfold Cp.kerr
  rw [if_neg (by simp [Cp.n1]), Cp.chk8]
theorem Cp.key7 : Cp.key 7 Cp.n1 = [17, 7, 17, 1, 32, 97, 0, 1] := by
  unfold Cp.key Tp.encS
  rw [if_neg (by simp [Cp.n1]), Cp.chk7, if_pos rfl, Cp.enc7]
theorem Cp.key8 : Cp.key 8 Cp.n1 = [17, 8, 17, 1, 32, 97, 0, 1] := by
  unfold Cp.key Tp.encS
  rw [if_neg (by simp [Cp.n1]), Cp.chk8, if_pos rfl, Cp.enc8]
def Cp.k7 : List UInt8 := [17, 7, 17, 1, 32, 97, 0, 1]
theorem Cp.apply7 : ((Cp.S0 10).apply [⟨Cp.k7, true, [120]⟩]).2 = 0 ∧ ((Cp.S0 10).apply [⟨Cp.k7, true, [120]⟩]).1.L = [(Cp.k7, [120])] := by decide +kernel
theorem Cp.get7 : Cp.get [(Cp.k7, [120])] 7 Cp.n1 = some [120] := by
  unfold Cp.get
  rw [Cp.kerr7, Cp.key7]
  decide +kernel
theorem Cp.get8 : Cp.get [(Cp.k7, [120])] 8 Cp.n1 = none := by
  unfold Cp.get
  rw [Cp.kerr8, Cp.key8]
  decide +kernel
theorem Cp.list7 : (Cp.list [(Cp.k7, [120])] 7 []).length = 1 := by
  unfold Cp.list
  rw [Cp.chk70, Cp.enc70, if_neg (by simp), List.length_map]
  decide +kernel
theorem Cp.list_nil (T : Nat) : Cp.list [] T [] = [] := by
  unfold Cp.list
  split <;> rfl
end Go.Proofs.YtepgmebklhemgaaGreatDoor
/- The law's awake. -/
set_option linter.unusedVariables false
set_option linter.unusedSimpArgs false
namespace Go.Proofs.YtepgmebklhemgaaGreatDoor
open Go.RowKit Wd
def RetAw (w0 : World) (M : Mem) (L : List Ent) (e : Ending) (w' : World) : Prop := ∃ M', e = .returned (.bool true) ∧ M.le M' ∧ St w0 w' M' L
section
variable {w0 w : World} {M : Mem} {L : List Ent} {t s f : Nat} {S : Kv.RS}
theorem KC.rest (H : KC w0 w M s f S L) : St w0 w M L := H.1.rest
theorem callsK (H : KC w0 w M s f S L) {g : Nat} {args : Array Value} {P : Ending → Prop} (hc : ∀ Z, St w0 w M Z → Calls Tryz.prog g args w fun e w' => P e ∧ St w0 w' M Z) : Calls Tryz.prog g args w fun e w' => P e ∧ KC w0 w' M s f S L := by
  obtain ⟨K, hg⟩ := H
  obtain ⟨Z, h, hb, -⟩ := K.out
  exact (hc Z h).mono fun e w' ⟨h1, h2⟩ => ⟨h1, hb _ _ (Mem.le.refl _) h2, hg⟩
theorem grantK (H : KC w0 w M s f S L) (ht : CapAt M t s) (T : Nat) : Calls Tryz.prog 24 #[.pointer (some ⟨t, 0, none⟩), .int .u64 (T : Int)] w fun e w' => e = .returned (capV (some t) T) ∧ KC w0 w' M s f S L := callsK H fun Z h => grant_any h ht T
theorem tenantK (H : KC w0 w M s f S L) (p : Option Nat) (T : Nat) : Calls Tryz.prog 23 #[capV p T] w fun e w' => e = .returned (.int .u64 (T : Int)) ∧ KC w0 w' M s f S L := callsK H fun Z h => tenant_any h p T
theorem Nm.nil (M : Mem) : Nm.In M ⟨none, 0, 0, []⟩ := ⟨rfl, fun _ => rfl, Nat.le_refl _, fun W _ h => absurd rfl h⟩
theorem Cp.mild1 {T : Nat} (h : T < 18446744073709551616) : Mild T Cp.n1 := ⟨h, by decide, by decide⟩
theorem Cp.mild0 {T : Nat} (h : T < 18446744073709551616) : Mild T [] := ⟨h, by decide, fun p hp => by cases hp⟩
theorem Cp.done7 {t : Nat} {ws : List Wt} (h : ws.map Wt.ab = [(some t, 7, Cp.n1, true, [120])]) : Cp.done (Cp.S0 10) t ws = (Cp.S0 10).apply [⟨Cp.k7, true, [120]⟩] ∧ ∃ a, ws = [a] ∧ a.s = some t ∧ a.T = 7 ∧ a.m.l = Cp.n1 := by
  cases ws with
  | nil => cases h
  | cons a r =>
    cases r with
    | cons b r => simp at h
    | nil =>
      obtain ⟨sa, T, m, st, p⟩ := a
      unfold Wt.ab at h
      simp only [List.map_cons, List.map_nil, List.cons.injEq, Prod.mk.injEq, and_true] at h
      obtain ⟨rfl, rfl, h3, rfl, h5⟩ := h
      refine ⟨?_, _, rfl, rfl, rfl, h3⟩
      have h1 : Cp.err t [⟨some t, 7, m, true, p⟩] = 0 := by
        unfold Cp.err Wt.bad Wt.err
        simp only [List.any_cons, List.any_nil, List.map_cons, List.map_nil, h3, Cp.kerr7]
        simp [Cp.first]
      unfold Cp.done
      rw [h1, if_neg (by decide)]
      unfold Wt.act
      simp only [List.map_cons, List.map_nil, h3, h5, Cp.key7]
      rfl
set_option maxRecDepth 100000 in
set_option maxHeartbeats 4000000 in
theorem awake_any (H : St w0 w M L) (hx : In M Tp.MaxI) : Calls Tryz.prog 8 #[] w (RetAw w0 M L) := by
  have hfr := fresh_any H (n := 10) (.inl rfl)
  have HF := Lib.hid hfr
  have HX := Lib.hid hx
  clear hfr hx H
  go_enter Tryz.func8, Tryz.ntmps8
  go_wp2_with fail
  refine HF.out.mono ?_
  rintro e w1 ⟨f, t, s, g, mb, D, M1, rfl, hM1, hct, -, K, hsi⟩
  have K1 := RetFresh.kc K hsi
  obtain ⟨Z1, h1, hb1, -⟩ := K1.1.out
  obtain ⟨M2, hM2, h2, hnm⟩ := (h1.litS (Tp.pcs Cp.n1) 79 3 2 rfl (by decide) rfl).keepNm
  replace h2 : St w0 (w1.alloc (.cells #[.string ⟨#[]⟩, .int .u64 1, .bool false, .string ⟨#[97]⟩, .int .u64 0, .bool true] 79)) M2 Z1 := h2
  have HA := Lib.hid (And.intro hM1 (And.intro hct (And.intro hM2 (And.intro hnm hb1))))
  have hgood := Lib.hid K1.2
  clear hM1 hct K K1 HF hsi hM2 hnm hb1 h1
  go_upto_region 5 with fail
  generalize World.alloc _ _ = w2 at *
  generalize w1.heap.size = g4 at *
  have kc : ∀ (C : Array Value) (n c : Nat), (convert 30 30 (.slice (some ⟨w2.heap.size, 0, none⟩) n c)).run Tryz.prog (w2.alloc (.cells C 5)) = .ok (.slice (some ⟨w2.heap.size, 0, none⟩) n c) (w2.alloc (.cells C 5 (C.size, C.size + 1))) := fun C n c => Lib.run_convert_bytes_const (P := Tryz.prog) w2 30 5 C n c Tryz.underlying30 Tryz.underlying5
  obtain ⟨M3, hM3, h3, hbt⟩ := h2.constBytes [120] 5 (1, 2)
  have h4 := h3.litS (dd ⟨7, ⟨some ⟨g4, 0, none⟩, 2, 2, Cp.n1⟩, false, ⟨some ⟨w2.heap.size, 0, none⟩, 1, 1, [120]⟩⟩) 32 4 1 rfl (by decide) (g := w2.heap.size + 1) (by simp)
  obtain ⟨M4, hM4, h5, hdd, -⟩ := h4.lendRowA
  replace h5 : St w0 ((w2.alloc (.cells #[.int .u8 120] 5 (1, 2))).alloc (.cells #[.int .u64 7, .slice (some ⟨g4, 0, none⟩) 2 2, .bool false, .slice (some ⟨w2.heap.size, 0, none⟩) 1 1] 32)) M4 Z1 := h5
  have hw := writes_any (c := 1) (n := 1) (A := some ⟨w2.heap.size + 1, 0, none⟩) (l := [⟨7, ⟨some ⟨g4, 0, none⟩, 2, 2, Cp.n1⟩, false, ⟨some ⟨w2.heap.size, 0, none⟩, 1, 1, [120]⟩⟩]) h5 (HA.out.2.1.le (HA.out.2.2.1.trans (hM3.trans hM4))) rfl hdd (fun d hd => by
    rw [List.mem_singleton.1 hd]
    exact ⟨⟨HA.out.2.2.2.1.le (hM3.trans hM4), ⟨rfl, fun h => (by cases h), Nat.le_refl _⟩, hbt.le hM4⟩, (by show 2 ≤ 100000; decide), (by show 1 ≤ 100000000; decide)⟩) (by decide)
  have HW := Lib.hid hw
  have hMM := hM3.trans hM4
  have HMM := Lib.hid (And.intro hMM (HA.out.2.1.le (HA.out.2.2.1.trans hMM)))
  clear hw hM3 hM4 hbt hdd h4 h3 h2 hMM
  go_wp2_with fail
  refine HW.out.mono ?_
  rintro e w5 ⟨B, d, ws, M5, rfl, hab, hM5, hws, h6⟩
  obtain ⟨M6, hM6, h7, hwr, -⟩ := h6.lendRowA
  obtain ⟨hdone, a, rfl, ha1, ha2, ha3⟩ := Cp.done7 hab
  have hle : M1.le M6 := HA.out.2.2.1.trans (HMM.out.1.trans (hM5.trans hM6))
  have K6 : KC w0 w5 M6 s f (Cp.S0 10) L := ⟨HA.out.2.2.2.2 _ _ hle h7, hgood.out⟩
  have hx6 := HX.out.le (HA.out.1.trans hle)
  have hct6 := HA.out.2.1.le hle
  have hnm6 := HA.out.2.2.2.1.le (HMM.out.1.trans (hM5.trans hM6))
  have hap := capplyK (c := d) (n := 1) K6 hx6 hct6 rfl hwr (fun x hx => by
    rw [List.mem_singleton.1 hx]
    exact ⟨(hws a (by simp)).le hM6, (by rw [ha2, ha3]; exact Cp.mild1 (by decide)), .inr (.inl ha1)⟩) (by decide)
  rw [hdone] at hap
  obtain ⟨S1, hS1⟩ : ∃ S1, S1 = ((Cp.S0 10).apply [⟨Cp.k7, true, [120]⟩]).1 := ⟨_, rfl⟩
  unfold RetKC at hap
  rw [Cp.apply7.1, ← hS1] at hap
  have hSL : S1.L = [(Cp.k7, [120])] := by rw [hS1]; exact Cp.apply7.2
  have HAP := Lib.hid hap
  have HB := Lib.hid (And.intro (HA.out.1.trans hle) (And.intro hx6 (And.intro hct6 (And.intro hnm6 hSL))))
  clear hap hx6 hct6 hnm6 hSL hS1 hle hM5 hM6 hwr hws hab hdone K6 h6 h7 ha1 ha2 ha3 HW HMM HA h5 kc
  go_wp2_with fail
  refine HAP.out.mono ?_
  rintro e w6 ⟨M7, hM7, rfl, K7⟩
  have HB7 := Lib.hid (And.intro (HB.out.1.trans hM7) (And.intro (HB.out.2.1.le hM7) (And.intro (HB.out.2.2.1.le hM7) (And.intro (HB.out.2.2.2.1.le hM7) HB.out.2.2.2.2))))
  have HG := Lib.hid (grantK K7 HB7.out.2.2.1 7)
  clear hM7 K7 HAP HB
  go_wp2_with fail
  refine HG.out.mono ?_
  rintro e w7 ⟨rfl, K8⟩
  have hge := cget_any K8 HB7.out.2.1 HB7.out.2.2.1 7 HB7.out.2.2.2.1 (Cp.mild1 (by decide))
  rw [HB7.out.2.2.2.2] at hge
  rw [Cp.get7] at hge
  have HGE := Lib.hid hge
  clear hge K8 HG
  go_wp2_with fail
  refine HGE.out.mono ?_
  rintro e w8 ⟨A8, c8, M8, rfl, hM8, hin8, K9⟩
  simp only [Option.getD_some, Option.isSome_some, List.length_cons, List.length_nil] at hin8 ⊢
  have HB8 := Lib.hid (And.intro (HB7.out.1.trans hM8) (And.intro (HB7.out.2.1.le hM8) (And.intro (HB7.out.2.2.1.le hM8) (And.intro (HB7.out.2.2.2.1.le hM8) (And.intro HB7.out.2.2.2.2 hin8)))))
  have HG := Lib.hid (grantK K9 HB8.out.2.2.1 8)
  clear hM8 hin8 K9 HGE HB7
  go_wp2_with fail
  refine HG.out.mono ?_
  rintro e w9 ⟨rfl, K10⟩
  have hge := cget_any K10 HB8.out.2.1 HB8.out.2.2.1 8 HB8.out.2.2.2.1 (Cp.mild1 (by decide))
  rw [HB8.out.2.2.2.2.1] at hge
  rw [Cp.get8] at hge
  have HGE := Lib.hid hge
  clear hge K10 HG
  go_wp2_with fail
  refine HGE.out.mono ?_
  rintro e w10 ⟨A10, c10, M10, rfl, hM10, -, K11⟩
  simp only [Option.getD_none, Option.isSome_none, List.length_nil]
  have cv := conv_RB (P := Tryz.prog) (src := 30) (dst := 9) (n := 1) (c := c8) Tryz.underlying30 Tryz.underlying5 Tryz.underlying9 (Wd.In.now (Wd.In.le HB8.out.2.2.2.2.2 hM10) K11.rest) rfl
  have HG := Lib.hid (grantK K11 (HB8.out.2.2.1.le hM10) 7)
  have HM10 := Lib.hid hM10
  clear hM10 K11 HGE
  go_wp2_with fail
  refine HG.out.mono ?_
  rintro e w11 ⟨rfl, K12⟩
  have hli := clist_any K12 (HB8.out.2.1.le HM10.out) (HB8.out.2.2.1.le HM10.out) 7 (Nm.nil M10) (Cp.mild0 (by decide))
  have HLI := Lib.hid hli
  clear hli K12 HG cv
  go_wp2_with fail
  refine HLI.out.mono ?_
  rintro e w12 ⟨A12, n12, c12, is, M12, rfl, hM12, hit, hmap, K13⟩
  have hn12 : n12 = 1 := by
    have h1 := congrArg List.length hmap
    rw [HB8.out.2.2.2.2.1, List.length_map] at h1
    have h2 := Cp.list7
    have h3 := hit.1
    have h4 : (Cp.list [(Cp.k7, [120])] 7 (⟨none, 0, 0, []⟩ : Nm).l).length = 1 := h2
    omega
  subst hn12
  have HG := Lib.hid (grantK K13 (HB8.out.2.2.1.le (HM10.out.trans hM12)) 7)
  have HM12 := Lib.hid hM12
  clear hM12 hit hmap K13 HLI
  go_wp2_with fail
  refine HG.out.mono ?_
  rintro e w13 ⟨rfl, K14⟩
  have HT := Lib.hid (tenantK K14 (some t) 7)
  clear K14 HG
  go_wp2_with fail
  refine HT.out.mono ?_
  rintro e w14 ⟨rfl, K15⟩
  go_wp2
  go_ret
  exact ⟨M12, rfl, HB8.out.1.trans (HM10.out.trans HM12.out), K15.rest⟩
end
end Go.Proofs.YtepgmebklhemgaaGreatDoor
/- The law's small. -/
set_option linter.unusedVariables false
set_option linter.unusedSimpArgs false
namespace Go.Proofs.YtepgmebklhemgaaGreatDoor
open Go.RowKit Wd
def Dd.small (d : Dd) : Prop := d.p.n ≤ 5000 ∧ d.m.n ≤ 20 ∧ ∀ q ∈ d.m.l, q.text.length ≤ 2000
def RetSmall21 (w0 : World) (M : Mem) (L : List Ent) (n : Nat) (l : List Dd) (e : Ending) (w' : World) : Prop :=
  ∃ b, e = .returned (.bool b) ∧ (b = true → n ≤ 100 ∧ ∀ d ∈ l, Dd.small d) ∧ St w0 w' M L
theorem nm_cell {w0 : World} {M : Mem} {m : Nm} (h : Nm.In M m) {w : World} {M1 : Mem} {L : List Ent} (hM : M.le M1) (H : St w0 w M1 L) (k : Nat) (hk : k < m.l.length) :
    ∃ b o, m.A = some ⟨b, o, none⟩ ∧ ∀ W M2 L2, M.le M2 → St w0 W M2 L2 → W.cell? ⟨b, o + k * 3, none⟩ = some (.string (str m.l[k].text)) := by
  obtain ⟨b, o, he, hr⟩ := Tp.RA.at3 (Wd.In.now (Wd.In.le h.2.2.2 hM) H) k hk
  refine ⟨b, o, he, fun W M2 L2 hM2 H2 => ?_⟩
  obtain ⟨b2, o2, he2, hr2⟩ := Tp.RA.at3 (Wd.In.now (Wd.In.le h.2.2.2 hM2) H2) k hk
  rw [he] at he2
  injection he2 with he2
  injection he2 with e1 e2
  subst e1 e2
  exact hr2 0 _ rfl
section
variable {w0 w : World} {M : Mem} {L : List Ent}
set_option maxRecDepth 100000 in
set_option maxHeartbeats 4000000 in
theorem small21_any (H : St w0 w M L) {A : Option Addr} {c n : Nat} {l : List Dd} (hn : n = l.length) (hA : In M (RA · A (dds l))) (hl : ∀ d ∈ l, Dd.In M d) :
    Calls Tryz.prog 7 #[.slice A n c] w (RetSmall21 w0 M L n l) := by
  have HH := Lib.hid (And.intro hn (And.intro hA hl))
  clear hn hA hl
  go_enter Tryz.func7, Tryz.ntmps7
  go_wp2_with fail
  go_loopw [3, 4] (fun v i wr => ∃ (k x : Nat), k ≤ n ∧ k ≤ 100 ∧ i = .int .i64 k ∧ v = .int .i64 x ∧ x ≤ k * 50000 ∧ (∀ d ∈ l.take k, Dd.small d) ∧ St w0 wr M L) (fun v i _ => n - (intOf i).toNat)
  case atStart => exact ⟨0, 0, by omega, by omega, rfl, rfl, by omega, (fun d hd => by cases hd), H⟩
  case round =>
    clear H
    obtain ⟨k, x, hk, hk100, rfl, rfl, hxk, hsm, H1⟩ := hrel
    by_cases hlt : k < n ∧ k < 100
    · obtain ⟨hlt, hlt2⟩ := hlt
      have hk1 : k < l.length := by have := HH.out.1; omega
      obtain ⟨b, o, rfl, hc⟩ := dd_cells HH.out.2.1 (Mem.le.refl _) H1 k hk1
      have hdd := HH.out.2.2 _ (List.getElem_mem hk1)
      have hta : l.take (k + 1) = l.take k ++ [l[k]] := List.take_succ_eq_append_getElem hk1
      obtain ⟨q, hq⟩ : ∃ q, q = l[k] := ⟨_, rfl⟩
      simp only [← hq] at hc hdd hta
      obtain ⟨T, ⟨NA, nn, nc, nl⟩, dr, ⟨PA, pn, pc, pl⟩⟩ := q
      dsimp only [Nm.v, Pc.v] at hc hdd
      obtain ⟨hm, hp, hpi⟩ := hdd
      dsimp only at hm
      have hnl : nn = nl.length := hm.1
      have HD := Lib.hid (And.intro hm hnl)
      have HK := Lib.hid (And.intro hlt (And.intro hlt2 (And.intro hsm (And.intro hta hxk))))
      have HC := Lib.hid hc
      have q1 : (k : Int) < (n : Int) := by omega
      have q2 : (k : Int) < 100 := by omega
      obtain ⟨x0, x1, x2, x3⟩ := hc _ M _ (Mem.le.refl _) H1
      clear hm hp hpi hlt hlt2 hsm hta hc hk1 hq hk hk100 hnl hxk
      by_cases hp5 : 5000 < pn
      · have q3 : (5000 : Int) < (pn : Int) := by omega
        clear hp5
        go_wp2
        go_ret
        exact ⟨false, rfl, (fun h => by cases h), H1⟩
      · have q3 : ¬ (5000 : Int) < (pn : Int) := by omega
        by_cases hn20 : 20 < nn
        · have q4 : (20 : Int) < (nn : Int) := by omega
          clear hp5 hn20
          go_wp2
          go_ret
          exact ⟨false, rfl, (fun h => by cases h), H1⟩
        · have q4 : ¬ (20 : Int) < (nn : Int) := by omega
          have HP := Lib.hid (And.intro hp5 hn20)
          clear hp5
          go_wp2_with fail
          go_loopw [3, 5] (fun v i wy => ∃ (j y : Nat), j ≤ nn ∧ i = .int .i64 j ∧ v = .int .i64 y ∧ y ≤ x + j * 2000 ∧ (∀ q ∈ nl.take j, q.text.length ≤ 2000) ∧ St w0 wy M L) (fun v i _ => nn - (intOf i).toNat)
          case atStart => exact ⟨0, x, by omega, rfl, rfl, by omega, (fun d hd => by cases hd), H1⟩
          case round =>
            clear H1 x0 x1 x2 x3
            obtain ⟨j, y, hj, rfl, rfl, hyj, htx, H2⟩ := hrel
            obtain ⟨x0, x1, x2, x3⟩ := HC.out _ M _ (Mem.le.refl _) H2
            by_cases hjl : j < nn
            · have hj1 : j < nl.length := by have := HD.out.2; omega
              obtain ⟨b2, o2, he2, hc2⟩ := nm_cell HD.out.1 (Mem.le.refl _) H2 j hj1
              dsimp only at he2
              subst he2
              have y0 := hc2 _ M _ (Mem.le.refl _) H2
              have htb : nl.take (j + 1) = nl.take j ++ [nl[j]] := List.take_succ_eq_append_getElem hj1
              obtain ⟨q, hq⟩ : ∃ q, q = nl[j] := ⟨_, rfl⟩
              simp only [← hq] at y0 htb
              obtain ⟨tx, nu, it⟩ := q
              dsimp only at y0
              obtain ⟨tn, htn⟩ : ∃ tn, tn = tx.length := ⟨_, rfl⟩
              obtain ⟨SS, hSS⟩ : ∃ SS, SS = str tx := ⟨_, rfl⟩
              have hsz : SS.size = tn := by rw [hSS, str_size, htn]
              rw [← hSS] at y0
              have HJ := Lib.hid (And.intro hjl (And.intro hyj (And.intro htx (And.intro htb htn))))
              have q5 : (j : Int) < (nn : Int) := by omega
              clear hjl hyj htx htb htn hj1 hq hc2 hSS
              by_cases h2 : 2000 < tn
              · have q6 : (2000 : Int) < (tn : Int) := by omega
                clear h2 hj
                go_wp2
                go_ret
                exact ⟨false, rfl, (fun h => by cases h), H2⟩
              · have q6 : ¬ (2000 : Int) < (tn : Int) := by omega
                have e1 : IntKind.i64.wrap ((y : Int) + (tn : Int)) = ((y + tn : Nat) : Int) := by
                  rw [IntKind.wrap_i64]
                  have := HK.out.2.2.2.2; have := HK.out.2.1; have := HJ.out.2.1; omega
                have H2n := Lib.hid h2
                clear h2 hj
                go_wp2
                exact ⟨⟨j + 1, y + tn, by have := HJ.out.1; omega, by go_num, rfl, by have := HJ.out.2.1; have := H2n.out; omega, (fun q hq => by
                  rw [HJ.out.2.2.2.1] at hq
                  rcases List.mem_append.1 hq with hq | hq
                  · exact HJ.out.2.2.1 q hq
                  · rw [List.mem_singleton.1 hq]; have := HJ.out.2.2.2.2; have := H2n.out; show tx.length ≤ 2000; omega), H2⟩, by have := HJ.out.1; simp [intOf]; omega⟩
            · obtain rfl : j = nn := by omega
              have e1 : IntKind.i64.wrap ((y : Int) + (pn : Int)) = ((y + pn : Nat) : Int) := by
                rw [IntKind.wrap_i64]
                have := HK.out.2.2.2.2; have := HK.out.2.1; have := HP.out; omega
              have hall : Dd.small ⟨T, ⟨NA, j, nc, nl⟩, dr, ⟨PA, pn, pc, pl⟩⟩ := ⟨by have := HP.out.1; show pn ≤ 5000; omega, by have := HP.out.2; show j ≤ 20; omega, fun q hq => htx q (by rw [HD.out.2, List.take_length]; exact hq)⟩
              have HA := Lib.hid (And.intro hall hyj)
              clear hall hyj htx hjl hj
              go_wp2
              exact ⟨⟨k + 1, y + pn, by have := HK.out.1; omega, by have := HK.out.2.1; omega, by go_num, rfl, by have := HK.out.2.2.2.2; have := HP.out; have := HA.out.2; omega, (fun d hd => by
                rw [HK.out.2.2.2.1] at hd
                rcases List.mem_append.1 hd with hd | hd
                · exact HK.out.2.2.1 d hd
                · rw [List.mem_singleton.1 hd]; exact HA.out.1), H2⟩, by have := HK.out.1; simp [intOf]; omega⟩
    · have HS := Lib.hid (And.intro hsm (And.intro hlt hk))
      have hx2 : x ≤ 5000000 := by omega
      have hcase : ¬ (k : Int) < (n : Int) ∨ ((k : Int) < (n : Int) ∧ ¬ (k : Int) < 100) := by omega
      clear hsm hlt hxk
      by_cases hn100 : n ≤ 100
      · have hkn : k = n := by have := HS.out.2; omega
        have hgo : ∀ d ∈ l, Dd.small d := fun d hd => HS.out.1 d (by rw [hkn, HH.out.1, List.take_length]; exact hd)
        have HG := Lib.hid hgo
        have q5 : (n : Int) ≤ 100 := by omega
        obtain ⟨b9, hb9⟩ : ∃ b9, b9 = decide ((x : Int) ≤ 9000) := ⟨_, rfl⟩
        clear hgo hkn
        rcases hcase with q6 | ⟨q6, q7⟩
        · go_wp2
          go_ret
          exact ⟨decide ((x : Int) ≤ 9000), rfl, fun _ => ⟨hn100, HG.out⟩, H1⟩
        · exfalso; have := HS.out.2; omega
      · have q5 : ¬ (n : Int) ≤ 100 := by omega
        rcases hcase with q6 | ⟨q6, q7⟩
        · go_wp2
          go_ret
          exact ⟨false, rfl, (fun h => by cases h), H1⟩
        · go_wp2
          go_ret
          exact ⟨false, rfl, (fun h => by cases h), H1⟩
end
end Go.Proofs.YtepgmebklhemgaaGreatDoor
