/- kv.all: a map's keys and values as records, by rising key (maps.Keys and slices.Sorted by the shelf's contracts). -/
import Derived.Test.YtepgmebklhemgaaGreatDoorP5
import Derived.Test.YtepgmebklhemgaaGreatDoorG6
import Derived.Test.YtepgmebklhemgaaGreatDoorA8
import Derived.Test.YtepgmebklhemgaaGreatDoorLa3
import Derived.Deep.DeepCutAuto
set_option linter.unusedVariables false
set_option linter.unusedSimpArgs false
namespace Go.Proofs.YtepgmebklhemgaaGreatDoor
open Go.RowKit Wd Go.Maps Go.Sort Go.Shelf
theorem Kv.bl_cons (a b : UInt8) (x y : List UInt8) : Op.bytesLess (a :: x) (b :: y) = Kv.tlt (a :: x) (b :: y) := Kv.bytesLess_tlt _ _
theorem Kv.le_of_tlt {x y : List UInt8} (h : Kv.tlt x y = true) : leB x y = true := by
  unfold leB
  have h1 := bytesLess_eq x y
  rw [Kv.bytesLess_tlt, h] at h1
  have h2 : x < y := by simpa using h1.symm
  exact decide_eq_true (List.le_of_lt h2)
/-- The keys, sorted, are those of the list by rising key. -/
theorem Kv.keys_sorted {L : List Kv.Pr} (h : Kv.Sorted L) {ss : List (List UInt8)} (hp : ss.Perm (L.map Prod.fst)) : ss.mergeSort leB = L.map Prod.fst := by
  rw [mergeSort_of_perm hp]
  refine List.mergeSort_of_pairwise ?_
  rw [List.pairwise_map]
  exact h.imp fun h => Kv.le_of_tlt h
section
variable {w0 w : World} {M : Mem} {L : List Ent} {g : Nat} {D : List Pa}
/-- How any value reads: as nothing. -/
def anyR : Value → Option (DataW Unit × List MemPlace) := fun _ => some (.nil, [])
theorem mp_owns {P : Program} {kt : TypeId} (hu : P.underlying kt = some .string) (h : (mp g D).holds M w) (hl : D.length ≤ 1000000) (hk : ∀ a ∈ D, a.key.length ≤ 1000000) : ∃ D0 : DataW Unit, w.ownsMap P kt anyR g D.length D0 ∧ (strKeys D0).Perm (D.map Pa.key) ∧ Maps.size D0 = D.length := by
  obtain ⟨h1, h2, es, clock, hb, hi⟩ := h
  have hlen := hi.len
  have hrd : ∀ x ∈ es.toList, ∃ a ∈ D, x.key = .string (str a.key) ∧ Go.WideElems.rd P kt anyR x = some (.string a.key, .nil) := fun x hx => by
    obtain ⟨a, ha, e1, _⟩ := hi.mem hx
    have := hk a ha
    refine ⟨a, ha, e1, ?_⟩
    unfold Go.WideElems.rd
    rw [e1, Go.WideMaps.keyOf_string_mk hu (by rw [str_size]; unfold maxLen; omega)]
    rfl
  have hkeys : es.toList.map (fun x => strOf (Go.WideElems.rg P kt anyR x).1) = D.map Pa.key := by
    apply List.ext_getElem?
    intro j
    rw [List.getElem?_map, List.getElem?_map]
    cases he : es.toList[j]? with
    | none =>
      have : D[j]? = none := by
        rw [List.getElem?_eq_none_iff] at he ⊢
        rw [Array.length_toList] at he
        omega
      rw [this]
      rfl
    | some e =>
      obtain ⟨a, ha, hk1, _⟩ := (hi.at_ j).1 e he
      rw [ha]
      obtain ⟨a2, ha2, e2, hr⟩ := hrd e (List.mem_of_getElem? he)
      have := Go.WideElems.rg_of hr
      rw [Option.map_some, Option.map_some, this]
      have : a2.key = a.key := skey_inj (e2.symm.trans hk1)
      rw [this]
      rfl
  refine ⟨.map ((es.toList.map (Go.WideElems.rg P kt anyR)).foldr DataW.insert []), ⟨es, clock, hb, ⟨by unfold maxLen; omega, hi.1, fun x hx => by
    obtain ⟨a, _, _, hr⟩ := hrd x hx
    exact ⟨_, hr⟩⟩, by omega, rfl⟩, ?_, ?_⟩
  · unfold strKeys
    rw [← hkeys]
    have hp := (Go.WideShapes.sorted_perm (es.toList.map (Go.WideElems.rg P kt anyR))).map fun p => strOf p.1
    rw [List.map_map] at hp
    exact hp
  · rw [size_eq, length_sorted, List.length_map, Array.length_toList, hlen]
end
/-- slices.Sort's two contracts at this program, at the fence that asks nothing. -/
theorem Tryz.sortsA (m : Nat) : AnyZ.SortsIn Tryz.prog Tryz.sortedA_ren Fence.wide m :=
  ⟨fun blk off cap ss W hH hblk hsz => callsIn_wide.2 (AnyM.slices_Sort_string Tryz.sortA blk off cap ss W hH hblk hsz),
   fun p cap W => callsIn_wide.2 (AnyM.slices_Sort_string_none Tryz.sortA p cap W)⟩
section
variable {w0 w : World} {M : Mem} {L : List Ent} {g : Nat} {D : List Pa}
theorem keys_any (w : World) : Calls Tryz.prog 103 #[.map (some g)] w fun e w' => e = .returned (.func (.func 125) #[] #[.pointer (some ⟨w.heap.size, 0, none⟩)]) ∧ w' = w.alloc (.cells #[.map (some g)] 134) :=
  (callsIn_wide (n := 5)).1 (AnyZ.keys_in Tryz.keysA Fence.wide 5 trivial rfl (some g) w)
theorem sorted_any (H : St w0 w M (mp g D :: L)) (hl : D.length ≤ 1000000) (hk : ∀ a ∈ D, a.key.length ≤ 1000000) {L0 : List Kv.Pr} (hs : Kv.Rel L0 (D.map Pa.pr)) :
    Calls Tryz.prog 102 #[.func (.func 125) #[] #[.pointer (some ⟨w.heap.size, 0, none⟩)]] (w.alloc (.cells #[.map (some g)] 134)) fun e w' => ∃ v, e = .returned v ∧ St w0 w' M (er 9 1 v L0.length (L0.map fun p => .string (str p.1)) :: mp g D :: L) := by
  obtain ⟨D0, hown, hperm, hsize⟩ := mp_owns Tryz.underlying9 (H.get 0 rfl) hl hk
  have H1 := H.alloc (.cells #[.map (some g)] 134)
  have hbl := hown.lt
  have hown1 : (w.alloc (.cells #[.map (some g)] 134)).ownsMap Tryz.prog 9 anyR g D.length D0 := by
    obtain ⟨es, clock, hb, Ft, hs, hD⟩ := hown
    exact ⟨es, clock, (Below.heap_alloc _ _ g hbl).trans hb, Ft, hs, hD⟩
  have hseq : SeqGives Fence.wide 2 Tryz.prog 125 #[.pointer (some ⟨w.heap.size, 0, none⟩)] encStr (fun ss => ss.Perm (strKeys D0)) (Maps.size D0) (w.alloc (.cells #[.map (some g)] 134)) :=
    AnyZ.keys_gives (ρ := Tryz.keysA_ren) { Tryz.keysA with } Fence.wide _ trivial rfl (by omega) w.heap.size g D.length D0 _ (by simp) (by simp) hown1
  have cS := AnyZ.sorted_in Tryz.sortedA Fence.wide 5 trivial trivial trivial trivial rfl (by omega) (Tryz.sortsA _) (enters_of Tryz.func124 (by kernel_rfl) rfl) 125 #[.pointer (some ⟨w.heap.size, 0, none⟩)] trivial (enters_of Tryz.func125 (by kernel_rfl) rfl) _ _ (by rw [hsize]; unfold maxLen; omega) (by rw [hsize]; omega) _ hseq
  change CallsIn _ _ Tryz.prog 102 _ _ _ at cS
  refine ((callsIn_wide (n := 5)).1 cS).mono ?_
  rintro e w' ⟨v, ss, rfl, hS, hrow, -, hb⟩
  have hp : ss.Perm (L0.map Prod.fst) := by
    refine (hS.trans hperm).trans ?_
    have h1 := (hs.2.map Prod.fst).symm
    rw [List.map_map] at h1
    exact h1
  have hk1 := Kv.keys_sorted hs.1 hp
  have hn := hp.length_eq
  rw [List.length_map] at hn
  unfold leB at hk1
  rw [hk1, List.map_map, hn] at hrow
  exact ⟨v, rfl, H1.addRow hb hrow⟩
/-- The records of a map's pairs. -/
def RetAll (w0 : World) (M : Mem) (g : Nat) (D : List Pa) (L : List Ent) (ls : List (List UInt8)) (e : Ending) (w' : World) : Prop :=
  ∃ v ps M', e = .returned v ∧ M.le M' ∧ Rows M' ps ls ∧ St w0 w' M' (er 30 1 v ps.length (ps.map Pc.v) :: mp g D :: L)
set_option maxRecDepth 100000 in
set_option maxHeartbeats 4000000 in
theorem all20_any (H : St w0 w M (mp g D :: L)) (hD : PaIn M D) {L0 : List Kv.Pr} (hs : Kv.Rel L0 (D.map Pa.pr)) (hok : ∀ p ∈ D.map Pa.pr, Kv.okP p) (hl : D.length ≤ 200000) :
    Calls Tryz.prog 72 #[.map (some g)] w (RetAll w0 M g D L (Kv.recsOf L0)) := by
  have hk : ∀ a ∈ D, a.key.length ≤ 1000000 := fun a ha => by
    have := (hok a.pr (List.mem_map.2 ⟨a, ha, rfl⟩)).2.1
    have e : a.pr.1 = a.key := rfl
    rw [e] at this
    omega
  obtain ⟨n, hn⟩ : ∃ n, n = L0.length := ⟨_, rfl⟩
  have hn2 : n ≤ 200000 := by have := hs.2.length_eq; rw [List.length_map] at this; omega
  have hso := sorted_any H (by omega) hk hs
  rw [← hn] at hso
  have HSO := Lib.hid hso
  have HN := Lib.hid (And.intro hn hn2)
  have HD := Lib.hid (And.intro hD (And.intro hs hok))
  have hke := fun w => keys_any (g := g) w
  clear hk hso hn hs hok hD hn2
  go_enter Tryz.func72, Tryz.ntmps72
  go_wp2_with fail
  refine (hke _).mono ?_
  rintro e w1 ⟨rfl, rfl⟩
  clear hke
  go_wp2_with fail
  refine HSO.out.mono ?_
  rintro e w2 ⟨v2, rfl, H2⟩
  obtain ⟨A2, c2, rfl, -⟩ := H2.shape 0 rfl
  have H3 := H2.addNil 30 1
  clear HSO H2 H
  go_wp2_with fail
  go_loopw [3, 12] (fun i3 i wr => ∃ (k : Nat) (ps : List Pc) (M' : Mem), k ≤ n ∧ i = .int .i64 k ∧ M.le M' ∧ Rows M' ps (Kv.recsOf (L0.take k)) ∧ St w0 wr M' (er 30 1 i3 k (ps.map Pc.v) :: er 9 1 (.slice A2 n c2) n (L0.map fun p => .string (str p.1)) :: mp g D :: L)) (fun _ i _ => n - (intOf i).toNat)
  case atStart => exact ⟨0, [], M, by omega, rfl, Mem.le.refl _, Rows.nil _, H3⟩
  case round =>
    obtain ⟨k, ps, M', hk, rfl, hM, hrow, H4⟩ := hrel
    clear H3
    by_cases hlt : k < n
    · have hk1 : k < L0.length := by have := HN.out.1; omega
      have hmem := HD.out.2.1.2.mem_iff.1 (List.getElem_mem hk1)
      have hmg := (Kv.mget_some HD.out.2.1.apart (k := L0[k].1) (d := L0[k].2)).2 hmem
      have hokp := HD.out.2.2 _ hmem
      have htk : Kv.recsOf (L0.take (k + 1)) = Kv.recsOf (L0.take k) ++ [Kv.recOf L0[k]] := by
        unfold Kv.recsOf
        rw [List.take_succ_eq_append_getElem hk1, List.map_append]
        rfl
      obtain ⟨b, o, rfl, hc⟩ := SrA.at (er_RA (H4.get 1 rfl)) k (by rw [List.length_map]; exact hk1)
      rw [List.getElem_map] at hc
      obtain ⟨p, hp⟩ : ∃ p, p = L0[k] := ⟨_, rfl⟩
      rw [← hp] at hmg hokp htk hc
      obtain ⟨key, dat⟩ := p
      simp only at hmg hc
      rw [← getD_pr] at hmg
      have hz : ∀ w, (zeroValue 30).run Tryz.prog w = .ok (.slice none 0 0) w := fun w => by go_simp
      have hlk := (map_lookup (P := Tryz.prog) (t := 134) (H4.get 2 rfl) Tryz.underlying134 Tryz.underlying9 hz key).2
      unfold lookV at hlk
      cases hg : getD_ D key with
      | none => rw [hg] at hmg; cases hmg
      | some a =>
        rw [hg] at hmg hlk
        have ha := (HD.out.1.le hM) a (getD_mem hg).1
        have hak := (getD_mem hg).2
        obtain ⟨k2, ⟨PA, PN, PC, PL⟩⟩ := a
        simp only [Option.map_some, Option.some.injEq] at hmg
        simp only at hak
        subst hmg hak
        simp only [Pc.v] at hlk
        obtain ⟨l1, hl1⟩ : ∃ l1 : List Ac, l1 = [⟨k2, true, ⟨PA, PN, PC, PL⟩⟩] := ⟨_, rfl⟩
        have H5 := H4.new (acs l1) 75
        have hck := Kv.check_one hokp
        have he1 : l1.map Ac.act = [⟨k2, true, PL⟩] := by rw [hl1]; rfl
        have hen := encode_any (c := 1) (n := 1) (A := some ⟨wr.heap.size, 0, none⟩) (l := l1) H5 (by rw [hl1]; rfl) (fun w' M' hM H => (H.blk 0 rfl).ra 0 3 _ (by rw [hl1]; rfl)) (by
          rw [hl1]
          intro a ha'
          rw [List.mem_singleton.1 ha']
          exact ha) (by omega)
        rw [Kv.enc_snd, he1, hck, Kv.enc_fst hck] at hen
        have hrl : (Kv.recOf (k2, PL)).length ≤ 100000 := by
          have := Kv.recOf_len (k2, PL)
          have h2 := hokp.2.1
          have h3 := hokp.2.2
          simp only at this h2 h3
          omega
        have e3 : Kv.bytes [⟨k2, true, PL⟩] = Kv.recOf (k2, PL) := rfl
        rw [e3] at hen
        obtain ⟨R, hR⟩ : ∃ R, R = Kv.recOf (k2, PL) := ⟨_, rfl⟩
        rw [← hR] at hen htk hrl
        obtain ⟨m, hm⟩ : ∃ m, m = R.length := ⟨_, rfl⟩
        rw [hl1] at hen
        have HEN := Lib.hid hen
        have HK := Lib.hid (And.intro hlt (And.intro htk (And.intro hM (And.intro hrow (And.intro hrl hm)))))
        have q1 : (k : Int) < (n : Int) := by omega
        clear hen hl1 he1 hck e3 hR hp hmem hk1 hokp ha hg hlt htk hM hrow hrl hm H5 hk
        go_wp2_with fail
        refine HEN.out.mono ?_
        rintro e w3 ⟨B, d, M1, rfl, hd, hB, hM1, hin, H6⟩
        have H7 := H6.d0
        have HK2 := Lib.hid (And.intro hd (And.intro hB (And.intro hM1 hin)))
        rw [← HK.out.2.2.2.2.2]
        obtain ⟨A3, c3, rfl, -⟩ := H7.shape 0 rfl
        have hkn : k ≤ 200000 := by have := HK.out.1; have := HN.out.2; omega
        clear hd hB hM1 hin H6 HEN hc hlk
        go_wp2_with (at_builtin; refine wpList_append1_st H7 (by rfl) (.tmp 26) (.tmp 28) 36 (by rfl) Tryz.info22 (by rfl) Tryz.underlying36 (by rfl) (by rfl) (by rfl) (by omega) (by omega) ?_)
        intro v8 w8 H8
        obtain ⟨A8, c8, rfl, -⟩ := H8.shape 0 rfl
        clear H7
        go_wp2
        refine ⟨⟨k + 1, ps ++ [⟨B, m, d, R⟩], M1, by have := HK.out.1; omega, by go_num, HK.out.2.2.1.trans HK2.out.2.2.1, ?_, ?_⟩, by have := HK.out.1; simp [intOf]; omega⟩
        · rw [HK.out.2.1]
          have hm := HK.out.2.2.2.2.2
          exact (HK.out.2.2.2.1.le HK2.out.2.2.1).snoc (p := ⟨B, m, d, R⟩) ⟨hm, HK2.out.2.1, by rw [hm]; exact HK2.out.1⟩ HK2.out.2.2.2
        · rw [List.map_append]
          exact H8
    · obtain rfl : k = n := by omega
      have htk : L0.take k = L0 := by rw [HN.out.1, List.take_length]
      rw [htk] at hrow
      have hkl : k = ps.length := by
        have := hrow.len
        unfold Kv.recsOf at this
        rw [List.length_map, ← HN.out.1] at this
        exact this
      have HH := Lib.hid (And.intro hM (And.intro hrow hkl))
      clear hM hrow hkl htk hlt hk
      obtain ⟨A3, c3, rfl, -⟩ := H4.shape 0 rfl
      go_wp2
      go_ret
      exact ⟨_, ps, M', rfl, HH.out.1, HH.out.2.1, by rw [← HH.out.2.2]; exact H4.d1⟩
end
end Go.Proofs.YtepgmebklhemgaaGreatDoor
