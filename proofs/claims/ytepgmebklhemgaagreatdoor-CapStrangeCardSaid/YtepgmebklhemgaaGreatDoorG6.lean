/- Which acts are too long: Encode's closure, slices.ContainsFunc at acts. -/
import Derived.Test.YtepgmebklhemgaaGreatDoorA9
import Derived.Shelf.Abstract
set_option linter.unusedVariables false
set_option linter.unusedSimpArgs false
namespace Go.Proofs.YtepgmebklhemgaaGreatDoor
open Go.RowKit Wd
def av (a : Ac) : Value := .agg #[.string (str a.key), .bool a.set, .slice a.p.A a.p.n a.p.c]
section
variable {w0 w : World} {M : Mem} {L : List Ent}
set_option maxRecDepth 100000 in
theorem enc1_any (H : St w0 w M L) (a : Ac) (hn : a.p.n = a.p.l.length) :
    Calls Tryz.prog 93 #[av a] w fun e w' => e = .returned (.bool (Kv.long a.act)) ∧ St w0 w' M L := by
  obtain ⟨k, b, ⟨A, n, c, d⟩⟩ := a
  change n = d.length at hn
  have H1 := H.new [.string (str k), .bool b, .slice A n c] 75
  obtain ⟨m, hm⟩ : ∃ m, m = k.length := ⟨_, rfl⟩
  have hS : (str k).size = m := by rw [str_size, hm]
  obtain ⟨R, hR⟩ : ∃ R, R = Kv.long (Ac.act ⟨k, b, ⟨A, n, c, d⟩⟩) := ⟨_, rfl⟩
  have hR2 : R = (decide (1024 < m) || decide (60000 < n)) := by rw [hR, hm, hn]; rfl
  rw [← hR]
  unfold av
  obtain ⟨S, hSe⟩ : ∃ S, S = str k := ⟨_, rfl⟩
  rw [← hSe] at hS H1 ⊢
  have hc : 1024 < m ∨ (¬ 1024 < m ∧ 60000 < n) ∨ (¬ 1024 < m ∧ ¬ 60000 < n) := by omega
  clear hR hm hn hSe
  rcases hc with h | ⟨h, h'⟩ | ⟨h, h'⟩
  · have q1 : (1024 : Int) < (m : Int) := by omega
    have e : R = true := by rw [hR2]; simp [h]
    subst e
    clear h hR2
    go_enter Tryz.func93, Tryz.ntmps93
    go_wp2
    go_ret
    exact ⟨rfl, H1.d0⟩
  · have q1 : ¬ (1024 : Int) < (m : Int) := by omega
    have q2 : (60000 : Int) < (n : Int) := by omega
    have e : R = true := by rw [hR2]; simp [h']
    subst e
    clear h h' hR2
    go_enter Tryz.func93, Tryz.ntmps93
    go_wp2
    go_ret
    exact ⟨rfl, H1.d0⟩
  · have q1 : ¬ (1024 : Int) < (m : Int) := by omega
    have q2 : ¬ (60000 : Int) < (n : Int) := by omega
    have e : R = false := by rw [hR2]; simp [h, h']
    subst e
    clear h h' hR2
    go_enter Tryz.func93, Tryz.ntmps93
    go_wp2
    go_ret
    exact ⟨rfl, H1.d0⟩
def RetIdx (w0 : World) (M : Mem) (L : List Ent) (p : Ac → Bool) (l : List Ac) (e : Ending) (w' : World) : Prop :=
  ((e = .returned (.int .i64 (-1)) ∧ ∀ x ∈ l, p x = false) ∨ (∃ k : Nat, ∃ h : k < l.length, e = .returned (.int .i64 (k : Int)) ∧ (∀ x ∈ l.take k, p x = false) ∧ p l[k] = true)) ∧ St w0 w' M L
set_option maxRecDepth 100000 in
theorem aidx_any (g : Nat) (cb : Array Value) (eg : ∀ args w, (callFunc g args).run Tryz.prog w = .ok (.enter g args) w) (P : Ac → Bool) (H : St w0 w M L) {A : Option Addr} {c n : Nat} {l : List Ac} (hn : n = l.length) (hl : SrA w0 M L A (acs l)) (hn2 : n ≤ 1000000)
    (hg : ∀ p ∈ l, ∀ w, St w0 w M L → Calls Tryz.prog g (#[av p] ++ cb) w fun e w' => e = .returned (.bool (P p)) ∧ St w0 w' M L) :
    Calls Tryz.prog 118 #[.slice A n c, .func (.func g) #[] cb] w (RetIdx w0 M L P l) := by
  have HN := Lib.hid hn
  have HG := Lib.hid hg
  clear hn hg
  go_enter Tryz.func118, Tryz.ntmps118
  go_wp2
  go_loopw [8] (fun i wr => ∃ k : Nat, k ≤ n ∧ i = .int .i64 k ∧ (∀ x ∈ l.take k, P x = false) ∧ St w0 wr M L) (fun i _ => n - (intOf i).toNat)
  case atStart => exact ⟨0, by omega, rfl, by simp, H⟩
  case round =>
    obtain ⟨k, hk, rfl, hsofar, H1⟩ := hrel
    have HS := Lib.hid hsofar
    clear H hsofar
    by_cases hlt : k < n
    · have hk1 : k < l.length := by have := HN.out; omega
      obtain ⟨b, o, rfl, hrg⟩ := RA.ac3 (hl.now H1) k hk1
      have hta : l.take (k + 1) = l.take k ++ [l[k]] := List.take_succ_eq_append_getElem hk1
      have hsucc : P l[k] = false → ∀ x ∈ l.take (k + 1), P x = false := fun h x hx => by
        rw [hta] at hx
        rcases List.mem_append.1 hx with hx | hx
        · exact HS.out x hx
        · simp only [List.mem_singleton] at hx
          subst hx
          exact h
      have hgc := HG.out l[k] (List.getElem_mem hk1) _ H1
      obtain ⟨m, hm⟩ : ∃ m, m = P l[k] := ⟨_, rfl⟩
      rw [← hm] at hgc hsucc
      have hend : m = true → ∃ h : k < l.length, (∀ x ∈ l.take k, P x = false) ∧ P l[k] = true := fun h => ⟨hk1, HS.out, hm.symm.trans h⟩
      obtain ⟨p, hp⟩ : ∃ p, p = l[k] := ⟨_, rfl⟩
      rw [← hp] at hrg hgc
      unfold av at hgc
      have HGC := Lib.hid hgc
      have HEND := Lib.hid hend
      have HSUCC := Lib.hid hsucc
      have HRG := Lib.hid hrg
      have HLT := Lib.hid hlt
      have q1 : (k : Int) < (n : Int) := by omega
      have q1n : k < n := hlt
      have wk : IntKind.i64.wrap (k : Int) = (k : Int) := by rw [IntKind.wrap_i64]; omega
      clear hgc hta hend hsucc hm hrg hp hk1 hlt
      go_wp2_with (refine wpList_load_mid (by rfl) 75 (.tmp 14) (by rfl) b (o + k * 3) (by rfl) [.string (str p.key), .bool p.set, .slice p.p.A p.p.n p.p.c] _ HRG.out Tryz.underlying75 rfl (by exact Tryz.sizeAct) ?_)
      go_wp2_with fail
      refine HGC.out.mono ?_
      rintro e w1 ⟨rfl, H2⟩
      cases m with
      | false =>
        have h3 := HSUCC.out rfl
        have H3 := Lib.hid h3
        clear h3
        go_wp2
        exact ⟨⟨k + 1, by have := HLT.out; omega, by go_num, H3.out, H2⟩, by have := HLT.out; simp [intOf]; omega⟩
      | true =>
        have h3 := HEND.out rfl
        have H3 := Lib.hid h3
        clear h3 HEND HSUCC
        go_wp2
        go_ret
        obtain ⟨h1, h2, h4⟩ := H3.out
        exact ⟨.inr ⟨k, h1, rfl, h2, h4⟩, H2⟩
    · obtain rfl : k = n := by omega
      have h3 : ∀ x ∈ l, P x = false := by
        have := HS.out
        rw [HN.out, List.take_length] at this
        exact this
      have H3 := Lib.hid h3
      clear h3 hlt
      go_wp2
      go_ret
      exact ⟨.inl ⟨rfl, H3.out⟩, H1⟩
set_option maxRecDepth 100000 in
theorem long_any (H : St w0 w M L) {A : Option Addr} {c n : Nat} {l : List Ac} (hn : n = l.length) (hl : SrA w0 M L A (acs l)) (hn2 : n ≤ 1000000) (ha : ∀ a ∈ l, a.p.n = a.p.l.length) :
    Calls Tryz.prog 92 #[.slice A n c, .func (.func 93) #[] #[]] w fun e w' => e = .returned (.bool ((l.map Ac.act).any Kv.long)) ∧ St w0 w' M L := by
  have hi := aidx_any 93 #[] (enters_of Tryz.func93 (by kernel_rfl) rfl) (fun a => Kv.long a.act) (c := c) H hn hl hn2 (fun a h w H => enc1_any H a (ha a h))
  obtain ⟨R, hR⟩ : ∃ R, R = (l.map Ac.act).any Kv.long := ⟨_, rfl⟩
  rw [← hR]
  have HI := Lib.hid hi
  have HR := Lib.hid hR
  have HL := Lib.hid hn2
  have HN := Lib.hid hn
  clear hi hR hn
  go_enter Tryz.func92, Tryz.ntmps92
  go_wp2_with fail
  refine HI.out.mono ?_
  rintro e w1 ⟨h, H1⟩
  rcases h with ⟨rfl, h⟩ | ⟨k, hk, rfl, _, h⟩
  · have e : R = false := by
      rw [HR.out, List.any_map, List.any_eq_false]
      intro x hx
      simp [h x hx]
    subst e
    clear h
    go_wp2
    go_ret
    exact ⟨rfl, H1⟩
  · have e : R = true := by
      rw [HR.out, List.any_map, List.any_eq_true]
      exact ⟨_, List.getElem_mem hk, h⟩
    have q1 : (0 : Int) ≤ (k : Int) := by omega
    subst e
    clear h hk
    go_wp2
    go_ret
    exact ⟨rfl, H1⟩
end
end Go.Proofs.YtepgmebklhemgaaGreatDoor
/- The contract of kv.Encode. -/
set_option linter.unusedVariables false
set_option linter.unusedSimpArgs false
namespace Go.Proofs.YtepgmebklhemgaaGreatDoor
open Go.RowKit Wd
section
variable {w0 w : World} {M : Mem} {L : List Ent}
set_option maxRecDepth 100000 in
set_option maxHeartbeats 4000000 in
theorem encode_any (H : St w0 w M L) {A : Option Addr} {c n : Nat} {l : List Ac} (hn : n = l.length) (hl : SrA w0 M L A (acs l)) (hi : AcIn M l) (hn2 : n ≤ 1000000) :
    Calls Tryz.prog 66 #[.slice A n c] w (RetBytes w0 M L (Kv.enc (l.map Ac.act)).1 fun v => .returned (.tuple #[v, .int .i64 (Kv.enc (l.map Ac.act)).2])) := by
  have hlg := fun W (H : St w0 W M L) => long_any (c := c) H hn hl hn2 fun a ha => (hi a ha).1.1
  have hml : (l.map Ac.act).length = n := by rw [List.length_map, hn]
  obtain ⟨R, hR⟩ : ∃ R, R = Kv.enc (l.map Ac.act) := ⟨_, rfl⟩
  rw [← hR]
  have e1 := fun h => hR.trans (Kv.enc_bad h)
  have e2 := fun h h2 => hR.trans (Kv.enc_long h h2)
  have e3 := fun h h2 h3 h4 => hR.trans (Kv.enc_ok h h2 h3 h4)
  rw [hml] at e2 e3
  have HE1 := Lib.hid e1
  have HE2 := Lib.hid e2
  have HE3 := Lib.hid e3
  have HN := Lib.hid hn
  have HLG := Lib.hid hlg
  have HI := Lib.hid hi
  clear hR e1 e2 e3 hn hlg hi hml
  go_enter Tryz.func66, Tryz.ntmps66
  go_wp2
  go_loopw [11] (fun i wr => ∃ k : Nat, k ≤ n ∧ i = .int .i64 k ∧ ((l.take k).map Ac.act).any Kv.bad = false ∧ St w0 wr M L) (fun i _ => n - (intOf i).toNat)
  case atStart => exact ⟨0, by omega, rfl, by simp, H⟩
  case round =>
    obtain ⟨k, hk, rfl, hsofar, H1⟩ := hrel
    have HS := Lib.hid hsofar
    clear H hsofar
    by_cases hlt : k < n
    · have hk1 : k < l.length := by have := HN.out; omega
      obtain ⟨b, o, rfl, hrg⟩ := RA.ac3 (hl.now H1) k hk1
      have hbc := Kv.bad_cases l[k].key l[k].set l[k].p l[k].p.n (HI.out _ (List.getElem_mem hk1)).1.1
      have hy := fun (h : Kv.bad (l[k]'hk1).act = true) => HE1.out (Kv.any_here hk1 h)
      have hz := fun (h : Kv.bad (l[k]'hk1).act = false) => Kv.any_snoc hk1 HS.out h
      have HY := Lib.hid hy
      have HZ := Lib.hid hz
      obtain ⟨p, hp⟩ : ∃ p, p = l[k] := ⟨_, rfl⟩
      rw [← hp] at hrg hbc HY HZ
      obtain ⟨key, set, ⟨PA, PN, PC, PL⟩⟩ := p
      unfold ac Pc.v at hrg
      simp only at hrg hbc
      have HRG := Lib.hid hrg
      have q1 : (k : Int) < (n : Int) := by omega
      have q1n : k < n := hlt
      have HLT := Lib.hid hlt
      have hcell := H1.new [.string (str key), .bool set, .slice PA PN PC] 75
      obtain ⟨S, hS⟩ : ∃ S, S = str key := ⟨_, rfl⟩
      rw [← hS] at hbc hcell HRG
      clear hy hz hp hrg hk1 hlt hS
      rcases hbc with ⟨hb, hbc⟩ | ⟨hb, ⟨x0, r0, hs⟩, hbc⟩
      · have hend := HY.out hb
        have HEND := Lib.hid hend
        clear hend
        rcases hbc with hs | ⟨⟨x0, r0, hs⟩, rfl, h0⟩
        · go_wp2_with (refine wpList_load_mid (by rfl) 75 (.tmp 13) (by rfl) b (o + k * 3) (by rfl) [.string S, .bool _, .slice PA PN PC] _ HRG.out Tryz.underlying75 rfl (by exact Tryz.sizeAct) ?_)
          go_ret2
          exact ⟨none, 0, M, by rw [HEND.out]; rfl, by rw [HEND.out]; exact Nat.le_refl _, fun _ => rfl, Mem.le.refl _, fun _ _ => by rw [HEND.out]; exact fun h => absurd rfl h, hcell.d0⟩
        · have q2 : (0 : Int) < (PN : Int) := by omega
          go_wp2_with (refine wpList_load_mid (by rfl) 75 (.tmp 13) (by rfl) b (o + k * 3) (by rfl) [.string S, .bool _, .slice PA PN PC] _ HRG.out Tryz.underlying75 rfl (by exact Tryz.sizeAct) ?_)
          go_ret2
          exact ⟨none, 0, M, by rw [HEND.out]; rfl, by rw [HEND.out]; exact Nat.le_refl _, fun _ => rfl, Mem.le.refl _, fun _ _ => by rw [HEND.out]; exact fun h => absurd rfl h, hcell.d0⟩
      · have hnx := HZ.out hb
        have HNX := Lib.hid hnx
        clear hnx
        rcases hbc with rfl | ⟨rfl, h0⟩
        · go_wp2_with (refine wpList_load_mid (by rfl) 75 (.tmp 13) (by rfl) b (o + k * 3) (by rfl) [.string S, .bool _, .slice PA PN PC] _ HRG.out Tryz.underlying75 rfl (by exact Tryz.sizeAct) ?_)
          exact ⟨⟨k + 1, by have := HLT.out; omega, by go_num, HNX.out, hcell.d0⟩, by have := HLT.out; simp [intOf]; omega⟩
        · have q2 : ¬ (0 : Int) < (PN : Int) := by omega
          go_wp2_with (refine wpList_load_mid (by rfl) 75 (.tmp 13) (by rfl) b (o + k * 3) (by rfl) [.string S, .bool _, .slice PA PN PC] _ HRG.out Tryz.underlying75 rfl (by exact Tryz.sizeAct) ?_)
          exact ⟨⟨k + 1, by have := HLT.out; omega, by go_num, HNX.out, hcell.d0⟩, by have := HLT.out; simp [intOf]; omega⟩
    · obtain rfl : k = n := by omega
      have hnb : (l.map Ac.act).any Kv.bad = false := by
        have := HS.out
        rw [HN.out, List.take_length] at this
        exact this
      have HNB := Lib.hid hnb
      clear hnb hlt
      by_cases h255 : 255 < k
      · have q1 : (255 : Int) < (k : Int) := by omega
        have hend := HE2.out HNB.out (.inl h255)
        have HEND := Lib.hid hend
        clear hend
        go_wp2
        go_ret2
        exact ⟨none, 0, M, by rw [HEND.out]; rfl, by rw [HEND.out]; exact Nat.le_refl _, fun _ => rfl, Mem.le.refl _, fun _ _ => by rw [HEND.out]; exact fun h => absurd rfl h, H1⟩
      · have q1 : ¬ (255 : Int) < (k : Int) := by omega
        go_wp2_with fail
        refine (HLG.out _ H1).mono ?_
        rintro e w1 ⟨rfl, H2⟩
        clear H1
        by_cases hlo : (l.map Ac.act).any Kv.long = true
        · rw [hlo]
          have hend := HE2.out HNB.out (.inr (.inl hlo))
          have HEND := Lib.hid hend
          clear hend hlo
          go_wp2
          go_ret2
          exact ⟨none, 0, M, by rw [HEND.out]; rfl, by rw [HEND.out]; exact Nat.le_refl _, fun _ => rfl, Mem.le.refl _, fun _ _ => by rw [HEND.out]; exact fun h => absurd rfl h, H2⟩
        · have hlf : (l.map Ac.act).any Kv.long = false := by simpa using hlo
          rw [hlf]
          have hsz : ∀ a ∈ l, a.key.length ≤ 1024 ∧ a.p.l.length ≤ 60000 := fun a ha => by
            have h1 : Kv.long a.act = false := by
              cases h : Kv.long a.act with
              | false => rfl
              | true => rw [List.any_eq_true.2 ⟨a.act, List.mem_map.2 ⟨a, ha, rfl⟩, h⟩] at hlf; cases hlf
            unfold Kv.long at h1
            simp only [Bool.or_eq_false_iff, decide_eq_false_iff_not] at h1
            exact ⟨Nat.le_of_not_lt h1.1, Nat.le_of_not_lt h1.2⟩
          have HSZ := Lib.hid hsz
          have HLO := Lib.hid hlf
          obtain ⟨h0, hh0⟩ : ∃ x, x = UInt8.ofNat k := ⟨_, rfl⟩
          have f1 : IntKind.u8.wrap (k : Int) = (k : Int) := by rw [IntKind.wrap_u8]; omega
          have hb0 : [Value.int .u8 (k : Int)] = bv [h0] := by
            rw [hh0]
            unfold bv
            simp only [List.map_cons, List.map_nil, UInt8.toNat_ofNat']
            rw [show k % 2 ^ 8 = k from by omega]
          have HB0 := Lib.hid hb0
          have HH0 := Lib.hid hh0
          clear hsz hlf hlo hb0 hh0
          go_wp2
          have H3 := H2.lit [.int .u8 (k : Int)] 5 (by show 1 ≤ maxLen; decide)
          have H3 : St w0 (w1.alloc (.cells #[.int .u8 (k : Int)] 5)) M (er 5 1 (.slice (some ⟨w1.heap.size, 0, none⟩) 1 1) 1 (bv [h0]) :: L) := by rw [← HB0.out]; exact H3
          go_loopw [6, 43] (fun v i wr => ∃ (j m : Nat) (X : List UInt8), j ≤ k ∧ i = .int .i64 j ∧ X = h0 :: Kv.all ((l.take j).map Ac.act) ∧ X.length = m ∧ m ≤ 1 + j * 61029 ∧ St w0 wr M (er 5 1 v m (bv X) :: L)) (fun _ i _ => k - (intOf i).toNat)
          case atStart => exact ⟨0, 1, [h0], by omega, rfl, by simp [Kv.all], rfl, by omega, H3⟩
          case round =>
            obtain ⟨j, m, X, hj, rfl, hX, hXm, hm, H4⟩ := hrel
            clear H2 H3
            have HX := Lib.hid (And.intro hX (And.intro hXm hm))
            clear hX hXm hm
            obtain ⟨A4, c4, rfl, hc4⟩ := H4.shape 0 rfl
            by_cases hlt : j < k
            · have hk1 : j < l.length := by have := HN.out; omega
              obtain ⟨b, o, hAe, hrg⟩ := RA.ac3 (hl.now H4.d0) j hk1
              have hsn := Kv.all_snoc hk1
              have hsz := HSZ.out l[j] (List.getElem_mem hk1)
              have hin := HI.out l[j] (List.getElem_mem hk1)
              obtain ⟨p, hp⟩ : ∃ p, p = l[j] := ⟨_, rfl⟩
              rw [← hp] at hrg hsn hsz hin
              obtain ⟨key, set, ⟨PA, PN, PC, PL⟩⟩ := p
              unfold ac Pc.v at hrg
              simp only at hrg hsz hin
              obtain ⟨⟨hPN, hPA, hPC⟩, hin⟩ := hin
              simp only at hPN hPA hPC hin
              subst hAe
              have HRG := Lib.hid hrg
              have HSN := Lib.hid hsn
              have HSZ1 := Lib.hid hsz
              have HPN := Lib.hid hPN
              have HIN := Lib.hid hin
              have HLT := Lib.hid hlt
              have q1 : (j : Int) < (k : Int) := by omega
              have q1n : j < k := hlt
              have H5 := (H4.new [.string (str key), .bool set, .slice PA PN PC] 75).f1
              have r0 := H5.cell 1 rfl 0
              have r1 := H5.cell 1 rfl 1
              have r2 := H5.cell 1 rfl 2
              simp only [List.getElem?_cons_succ, List.getElem?_cons_zero] at r0 r1 r2
              obtain ⟨S, hS⟩ : ∃ S, S = str key := ⟨_, rfl⟩
              rw [← hS] at H5 HRG r0 r1 r2
              have HSE := Lib.hid hS
              clear hp hrg hk1 hlt hsn hsz hPN hPA hPC hin hS H4
              cases set with
              | true =>
                go_wp2_with (refine wpList_load_mid (by rfl) 75 (.tmp 45) (by rfl) b (o + j * 3) (by rfl) [.string S, .bool _, .slice PA PN PC] _ HRG.out Tryz.underlying75 rfl (by exact Tryz.sizeAct) ?_)
                have r3 := HIN.out.now H5
                refine Pt.wp_plan (fun w' => w'.cell? ⟨wr.heap.size, 0, none⟩ = some (.string S) ∧ w'.cell? ⟨wr.heap.size, 2, none⟩ = some (.slice PA PN PC) ∧ RB w' PA PL) (Pt.prs [0, 3, 6] (Pt.rds [4, 7, 8] (.go 1 (.go 2 (.go 5 (.go 9 (Pt.prs [10] .fin))))))) [] Tryz.mixed (by kernel_rfl) (fun _ _ d _ _ h => by cases d <;> exact h) ⟨r0, r2, r3⟩ ?_
                have H6 := H5.drew
                clear r0 r1 r2 r3 H5
                simp only [Pt.toL, Pt.rds, Pt.prs, Pt.at_, List.drop_succ_cons, List.drop_zero]
                iterate 3 (refine Pt.pr_run (v := ?_) (by rfl) ?_ ?_; rotate_left; (focus (intro w'; go_simp; with_reducible rfl)); simp only [Act.put, List.setIfInBounds_toArray, List.set_cons_zero, List.set_cons_succ])
                iterate 2 (refine Pt.rd_run (v := ?_) (by rfl) ?_ ?_; rotate_left; (focus (intro w' hS; obtain ⟨s0, s1, s2⟩ := hS; go_simp; with_reducible rfl)); simp only [Act.put, List.setIfInBounds_toArray, List.set_cons_zero, List.set_cons_succ])
                (refine Pt.rd_run (v := ?_) (by rfl) ?_ ?_; rotate_left; (focus (intro w' hS; have cv := conv_RB (P := Tryz.prog) (src := 30) (dst := 9) (c := PC) Tryz.underlying30 Tryz.underlying5 Tryz.underlying9 hS.2.2 HPN.out; go_simp; with_reducible rfl)); simp only [Act.put, List.setIfInBounds_toArray, List.set_cons_zero, List.set_cons_succ])
                generalize hwx : (wr.alloc (.cells #[.string S, .bool true, .slice PA PN PC] 75)).drew = wx at *
                generalize hgx : wr.heap.size = gx at *
                clear hwx hgx
                have H7 := H6.alloc (.cells #[.int .u8 1] 5)
                have hnew : RB _ (some ⟨_, 0, none⟩) [1] := (Blk.new wx 5 [.int .u8 1]).RB (o := 0) rfl
                refine Pt.run_go ?_
                go_wp2_with fail
                refine Pt.same ⟨H7.cell 1 rfl 0, H7.cell 1 rfl 2, HIN.out.now H7⟩ ?_
                refine Pt.run_go ?_
                refine wpList_append_st H7 (by rfl) (.tmp 49) (.tmp 50) 30 (by rfl) Tryz.info5 Tryz.underlying30 (by rfl) (some ⟨_, 0, none⟩) 1 1 [1] (by rfl) rfl (by rintro ⟨⟩) hnew (by have := HX.out.2.2; omega) ?_
                intro v5 w5 H8
                rw [← bv_append] at H8
                refine wpList_nil ?_
                simp only [Pl.Then, Act.put, List.setIfInBounds_toArray, List.set_cons_zero, List.set_cons_succ]
                refine Pt.same ⟨H8.cell 1 rfl 0, H8.cell 1 rfl 2, HIN.out.now H8⟩ ?_
                clear H7 hnew H6
                have hp1 := put20_any H8 key (by have := HSZ1.out.1; omega) (by have := HX.out.2.2; omega)
                rw [← HSE.out] at hp1
                have HP1 := Lib.hid hp1
                clear hp1
                obtain ⟨A8, c8, rfl, -⟩ := H8.shape 0 rfl
                refine Pt.run_go ?_
                go_wp2_with fail
                refine HP1.out.mono ?_
                rintro e w6 ⟨v6, rfl, H9⟩
                go_wp2_with fail
                refine Pt.same ⟨H9.cell 1 rfl 0, H9.cell 1 rfl 2, HIN.out.now H9⟩ ?_
                have hp1 := put20_any H9 PL (by have := HSZ1.out.2; omega) (by have := HX.out.2.2; have := HSZ1.out.1; omega)
                have HP2 := Lib.hid hp1
                clear hp1 HP1 H8
                obtain ⟨A9, c9, rfl, -⟩ := H9.shape 0 rfl
                refine Pt.run_go ?_
                go_wp2_with fail
                refine HP2.out.mono ?_
                rintro e w7 ⟨v7, rfl, H10⟩
                go_wp2_with fail
                refine Pt.same ⟨H10.cell 1 rfl 0, H10.cell 1 rfl 2, HIN.out.now H10⟩ ?_
                (refine Pt.pr_run (v := ?_) (by rfl) ?_ ?_; rotate_left; (focus (intro w'; go_simp; with_reducible rfl)); simp only [Act.put, List.setIfInBounds_toArray, List.set_cons_zero, List.set_cons_succ])
                refine Pt.run_fin ?_
                clear H9 HP2
                go_wp2
                have hfin : X ++ [1] ++ (Kv.be2 key.length ++ key) ++ (Kv.be2 PL.length ++ PL) = h0 :: Kv.all ((l.take (j + 1)).map Ac.act) := by
                  rw [HSN.out, HX.out.1]
                  simp [Kv.one, Ac.act]
                have hlen : (h0 :: Kv.all ((l.take (j + 1)).map Ac.act)).length = m + 1 + (2 + key.length) + (2 + PL.length) := by
                  rw [← hfin]
                  simp [HX.out.2.1, Kv.be2]
                  omega
                rw [hfin] at H10
                exact ⟨⟨j + 1, _, _, by have := HLT.out; omega, by go_num, rfl, hlen, by have := HX.out.2.2; have := HSZ1.out; omega, H10.d1⟩, by have := HLT.out; simp [intOf]; omega⟩
              | false =>
                go_wp2_with (refine wpList_load_mid (by rfl) 75 (.tmp 45) (by rfl) b (o + j * 3) (by rfl) [.string S, .bool _, .slice PA PN PC] _ HRG.out Tryz.underlying75 rfl (by exact Tryz.sizeAct) ?_)
                refine Pt.wp_plan (fun w' => w'.cell? ⟨wr.heap.size, 0, none⟩ = some (.string S)) (Pt.prs [0, 3] (Pt.rds [4] (.go 1 (.go 2 (.go 5 (Pt.prs [6] .fin)))))) [] Tryz.mixed (by kernel_rfl) (fun _ _ d _ _ h => by cases d <;> exact h) r0 ?_
                have H6 := H5.drew
                clear r0 r1 r2 H5
                simp only [Pt.toL, Pt.rds, Pt.prs, Pt.at_, List.drop_succ_cons, List.drop_zero]
                iterate 2 (refine Pt.pr_run (v := ?_) (by rfl) ?_ ?_; rotate_left; (focus (intro w'; go_simp; with_reducible rfl)); simp only [Act.put, List.setIfInBounds_toArray, List.set_cons_zero, List.set_cons_succ])
                (refine Pt.rd_run (v := ?_) (by rfl) ?_ ?_; rotate_left; (focus (intro w' hS; obtain s0 := hS; go_simp; with_reducible rfl)); simp only [Act.put, List.setIfInBounds_toArray, List.set_cons_zero, List.set_cons_succ])
                generalize hwx : (wr.alloc (.cells #[.string S, .bool false, .slice PA PN PC] 75)).drew = wx at *
                generalize hgx : wr.heap.size = gx at *
                clear hwx hgx
                have H7 := H6.alloc (.cells #[.int .u8 0] 5)
                have hnew : RB _ (some ⟨_, 0, none⟩) [0] := (Blk.new wx 5 [.int .u8 0]).RB (o := 0) rfl
                refine Pt.run_go ?_
                go_wp2_with fail
                refine Pt.same (H7.cell 1 rfl 0) ?_
                refine Pt.run_go ?_
                refine wpList_append_st H7 (by rfl) (.tmp 59) (.tmp 60) 30 (by rfl) Tryz.info5 Tryz.underlying30 (by rfl) (some ⟨_, 0, none⟩) 1 1 [0] (by rfl) rfl (by rintro ⟨⟩) hnew (by have := HX.out.2.2; omega) ?_
                intro v5 w5 H8
                rw [← bv_append] at H8
                refine wpList_nil ?_
                simp only [Pl.Then, Act.put, List.setIfInBounds_toArray, List.set_cons_zero, List.set_cons_succ]
                refine Pt.same (H8.cell 1 rfl 0) ?_
                clear H7 hnew H6
                have hp1 := put20_any H8 key (by have := HSZ1.out.1; omega) (by have := HX.out.2.2; omega)
                rw [← HSE.out] at hp1
                have HP1 := Lib.hid hp1
                clear hp1
                obtain ⟨A8, c8, rfl, -⟩ := H8.shape 0 rfl
                refine Pt.run_go ?_
                go_wp2_with fail
                refine HP1.out.mono ?_
                rintro e w6 ⟨v6, rfl, H9⟩
                go_wp2_with fail
                refine Pt.same (H9.cell 1 rfl 0) ?_
                (refine Pt.pr_run (v := ?_) (by rfl) ?_ ?_; rotate_left; (focus (intro w'; go_simp; with_reducible rfl)); simp only [Act.put, List.setIfInBounds_toArray, List.set_cons_zero, List.set_cons_succ])
                refine Pt.run_fin ?_
                clear HP1 H8
                go_wp2
                have hfin : X ++ [0] ++ (Kv.be2 key.length ++ key) = h0 :: Kv.all ((l.take (j + 1)).map Ac.act) := by
                  rw [HSN.out, HX.out.1]
                  simp [Kv.one, Ac.act]
                have hlen : (h0 :: Kv.all ((l.take (j + 1)).map Ac.act)).length = m + 1 + (2 + key.length) := by
                  rw [← hfin]
                  simp [HX.out.2.1, Kv.be2]
                  omega
                rw [hfin] at H9
                exact ⟨⟨j + 1, _, _, by have := HLT.out; omega, by go_num, rfl, hlen, by have := HX.out.2.2; have := HSZ1.out; omega, H9.d1⟩, by have := HLT.out; simp [intOf]; omega⟩
            · obtain rfl : j = k := by omega
              have hXe : X = Kv.bytes (l.map Ac.act) := by
                rw [HX.out.1, HN.out, List.take_length]
                unfold Kv.bytes
                rw [List.length_map, HH0.out, HN.out]
              by_cases hm : 65535 < m
              · have q1 : (65535 : Int) < (m : Int) := by omega
                have hend := HE2.out HNB.out (.inr (.inr (by rw [← hXe, HX.out.2.1]; exact hm)))
                have HEND := Lib.hid hend
                clear hend hm hXe
                go_wp2
                go_ret2
                exact ⟨none, 0, M, by rw [HEND.out]; rfl, by rw [HEND.out]; exact Nat.le_refl _, fun _ => rfl, Mem.le.refl _, fun _ _ => by rw [HEND.out]; exact fun h => absurd rfl h, H4.d0⟩
              · have q1 : ¬ (65535 : Int) < (m : Int) := by omega
                have hend := HE3.out HNB.out h255 HLO.out (by rw [← hXe, HX.out.2.1]; exact hm)
                rw [← hXe] at hend
                have HEND := Lib.hid hend
                obtain ⟨M', hM', H5, hin⟩ := H4.keepRow
                obtain ⟨_, _, hsh, _, hA4⟩ := H4.shape' 0 rfl
                have HMM := Lib.hid (And.intro hM' (And.intro hin (And.intro hsh hA4)))
                clear hend hm hXe hM' hin hsh hA4
                go_wp2
                go_ret2
                obtain ⟨g1, g2, g3, g4⟩ := HMM.out
                injection g3 with g5 _ g6
                subst g5 g6
                exact ⟨_, _, M', by rw [HEND.out]; show _ = Ending.returned (.tuple #[.slice _ X.length _, .int .i64 0]); rw [HX.out.2.1]; rfl, by rw [HEND.out]; show X.length ≤ _; rw [HX.out.2.1]; exact hc4, g4, g1, by rw [HEND.out]; exact g2, H5⟩
end
end Go.Proofs.YtepgmebklhemgaaGreatDoor
