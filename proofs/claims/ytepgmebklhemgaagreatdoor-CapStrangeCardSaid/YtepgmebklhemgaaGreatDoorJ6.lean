/- Writes done. -/
import Derived.Test.YtepgmebklhemgaaGreatDoorJ5
import Derived.Test.YtepgmebklhemgaaGreatDoorY9
import Derived.Test.YtepgmebklhemgaaGreatDoorJ3
import Derived.Test.YtepgmebklhemgaaGreatDoorSk
import Derived.Test.YtepgmebklhemgaaGreatDoorJ4
set_option linter.unusedVariables false
set_option linter.unusedSimpArgs false
namespace Go.Proofs.YtepgmebklhemgaaGreatDoor
open Go.RowKit Wd
def Cp.first : List Nat → Nat
  | [] => 0
  | e :: r => if e ≠ 0 then e else Cp.first r
theorem Cp.first_zero : ∀ l : List Nat, Cp.first l = 0 ↔ ∀ e ∈ l, e = 0
  | [] => by simp [Cp.first]
  | e :: r => by
    unfold Cp.first
    have := Cp.first_zero r
    by_cases h : e = 0
    · rw [if_neg (by simpa using h), this]; simp [h]
    · rw [if_pos h]; simp [h]
theorem Cp.first_at : ∀ (l : List Nat) (k : Nat) (hk : k < l.length), Cp.first (l.take k) = 0 → l[k] ≠ 0 → Cp.first l = l[k]
  | e :: r, 0, _, _, h => by
    have h' : e ≠ 0 := h
    show Cp.first (e :: r) = e
    unfold Cp.first
    rw [if_pos h']
  | e :: r, k + 1, hk, h0, h => by
    have he : e = 0 := (Cp.first_zero _).1 h0 e (by simp)
    have h1 : Cp.first (r.take k) = 0 := (Cp.first_zero _).2 fun x hx => (Cp.first_zero _).1 h0 x (by simp [hx])
    have := Cp.first_at r k (by simpa using hk) h1 h
    unfold Cp.first
    rw [if_neg (by simpa using he), this]
    rfl
def Wt.err (a : Wt) : Nat := Cp.kerr a.T a.m.l
def Wt.act (a : Wt) : Kv.Act := ⟨Cp.key a.T a.m.l, a.set, a.p.l⟩
def Cp.err (t : Nat) (ws : List Wt) : Nat := if ws.any (Wt.bad t) then 1 else Cp.first (ws.map Wt.err)
def Cp.done (S : Kv.RS) (t : Nat) (ws : List Wt) : Kv.RS × Int := if Cp.err t ws ≠ 0 then (S, (Cp.err t ws : Int)) else S.apply (ws.map Wt.act)
section
variable {w0 w : World} {M : Mem} {L : List Ent} {t s g f mb gen en : Nat} {F : FM} {ls : List (List UInt8)} {D : List Pa}
set_option maxRecDepth 100000 in
theorem capply_nil (H : St w0 w M L) (v : Value) : Calls Tryz.prog 13 #[.pointer none, v] w fun e w' => e = .returned (.int .i64 1) ∧ St w0 w' M L := by
  have H1 := H.new [.pointer none] 26
  have c0 := (H1.blk 0 rfl).cell 0
  simp only [List.getElem?_cons_zero] at c0
  have HI := Lib.hid (cis_nil (w.alloc (.cells #[.pointer none] 26)))
  go_enter Tryz.func13, Tryz.ntmps13
  go_wp2_with fail
  refine HI.out.mono ?_
  rintro e w' ⟨rfl, rfl⟩
  go_wp2
  go_ret
  exact ⟨rfl, H1.d0⟩
set_option maxRecDepth 100000 in
set_option maxHeartbeats 4000000 in
theorem capply_any (K : KS w0 w M s g f mb F gen ls en D L) {S : Kv.RS} (hsi : Kv.SI F gen ls en (D.map Pa.pr) S) (hF : Calm F) (hx : In M Tp.MaxI) (ht : CapAt M t s) {A : Option Addr} {c n : Nat} {ws : List Wt} (hn : n = ws.length) (hl : In M (RA · A (wts ws))) (hi : ∀ a ∈ ws, Wt.may M t a) (hn2 : n ≤ 100000) :
    Calls Tryz.prog 13 #[.pointer (some ⟨t, 0, none⟩), .slice A n c] w (RetCalm w0 M s g f L (Cp.done S t ws)) := by
  obtain ⟨Z, h, hb1, hb2⟩ := K.out
  have H1 := h.new [.pointer (some ⟨t, 0, none⟩)] 26
  obtain ⟨M1, hM1, H2, hbox⟩ := H1.keepBlk
  have c0 := (hbox.now H2).cell 0
  simp only [List.getElem?_cons_zero] at c0
  have HI := Lib.hid (cis_any H2 (ht.le hM1))
  have hct := fun w L (H : St w0 w M1 L) => containsW_any 43 #[.pointer (some ⟨w.heap.size, 0, none⟩)] (enters_of Tryz.func43 (by kernel_rfl) rfl) (Wt.bad t) (c := c) H hn (SrA.of_in (hl.le hM1)) (by omega)
  have hct := containsW_any 43 #[.pointer (some ⟨w.heap.size, 0, none⟩)] (enters_of Tryz.func43 (by kernel_rfl) rfl) (Wt.bad t) (c := c) H2 hn (SrA.of_in (hl.le hM1)) (by omega) (fun a ha w H => bad_any H (hx.le hM1) (ht.le hM1) hbox ((hi a ha).le hM1))
  obtain ⟨b, hb⟩ : ∃ b, b = ws.any (Wt.bad t) := ⟨_, rfl⟩
  rw [← hb] at hct
  have HC := Lib.hid hct
  have HH := Lib.hid (And.intro hn (And.intro hl (And.intro hi (And.intro hx (And.intro ht (And.intro hsi (And.intro hF (And.intro hb1 (And.intro hb2 (And.intro hM1 (And.intro hbox hb)))))))))))
  clear hn hl hi hx ht hsi hF hb1 hb2 hM1 hbox hb hct H1 h K
  go_enter Tryz.func13, Tryz.ntmps13
  go_wp2_with fail
  refine HI.out.mono ?_
  rintro e w' ⟨rfl, rfl⟩
  go_wp2_with fail
  refine HC.out.mono ?_
  rintro e w2 ⟨rfl, H3⟩
  generalize w.heap.size = gb at *
  clear HC HI H2 c0
  cases b with
  | true =>
    go_wp2
    go_ret
    have he : Cp.done S t ws = (S, 1) := by unfold Cp.done Cp.err; rw [← HH.out.2.2.2.2.2.2.2.2.2.2.2]; rfl
    exact ⟨mb, F, gen, ls, en, D, M1, HH.out.2.2.2.2.2.2.2.2.2.1, by rw [he]; rfl, HH.out.2.2.2.2.2.2.2.1 _ _ HH.out.2.2.2.2.2.2.2.2.2.1 H3, by rw [he]; exact HH.out.2.2.2.2.2.1, HH.out.2.2.2.2.2.2.1⟩
  | false =>
    have H4 := H3.addNil 75 3
    go_wp2_with fail
    go_loopw [5, 20] (fun v i wr => ∃ (k d : Nat) (B : Option Addr) (az : List Ac) (M' : Mem), k ≤ n ∧ i = .int .i64 k ∧ v = .slice B k d ∧ M1.le M' ∧ az.map Ac.act = (ws.take k).map Wt.act ∧ AcIn M' az ∧ Cp.first ((ws.take k).map Wt.err) = 0 ∧ St w0 wr M' (er 75 3 (.slice B k d) k (acs az) :: Z)) (fun v i _ => n - (intOf i).toNat)
    case atStart => exact ⟨0, 0, none, [], M1, by omega, rfl, rfl, Mem.le.refl _, rfl, AcIn.nil _, rfl, H4⟩
    case round =>
      clear H3 H4
      obtain ⟨k, d, B, az, M', hk, rfl, rfl, hM, hab, hin, hfi, H1⟩ := hrel
      by_cases hlt : k < n
      · have hk1 : k < ws.length := by have := HH.out.1; omega
        have hM0 := HH.out.2.2.2.2.2.2.2.2.2.1.trans hM
        obtain ⟨b, o, rfl, hrg⟩ := RA.atK wt_len (by decide) ((HH.out.2.1.le hM0).now H1) k hk1
        have hmay := HH.out.2.2.1 _ (List.getElem_mem hk1)
        have hbad : Wt.bad t ws[k] = false := by
          have := HH.out.2.2.2.2.2.2.2.2.2.2.2
          have h2 := List.any_eq_false.1 this.symm _ (List.getElem_mem hk1)
          simpa using h2
        have hta : ws.take (k + 1) = ws.take k ++ [ws[k]] := List.take_succ_eq_append_getElem hk1
        have hfa : Wt.err ws[k] ≠ 0 → Cp.first (ws.map Wt.err) = Wt.err ws[k] := fun h => by
          have := Cp.first_at (ws.map Wt.err) k (by simpa using hk1) (by rw [← List.map_take]; exact hfi) (by simpa using h)
          simpa using this
        obtain ⟨q, hq⟩ : ∃ q, q = ws[k] := ⟨_, rfl⟩
        rw [← hq] at hrg hmay hta hfa hbad
        obtain ⟨S1, T, m, st, p⟩ := q
        have hke := fun w L (H : St w0 w M' L) => key_any H (HH.out.2.2.2.1.le hM0) S1 T (hmay.1.1.le hM0) hmay.2.1
        obtain ⟨⟨-, hp, hpi⟩, -, -⟩ := hmay
        dsimp only at hp hpi hke
        unfold wt at hrg
        unfold capV at hke
        dsimp only at hke hrg
        obtain ⟨Q, hQ⟩ : ∃ Q : Value, Q = .pointer (S1.map fun t => ⟨t, 0, none⟩) := ⟨_, rfl⟩
        obtain ⟨V, hV⟩ : ∃ V, V = Nm.v m := ⟨_, rfl⟩
        obtain ⟨C, hC⟩ : ∃ C, C = Cp.kerr T m.l := ⟨_, rfl⟩
        obtain ⟨KY, hKY⟩ : ∃ KY, KY = Cp.key T m.l := ⟨_, rfl⟩
        rw [← hQ, ← hV] at hrg hke
        rw [← hC, ← hKY] at hke
        have hC1 : C ≠ 1 := fun h => by
          unfold Wt.bad at hbad
          simp only [← hC, h] at hbad
          cases hbad
        obtain ⟨PA, pn, pc, pl⟩ := p
        unfold Pc.v at hrg
        dsimp only at hrg
        have HKE := Lib.hid hke
        have HQV := Lib.hid (And.intro hQ hV)
        have HRG := Lib.hid hrg
        have HK := Lib.hid (And.intro hlt (And.intro hM (And.intro hab (And.intro hin (And.intro hta (And.intro hfa (And.intro hp (And.intro hpi (And.intro hM0 (And.intro hC hKY))))))))))
        have q1 : (k : Int) < (n : Int) := by omega
        clear hke hrg hlt hM hab hin hta hfa hp hpi hk1 hq hbad hQ hV hC hKY hk hM0
        have H2 := H1.new zw 64
        unfold zw at H2
        go_wp2_with first
          | (refine wpList_load_mid (by rfl) 64 (.tmp 22) (by rfl) b (o + k * 5) (by rfl) [Q, .int .u64 (T : Int), V, .bool st, .slice PA pn pc] _ HRG.out Tryz.underlying64 rfl (by exact Tryz.sizeWrite) ?_)
          | (refine wpList_store_st H2 (by rfl) 64 (.tmp 7) (.tmp 23) (by rfl) 0 [Q, .int .u64 (T : Int), V, .bool st, .slice PA pn pc] (by rfl) (by rfl) (by simp) (by exact Tryz.sizeWrite) (by simp [Value.oneCell', HQV.out.1, HQV.out.2, Nm.v]) ?_; intro w2 H2'; rw [ins_all [.pointer none, .int .u64 0, .slice none 0 0, .bool false, .slice none 0 0] [Q, .int .u64 (T : Int), V, .bool st, .slice PA pn pc] rfl] at H2'; have RG := Lib.hid ((H2'.blk 0 rfl).range 0 2 [Q, .int .u64 (T : Int)] rfl); have c2 := (H2'.blk 0 rfl).cell 2; simp only [List.getElem?_cons_zero, List.getElem?_cons_succ] at c2)
          | (refine wpList_load_mid (by rfl) 60 (.tmp 25) (by rfl) wr.heap.size 0 (by rfl) [Q, .int .u64 (T : Int)] _ RG.out Tryz.underlying60 rfl (by exact Tryz.sizeCap) ?_)
        refine (HKE.out _ _ H2').mono ?_
        rintro e w4 ⟨rfl, H3⟩
        have c3 := (H3.blk 0 rfl).cell 3
        have c4 := (H3.blk 0 rfl).cell 4
        simp only [List.getElem?_cons_zero, List.getElem?_cons_succ] at c3 c4
        clear HKE HRG RG c2 H2 H1 H2'
        by_cases h0 : C = 0
        · subst h0
          have H4 := (H3.d0).alloc (.cells #[.string (str KY), .bool st, .slice PA pn pc] 75)
          have hra : RA (w4.alloc (.cells #[.string (str KY), .bool st, .slice PA pn pc] 75)) (some ⟨w4.heap.size, 0, none⟩) (ac ⟨KY, st, ⟨PA, pn, pc, pl⟩⟩) := fun _ => ⟨_, 0, rfl, (Blk.new w4 75 [.string (str KY), .bool st, .slice PA pn pc]).lt, (Blk.new w4 75 [.string (str KY), .bool st, .slice PA pn pc]).range 0 3 _ rfl⟩
          have HRA := Lib.hid hra
          clear hra H3
          go_wp2_with (at_builtin; refine wpList_append_any_st H4 (by rfl) (.tmp 35) (.tmp 42) 42 (by rfl) Tryz.infoAct (by rfl) (by decide) Tryz.underlying42 (by rfl) (some ⟨w4.heap.size, 0, none⟩) 1 1 (ac ⟨KY, st, ⟨PA, pn, pc, pl⟩⟩) (by rfl) rfl (by rintro ⟨⟩) HRA.out (ac_one _) (by omega) (by omega) ?_; intro v2 w5 H5)
          obtain ⟨B9, d9, rfl, -⟩ := H5.shape 0 rfl
          have he : acs az ++ ac ⟨KY, st, ⟨PA, pn, pc, pl⟩⟩ = acs (az ++ [⟨KY, st, ⟨PA, pn, pc, pl⟩⟩]) := by rw [acs_append]; simp [acs]
          rw [he] at H5
          clear HRA H4 c3 c4
          go_wp2
          exact ⟨⟨k + 1, d9, B9, az ++ [⟨KY, st, ⟨PA, pn, pc, pl⟩⟩], M', by have := HK.out.1; omega, by go_num, rfl, HK.out.2.1, by rw [HK.out.2.2.2.2.1, List.map_append, List.map_append, HK.out.2.2.1, HK.out.2.2.2.2.2.2.2.2.2.2]; rfl, HK.out.2.2.2.1.snoc HK.out.2.2.2.2.2.2.1 (HK.out.2.2.2.2.2.2.2.1.le HK.out.2.2.2.2.2.2.2.2.1), by
            rw [HK.out.2.2.2.2.1, List.map_append, Cp.first_zero]
            intro x hx
            rcases List.mem_append.1 hx with hx | hx
            · exact (Cp.first_zero _).1 hfi x hx
            · rw [List.map_cons, List.map_nil, List.mem_singleton] at hx
              rw [hx]
              exact HK.out.2.2.2.2.2.2.2.2.2.1.symm, H5⟩, by have := HK.out.1; simp [intOf]; omega⟩
        · have q2 : ¬ (C : Int) = 0 := by omega
          have qb : ((C : Int) == 0) = false := beq_eq_false_iff_ne.2 q2
          have he : Cp.done S t ws = (S, (C : Int)) := by
            have h1 : Cp.err t ws = C := by
              unfold Cp.err
              rw [← HH.out.2.2.2.2.2.2.2.2.2.2.2]
              have := HK.out.2.2.2.2.2.1 (by show Cp.kerr T m.l ≠ 0; rw [← HK.out.2.2.2.2.2.2.2.2.2.1]; exact h0)
              rw [if_neg (by decide), this]
              exact HK.out.2.2.2.2.2.2.2.2.2.1.symm
            unfold Cp.done
            rw [h1, if_pos h0]
          have HE := Lib.hid he
          clear he c3 c4
          go_wp2
          go_ret
          have hM0 := HK.out.2.2.2.2.2.2.2.2.1
          exact ⟨mb, F, gen, ls, en, D, M', hM0, by rw [HE.out]; rfl, HH.out.2.2.2.2.2.2.2.1 _ _ hM0 H3.d0.d0, by rw [HE.out]; exact HH.out.2.2.2.2.2.1, HH.out.2.2.2.2.2.2.1⟩
      · obtain rfl : k = n := by omega
        have hM0 := HH.out.2.2.2.2.2.2.2.2.2.1.trans hM
        rw [HH.out.1, List.take_length] at hab hfi
        have he : Cp.done S t ws = S.apply (az.map Ac.act) := by
          have h1 : Cp.err t ws = 0 := by
            unfold Cp.err
            rw [← HH.out.2.2.2.2.2.2.2.2.2.2.2, if_neg Bool.false_ne_true, hfi]
          unfold Cp.done
          rw [h1, if_neg (by decide), hab]
        have K2 := HH.out.2.2.2.2.2.2.2.2.1 _ _ _ hM0 H1
        have ha := apply_calm (c := d) (A := B) (n := k) (l := az) K2 HH.out.2.2.2.2.2.1 HH.out.2.2.2.2.2.2.1 (by have := congrArg List.length hab; simp only [List.length_map] at this; rw [this]; exact HH.out.1) (SrA.row 0 rfl) hin (by omega)
        have HA := Lib.hid ha
        have HE := Lib.hid (And.intro he hM0)
        have cb := (Wd.In.now (Wd.In.le HH.out.2.2.2.2.2.2.2.2.2.2.1 hM) H1).cell 0
        have ct := (HH.out.2.2.2.2.1.le hM0).c0 H1
        simp only [List.getElem?_cons_zero] at cb
        clear ha he hab hfi hin hM hM0 K2 H1 hlt
        go_wp2_with fail
        refine HA.out.mono ?_
        rintro e w5 ⟨mb5, F5, gen5, ls5, en5, D5, M5, hM5, rfl, K5, hsi5, hF5⟩
        go_wp2
        go_ret
        exact ⟨mb5, F5, gen5, ls5, en5, D5, M5, HE.out.2.trans hM5, by rw [HE.out.1]; rfl, K5.drop, by rw [HE.out.1]; exact hsi5, hF5⟩
end
end Go.Proofs.YtepgmebklhemgaaGreatDoor
/- A key's partition and name. -/
set_option linter.unusedVariables false
set_option linter.unusedSimpArgs false
namespace Go.Proofs.YtepgmebklhemgaaGreatDoor
open Go.RowKit Wd
def Cp.OwnK (s : List UInt8) (T : Nat) (l : List Tu.Part) : Prop := Tu.Key s (Cp.full T l) ∧ 1 ≤ l.length ∧ l.length ≤ 4
theorem Cp.OwnK.one {s : List UInt8} {T T' : Nat} {l l' : List Tu.Part} (h : Cp.OwnK s T l) (k : Cp.OwnK s T' l') : T = T' ∧ l = l' := by
  have := h.1.one k.1
  unfold Cp.full at this
  injection this with h1 h2
  injection h1 with _ h1 _
  exact ⟨h1, h2⟩
/-- What own gives. -/
def RetOwn (w0 : World) (M : Mem) (L : List Ent) (s : List UInt8) (e : Ending) (w' : World) : Prop :=
  (∃ T m M', Cp.OwnK s T m.l ∧ e = .returned (.tuple #[.int .u64 (T : Int), Nm.v m, .bool true]) ∧ M.le M' ∧ Nm.In M' m ∧ St w0 w' M' L) ∨
  ((∀ T l, ¬ Cp.OwnK s T l) ∧ e = .returned (.tuple #[.int .u64 0, .slice none 0 0, .bool false]) ∧ St w0 w' M L)
theorem Tryz.szPart : ∀ w, (Go.sizeOf 79).run Tryz.prog w = .ok 3 w := fun w => by
  obtain ⟨j, hj, hjs⟩ := Option.map_eq_some_iff.1 Tp.Tryz.sizePart
  simp [Go.sizeOf, typeInfo, hj, hjs]
section
variable {w0 w : World} {M : Mem} {L : List Ent}
set_option maxRecDepth 100000 in
theorem own_any (H : St w0 w M L) (s : List UInt8) (hs : s.length ≤ 1024) : Calls Tryz.prog 50 #[.string (str s)] w (RetOwn w0 M L s) := by
  have HD := Lib.hid (Tp.decode_any H s hs)
  clear hs
  go_enter Tryz.func50, Tryz.ntmps50
  go_wp2_with fail
  refine HD.out.mono ?_
  rintro e w1 (⟨l, v, hk, rfl, H1⟩ | ⟨hk, rfl, H1⟩)
  · obtain ⟨A, c, rfl, hc, hA⟩ := H1.shape' 0 rfl
    obtain ⟨n, hn⟩ : ∃ n, n = l.length := ⟨_, rfl⟩
    rw [← hn] at H1 hc ⊢
    have HK := Lib.hid (And.intro hk (And.intro hn (And.intro hc hA)))
    clear hk HD
    by_cases h2 : n < 2
    · have q1 : (n : Int) < 2 := by omega
      clear h2 hn hc hA
      go_wp2
      go_ret3
      refine .inr ⟨fun T r hr => ?_, rfl, H1.d0⟩
      have := hr.1.one HK.out.1
      have := congrArg List.length this
      unfold Cp.full at this
      simp only [List.length_cons] at this
      have := hr.2.1
      have := HK.out.2.1
      omega
    · have q1 : ¬ (n : Int) < 2 := by omega
      by_cases h5 : 5 < n
      · have q2 : (5 : Int) < (n : Int) := by omega
        clear h2 h5 hn hc hA
        go_wp2
        go_ret3
        refine .inr ⟨fun T r hr => ?_, rfl, H1.d0⟩
        have := hr.1.one HK.out.1
        have := congrArg List.length this
        unfold Cp.full at this
        simp only [List.length_cons] at this
        have := hr.2.2
        have := HK.out.2.1
        omega
      · have q2 : ¬ (5 : Int) < (n : Int) := by omega
        obtain ⟨q, r, rfl⟩ : ∃ q r, l = q :: r := by
          cases l with
          | nil => simp at hn; omega
          | cons q r => exact ⟨q, r, rfl⟩
        obtain ⟨x, T, b⟩ := q
        have hca := (SrA.row 0 rfl : SrA w0 M _ A (Tp.pcs (⟨x, T, b⟩ :: r))).now H1
        obtain ⟨bb, o, rfl, hrg⟩ := Tp.RA.at3 hca 0 (by simp)
        have c1 : ∀ W M2 L2, St w0 W M2 (er 79 3 (.slice (some ⟨bb, o, none⟩) n c) n (Tp.pcs (⟨x, T, b⟩ :: r)) :: L2) → W.cell? ⟨bb, o + 1, none⟩ = some (.int .u64 (T : Int)) ∧ W.cell? ⟨bb, o + 2, none⟩ = some (.bool b) := fun W M2 L2 H => by
          obtain ⟨b2, o2, he, hrg⟩ := Tp.RA.at3 ((SrA.row 0 rfl : SrA w0 M2 _ (some ⟨bb, o, none⟩) (Tp.pcs (⟨x, T, b⟩ :: r))).now H) 0 (by simp)
          injection he with he
          injection he with e1 e2
          subst e1 e2
          rw [Nat.zero_mul, Nat.add_zero] at hrg
          exact ⟨hrg 1 _ rfl, hrg 2 _ rfl⟩
        obtain ⟨x1, x2⟩ := c1 _ _ _ H1
        have q3 : (0 : Int) < (n : Int) := by omega
        have HC := Lib.hid c1
        clear h2 h5 hn hc hA hrg hca c1
        cases b with
        | true =>
          go_wp2
          go_ret3
          refine .inr ⟨fun T' r' hr => ?_, rfl, H1.d0⟩
          have := hr.1.one HK.out.1
          unfold Cp.full at this
          injection this with h1 h2
          injection h1 with _ _ h1
          cases h1
        | false =>
          have hs1 : ∀ W, (Instr.slice 24 (.slice (some ⟨bb, o, none⟩) n c) (some (.int .i64 1)) none none).run Tryz.prog W = .ok (.slice (sA (some ⟨bb, o, none⟩) c 1 3) (n - 1) (c - 1)) W := fun W => slK_l W Tryz.underlying24 Tryz.szPart (some ⟨bb, o, none⟩) n c 1 (by omega)
          go_wp2_with fail
          refine Pt.wp_plan (fun w' => w'.cell? ⟨bb, o + 1, none⟩ = some (.int .u64 (T : Int))) (Pt.prs [0, 1, 2, 4] (Pt.rds [3] (Pt.prs [5, 6, 7, 8] .fin))) [] Tryz.mixed (by kernel_rfl) (fun _ _ d _ _ h => by cases d <;> exact h) (HC.out _ _ _ H1.drew).1 ?_
          have H2 := H1.drew
          clear H1 x1 x2
          simp only [Pt.toL, Pt.rds, Pt.prs, Pt.at_, List.drop_succ_cons, List.drop_zero]
          iterate 4 (refine Pt.pr_run (v := ?_) (by rfl) ?_ ?_; rotate_left; (focus (intro w'; go_simp; with_reducible rfl)); simp only [Act.put, List.setIfInBounds_toArray, List.set_cons_zero, List.set_cons_succ])
          (refine Pt.rd_run (v := ?_) (by rfl) ?_ ?_; rotate_left; (focus (intro w' hS; obtain s0 := hS; go_simp; with_reducible rfl)); simp only [Act.put, List.setIfInBounds_toArray, List.set_cons_zero, List.set_cons_succ])
          iterate 4 (refine Pt.pr_run (v := ?_) (by rfl) ?_ ?_; rotate_left; (focus (intro w'; go_simp; with_reducible rfl)); simp only [Act.put, List.setIfInBounds_toArray, List.set_cons_zero, List.set_cons_succ])
          refine Pt.run_fin ?_
          obtain ⟨M', h5, h6, h7⟩ := H2.keepNm
          go_wp2
          go_ret3
          have hx : x = [] := by
            have h1 := HK.out.1.1 ⟨x, T, false⟩ (by simp)
            unfold Tu.ok Tu.may at h1
            simpa using h1.1
          subst hx
          have hnl := HK.out.2.1
          simp only [List.length_cons] at hnl
          refine .inl ⟨T, ⟨sA (some ⟨bb, o, none⟩) c 1 3, n - 1, c - 1, r⟩, M', ⟨HK.out.1, by show 1 ≤ r.length; omega, by show r.length ≤ 4; omega⟩, rfl, h5, ⟨by show n - 1 = r.length; omega, (fun h => by have := sA_none h; cases this), by have := HK.out.2.2.1; show n - 1 ≤ c - 1; omega, Wd.In.imp h7.2.2.2 fun W hW => ?_⟩, h6⟩
          have := RA.dropS hW (cap := c) (sz := 3) (by rw [Tp.pcs_length]; simp only [List.length_cons]; have := HK.out.2.2.1; omega) 1
          exact this
  · go_wp2
    go_ret3
    exact .inr ⟨fun T l h => hk _ h.1, rfl, H1⟩
end
end Go.Proofs.YtepgmebklhemgaaGreatDoor
/- A store of partitions as a whole; its scan and its lookup. -/
set_option linter.unusedVariables false
set_option linter.unusedSimpArgs false
namespace Go.Proofs.YtepgmebklhemgaaGreatDoor
open Go.RowKit Wd
/-- The store at s over the file at f holds S; nothing waits. -/
def KB (w0 w : World) (M : Mem) (s f : Nat) (S : Kv.RS) (L : List Ent) : Prop :=
  ∃ g mb F gen ls en D, KS w0 w M s g f mb F gen ls en D L ∧ Kv.SI F gen ls en (D.map Pa.pr) S ∧ Calm F
/-- All keys are names in partitions. -/
def Cp.Good (l : List Kv.Pr) : Prop := ∀ p ∈ l, ∃ T n, Cp.OwnK p.1 T n
def KC (w0 w : World) (M : Mem) (s f : Nat) (S : Kv.RS) (L : List Ent) : Prop := KB w0 w M s f S L ∧ Cp.Good S.L
section
variable {w0 w : World} {M : Mem} {L : List Ent} {t s f : Nat} {S : Kv.RS}
theorem KB.out (H : KB w0 w M s f S L) : ∃ Z : List Ent, St w0 w M Z ∧ (∀ w' M', M.le M' → St w0 w' M' Z → KB w0 w' M' s f S L) ∧ ∀ w' M' e', M.le M' → St w0 w' M' (e' :: Z) → KB w0 w' M' s f S (e' :: L) := by
  obtain ⟨g, mb, F, gen, ls, en, D, K, hs, hc⟩ := H
  obtain ⟨Z, h, h1, h2⟩ := K.out
  exact ⟨Z, h, fun w' M' hM h => ⟨g, mb, F, gen, ls, en, D, h1 w' M' hM h, hs, hc⟩, fun w' M' e' hM h => ⟨g, mb, F, gen, ls, en, D, h2 w' M' e' hM h, hs, hc⟩⟩
theorem KB.drew (H : KB w0 w M s f S L) : KB w0 w.drew M s f S L := by
  obtain ⟨g, mb, F, gen, ls, en, D, K, hs, hc⟩ := H
  exact ⟨g, mb, F, gen, ls, en, D, K.drew, hs, hc⟩
theorem KB.rest (H : KB w0 w M s f S L) : St w0 w M L := by
  obtain ⟨g, mb, F, gen, ls, en, D, K, hs, hc⟩ := H
  exact K.rest
theorem KB.drop {e : Ent} (H : KB w0 w M s f S (e :: L)) : KB w0 w M s f S L := by
  obtain ⟨g, mb, F, gen, ls, en, D, K, hs, hc⟩ := H
  exact ⟨g, mb, F, gen, ls, en, D, K.drop, hs, hc⟩
theorem KB.keepA {e : TypeId} {sz n c : Nat} {A : Option Addr} {xs : List Value} (H : KB w0 w M s f S (er e sz (.slice A n c) n xs :: L)) : ∃ M', M.le M' ∧ KB w0 w M' s f S L ∧ In M' fun W => RA W A xs := by
  obtain ⟨g, mb, F, gen, ls, en, D, K, hs, hc⟩ := H
  obtain ⟨Hd, h1, h2⟩ := K.open_
  have pm : (mp mb D :: eb s 138 (scells g mb) :: (Hd ++ er e sz (.slice A n c) n xs :: L)).Perm (er e sz (.slice A n c) n xs :: mp mb D :: eb s 138 (scells g mb) :: (Hd ++ L)) := by
    have h3 : (Hd ++ er e sz (.slice A n c) n xs :: L).Perm (er e sz (.slice A n c) n xs :: (Hd ++ L)) := List.perm_middle
    exact (((h3.cons _).cons _).trans ((List.Perm.swap _ _ _).cons _)).trans (List.Perm.swap _ _ _)
  obtain ⟨M', hM, h4, h5, -⟩ := (h1.perm pm).lendRowA
  exact ⟨M', hM, ⟨g, mb, F, gen, ls, en, D, h2 _ _ _ _ hM (K.1.le hM) h4, hs, hc⟩, h5⟩
theorem KB.keepB {n c : Nat} {A : Option Addr} {l : List UInt8} (H : KB w0 w M s f S (er 5 1 (.slice A n c) n (bv l) :: L)) : ∃ M', M.le M' ∧ KB w0 w M' s f S L ∧ In M' fun W => RB W A l := by
  obtain ⟨g, mb, F, gen, ls, en, D, K, hs, hc⟩ := H
  obtain ⟨Hd, h1, h2⟩ := K.open_
  have pm : (mp mb D :: eb s 138 (scells g mb) :: (Hd ++ er 5 1 (.slice A n c) n (bv l) :: L)).Perm (er 5 1 (.slice A n c) n (bv l) :: mp mb D :: eb s 138 (scells g mb) :: (Hd ++ L)) := by
    have h3 : (Hd ++ er 5 1 (.slice A n c) n (bv l) :: L).Perm (er 5 1 (.slice A n c) n (bv l) :: (Hd ++ L)) := List.perm_middle
    exact (((h3.cons _).cons _).trans ((List.Perm.swap _ _ _).cons _)).trans (List.Perm.swap _ _ _)
  obtain ⟨M', hM, h4, h5⟩ := (h1.perm pm).keepRow
  exact ⟨M', hM, ⟨g, mb, F, gen, ls, en, D, h2 _ _ _ _ hM (K.1.le hM) h4, hs, hc⟩, h5⟩
theorem KB.okP (H : KB w0 w M s f S L) : (∀ p ∈ S.L, Kv.okP p) ∧ S.L.length ≤ 146880 := by
  obtain ⟨g, mb, F, gen, ls, en, D, K, hs, hc⟩ := H
  have h1 := hs.ok
  have h2 := hs.rel.2
  exact ⟨fun p hp => h1.1 p (h2.mem_iff.1 hp), by rw [h2.length_eq]; exact h1.2⟩
/-- Keys that begin so. -/
def RetScanK (w0 : World) (M : Mem) (s g f mb : Nat) (F : FM) (gen : Nat) (ls : List (List UInt8)) (en : Nat) (D : List Pa) (L : List Ent) (l : List Kv.Pr) (e : Ending) (w' : World) : Prop :=
  ∃ A n c ps M', e = .returned (.slice A n c) ∧ M.le M' ∧ PasAt M' A n c ps ∧ ps.map Pa.pr = l ∧ KS w0 w' M' s g f mb F gen ls en D L
theorem KS.keepA {g mb gen en : Nat} {F : FM} {ls : List (List UInt8)} {D : List Pa} {e : TypeId} {sz n c : Nat} {A : Option Addr} {xs : List Value} (K : KS w0 w M s g f mb F gen ls en D (er e sz (.slice A n c) n xs :: L)) : ∃ M', M.le M' ∧ KS w0 w M' s g f mb F gen ls en D L ∧ In M' fun W => RA W A xs := by
  obtain ⟨Hd, h1, h2⟩ := K.open_
  have pm : (mp mb D :: eb s 138 (scells g mb) :: (Hd ++ er e sz (.slice A n c) n xs :: L)).Perm (er e sz (.slice A n c) n xs :: mp mb D :: eb s 138 (scells g mb) :: (Hd ++ L)) := by
    have h3 : (Hd ++ er e sz (.slice A n c) n xs :: L).Perm (er e sz (.slice A n c) n xs :: (Hd ++ L)) := List.perm_middle
    exact (((h3.cons _).cons _).trans ((List.Perm.swap _ _ _).cons _)).trans (List.Perm.swap _ _ _)
  obtain ⟨M', hM, h4, h5, -⟩ := (h1.perm pm).lendRowA
  exact ⟨M', hM, h2 _ _ _ _ hM (K.1.le hM) h4, h5⟩
theorem scanK_any {g mb gen en : Nat} {F : FM} {ls : List (List UInt8)} {D : List Pa} (K : KS w0 w M s g f mb F gen ls en D L) (hsi : Kv.SI F gen ls en (D.map Pa.pr) S) (p : List UInt8) :
    Calls Tryz.prog 49 #[.pointer (some ⟨s, 0, none⟩), .string (str p)] w (RetScanK w0 M s g f mb F gen ls en D L (Kv.scan S.L p)) := by
  have hok := hsi.ok
  have hsz : ∀ a ∈ D, a.p.l.length ≤ 1000000 := fun a ha => by
    have := (hok.1 a.pr (List.mem_map.2 ⟨a, ha, rfl⟩)).2.2
    have e : a.pr.2 = a.p.l := rfl
    rw [e] at this
    omega
  have hDl := hok.2
  rw [List.length_map] at hDl
  refine (sscan_any K p hsz (by omega)).mono ?_
  rintro e w' ⟨v, ps, M2, rfl, hM2, hpS, hpp, hpw, K⟩
  have hs := Kv.scan_sorted hsi.rel p hpp hpw
  obtain ⟨A, c, rfl, hc', hA⟩ := K.rest.shape' 0 rfl
  obtain ⟨M3, hM3, K2, hin⟩ := K.keepA
  exact ⟨A, ps.length, c, ps, M3, rfl, hM2.trans hM3, ⟨rfl, hc', hA, hpS.le hM3, hin⟩, hs, K2⟩
def RetScanP (w0 : World) (M : Mem) (s f : Nat) (S : Kv.RS) (L : List Ent) (p : List UInt8) (e : Ending) (w' : World) : Prop :=
  ∃ A n c ps M', e = .returned (.slice A n c) ∧ M.le M' ∧ PasAt M' A n c ps ∧ ps.map Pa.pr = Kv.scan S.L p ∧ KB w0 w' M' s f S L
theorem scanP_any (H : KB w0 w M s f S L) (p : List UInt8) :
    Calls Tryz.prog 49 #[.pointer (some ⟨s, 0, none⟩), .string (str p)] w (RetScanP w0 M s f S L p) := by
  obtain ⟨g, mb, F, gen, ls, en, D, K, hsi, hc⟩ := H
  refine (scanK_any K hsi p).mono ?_
  rintro e w' ⟨A, n, c, ps, M', rfl, hM, h1, h2, K2⟩
  exact ⟨A, n, c, ps, M', rfl, hM, h1, h2, g, mb, F, gen, ls, en, D, K2, hsi, hc⟩
/-- What a key is set to. -/
def Cp.look (l : List Kv.Pr) (k : List UInt8) : Option (List UInt8) := if Kv.there l k then (l[Kv.find l k]?).map Prod.snd else none
theorem Cp.look_rel {l D : List Kv.Pr} (h : Kv.Rel l D) (k : List UInt8) : Kv.mget D k = Cp.look l k := by
  unfold Cp.look
  rcases Kv.rel_get h k with ⟨h1, h2⟩ | ⟨hl, h1, h2, h3⟩
  · rw [h1, h2]; rfl
  · rw [h1, h2, List.getElem?_eq_getElem hl]; rfl
def RetGetP (w0 : World) (M : Mem) (s f : Nat) (S : Kv.RS) (L : List Ent) (o : Option (List UInt8)) (e : Ending) (w' : World) : Prop :=
  ∃ A c M', e = .returned (.tuple #[.slice A (o.getD []).length c, .bool o.isSome]) ∧ M.le M' ∧ In M' (RB · A (o.getD [])) ∧ KB w0 w' M' s f S L
theorem getP_any (H : KB w0 w M s f S L) (k : List UInt8) :
    Calls Tryz.prog 52 #[.pointer (some ⟨s, 0, none⟩), .string (str k)] w (RetGetP w0 M s f S L (Cp.look S.L k)) := by
  obtain ⟨g, mb, F, gen, ls, en, D, K, hsi, hc⟩ := H
  have hok := hsi.ok
  have hsz : ∀ a ∈ D, a.p.l.length ≤ 1000000 := fun a ha => by
    have := (hok.1 a.pr (List.mem_map.2 ⟨a, ha, rfl⟩)).2.2
    have e : a.pr.2 = a.p.l := rfl
    rw [e] at this
    omega
  have hg := sget_any K k hsz
  rw [getD_pr, Cp.look_rel hsi.rel] at hg
  refine hg.mono ?_
  rintro e w' ⟨v, rfl, K2⟩
  obtain ⟨A, c, rfl, -⟩ := K2.rest.shape 0 rfl
  obtain ⟨M3, hM3, K3, hin⟩ := KB.keepB ⟨g, mb, F, gen, ls, en, D, K2, hsi, hc⟩
  exact ⟨A, c, M3, rfl, hM3, hin, K3⟩
end
/-! ### A key's partition and name -/
open Classical in
noncomputable def Cp.tn (k : List UInt8) : Nat × List Tu.Part := if h : ∃ p : Nat × List Tu.Part, Cp.OwnK k p.1 p.2 then h.choose else (0, [])
theorem Cp.tn_eq {k : List UInt8} {T : Nat} {l : List Tu.Part} (h : Cp.OwnK k T l) : Cp.tn k = (T, l) := by
  have h' : ∃ p : Nat × List Tu.Part, Cp.OwnK k p.1 p.2 := ⟨(T, l), h⟩
  unfold Cp.tn
  rw [dif_pos h']
  have := h'.choose_spec.one h
  exact Prod.ext this.1 this.2
/-- A name's key is its own. -/
theorem Cp.own_key {T : Nat} {l : List Tu.Part} (hm : Mild T l) (h : Cp.kerr T l = 0) : Cp.OwnK (Cp.key T l) T l ∧ Cp.key T l = Tu.enc (Cp.full T l) := by
  unfold Cp.kerr at h
  unfold Cp.key
  split at h
  · cases h
  · rename_i hl
    rw [if_neg hl]
    have he : Tp.encS (Cp.full T l) = Tu.enc (Cp.full T l) := by unfold Tp.encS; rw [if_pos h]
    rw [he]
    unfold Tu.check at h
    split at h
    · rename_i ha
      split at h
      · cases h
      · rename_i hn
        refine ⟨⟨⟨fun p hp => ⟨List.all_eq_true.1 ha p hp, (hm.tame.2 p hp).2⟩, by omega, rfl⟩, by omega, by omega⟩, rfl⟩
    · cases h
end Go.Proofs.YtepgmebklhemgaaGreatDoor
