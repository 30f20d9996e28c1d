/- due.Done. -/
import Derived.Test.YtgnlkcdpklgikaaVr
set_option linter.unusedVariables false
set_option linter.unusedSimpArgs false
namespace Go.Proofs.Ytgnlkcdpklgikaa
open Go.RowKit Wd Go.Sort
open Du (Due)
theorem dcs_set (X : List Due) (k : Nat) (hk : k < X.length) (a : Int) : (dcs X).set (k * 3 + 2) (.int .i64 a) = dcs (X.set k ⟨X[k].t, X[k].s, a⟩) := by
  induction X generalizing k with
  | nil => simp at hk
  | cons d r ih =>
    cases k with
    | zero => rfl
    | succ k =>
      have e1 : dcs (d :: r) = .int .u64 (d.t : Int) :: .int .u64 (d.s : Int) :: .int .i64 d.a :: dcs r := rfl
      rw [e1, show (k + 1) * 3 + 2 = (k * 3 + 2) + 1 + 1 + 1 from by omega]
      simp only [List.set_cons_succ]
      rw [ih k (by simpa using hk)]
      rfl
theorem mix_step (f : Due → Due) (l : List Due) (k : Nat) (hk : k < l.length) : ((l.take k).map f ++ l.drop k).set k (f l[k]) = (l.take (k + 1)).map f ++ l.drop (k + 1) := by
  rw [List.set_append_right _ _ (by rw [List.length_map, List.length_take]; omega), List.length_map, List.length_take, Nat.min_eq_left (by omega), Nat.sub_self, List.drop_eq_getElem_cons hk, List.set_cons_zero, List.take_succ_eq_append_getElem hk, List.map_append]
  simp
theorem mix_at (f : Due → Due) (l : List Due) (k : Nat) (hk : k < l.length) : ∃ h : k < ((l.take k).map f ++ l.drop k).length, ((l.take k).map f ++ l.drop k)[k] = l[k] := by
  have hl : ((l.take k).map f).length = k := by rw [List.length_map, List.length_take]; omega
  refine ⟨by rw [List.length_append, hl, List.length_drop]; omega, ?_⟩
  rw [List.getElem_append_right (by omega)]
  simp only [hl, Nat.sub_self, List.getElem_drop, Nat.add_zero]
theorem mix_len (f : Due → Due) (l : List Due) (k : Nat) (hk : k ≤ l.length) : ((l.take k).map f ++ l.drop k).length = l.length := by
  rw [List.length_append, List.length_map, List.length_take, List.length_drop]; omega
/-- What due.Done gives. -/
def RetDone (w0 : World) (M : Mem) (L : List Ent) (l ps : List Due) (now gap : Int) (e : Ending) (w' : World) : Prop :=
  (∃ v, Du.May l ∧ Du.time now ∧ 1 ≤ gap ∧ gap ≤ 1048576 ∧ e = .returned (.tuple #[v, .int .i64 0]) ∧ St w0 w' M (er 40 3 v l.length (dcs (Du.done now gap ps l)) :: L)) ∨
    (¬ (Du.May l ∧ Du.time now ∧ 1 ≤ gap ∧ gap ≤ 1048576) ∧ e = .returned (.tuple #[.slice none 0 0, .int .i64 1]) ∧ St w0 w' M L)
section
variable {w0 w : World} {M : Mem} {L : List Ent}
set_option maxRecDepth 100000 in
set_option maxHeartbeats 2000000 in
theorem done_any (H : St w0 w M L) {A B : Option Addr} {c n d m : Nat} {l ps : List Due} (hn : n = l.length) (hn2 : n ≤ 1000000) (hA : A = none → c = 0) (hl : SrA w0 M L A (dcs l)) (hm : m = ps.length) (hm2 : m ≤ 1000000) (hps : SrA w0 M L B (dcs ps)) (now gap : Int) :
    Calls Try.prog 13 #[.slice A n c, .slice B m d, .int .i64 now, .int .i64 gap] w (RetDone w0 M L l ps now gap) := by
  have hck := check_any (c := c) H hn hn2 hl
  have HCK := Lib.hid hck
  have hcl := fun w' (H : St w0 w' M L) => clone_any (c := c) H hn hn2 hA hl
  have HCLN := Lib.hid hcl
  have HN := Lib.hid hn
  have HM := Lib.hid hm
  clear hck hcl hn hm H
  go_enter Try.func13, Try.ntmps13
  go_wp2_with fail
  refine HCK.out.mono ?_
  rintro e w1 ⟨⟨hmay, rfl⟩ | ⟨hmay, rfl⟩, H2⟩
  · have HMAY := Lib.hid hmay
    clear hmay
    have htc := time_any now w1
    by_cases ht : Du.time now
    · rw [decide_eq_true ht] at htc
      have HT := Lib.hid ht
      clear ht
      go_wp2_with fail
      refine htc.mono ?_
      rintro e w2 ⟨rfl, rfl⟩
      by_cases hk : 1 ≤ gap ∧ gap ≤ 1048576
      · obtain ⟨k1, k2⟩ := hk
        have q1 : ¬ gap < 1 := by omega
        have q2 : ¬ (1048576 : Int) < gap := by omega
        have hg : IntKind.i64.wrap (now + gap) = now + gap := by rw [IntKind.wrap_i64]; have := HT.out; unfold Du.time at this; omega
        go_wp2_with fail
        refine (HCLN.out _ H2).mono ?_
        rintro e w3 ⟨v1, rfl, H3⟩
        obtain ⟨A1, c1, rfl, hc1⟩ := H3.shape 0 rfl
        have HNN := HN
        clear HCLN HCK H2
        go_wp2
        go_loopw [32] (fun i wr => ∃ k : Nat, k ≤ n ∧ i = .int .i64 k ∧ St w0 wr M (er 40 3 (.slice A1 n c1) n (dcs ((l.take k).map (Du.fwd now gap ps) ++ l.drop k)) :: L)) (fun i _ => n - (intOf i).toNat)
        case atStart => exact ⟨0, by omega, rfl, by simpa using H3⟩
        case round =>
          obtain ⟨k, hk, rfl, H4⟩ := hrel
          clear H3
          by_cases hlt : k < n
          · have hk1 : k < l.length := by have := HN.out; omega
            obtain ⟨hX, hXk⟩ := mix_at (Du.fwd now gap ps) l k hk1
            have hms := mix_step (Du.fwd now gap ps) l k hk1
            have hml := mix_len (Du.fwd now gap ps) l k (by omega)
            obtain ⟨X, hXe⟩ : ∃ X, X = (l.take k).map (Du.fwd now gap ps) ++ l.drop k := ⟨_, rfl⟩
            simp only [← hXe] at hX hXk hms hml H4
            obtain ⟨b, o, rfl, hrg⟩ := RA.at3 (er_RA (H4.get 0 rfl)) k hX
            obtain ⟨g0, hb0⟩ : ∃ g0, b = g0 ∧ o = 0 := by
              obtain ⟨_, h2⟩ := er_bind (H4.get 0 rfl)
              rcases h2 with ⟨h2, _⟩ | ⟨g', cap', cur, he, _⟩
              · cases h2
              · injection he with he
                injection he with he
                injection he with h3 h4
                exact ⟨b, rfl, h4⟩
            obtain ⟨rfl, rfl⟩ := hb0
            have hset := fun a => dcs_set X k hX a
            simp only [hXk] at hset
            rw [hXk] at hrg
            have hfw : Du.fwd now gap ps l[k] = if Du.hit ps l[k] then ⟨l[k].t, l[k].s, min 1099511627776 (now + gap)⟩ else l[k] := rfl
            obtain ⟨y, hy⟩ : ∃ y, y = l[k] := ⟨_, rfl⟩
            rw [← hy] at hrg hms hfw
            simp only [← hy] at hset
            have H5 := H4.new (dc y) 40
            have hct := contains_any 34 #[.pointer (some ⟨wr.heap.size, 0, none⟩)] (enters_of Try.func34 (by kernel_rfl) rfl) (Du.like y) (c := d) H5 HM.out ((hps.cons _).cons _) hm2 (fun p w H => done1_any H (by simp) p)
            obtain ⟨V, hV⟩ : ∃ V, V = Du.hit ps y := ⟨_, rfl⟩
            rw [show ps.any (Du.like y) = V from hV.symm] at hct
            rw [← hV] at hfw
            unfold dc at H5 hrg hct
            have HCT := Lib.hid hct
            have HRG := Lib.hid hrg
            have HSET := Lib.hid hset
            have HFW := Lib.hid hfw
            have HMS := Lib.hid hms
            have HML := Lib.hid hml
            have HLT := Lib.hid hlt
            have r1 : (k : Int) < (n : Int) := by omega
            have wk : IntKind.i64.wrap (k : Int) = (k : Int) := by rw [IntKind.wrap_i64]; omega
            have hxk : X.set k y = X := by
              have : X[k]'hX = y := by rw [hXk, hy]
              rw [← this]
              exact List.set_getElem_self hX
            have HXK := Lib.hid hxk
            clear hy hrg hset hfw hct hms hml hX hXk hXe hk1 hlt hV hxk
            go_wp2_with (refine wpList_load_mid (by rfl) 40 (.tmp 35) (by rfl) b (k * 3) (by rfl) [.int .u64 (y.t : Int), .int .u64 (y.s : Int), .int .i64 y.a] _ (by simpa using HRG.out) Try.underlying40 rfl (by exact Try.sizeDue) ?_)
            go_wp2_with fail
            refine HCT.out.mono ?_
            rintro e w4 ⟨rfl, H6⟩
            cases V with
            | false =>
              have hms2 := HMS.out
              rw [HFW.out, if_neg (by simp), HXK.out] at hms2
              have HM2 := Lib.hid hms2
              clear hms2
              go_wp2
              exact ⟨⟨k + 1, by have := HLT.out; omega, by go_num, by rw [← HM2.out]; exact H6.d0⟩, by have := HLT.out; simp [intOf]; omega⟩
            | true =>
              obtain ⟨cs, H7, hcl, hct, hnc, hcm⟩ := H6.d0.openRow
              have hms2 := HMS.out
              rw [HFW.out, if_pos rfl] at hms2
              have hjl : k * 3 + 2 < cs.length := by have := HLT.out; omega
              have f := H7.frozen 0 rfl (k * 3 + 2)
              have c0 := H7.cell 0 rfl (k * 3 + 2)
              rw [List.getElem?_eq_getElem hjl] at c0
              obtain ⟨u0, hu0⟩ : ∃ u0, u0 = cs[k * 3 + 2] := ⟨_, rfl⟩
              rw [← hu0] at c0
              have H8 := (H7.set (k * 3 + 2) (.int .i64 (min 1099511627776 (now + gap)))).shutRow (sz := 3) (n := n) (cap := c1) (by rw [List.length_set]; exact hcl) hnc hcm
              rw [List.take_set, hct, HSET.out, hms2] at H8
              have HH8 := Lib.hid H8
              clear hms2 hcl hct H7 H8 hu0
              go_wp2
              exact ⟨⟨k + 1, by have := HLT.out; omega, by go_num, HH8.out⟩, by have := HLT.out; simp [intOf]; omega⟩
          · obtain rfl : k = n := by omega
            have hD : (l.take k).map (Du.fwd now gap ps) ++ l.drop k = Du.done now gap ps l := by rw [HN.out, List.take_length, List.drop_length, List.append_nil]; rfl
            rw [hD] at H4
            clear hlt hD
            go_wp2
            go_ret2
            exact .inl ⟨_, HMAY.out, HT.out, k1, k2, rfl, by rw [← HN.out]; exact H4⟩
      · have hcase : gap < 1 ∨ (¬ gap < 1 ∧ 1048576 < gap) := by omega
        have HKN := Lib.hid hk
        clear hk
        rcases hcase with h1 | ⟨h1, h2⟩
        all_goals
          go_wp2
          go_ret2
          exact .inr ⟨fun h => HKN.out h.2.2, rfl, H2⟩
    · rw [decide_eq_false ht] at htc
      have HT := Lib.hid ht
      clear ht
      go_wp2_with fail
      refine htc.mono ?_
      rintro e w2 ⟨rfl, rfl⟩
      go_wp2
      go_ret2
      exact .inr ⟨fun h => HT.out h.2.1, rfl, H2⟩
  · have HMAY := Lib.hid hmay
    clear hmay
    go_wp2
    go_ret2
    exact .inr ⟨fun h => HMAY.out h.1, rfl, H2⟩
end
end Go.Proofs.Ytgnlkcdpklgikaa
