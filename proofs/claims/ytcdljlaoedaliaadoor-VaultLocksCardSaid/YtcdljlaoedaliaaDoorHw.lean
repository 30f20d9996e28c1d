/- The contract of sha's Hash.Write. -/
import Derived.Test.YtcdljlaoedaliaaDoorHs
import Derived.Deep.Cut
set_option linter.unusedVariables false
set_option linter.unusedSimpArgs false
namespace Go.Proofs.YtcdljlaoedaliaaDoor
open Go.RowKit Wd

theorem rb_set {w : World} {g : Nat} {H : Sha.HM} {rv : Value} {A : Option Addr} {l : List UInt8} (h : RB w A l) (hb : Blk w g 119 (hcells H rv)) (hrv : ∃ A n c, rv = .slice A n c) (i : Nat) (v : Value) : RB (w.setCell ⟨g, i, none⟩ v) A l := fun hl => by
  obtain ⟨b, o, rfl, hlt, hr⟩ := h hl
  have hne : b ≠ g := by
    rintro rfl
    obtain ⟨x, r, rfl⟩ := List.exists_cons_of_ne_nil hl
    have h0 := hr 0 (.int .u8 (x.toNat : Int)) rfl
    rw [hb.cell] at h0
    have hm := List.mem_of_getElem? h0
    obtain ⟨A, n, c, rfl⟩ := hrv
    simp [hcells, Sha.wv] at hm
  exact ⟨b, o, rfl, by simpa [World.setCell] using hlt, fun j u hj => (World.cell?_setCell_other w ⟨g, i, none⟩ ⟨b, o + j, none⟩ v (fun e => hne (congrArg Addr.block e).symm)).trans (hr j u hj)⟩
theorem hcells_set9 (h : Sha.V8) (r : List UInt8) (n : Nat) (rv v : Value) (r' : List UInt8) : (hcells ⟨h, r, n⟩ rv).set 9 v = hcells ⟨h, r', n⟩ v := rfl
theorem hcells_set10 (h : Sha.V8) (r : List UInt8) (n m : Nat) (rv : Value) : (hcells ⟨h, r, n⟩ rv).set 10 (.int .i64 (m : Int)) = hcells ⟨h, r, m⟩ rv := rfl
theorem hcells_h (h h' : Sha.V8) (r : List UInt8) (n : Nat) (rv : Value) : ins (hcells ⟨h, r, n⟩ rv) 1 (Sha.wv h'.list) = hcells ⟨h', r, n⟩ rv := rfl
theorem Wd.Keeps.drewl {w w' : World} {S : Nat → Prop} (h : Keeps w.drew w' S) : Keeps w w' S := ⟨h.os, h.tape, h.output, h.size, h.block⟩
theorem Tryd.size28 : (Tryd.prog.info? 96).map (·.size) = some 8 := by kernel_rfl
set_option maxRecDepth 100000 in
set_option maxHeartbeats 4000000 in
theorem hash_write {w : World} {base g : Nat} {H : Sha.HM} {rv : Value} (hH : IsH w base g H rv) (ht : Tabs w) (h1 : 2 < base) (A : Option Addr) (c : Nat) (l : List UInt8) (hA : A = none → c = 0) (hr : RB w A l) (hn : H.n + l.length < 140737488355328) (hrl : H.rest.length ≤ H.n) :
    Calls Tryd.prog 78 #[.pointer (some ⟨g, 0, none⟩), .slice A l.length c] w fun e w' =>
      e = .returned (.tuple #[]) ∧ ∃ rv', IsH w' base g (H.write l) rv' ∧ Tabs w' ∧ Keeps w w' (fun k => k = g ∨ rv.ownBlock = some k) ∧ (∀ k, rv'.ownBlock = some k → rv.ownBlock = some k ∨ w.heap.size ≤ k) := by
  have c0 : w.cell? ⟨g, 0, none⟩ = some (.bool true) := hH.blk.cell 0
  have c10 : w.cell? ⟨g, 10, none⟩ = some (.int .i64 (H.n : Int)) := hH.blk.cell 10
  have f10 := hH.blk.frozen 10
  have wn : IntKind.i64.wrap ((H.n : Int) + (l.length : Int)) = ((H.n + l.length : Nat) : Int) := by rw [IntKind.wrap_i64]; omega
  go_enter Tryd.func78, Tryd.ntmps78
  go_upto_region 2 with fail
  obtain ⟨Hh, R0, n0⟩ := H
  have hrs : ∃ A n c, rv = .slice A n c := by obtain ⟨A, c, e, _⟩ := own_slice hH.own; exact ⟨_, _, _, e⟩
  have hne := own_ne hH.own hH.blk (by decide)
  have hbs : base ≤ w.heap.size := Nat.le_of_lt (Nat.lt_of_le_of_lt hH.hg hH.blk.lt)
  have b1 := hH.blk.set_ 10 (.int .i64 ((n0 + l.length : Nat) : Int))
  rw [hcells_set10] at b1
  have hr1 := rb_set hr hH.blk hrs 10 (.int .i64 ((n0 + l.length : Nat) : Int))
  have k1 : Keeps w (w.setCell ⟨g, 10, none⟩ (.int .i64 ((n0 + l.length : Nat) : Int))) (· = g) := (Keeps.refl w (· = g)).setCell (.inl rfl) _
  have o1 := k1.own hH.own hne
  have hw1s : w.heap.size ≤ (w.setCell ⟨g, 10, none⟩ (.int .i64 ((n0 + l.length : Nat) : Int))).heap.size := k1.size
  have t1 := ht.below (k1.below (B := base) hbs (fun k hk => by have := hH.hg; omega)) h1
  have eN : ((n0 : Int) + (l.length : Int)) = ((n0 + l.length : Nat) : Int) := by rw [Int.natCast_add]
  rw [eN]
  have hgb := hH.hg
  clear c0 c10 f10 wn eN ht hr
  generalize w.setCell ⟨g, 10, none⟩ (.int .i64 ((n0 + l.length : Nat) : Int)) = w1 at *
  have d9 : w1.cell? ⟨g, 9, none⟩ = some rv := b1.cell 9
  have hrl2 : R0.length ≤ n0 := hrl
  have hn2 : n0 + l.length < 140737488355328 := hn
  have o1' : w1.ownsRow base 5 1 rv R0.length (bv R0) := o1
  go_wp2_with (at_builtin; refine wpList_append_rb (by rfl) (.tmp 26) (.tmp 27) 42 5 (by rfl) Tryd.info5 Tryd.underlying42 base rv R0.length (bv R0) (by rfl) o1' A l.length c l (by rfl) rfl hA hr1 (by omega) (by omega) ?_)
  intro v2 w2 o2 hgrow hob
  rw [← bv_append] at o2
  obtain ⟨L2, hL2⟩ : ∃ x, x = R0.length + l.length := ⟨_, rfl⟩
  have HL2 := Lib.hid hL2
  rw [← hL2] at o2
  clear hL2
  obtain ⟨A2, cap2, hv2, -⟩ := own_slice o2
  subst hv2
  have hne1 := own_ne o1' b1 (by decide)
  have b2 := b1.grown hgrow (fun e => hne1 g e.symm rfl)
  have k2 := (k1.imp (S' := fun k => k = g ∨ rv.ownBlock = some k) (fun k _ h => .inl h)).grown hgrow (fun k hk => .inl (.inr hk))
  have t2 := t1.below ((Below.refl base w1).grown hgrow (by omega) (fun k hk => (o1'.lt k hk).1)) h1
  have hne2 := own_ne o2 b2 (by decide)
  have f9 := b2.frozen 9
  have d9 : w2.cell? ⟨g, 9, none⟩ = some rv := b2.cell 9
  have b3 := b2.set_ 9 (.slice A2 L2 cap2)
  rw [hcells_set9 Hh R0 (n0 + l.length) rv _ (R0 ++ l)] at b3
  have k3 := k2.setCell (p := ⟨g, 9, none⟩) (.inl (.inl rfl)) (.slice A2 L2 cap2)
  have o3 := ((Keeps.refl w2 (· = g)).setCell (p := ⟨g, 9, none⟩) (.inl rfl) (.slice A2 L2 cap2)).own o2 hne2
  have t3 := t2.below (((Keeps.refl w2 (· = g)).setCell (p := ⟨g, 9, none⟩) (.inl rfl) (.slice A2 L2 cap2)).below (B := base) (by have := k2.size; omega) (fun k hk => by omega)) h1
  have hob3 : ∀ k, (Value.slice A2 L2 cap2).ownBlock = some k → rv.ownBlock = some k ∨ w.heap.size ≤ k := fun k hk => by
    rcases hob with h | h
    · exact .inl (h ▸ hk)
    · rw [h] at hk
      injection hk with hk
      exact .inr (by omega)
  clear hgrow hob b1 o1 o1' t1 k1 b2 k2 t2 hne1 hne2 hr1 hw1s
  have HF9 := Lib.hid f9
  have hR0 : (R0 ++ l).length ≤ n0 + l.length := by rw [List.length_append]; omega
  obtain ⟨R, hR⟩ : ∃ x, x = R0 ++ l := ⟨_, rfl⟩
  obtain ⟨N, hN⟩ : ∃ x, x = n0 + l.length := ⟨_, rfl⟩
  have hL3 : L2 = (R0 ++ l).length := by rw [HL2.out, List.length_append]
  rw [← hR] at b3 o3 hR0 hL3
  have HL3 := Lib.hid hL3
  clear hL3
  rw [← hN] at b3 hR0 hn2
  have HR := Lib.hid hR
  have HN := Lib.hid hN
  have O3 := Lib.hid o3
  have B3 := Lib.hid b3
  have T3 := Lib.hid t3
  have K3 := Lib.hid k3
  clear hR hN o3 b3 t3 k3 hH
  go_wp2
  have o3 := O3.out
  have b3 := B3.out
  have t3 := T3.out
  have k3 := K3.out
  clear O3 B3 T3 K3 HF9
  generalize w2.setCell ⟨g, 9, none⟩ _ = w3 at *
  rw [HL3.out] at o3 b3 hob3
  go_loopw [36] (fun _ wr => ∃ (k : Nat) (rv' : Value), 64 * k ≤ R.length ∧ IsH wr base g ⟨Sha.many k Hh R, R.drop (64 * k), N⟩ rv' ∧ Tabs wr ∧ Keeps w wr (fun j => j = g ∨ rv.ownBlock = some j) ∧ (∀ j, rv'.ownBlock = some j → rv.ownBlock = some j ∨ w.heap.size ≤ j))
    (fun _ wr => match wr.cell? ⟨g, 9, none⟩ with | some (.slice _ n _) => n | _ => 0)
  case atStart => exact ⟨0, _, by omega, ⟨b3, o3, hgb⟩, t3, k3, hob3⟩
  case round =>
    obtain ⟨k, rv', hk, hI, htr, hkr, hobr⟩ := hrel
    clear b3 o3 t3 k3 hob3
    obtain ⟨r, hrr⟩ : ∃ x, x = R.drop (64 * k) := ⟨_, rfl⟩
    rw [← hrr] at hI
    obtain ⟨A', cap, hrv, hcap⟩ := own_slice hI.own
    subst hrv
    have hlen : r.length = R.length - 64 * k := by rw [hrr]; exact List.length_drop
    have d9 : wr.cell? ⟨g, 9, none⟩ = some (.slice A' r.length cap) := hI.blk.cell 9
    have D9R := Lib.hid d9
    have HRR := Lib.hid hrr
    have HLEN := Lib.hid hlen
    have HK := Lib.hid hk
    clear hrr hlen hk
    by_cases h64 : 64 ≤ r.length
    · have q1 : (64 : Int) ≤ (r.length : Int) := by omega
      have hown : wr.ownsRow base 5 1 (.slice A' r.length cap) r.length (bv r) := hI.own
      have hblk : Blk wr g 119 (hcells ⟨Sha.many k Hh R, r, N⟩ (.slice A' r.length cap)) := hI.blk
      obtain ⟨gr, hgr, hrg⟩ := own_rangeA hown (by omega)
      subst hgr
      have hcap : r.length ≤ cap := hcap
      have hgl := hown.lt gr rfl
      have hneg : gr ≠ g := own_ne hown hblk (by decide) gr rfl
      have hrange : wr.rangeAt gr 0 (bv (r.take 64)) := range_partA hrg 0 64 _ (by rw [List.drop_zero, bv_take])
      have hl64 : (r.take 64).length = 64 := by rw [List.length_take]; omega
      have qc : (64 : Int) ≤ (cap : Int) := by omega
      obtain ⟨V, hV⟩ : ∃ x, x = Sha.many k Hh R := ⟨_, rfl⟩
      rw [← hV] at hblk
      obtain ⟨C, hC⟩ : ∃ x, x = r.take 64 := ⟨_, rfl⟩
      rw [← hC] at hrange hl64
      have HV := Lib.hid hV
      have HC := Lib.hid hC
      have HL64 := Lib.hid hl64
      have HOWN := Lib.hid hown
      have HRG := Lib.hid hrg
      clear hV hC hl64 hown hrg hI
      go_wp2
      refine Pl.wp_plan (fun w' => Blk w' g 119 (hcells ⟨V, r, N⟩ (.slice (some ⟨gr, 0, none⟩) r.length cap)) ∧ w'.rangeAt gr 0 (bv C)) [0, 1, 2, 3, 4, 5, 6, 7, 8, 9] [10] [11, 12, 13] Tryd.mixed (by kernel_rfl) (fun _ _ d _ _ h => by cases d <;> exact h) ⟨hblk.drew, by simpa using hrange⟩ ?_
      simp only [Pl.pick, List.drop_succ_cons, List.drop_zero]
      iterate 4 (refine Pl.head_run (v := ?_) (by rfl) ?_ ?_; rotate_left; (focus (intro w' hS; go_simp; with_reducible rfl)); simp only [Act.put, List.setIfInBounds_toArray, List.set_cons_zero, List.set_cons_succ])
      (refine Pl.head_load_mid (by rfl) 96 (.tmp 40) (by rfl) g 1 (by rfl) (Sha.wv V.list) _ (fun w' hS => hS.1.range 1 8 _ rfl) Tryd.underlying96 rfl (by exact Tryd.size28) ?_; simp only [Act.put, List.setIfInBounds_toArray, List.set_cons_zero, List.set_cons_succ])
      iterate 5 (refine Pl.head_run (v := ?_) (by rfl) ?_ ?_; rotate_left; (focus (intro w' hS; have c9 : w'.cell? ⟨g, 9, none⟩ = some (.slice (some ⟨gr, 0, none⟩) r.length cap) := hS.1.cell 9; go_simp; with_reducible rfl)); simp only [Act.put, List.setIfInBounds_toArray, List.set_cons_zero, List.set_cons_succ])
      refine Pl.head_nil ?_
      simp only [Pl.Mid]
      have T0 := htr.below (B := base) (w' := wr.drew) (Below.refl base wr).drew h1
      go_wp2_with fail
      refine (block_any V C gr 0 cap _ HL64.out (by simpa using hrange) (by exact hgl.2) T0).mono ?_
      rintro e w5 ⟨rfl, hb5⟩
      have hblk5 := (hblk.drew).below hb5 hblk.lt
      have hown5 := (Keeps.of_below hb5 (fun _ => False)).own HOWN.out.drew (fun _ _ => id)
      have hr5 : w5.rangeAt gr 0 (bv C) := rangeAt_below (by simpa using hrange) hb5 (by exact hgl.2)
      have T5 := T0.below hb5 (by have := T0.lt; exact this)
      have hkwr : Hid (w.heap.size ≤ wr.heap.size) := hkr.size
      have k5 := hkr.trans (Keeps.of_below hb5 (fun _ => False)).drewl (fun _ h => h.elim)
      have hs5 : wr.heap.size ≤ w5.heap.size := hb5.size
      clear hblk hrange T0 htr hkr hb5 d9
      go_wp2_with fail
      refine (⟨⟨hblk5, hr5⟩, ?_⟩ : (_ ∧ _) ∧ _)
      go_wp2_with (refine wpList_store_blk (by rfl) 96 (.tmp 49) (.tmp 47) (by rfl) g 1 (Sha.wv (Sha.block V C).list) (by rfl) (by rfl) 119 _ hblk5 (by simp [hcells, Sha.wv, Sha.V8.list]) (by exact Tryd.size28) (Sha.wv_one _) ?_)
      intro w6 hn6 hk6 hsz6
      rw [hcells_h] at hn6
      have hown6 := hk6.own hown5 (own_ne hown5 hblk5 (by decide))
      have hr6 : Blk w6 g 119 _ := hn6
      have T6 := T5.below (hk6.below (B := base) (by omega) (fun k hk => by omega)) h1
      have k6 := k5.trans hk6 (fun j hj => .inl (.inl hj))
      have d9 : w6.cell? ⟨g, 9, none⟩ = some (.slice (some ⟨gr, 0, none⟩) r.length cap) := hn6.cell 9
      have hs6 : wr.heap.size ≤ w6.heap.size := by omega
      clear hsz6 hs5
      have d9a : (w6.alloc (.cells #[] 5)).cell? ⟨g, 9, none⟩ = some (.slice (some ⟨gr, 0, none⟩) r.length cap) := (hn6.alloc _).cell 9
      have p1 : (64 : Int) ≤ (r.length : Int) := q1
      have p2 : (r.length : Int) ≤ (cap : Int) := by omega
      clear hblk5 hr5 T5 k5 hk6 hown5
      have O7 : Hid ((w6.alloc (.cells #[] 5)).ownsRow base 5 1 (.slice (some ⟨w6.heap.size, 0, none⟩) 0 0) 0 []) := World.ownsRow_lit (size := 1) w6 #[] 0 (by omega) (by decide) rfl
      have HB7 : Hid (base ≤ (w6.alloc (.cells #[] 5)).heap.size) := Nat.le_trans (show base ≤ w6.heap.size by omega) (Nat.le_trans (Nat.le_succ _) (Nat.le_of_eq (Array.size_push _).symm))
      have hN : r.length ≤ 140737488355328 := by have := HLEN.out; have := hR0; omega
      have k7 := k6.alloc (.cells #[] 5)
      have b7 := hn6.alloc (.cells #[] 5)
      have hg6 := hown6.lt gr rfl
      obtain ⟨gr', hgr', hrg6⟩ := own_rangeA hown6 (by omega)
      have hgg : gr' = gr := by injection hgr' with h; injection h with h; exact h.symm
      rw [hgg] at hrg6
      clear hgr' hgg
      have hrg7 : w6.rangeAt gr 64 (bv (r.drop 64)) := range_partA hrg6 64 (r.length - 64) _ (by rw [bv_drop, bv_take, List.take_of_length_le (by rw [List.length_drop]; omega)])
      by_cases hc64 : cap = 64
      · have hrb : RB (w6.alloc (.cells #[] 5)) (some ⟨gr, 0, none⟩) (r.drop 64) := fun hne => absurd (List.drop_eq_nil_of_le (by omega)) hne
        go_wp2_with (at_builtin; refine wpList_append_rb (by rfl) (.tmp 51) (.tmp 56) 42 5 (by rfl) Tryd.info5 Tryd.underlying42 base (.slice (some ⟨w6.heap.size, 0, none⟩) 0 0) 0 [] (by rfl) O7.out (some ⟨gr, 0, none⟩) (r.length - 64) (0) (r.drop 64) (by rfl) (by rw [List.length_drop]) (by rintro ⟨⟩) hrb (by omega) (by exact HB7.out) ?_)
        intro v8 w8 o8 hg8 hob8
        obtain ⟨A8, c8, hv8, -⟩ := own_slice o8
        obtain ⟨L8, hL8⟩ : ∃ x, x = r.length - 64 := ⟨_, rfl⟩
        rw [← hL8] at hv8 o8
        subst hv8
        have hgb6 : g < w6.heap.size := hn6.lt
        have s7 : (w6.alloc (.cells #[] 5)).heap.size = w6.heap.size + 1 := Array.size_push _
        have hlow : ∀ k, (Value.slice A8 L8 c8).ownBlock = some k → w6.heap.size ≤ k := fun k hk => by
          rcases hob8 with h | h
          · rw [hk] at h
            have h2 : some k = some w6.heap.size := h
            injection h2 with h2
            omega
          · rw [hk] at h
            injection h with h
            omega
        have b8 := b7.grown hg8 (by intro h; have h2 : some g = some w6.heap.size := h; injection h2 with h2; omega)
        have k8 := k7.grown hg8 (fun k hk => .inr (by have h2 : some w6.heap.size = some k := hk; injection h2 with h2; have := hkwr.out; omega))
        have T8 := (T6.below (B := base) ((Below.refl base w6).alloc (by omega) (.cells #[] 5)) h1).below ((Below.refl base (w6.alloc (.cells #[] 5))).grown hg8 (by omega) (fun k hk => by have h2 : some w6.heap.size = some k := hk; injection h2 with h2; omega)) h1
        have hne8 := own_ne o8 b8 (by decide)
        have f9 := b8.frozen 9
        have d9 : w8.cell? ⟨g, 9, none⟩ = some (.slice (some ⟨gr, 0, none⟩) r.length cap) := b8.cell 9
        have b9 := b8.set_ 9 (.slice A8 L8 c8)
        rw [hcells_set9 (Sha.block V C) r N _ _ (r.drop 64)] at b9
        have kk := (Keeps.refl w8 (· = g)).setCell (p := ⟨g, 9, none⟩) (.inl rfl) (.slice A8 L8 c8)
        have o9 := kk.own o8 hne8
        have k9 := k8.trans kk (fun j hj => .inl (.inl hj))
        have T9 := T8.below (kk.below (B := base) (by have := hg8.size; omega) (fun k hk => by omega)) h1
        have B9 := Lib.hid b9
        have O9 := Lib.hid o9
        have K9 := Lib.hid k9
        have T9' := Lib.hid T9
        have HL8 := Lib.hid hL8
        have HLOW := Lib.hid hlow
        have HG6 := Lib.hid (show wr.heap.size ≤ w6.heap.size from hs6)
        clear b9 o9 k9 T9 kk b8 k8 T8 b7 k7 k6 T6 hn6 hr6 hown6 hob8 hg8 o8 hrb hrg6 hrg7 hL8 hlow d9a hs6 hg6 s7 hgb6
        go_wp2
        have e1 : Sha.many (k + 1) Hh R = Sha.block V C := by rw [HV.out, HC.out, HRR.out]; rfl
        have e2 : R.drop (64 * (k + 1)) = r.drop 64 := by rw [HRR.out, List.drop_drop]; congr 1
        refine ⟨⟨k + 1, .slice A8 L8 c8, ?_, ⟨?_, ?_, hgb⟩, T9'.out, K9.out, ?_⟩, ?_⟩
        · have := HLEN.out; have := HK.out; omega
        · rw [e1, e2]; exact B9.out
        · have h9 := O9.out
          show World.ownsRow _ base 5 1 _ (R.drop (64 * (k + 1))).length (bv (R.drop (64 * (k + 1))))
          rw [e2, List.length_drop, ← HL8.out]
          exact h9
        · exact fun j hj => .inr (by have := HLOW.out j hj; have := HG6.out; have := hkwr.out; omega)
        · have m1 := B9.out.cell 9
          rw [m1, D9R.out]
          have := HL8.out
          show L8 < r.length
          omega
      · have hrb : RB (w6.alloc (.cells #[] 5)) (some ⟨gr, 64, none⟩) (r.drop 64) := fun _ => ⟨gr, 64, rfl, Nat.lt_of_lt_of_le hg6.2 (Nat.le_trans (Nat.le_succ _) (Nat.le_of_eq (Array.size_push _).symm)), World.rangeAt_alloc hrg7 _⟩
        go_wp2_with (at_builtin; refine wpList_append_rb (by rfl) (.tmp 51) (.tmp 56) 42 5 (by rfl) Tryd.info5 Tryd.underlying42 base (.slice (some ⟨w6.heap.size, 0, none⟩) 0 0) 0 [] (by rfl) O7.out (some ⟨gr, 64, none⟩) (r.length - 64) (cap - 64) (r.drop 64) (by rfl) (by rw [List.length_drop]) (by rintro ⟨⟩) hrb (by omega) (by exact HB7.out) ?_)
        intro v8 w8 o8 hg8 hob8
        obtain ⟨A8, c8, hv8, -⟩ := own_slice o8
        obtain ⟨L8, hL8⟩ : ∃ x, x = r.length - 64 := ⟨_, rfl⟩
        rw [← hL8] at hv8 o8
        subst hv8
        have hgb6 : g < w6.heap.size := hn6.lt
        have s7 : (w6.alloc (.cells #[] 5)).heap.size = w6.heap.size + 1 := Array.size_push _
        have hlow : ∀ k, (Value.slice A8 L8 c8).ownBlock = some k → w6.heap.size ≤ k := fun k hk => by
          rcases hob8 with h | h
          · rw [hk] at h
            have h2 : some k = some w6.heap.size := h
            injection h2 with h2
            omega
          · rw [hk] at h
            injection h with h
            omega
        have b8 := b7.grown hg8 (by intro h; have h2 : some g = some w6.heap.size := h; injection h2 with h2; omega)
        have k8 := k7.grown hg8 (fun k hk => .inr (by have h2 : some w6.heap.size = some k := hk; injection h2 with h2; have := hkwr.out; omega))
        have T8 := (T6.below (B := base) ((Below.refl base w6).alloc (by omega) (.cells #[] 5)) h1).below ((Below.refl base (w6.alloc (.cells #[] 5))).grown hg8 (by omega) (fun k hk => by have h2 : some w6.heap.size = some k := hk; injection h2 with h2; omega)) h1
        have hne8 := own_ne o8 b8 (by decide)
        have f9 := b8.frozen 9
        have d9 : w8.cell? ⟨g, 9, none⟩ = some (.slice (some ⟨gr, 0, none⟩) r.length cap) := b8.cell 9
        have b9 := b8.set_ 9 (.slice A8 L8 c8)
        rw [hcells_set9 (Sha.block V C) r N _ _ (r.drop 64)] at b9
        have kk := (Keeps.refl w8 (· = g)).setCell (p := ⟨g, 9, none⟩) (.inl rfl) (.slice A8 L8 c8)
        have o9 := kk.own o8 hne8
        have k9 := k8.trans kk (fun j hj => .inl (.inl hj))
        have T9 := T8.below (kk.below (B := base) (by have := hg8.size; omega) (fun k hk => by omega)) h1
        have B9 := Lib.hid b9
        have O9 := Lib.hid o9
        have K9 := Lib.hid k9
        have T9' := Lib.hid T9
        have HL8 := Lib.hid hL8
        have HLOW := Lib.hid hlow
        have HG6 := Lib.hid (show wr.heap.size ≤ w6.heap.size from hs6)
        clear b9 o9 k9 T9 kk b8 k8 T8 b7 k7 k6 T6 hn6 hr6 hown6 hob8 hg8 o8 hrb hrg6 hrg7 hL8 hlow d9a hs6 hg6 s7 hgb6
        go_wp2
        have e1 : Sha.many (k + 1) Hh R = Sha.block V C := by rw [HV.out, HC.out, HRR.out]; rfl
        have e2 : R.drop (64 * (k + 1)) = r.drop 64 := by rw [HRR.out, List.drop_drop]; congr 1
        refine ⟨⟨k + 1, .slice A8 L8 c8, ?_, ⟨?_, ?_, hgb⟩, T9'.out, K9.out, ?_⟩, ?_⟩
        · have := HLEN.out; have := HK.out; omega
        · rw [e1, e2]; exact B9.out
        · have h9 := O9.out
          show World.ownsRow _ base 5 1 _ (R.drop (64 * (k + 1))).length (bv (R.drop (64 * (k + 1))))
          rw [e2, List.length_drop, ← HL8.out]
          exact h9
        · exact fun j hj => .inr (by have := HLOW.out j hj; have := HG6.out; have := hkwr.out; omega)
        · have m1 := B9.out.cell 9
          rw [m1, D9R.out]
          have := HL8.out
          show L8 < r.length
          omega
    · have q1 : ¬ (64 : Int) ≤ (r.length : Int) := by omega
      have hw : Sha.HM.write ⟨Hh, R0, n0⟩ l = ⟨Sha.many k Hh R, r, N⟩ := by
        unfold Sha.HM.write
        simp only [← HR.out, ← HN.out]
        have h1 := HLEN.out
        have h2 := HK.out
        have : R.length / 64 = k := by omega
        rw [this, HRR.out]
      have HW := Lib.hid hw
      have HI := Lib.hid hI
      clear hw h64 hI
      go_wp2
      go_end0
      exact ⟨rfl, _, by rw [HW.out]; exact HI.out, htr, hkr, hobr⟩
end Go.Proofs.YtcdljlaoedaliaaDoor
