/- slices.DeleteFunc at dues. -/
import Derived.Test.YtgnlkcdpklgikaaVi
set_option linter.unusedVariables false
set_option linter.unusedSimpArgs false
namespace Go.Proofs.Ytgnlkcdpklgikaa
open Go.RowKit Wd Go.Sort
open Du (Due)
theorem ins_take (l m : List Value) (o : Nat) (h : o ≤ l.length) : (ins l o m).take o = l.take o := by
  unfold ins
  rw [List.append_assoc, List.take_append_of_le_length (by rw [List.length_take]; omega), List.take_take, Nat.min_self]
theorem ins_take2 (l m : List Value) (o : Nat) (h : o ≤ l.length) : (ins l o m).take (o + m.length) = l.take o ++ m := by
  unfold ins
  have hl : (l.take o ++ m).length = o + m.length := by rw [List.length_append, List.length_take]; omega
  rw [List.take_append_of_le_length (by omega), List.take_of_length_le (by omega)]
theorem ins_drop (l m : List Value) (o q : Nat) (h : o + m.length ≤ q) (h2 : o + m.length ≤ l.length) : (ins l o m).drop q = l.drop q := by
  unfold ins
  have hl : (l.take o ++ m).length = o + m.length := by rw [List.length_append, List.length_take]; omega
  obtain ⟨d, rfl⟩ : ∃ d, q = o + m.length + d := ⟨q - (o + m.length), by omega⟩
  rw [show o + m.length + d = (l.take o ++ m).length + d from by rw [hl], List.drop_append, List.drop_eq_nil_of_le (by omega), List.nil_append, Nat.add_sub_cancel_left, List.drop_drop, hl]
theorem ins_len (l m : List Value) (o : Nat) (h : o + m.length ≤ l.length) : (ins l o m).length = l.length := by
  unfold ins
  simp
  omega
section
variable {w0 w : World} {M : Mem} {L : List Ent}
set_option maxRecDepth 100000 in
set_option maxHeartbeats 2000000 in
theorem delete_any (g : Nat) (cb : Array Value) (eg : ∀ args w, (callFunc g args).run Try.prog w = .ok (.enter g args) w) (P : Due → Bool) {A : Option Addr} {c n : Nat} {l : List Due} (H : St w0 w M (er 40 3 (.slice A n c) n (dcs l) :: L)) (hn : n = l.length) (hn2 : n ≤ 1000000)
    (hg : ∀ p w es, St w0 w M (es ++ L) → Calls Try.prog g (#[dv p] ++ cb) w fun e w' => e = .returned (.bool (P p)) ∧ St w0 w' M (es ++ L)) :
    Calls Try.prog 19 #[.slice A n c, .func (.func g) #[] cb] w fun e w' => ∃ m, e = .returned (.slice A m c) ∧ m = (l.filter fun x => !P x).length ∧ St w0 w' M (er 40 3 (.slice A m c) m (dcs (l.filter fun x => !P x)) :: L) := by
  have hidx := idx_any g cb eg P (c := c) H hn (SrA.row 0 rfl) hn2 (fun p w H => hg p w [_] H)
  have HIDX := Lib.hid hidx
  have HN := Lib.hid hn
  have HG := Lib.hid hg
  obtain ⟨R, hR⟩ : ∃ R, R = l.filter fun x => !P x := ⟨_, rfl⟩
  rw [← hR]
  have HR := Lib.hid hR
  clear hidx hn hg hR
  go_enter Try.func19, Try.ntmps19
  go_wp2_with fail
  refine HIDX.out.mono ?_
  rintro e w1 ⟨⟨rfl, hno⟩ | ⟨k, hk, rfl, hbef, hpk⟩, H1⟩
  · have hR : R = l := by
      rw [HR.out, List.filter_eq_self]
      intro x hx
      rw [hno x hx]
      rfl
    have HRl := Lib.hid hR
    clear hno hR
    go_wp2
    go_ret
    exact ⟨n, rfl, by rw [HRl.out]; exact HN.out, by rw [HRl.out]; exact H1⟩
  · obtain ⟨b, o, rfl, -⟩ := RA.at3 (er_RA (H1.get 0 rfl)) k hk
    obtain ⟨g0, hb0⟩ : ∃ g0, b = g0 ∧ o = 0 := by
      obtain ⟨_, h2⟩ := er_bind (H1.get 0 rfl)
      rcases h2 with ⟨h2, _⟩ | ⟨g', cap', cur, he, _⟩
      · cases h2
      · injection he with he
        injection he with he
        injection he with h3 h4
        exact ⟨b, rfl, h4⟩
    obtain ⟨rfl, rfl⟩ := hb0
    obtain ⟨cs, H2, hcl, hct, hnc, hcm⟩ := H1.openRow
    have hF0 : (l.take (k + 1)).filter (fun x => !P x) = l.take k := by
      rw [List.take_succ_eq_append_getElem hk, List.filter_append, List.filter_cons_of_neg (by simp [hpk]), List.filter_nil, List.append_nil, List.filter_eq_self]
      intro x hx
      rw [hbef x hx]
      rfl
    have hkn : k < n := by have := HN.out; omega
    have hi0 : k = ((l.take (k + 1)).filter fun x => !P x).length := by rw [hF0, List.length_take]; omega
    have ht0 : cs.take (k * 3) = dcs ((l.take (k + 1)).filter fun x => !P x) := by
      rw [hF0]
      have h1 : (cs.take (n * 3)).take (k * 3) = cs.take (k * 3) := by rw [List.take_take, Nat.min_eq_left (by omega)]
      rw [← h1, hct]
      have h2 := congrArg (List.take (k * 3)) (congrArg dcs (List.take_append_drop k l))
      rw [← h2, dcs_append, List.take_append_of_le_length (by rw [dcs_length, List.length_take]; omega), List.take_of_length_le (by rw [dcs_length, List.length_take]; omega)]
    have hd0 : (cs.drop ((k + 1) * 3)).take ((n - (k + 1)) * 3) = dcs (l.drop (k + 1)) := by
      have h1 : (cs.drop ((k + 1) * 3)).take ((n - (k + 1)) * 3) = (cs.take (n * 3)).drop ((k + 1) * 3) := by
        rw [List.drop_take]
        congr 1
        omega
      rw [h1, hct]
      have h2 := congrArg (List.drop ((k + 1) * 3)) (congrArg dcs (List.take_append_drop (k + 1) l))
      rw [← h2, dcs_append]
      have h3 : (dcs (l.take (k + 1))).length = (k + 1) * 3 := by rw [dcs_length, List.length_take]; omega
      rw [← h3, List.drop_append, List.drop_eq_nil_of_le (Nat.le_refl _), List.nil_append, Nat.sub_self, List.drop_zero]
    have HI0 := Lib.hid hi0
    have HT0 := Lib.hid ht0
    have HD0 := Lib.hid hd0
    have q0 : ((k : Int) == -1) = false := by
      rw [beq_eq_false_iff_ne]
      omega
    have wk1 : IntKind.i64.wrap ((k : Int) + 1) = (k : Int) + 1 := by rw [IntKind.wrap_i64]; omega
    clear hbef hpk hk hF0 hi0 ht0 hd0 H1 hct
    go_wp2
    go_loopw [5, 6] (fun x y wr => ∃ (i j : Nat) (cs : List Value), i < j ∧ j ≤ n ∧ x = .int .i64 i ∧ y = .int .i64 j ∧ i = ((l.take j).filter fun x => !P x).length ∧ cs.length = c * 3 ∧ cs.take (i * 3) = dcs ((l.take j).filter fun x => !P x) ∧ (cs.drop (j * 3)).take ((n - j) * 3) = dcs (l.drop j) ∧ St w0 wr M (eb b 40 cs :: L)) (fun _ y _ => n - (intOf y).toNat)
    case atStart => exact ⟨k, k + 1, cs, by omega, by omega, rfl, by go_num, HI0.out, hcl, HT0.out, HD0.out, H2⟩
    case round =>
      obtain ⟨i, j, cs, hij, hj, rfl, rfl, hi, hcl, ht, hd, H3⟩ := hrel
      clear H2 HI0 HT0 HD0
      have HI := Lib.hid hi
      have HT := Lib.hid ht
      have HD := Lib.hid hd
      have HCL := Lib.hid hcl
      clear hi ht hd hcl
      by_cases hlt : j < n
      · have hj1 : j < l.length := by have := HN.out; omega
        have hx3 : (cs.drop (j * 3)).take 3 = dc l[j] := by
          have h1 := congrArg (List.take 3) HD.out
          rw [List.take_take, Nat.min_eq_left (by omega), List.drop_eq_getElem_cons hj1] at h1
          rw [h1]
          rfl
        have hta : (l.take (j + 1)).filter (fun x => !P x) = (l.take j).filter (fun x => !P x) ++ [l[j]].filter (fun x => !P x) := by rw [List.take_succ_eq_append_getElem hj1, List.filter_append]
        have hdd : dcs (l.drop j) = dc l[j] ++ dcs (l.drop (j + 1)) := by rw [List.drop_eq_getElem_cons hj1]; rfl
        have hgc := fun w' es H => HG.out l[j] w' es H
        obtain ⟨m, hm⟩ : ∃ m, m = P l[j] := ⟨_, rfl⟩
        have hff : [l[j]].filter (fun x => !P x) = if m = true then [] else [l[j]] := by
          rw [hm]
          cases h : P l[j] <;> simp [h]
        rw [hff] at hta
        simp only [← hm] at hgc
        obtain ⟨p, hp⟩ : ∃ p, p = l[j] := ⟨_, rfl⟩
        rw [← hp] at hx3 hgc hta hdd
        have hrg := (H3.blk 0 rfl).range (j * 3) 3 _ hx3
        have hlen := HCL.out
        have hrest : (cs.drop ((j + 1) * 3)).take ((n - (j + 1)) * 3) = dcs (l.drop (j + 1)) := by
          have h1 := congrArg (List.drop 3) HD.out
          rw [hdd, List.drop_take, List.drop_drop] at h1
          have h2 : (dc p ++ dcs (l.drop (j + 1))).drop 3 = dcs (l.drop (j + 1)) := rfl
          rw [h2] at h1
          rw [← h1]
          congr 1
          · omega
          · congr 1
            omega
        unfold dv at hgc
        have HGC := Lib.hid hgc
        have HTA := Lib.hid hta
        have HRG := Lib.hid hrg
        have HREST := Lib.hid hrest
        have HLT := Lib.hid hlt
        have H4 := H3.new [.int .u64 (p.t : Int), .int .u64 (p.s : Int), .int .i64 p.a] 40
        have q1 : (j : Int) < (n : Int) := by omega
        have wj : IntKind.i64.wrap (j : Int) = (j : Int) := by rw [IntKind.wrap_i64]; omega
        have wi : IntKind.i64.wrap (i : Int) = (i : Int) := by rw [IntKind.wrap_i64]; omega
        clear hgc hta hm hff hrg hrest hdd hp hj1 hlt hx3 hlen
        go_wp2_with (refine wpList_load_mid (by rfl) 40 (.tmp 24) (by rfl) b (j * 3) (by rfl) [.int .u64 (p.t : Int), .int .u64 (p.s : Int), .int .i64 p.a] _ HRG.out Try.underlying40 rfl (by exact Try.sizeDue) ?_)
        go_wp2_with fail
        refine (HGC.out _ [_, _] H4).mono ?_
        rintro e w2 ⟨rfl, H5⟩
        have hcc := HCL.out
        cases m with
        | true =>
          have h1 : (l.take (j + 1)).filter (fun x => !P x) = (l.take j).filter (fun x => !P x) := by rw [HTA.out]; simp
          have HH1 := Lib.hid h1
          clear h1 hcc
          go_wp2
          exact ⟨⟨i, j + 1, cs, by omega, by have := HLT.out; omega, rfl, by go_num, by rw [HH1.out]; exact HI.out, HCL.out, by rw [HH1.out]; exact HT.out, HREST.out, H5.d0⟩, by have := HLT.out; simp [intOf]; omega⟩
        | false =>
          have h1 : (l.take (j + 1)).filter (fun x => !P x) = (l.take j).filter (fun x => !P x) ++ [p] := by rw [HTA.out]; simp
          have h2 : i + 1 = ((l.take (j + 1)).filter fun x => !P x).length := by rw [h1, List.length_append, List.length_singleton, ← HI.out]
          have hfit : i * 3 + 3 ≤ cs.length := by have := HLT.out; omega
          have h3 : (ins cs (i * 3) (dc p)).take ((i + 1) * 3) = dcs ((l.take (j + 1)).filter fun x => !P x) := by
            rw [h1, dcs_append, ← HT.out, show (i + 1) * 3 = i * 3 + (dc p).length from by simp [dc]; omega, ins_take2 _ _ _ (by omega)]
            rfl
          have h4 : (ins cs (i * 3) (dc p)).drop ((j + 1) * 3) = cs.drop ((j + 1) * 3) := ins_drop _ _ _ _ (by simp [dc]; omega) (by simp [dc]; omega)
          have h5 : (ins cs (i * 3) (dc p)).length = c * 3 := by rw [ins_len _ _ _ (by simp [dc]; omega)]; exact hcc
          have HH2 := Lib.hid h2
          have HH3 := Lib.hid h3
          have HH4 := Lib.hid h4
          have HH5 := Lib.hid h5
          have HFIT := Lib.hid hfit
          have rg7 := (H5.blk 0 rfl).range 0 3 _ rfl
          have RG7 := Lib.hid rg7
          have i1 : (i : Int) < (n : Int) := by have := HLT.out; omega
          have wi1 : IntKind.i64.wrap ((i : Int) + 1) = (i : Int) + 1 := by rw [IntKind.wrap_i64]; have := HLT.out; omega
          clear h1 h2 h3 h4 h5 hfit rg7 hcc
          go_wp2_with first
            | (refine wpList_load_mid (by rfl) 40 (.tmp 7) (by rfl) wr.heap.size 0 (by rfl) [.int .u64 (p.t : Int), .int .u64 (p.s : Int), .int .i64 p.a] _ RG7.out Try.underlying40 rfl (by exact Try.sizeDue) ?_)
            | (refine wpList_store_st H5.f1 (by rfl) 40 (.tmp 33) (.tmp 32) (by rfl) (i * 3) [.int .u64 (p.t : Int), .int .u64 (p.s : Int), .int .i64 p.a] (by rfl) (by rfl) (by have := HFIT.out; simpa using this) (by exact Try.sizeDue) (by intro u hu; simp at hu; rcases hu with rfl | rfl | rfl <;> rfl) ?_)
          intro w3 H6
          go_wp2
          exact ⟨⟨i + 1, j + 1, ins cs (i * 3) (dc p), by omega, by have := HLT.out; omega, by go_num, by go_num, HH2.out, HH5.out, HH3.out, by rw [HH4.out]; exact HREST.out, H6.d1⟩, by have := HLT.out; simp [intOf]; omega⟩
      · obtain rfl : j = n := by omega
        have hF : (l.take j).filter (fun x => !P x) = R := by rw [HR.out, HN.out, List.take_length]
        rw [hF] at HI HT
        have wi : IntKind.i64.wrap (i : Int) = (i : Int) := by rw [IntKind.wrap_i64]; omega
        have i1 : (i : Int) ≤ (j : Int) := by omega
        have i2 : (i : Int) ≤ (c : Int) := by omega
        have i3 : (j : Int) ≤ (c : Int) := by omega
        have i2n : i ≤ c := by omega
        have hcc := HCL.out
        have hbl := H3.blk 0 rfl
        have hzl : (Builtin.zeroCells (Value.agg #[.int .u64 0, .int .u64 0, .int .i64 0]).cells (j - i)).toList.length = (j - i) * 3 := by rw [Array.length_toList, size_zeroCells]; rfl
        have hcl := fun ty => run_clear_blk (P := Try.prog) (w := wr) (ty := ty) (n := j - i) (o := i * 3) (c := c - i) Try.underlying22 Try.zeroDue rfl (by intro v hv; simp [Value.cells] at hv; rcases hv with rfl | rfl | rfl <;> rfl) hbl (by omega)
        obtain ⟨Z, hZ⟩ : ∃ Z, Z = (Builtin.zeroCells (Value.agg #[.int .u64 0, .int .u64 0, .int .i64 0]).cells (j - i)).toList := ⟨_, rfl⟩
        rw [← hZ] at hzl
        simp only [← hZ] at hcl
        have H4 := H3.turnBlk ((Keeps.refl wr (· = b)).setCells (.inl rfl) (i * 3) Z) (hbl.setCells (i * 3) Z (by omega))
        have H5 := H4.shutRow (sz := 3) (n := i) (cap := c) (by rw [ins_len _ _ _ (by omega)]; exact hcc) i2n (by assumption)
        rw [ins_take _ _ _ (by omega), HT.out] at H5
        have H5' := Lib.hid H5
        clear hlt hZ hzl hbl H3 H4 H5 hcc
        go_wp2
        go_ret
        exact ⟨i, rfl, HI.out, H5'.out⟩
end
end Go.Proofs.Ytgnlkcdpklgikaa
