/- Bytes with how many there are, written: kv's put and the reference's. -/
import Derived.Test.YtpomjaidaignpaaC3
import Derived.Test.YtpomjaidaignpaaRg
import Derived.Test.YtpomjaidaignpaaSg
set_option linter.unusedVariables false
set_option linter.unusedSimpArgs false
namespace Go.Proofs.Ytpomjaidaignpaa
open Go.RowKit Wd
section
variable {w0 w : World} {M : Mem} {L : List Ent}
theorem be2_bv (n q r : Nat) (h : n < 65536) (hq : q = n / 256) (hr : r = n % 256) : bv (Kv.be2 n) = [.int .u8 (q : Int), .int .u8 (r : Int)] := by
  unfold Kv.be2 bv
  simp only [List.map_cons, List.map_nil, UInt8.toNat_ofNat']
  rw [show n / 256 % 2 ^ 8 = q from by omega, show n % 2 ^ 8 = r from by omega]
set_option maxRecDepth 100000 in
theorem put20_any {v : Value} {n : Nat} {X : List UInt8} (H : St w0 w M (er 5 1 v n (bv X) :: L)) (s : List UInt8) (hs : s.length < 65536) (hn : n ≤ 1000000000) :
    Calls Try.prog 24 #[v, .string (str s)] w fun e w' => ∃ v', e = .returned v' ∧ St w0 w' M (er 5 1 v' (n + (2 + s.length)) (bv (X ++ (Kv.be2 s.length ++ s))) :: L) := by
  obtain ⟨A, c, rfl, hc⟩ := H.shape 0 rfl
  obtain ⟨m, hm⟩ : ∃ m, m = s.length := ⟨_, rfl⟩
  obtain ⟨q, hq⟩ : ∃ q, q = m / 256 := ⟨_, rfl⟩
  obtain ⟨r, hr⟩ : ∃ r, r = m % 256 := ⟨_, rfl⟩
  have hb2 := be2_bv m q r (by omega) hq hr
  obtain ⟨b2, hb2e⟩ : ∃ b2, b2 = Kv.be2 m := ⟨_, rfl⟩
  have hb2l : b2.length = 2 := by rw [hb2e]; rfl
  rw [← hb2e] at hb2
  have hS : (str s).size = m := by rw [str_size, hm]
  have f1 : (m : Int) / 256 = (q : Int) := by omega
  have f2 : IntKind.u8.wrap (q : Int) = (q : Int) := by rw [IntKind.wrap_u8]; omega
  have f3 : IntKind.u8.wrap (m : Int) = (r : Int) := by rw [IntKind.wrap_u8]; omega
  have hbs : ∀ W : World, (Instr.buildSlice 25 2 #[(0, .int .u8 (q : Int)), (1, .int .u8 (r : Int))]).run Try.prog W = .ok (.slice (some ⟨W.heap.size, 0, none⟩) 2 2) (W.alloc (.cells #[.int .u8 (q : Int), .int .u8 (r : Int)] 5)) := fun W => by go_simp
  obtain ⟨S, hSe⟩ : ∃ S, S = str s := ⟨_, rfl⟩
  rw [← hSe] at hS ⊢
  rw [← hm, ← hb2e]
  have HM := Lib.hid hm
  have HB2 := Lib.hid (And.intro hb2 hb2l)
  have HBS := Lib.hid hbs
  have HSE := Lib.hid hSe
  have hmb : m < 65536 := by omega
  clear hm hq hr hb2 hb2l hb2e hbs hSe hs
  go_enter Try.func24, Try.ntmps24
  go_upto_region 1 with fail
  refine wp_region_lit ?_
  iterate 8 (refine wpList_ex (v := ?_) (by rfl) ?_ ?_; rotate_left; (focus (go_simp; with_reducible rfl)); simp only [Act.put, List.setIfInBounds_toArray, List.set_cons_zero, List.set_cons_succ])
  have H1 := H.alloc (.cells #[.int .u8 (q : Int), .int .u8 (r : Int)] 5)
  have hnew : RB (w.alloc (.cells #[.int .u8 (q : Int), .int .u8 (r : Int)] 5)) (some ⟨w.heap.size, 0, none⟩) b2 := (Blk.new w 5 [.int .u8 (q : Int), .int .u8 (r : Int)]).RB (by rw [HB2.out.1, HB2.out.2]; rfl)
  refine wpList_bs2 (by rfl) 25 (.tmp 9) (.tmp 12) (by rfl) (by rfl) (by rfl) (HBS.out _) ?_
  simp only [Act.put, List.setIfInBounds_toArray, List.set_cons_zero, List.set_cons_succ]
  refine wpList_append_st H1 (by rfl) (.tmp 5) (.tmp 13) 25 (by rfl) Try.info5 Try.underlying25 (by rfl) (some ⟨w.heap.size, 0, none⟩) 2 2 b2 (by rfl) HB2.out.2.symm (by rintro ⟨⟩) hnew (by omega) ?_
  intro v5 w5 H2
  rw [← bv_append] at H2
  clear hnew H1
  simp only [Act.put, List.setIfInBounds_toArray, List.set_cons_zero, List.set_cons_succ]
  (refine wpList_ex (v := ?_) (by rfl) ?_ ?_; rotate_left; (focus (go_simp; with_reducible rfl)); simp only [Act.put, List.setIfInBounds_toArray, List.set_cons_zero, List.set_cons_succ])
  rw [HSE.out]
  refine wpList_append_str_st H2 (by rfl) (.tmp 14) (.tmp 15) 25 9 (by rfl) Try.info5 Try.underlying25 Try.underlying9 (by rfl) s (by rfl) (by rw [← HM.out]; omega) ?_
  intro v6 w6 H3
  rw [← bv_append] at H3
  simp only [Act.put, List.setIfInBounds_toArray, List.set_cons_zero, List.set_cons_succ]
  (refine wpList_ex (v := ?_) (by rfl) ?_ ?_; rotate_left; (focus (go_simp; with_reducible rfl)); simp only [Act.put, List.setIfInBounds_toArray, List.set_cons_zero, List.set_cons_succ])
  refine wpList_nil ?_
  go_wp2
  go_ret
  refine ⟨_, rfl, ?_⟩
  rw [← HM.out, Nat.add_assoc, List.append_assoc] at H3
  exact H3
set_option maxRecDepth 100000 in
theorem rput20_any {v : Value} {n : Nat} {X : List UInt8} (H : St w0 w M (er 5 1 v n (bv X) :: L)) (s : List UInt8) (hs : s.length < 65536) (hn : n ≤ 1000000000) :
    Calls Try.prog 27 #[v, .string (str s)] w fun e w' => ∃ v', e = .returned v' ∧ St w0 w' M (er 5 1 v' (n + (2 + s.length)) (bv (X ++ (Kv.be2 s.length ++ s))) :: L) := by
  obtain ⟨A, c, rfl, hc⟩ := H.shape 0 rfl
  obtain ⟨m, hm⟩ : ∃ m, m = s.length := ⟨_, rfl⟩
  obtain ⟨q, hq⟩ : ∃ q, q = m / 256 := ⟨_, rfl⟩
  obtain ⟨r, hr⟩ : ∃ r, r = m % 256 := ⟨_, rfl⟩
  have hb2 := be2_bv m q r (by omega) hq hr
  obtain ⟨b2, hb2e⟩ : ∃ b2, b2 = Kv.be2 m := ⟨_, rfl⟩
  have hb2l : b2.length = 2 := by rw [hb2e]; rfl
  rw [← hb2e] at hb2
  have hS : (str s).size = m := by rw [str_size, hm]
  have f1 : (m : Int) / 256 = (q : Int) := by omega
  have f2 : IntKind.u8.wrap (q : Int) = (q : Int) := by rw [IntKind.wrap_u8]; omega
  have f4 : (m : Int).tdiv 256 = (q : Int) := by rw [Int.tdiv_eq_ediv_of_nonneg (by omega)]; exact f1
  have f5 : (m : Int) % 256 = (r : Int) := by omega
  have f6 : (m : Int).tmod 256 = (r : Int) := by rw [Int.tmod_eq_emod_of_nonneg (by omega)]; exact f5
  have f8 : IntKind.i64.wrap (q : Int) = (q : Int) := by rw [IntKind.wrap_i64]; omega
  have f7 : IntKind.u8.wrap (r : Int) = (r : Int) := by rw [IntKind.wrap_u8]; omega
  have f3 : IntKind.u8.wrap (m : Int) = (r : Int) := by rw [IntKind.wrap_u8]; omega
  have hbs : ∀ W : World, (Instr.buildSlice 25 2 #[(0, .int .u8 (q : Int)), (1, .int .u8 (r : Int))]).run Try.prog W = .ok (.slice (some ⟨W.heap.size, 0, none⟩) 2 2) (W.alloc (.cells #[.int .u8 (q : Int), .int .u8 (r : Int)] 5)) := fun W => by go_simp
  obtain ⟨S, hSe⟩ : ∃ S, S = str s := ⟨_, rfl⟩
  rw [← hSe] at hS ⊢
  rw [← hm, ← hb2e]
  have HM := Lib.hid hm
  have HB2 := Lib.hid (And.intro hb2 hb2l)
  have HBS := Lib.hid hbs
  have HSE := Lib.hid hSe
  have hmb : m < 65536 := by omega
  clear hm hq hr hb2 hb2l hb2e hbs hSe hs
  go_enter Try.func27, Try.ntmps27
  go_upto_region 1 with fail
  refine wp_region_lit ?_
  iterate 9 (refine wpList_ex (v := ?_) (by rfl) ?_ ?_; rotate_left; (focus (go_simp; with_reducible rfl)); simp only [Act.put, List.setIfInBounds_toArray, List.set_cons_zero, List.set_cons_succ])
  have H1 := H.alloc (.cells #[.int .u8 (q : Int), .int .u8 (r : Int)] 5)
  have hnew : RB (w.alloc (.cells #[.int .u8 (q : Int), .int .u8 (r : Int)] 5)) (some ⟨w.heap.size, 0, none⟩) b2 := (Blk.new w 5 [.int .u8 (q : Int), .int .u8 (r : Int)]).RB (by rw [HB2.out.1, HB2.out.2]; rfl)
  refine wpList_bs2 (by rfl) 25 (.tmp 9) (.tmp 13) (by rfl) (by rfl) (by rfl) (HBS.out _) ?_
  simp only [Act.put, List.setIfInBounds_toArray, List.set_cons_zero, List.set_cons_succ]
  refine wpList_append_st H1 (by rfl) (.tmp 5) (.tmp 14) 25 (by rfl) Try.info5 Try.underlying25 (by rfl) (some ⟨w.heap.size, 0, none⟩) 2 2 b2 (by rfl) HB2.out.2.symm (by rintro ⟨⟩) hnew (by omega) ?_
  intro v5 w5 H2
  rw [← bv_append] at H2
  clear hnew H1
  simp only [Act.put, List.setIfInBounds_toArray, List.set_cons_zero, List.set_cons_succ]
  (refine wpList_ex (v := ?_) (by rfl) ?_ ?_; rotate_left; (focus (go_simp; with_reducible rfl)); simp only [Act.put, List.setIfInBounds_toArray, List.set_cons_zero, List.set_cons_succ])
  rw [HSE.out]
  refine wpList_append_str_st H2 (by rfl) (.tmp 15) (.tmp 16) 25 9 (by rfl) Try.info5 Try.underlying25 Try.underlying9 (by rfl) s (by rfl) (by rw [← HM.out]; omega) ?_
  intro v6 w6 H3
  rw [← bv_append] at H3
  simp only [Act.put, List.setIfInBounds_toArray, List.set_cons_zero, List.set_cons_succ]
  (refine wpList_ex (v := ?_) (by rfl) ?_ ?_; rotate_left; (focus (go_simp; with_reducible rfl)); simp only [Act.put, List.setIfInBounds_toArray, List.set_cons_zero, List.set_cons_succ])
  refine wpList_nil ?_
  go_wp2
  go_ret
  refine ⟨_, rfl, ?_⟩
  rw [← HM.out, Nat.add_assoc, List.append_assoc] at H3
  exact H3
end
end Go.Proofs.Ytpomjaidaignpaa
