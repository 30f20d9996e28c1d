/- The contracts of seal's tag and of the reference's. -/
import Derived.Test.YtfhphkhkpejomaaDoorZd
set_option linter.unusedVariables false
set_option linter.unusedSimpArgs false
namespace Go.Proofs.YtfhphkhkpejomaaDoor
open Go.RowKit Wd
theorem len_facts (n : Nat) (hn : n ≤ 60000) : ∃ hi lo : UInt8, hi = UInt8.ofNat (n / 256) ∧ lo = UInt8.ofNat n ∧ (n : Int) / 256 = (hi.toNat : Int) ∧ (n : Int) % 256 = (lo.toNat : Int) ∧ (n : Int).tdiv 256 = (hi.toNat : Int) ∧ (n : Int).tmod 256 = (lo.toNat : Int) := by
  have h1 : (n : Int) / 256 = ((UInt8.ofNat (n / 256)).toNat : Int) := by rw [UInt8.toNat_ofNat']; omega
  have h2 : (n : Int) % 256 = ((UInt8.ofNat n).toNat : Int) := by rw [UInt8.toNat_ofNat']; omega
  exact ⟨_, _, rfl, rfl, h1, h2, by rw [Int.tdiv_eq_ediv_of_nonneg (by omega)]; exact h1, by rw [Int.tmod_eq_emod_of_nonneg (by omega)]; exact h2⟩
section
variable {w0 w : World} {M : Mem} {L : List Ent}
set_option maxRecDepth 100000 in
set_option maxHeartbeats 2000000 in
theorem tag_any (ht : Tabs w0) (H : St w0 w M L) {A : Option Addr} {c : Nat} {k : List UInt8} (hA : A = none → c = 0) (hc : k.length ≤ c) (hk : Sr w0 M L A k) (hn : k.length < 1000000) (lb : List UInt8) (hlb : lb.length ≤ 60000)
    {B : Option Addr} {d : Nat} {s : List UInt8} (hB : B = none → d = 0) (hs : Sr w0 M L B s) (hsn : s.length < 1000000) :
    Calls Tryd.prog 15 #[.slice A k.length c, .string ⟨lb.toArray⟩, .slice B s.length d] w fun e w' => e = .returned (.agg (bv (Seal.tag k lb s)).toArray) ∧ St w0 w' M L := by
  have hsz : (ByteArray.mk lb.toArray).size = lb.length := by show lb.toArray.size = _; simp
  obtain ⟨T, hT⟩ : ∃ T, T = Seal.tag k lb s := ⟨_, rfl⟩
  rw [← hT]
  have HT := Lib.hid hT
  clear hT
  obtain ⟨hi, lo, hhi, hlo, e1, e2, e3, e4⟩ := len_facts lb.length hlb
  have HHL := Lib.hid (And.intro hhi hlo)
  have y0 := hi.toNat_lt
  have y1 := lo.toNat_lt
  clear hhi hlo
  go_enter Tryd.func15, Tryd.ntmps15
  go_upto_region 1 with fail
  have H1 := H.new (bv (List.replicate 32 0)) 40
  rw [obj32]
  generalize hw1 : w.alloc (.cells (bv (List.replicate 32 0)).toArray 40) = w1 at *
  generalize hob : w.heap.size = ob at *
  obtain ⟨zs, hzs⟩ : ∃ zs, zs = bv (List.replicate 32 0) := ⟨_, rfl⟩
  rw [← hzs] at H1
  have hzl : zs.length = 32 := by rw [hzs, bv_length, List.length_replicate]
  have HZS := Lib.hid hzl
  clear hw1 hob hzs hzl
  go_wp2_with fail
  refine (derive_any ht H1 hA hc (hk.cons _) (by omega) (lb := Seal.tagL) (by decide) 32).mono ?_
  rintro e w2 hres
  rcases hres with ⟨hbad, _, _⟩ | ⟨_, _, A1, M1, rfl, hA1, hM1, hin1, H2⟩
  · omega
  · rw [show (32 : Int).toNat = 32 from rfl] at hin1 ⊢
    obtain ⟨K, hK⟩ : ∃ K, K = Mac.derive k Seal.tagL 32 := ⟨_, rfl⟩
    have hKl : K.length = 32 := by rw [hK, Mac.derive_len]
    rw [← hK] at hin1
    have hA1' : A1 ≠ none := fun h => by have := hA1 h; omega
    have HK := Lib.hid hK
    have HIN := Lib.hid (And.intro hKl (And.intro hin1 hA1'))
    clear hK hKl hin1 hA1 hA1' H1
    have H3 := H2.lit (bv [hi, lo]) 5 (by show 2 ≤ maxLen; decide)
    go_wp2_with (at_builtin; refine wpList_append_str_st H3 (by rfl) (.tmp 22) (.tmp 23) 22 9 (by rfl) Tryd.info5 Tryd.underlying22 Tryd.underlying9 (by rfl) lb (by rfl) (by show 2 + lb.length ≤ _; omega) ?_)
    intro v4 w4 H4
    rw [← bv_append, show (bv [hi, lo]).length = 2 from rfl] at H4
    obtain ⟨A4, c4, rfl, hc4, hA4⟩ := H4.shape' 0 rfl
    have rs := ((hs.le hM1).cons (eb ob 40 zs)).cons (er 5 1 (.slice A4 (2 + lb.length) c4) (2 + lb.length) (bv ([hi, lo] ++ lb))) |>.now H4
    clear H3 H2
    go_wp2_with (at_builtin; refine wpList_append_st H4 (by rfl) (.tmp 26) (.tmp 27) 22 (by rfl) Tryd.info5 Tryd.underlying22 (by rfl) B s.length d s (by rfl) rfl hB rs (by omega) ?_)
    intro v5 w5 H5
    rw [← bv_append] at H5
    obtain ⟨A5, c5, rfl, hc5, hA5⟩ := H5.shape' 0 rfl
    obtain ⟨U, hU⟩ : ∃ U, U = hi :: lo :: lb ++ s := ⟨_, rfl⟩
    have hUl : U.length = 2 + lb.length + s.length := by rw [hU]; simp; omega
    rw [← hU, ← hUl] at H5
    obtain ⟨hKl, hin1, hA1'⟩ := HIN.out
    have hm := mac_any ht H5 (A := A1) (c := 32) (k := K) (fun h => absurd h hA1') (by omega) (Sr.of_in hin1) (by omega) hA5 (Sr.row 0 rfl) (by omega)
    rw [hUl, hKl, show Mac.mac K U = T from by rw [HT.out, HK.out, hU]; unfold Seal.tag; rw [HHL.out.1, HHL.out.2]; first | done | rfl] at hm
    have hdl : (bv T).length = 32 := by rw [bv_length, HT.out, Seal.tag_len]
    have HM := Lib.hid hm
    clear hm rs H4 hKl hin1 hA1' hU hUl
    go_wp2_with fail
    refine HM.out.mono ?_
    rintro e w6 ⟨rfl, H6⟩
    obtain ⟨w7, hst, H7⟩ := run_store_st (P := Tryd.prog) H6.d0 (cs := bv T) (by rw [hdl, HZS.out]) (bv_one _)
    go_wp2
    refine ret_row H7 (by rfl) (by rfl) Tryd.underlying40 (by rfl) (by rw [hdl]; exact Tryd.size24) rfl ?_
    exact ⟨rfl, H7.d0.weak H hM1⟩
set_option maxRecDepth 100000 in
set_option maxHeartbeats 2000000 in
theorem rtag_any (H : St w0 w M L) {A : Option Addr} {c : Nat} {k : List UInt8} (hA : A = none → c = 0) (hc : k.length ≤ c) (hk : Sr w0 M L A k) (hn : k.length < 1000000) (lb : List UInt8) (hlb : lb.length ≤ 60000)
    {B : Option Addr} {d : Nat} {s : List UInt8} (hB : B = none → d = 0) (hs : Sr w0 M L B s) (hsn : s.length < 1000000) :
    Calls Tryd.prog 12 #[.slice A k.length c, .string ⟨lb.toArray⟩, .slice B s.length d] w fun e w' => ∃ v, e = .returned v ∧ St w0 w' M (er 5 1 v 32 (bv (Seal.tag k lb s)) :: L) := by
  have hsz : (ByteArray.mk lb.toArray).size = lb.length := by show lb.toArray.size = _; simp
  obtain ⟨T, hT⟩ : ∃ T, T = Seal.tag k lb s := ⟨_, rfl⟩
  rw [← hT]
  have HT := Lib.hid hT
  clear hT
  obtain ⟨hi, lo, hhi, hlo, e1, e2, e3, e4⟩ := len_facts lb.length hlb
  have HHL := Lib.hid (And.intro hhi hlo)
  have y0 := hi.toNat_lt
  have y1 := lo.toNat_lt
  clear hhi hlo
  have H3 := H.lit (bv [hi, lo]) 5 (by show 2 ≤ maxLen; decide)
  go_enter Tryd.func12, Tryd.ntmps12
  go_wp2_with (at_builtin; refine wpList_append_str_st H3 (by rfl) (.tmp 18) (.tmp 19) 22 9 (by rfl) Tryd.info5 Tryd.underlying22 Tryd.underlying9 (by rfl) lb (by rfl) (by show 2 + lb.length ≤ _; omega) ?_)
  intro v4 w4 H4
  rw [← bv_append, show (bv [hi, lo]).length = 2 from rfl] at H4
  obtain ⟨A4, c4, rfl, hc4, hA4⟩ := H4.shape' 0 rfl
  have rs := hs.cons (er 5 1 (.slice A4 (2 + lb.length) c4) (2 + lb.length) (bv ([hi, lo] ++ lb))) |>.now H4
  clear H3
  go_wp2_with (at_builtin; refine wpList_append_st H4 (by rfl) (.tmp 20) (.tmp 21) 22 (by rfl) Tryd.info5 Tryd.underlying22 (by rfl) B s.length d s (by rfl) rfl hB rs (by omega) ?_)
  intro v5 w5 H5
  rw [← bv_append] at H5
  obtain ⟨A5, c5, rfl, hc5, hA5⟩ := H5.shape' 0 rfl
  obtain ⟨U, hU⟩ : ∃ U, U = hi :: lo :: lb ++ s := ⟨_, rfl⟩
  have hUl : U.length = 2 + lb.length + s.length := by rw [hU]; simp; omega
  rw [← hU] at H5
  have HU := Lib.hid (And.intro hU hUl)
  clear rs H4 hU hUl
  go_wp2_with fail
  refine (rderive_any H5 hA hc (hk.cons _) hn (lb := Seal.tagL) (by decide) 32 (by decide)).mono ?_
  rintro e w1 ⟨A1, c1, M1, rfl, hlc, hA1, hM1, hin1, H6⟩
  obtain ⟨K, hK⟩ : ∃ K, K = Mac.derive k Seal.tagL 32 := ⟨_, rfl⟩
  have hKl : K.length = 32 := by rw [hK, Mac.derive_len]
  rw [← hK] at hin1 hlc ⊢
  rw [← HU.out.2] at H6
  have hm := rmac_any H6 (A := A1) (c := c1) (k := K) hA1 (Sr.of_in hin1) (by omega) (by omega) hA5 (Sr.row 0 rfl) (by have := HU.out.2; omega)
  rw [HU.out.2, show Mac.mac K U = T from by rw [HT.out, hK, HU.out.1]; unfold Seal.tag; rw [HHL.out.1, HHL.out.2]; first | done | rfl] at hm
  have htl : T.length = 32 := by rw [HT.out, Seal.tag_len]
  have hdl : (bv T).length = 32 := by rw [bv_length, htl]
  have HM := Lib.hid hm
  have HTL := Lib.hid htl
  clear hm htl hKl hin1 hK hlc
  go_wp2_with fail
  refine HM.out.mono ?_
  rintro e w6 ⟨rfl, H7⟩
  have H8 := (H7.d0.weak H hM1).new (bv (List.replicate 32 0)) 40
  obtain ⟨w7, hst, H9⟩ := run_store_st (P := Tryd.prog) H8 (cs := bv T) (by rw [hdl, bv_length, List.length_replicate]) (bv_one _)
  rw [← obj32] at hst
  have H10 := H9.lit0 5
  go_wp2_with (at_builtin; refine wpList_append_st H10 (by rfl) (.tmp 27) (.tmp 28) 22 (by rfl) Tryd.info5 Tryd.underlying22 (by rfl) (some ⟨w6.heap.size, 0, none⟩) 32 32 T (by rfl) HTL.out.symm (by rintro ⟨⟩) ((H10.blk 1 rfl).RB (by rw [List.drop_zero, List.take_of_length_le (by rw [bv_length]; exact Nat.le_refl _)])) (by omega) ?_)
  intro v8 w8 H11
  try simp only [Nat.zero_add, List.nil_append] at H11
  go_wp2
  go_ret
  exact ⟨_, rfl, H11.d1⟩
end
end Go.Proofs.YtfhphkhkpejomaaDoor
