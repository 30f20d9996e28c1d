/- The contracts of tuple.put and tuple.Encode. -/
import Derived.Test.YtbmiifglpjeegaaDoorLa1
import Derived.Test.YtbmiifglpjeegaaDoorJe
import Derived.Test.YtbmiifglpjeegaaDoorJf
set_option linter.unusedVariables false
set_option linter.unusedSimpArgs false
namespace Go.Proofs.YtbmiifglpjeegaaDoor
open Go.RowKit Wd
/-- The library's bound holds some number. -/
def MaxI (w : World) : Prop := ∃ m, w.cell? ⟨Tryd.replAll_ren.g 1, 0, none⟩ = some (.int .i64 m)
theorem Tryd.builderX : Builder.Extra Tryd.prog Tryd.replAll_ren where
  sizeBuilder := by kernel_rfl
  liesBuilder := by kernel_rfl
  t5 := Tryd.underlying5
  a5 := Tryd.isAgg5
  z5 := Tryd.sizeOf5
  v5 := Tryd.zeroValue5
  infoByte := by kernel_rfl
  cellsByte := by kernel_rfl
  sizeByte := by kernel_rfl
  neB5 := by decide
section
variable {w0 w : World} {M : Mem} {L : List Ent} {g : Nat} {l : List UInt8}
theorem repl_any (hx : MaxI w) (s : List UInt8) (hs : s.length ≤ 1000000000) :
    Calls Tryd.prog 41 #[.string (str s), .string (str [0]), .string (str [0, 255])] w fun e w' => e = .returned (.string (str (Tu.esc s))) ∧ Below w.heap.size w w' := by
  obtain ⟨m, hm⟩ := hx
  have hc := Tu.count_all s
  have hsz : (str s).size = s.length := by show s.toArray.size = _; simp
  have h := Any.strings_ReplaceAll Tryd.replAll Tryd.builderX (str s) (str [0]) (str [0, 255]) m w (by rw [hsz]; omega) hm (by decide) (by
    have h2 : (str [0, 255]).size = 2 := rfl
    have h3 : Lib.countB (str s) (str [0]) = Lib.count s [0] := rfl
    rw [hsz, h2, h3]
    omega)
  rw [show (str s).data.toList = s from rfl, show (str [0]).data.toList = [0] from rfl, show (str [0, 255]).data.toList = [0, 255] from rfl, Tu.repl_all] at h
  exact h
theorem len64_any (n : Nat) (hn : n < 18446744073709551616) (w : World) :
    Calls Tryd.prog 42 #[.int .u64 (n : Int)] w fun e w' => e = .returned (.int .i64 (Lib.bitLen n : Int)) ∧ w = w' := by
  have h := Any.bits_Len64 Tryd.len64 (n : Int) w (by omega) (by omega)
  rw [Int.toNat_natCast] at h
  exact h.mono fun e w' ⟨h1, h2⟩ => ⟨h1, h2.symm⟩
set_option maxRecDepth 100000 in
set_option maxHeartbeats 1000000 in
theorem put_any (H : BB w0 w M g l L) (hx : In M MaxI) (p : Tu.Part) (hp : p.num < 18446744073709551616) (hl : l.length ≤ 100000000000) (ht : p.text.length ≤ 100000000) :
    Calls Tryd.prog 25 #[.pointer (some ⟨g, 0, none⟩), pv p] w fun e w' => e = .returned (.tuple #[]) ∧ BB w0 w' M g (l ++ Tu.one p) L := by
  obtain ⟨s, n, b⟩ := p
  simp only at hp ht
  unfold pv Tu.one
  cases b with
  | true =>
    rw [if_pos rfl]
    simp only
    obtain ⟨Z, HZ, hb0, hb1, hsr⟩ := H.out
    have hA := hb1 _ _ _ (HZ.new [.string (str s), .int .u64 (n : Int), .bool true] 42)
    obtain ⟨B, hB⟩ : ∃ B, B = w.heap.size := ⟨_, rfl⟩
    have hw := wbyte_any hA 32 (by omega)
    have HW := Lib.hid hw
    have hel := Tu.esc_len s
    obtain ⟨E, hE⟩ : ∃ E, E = Tu.esc s := ⟨_, rfl⟩
    have hr := fun w (hx : MaxI w) => repl_any hx s (by omega)
    rw [← hE] at hr hel ⊢
    have HR := Lib.hid hr
    clear hw H HZ hb0 hb1 hsr hE hr hB B
    go_enter Tryd.func25, Tryd.ntmps25
    go_wp2_with fail
    refine HW.out.mono ?_
    rintro e w1 ⟨⟨v1, rfl⟩, H1⟩
    have c0 := H1.rest.cell 0 rfl 0
    have hr := HR.out w1 (hx.now H1.rest)
    have HR1 := Lib.hid hr
    clear hr
    go_wp2_with fail
    refine HR1.out.mono ?_
    rintro e w2 ⟨rfl, hb2⟩
    have H2 := H1.belowK hb2
    have hw2 := wstr_any H2 E (by simp; omega)
    have HW2 := Lib.hid hw2
    clear hw2 H1 c0
    go_wp2_with fail
    refine HW2.out.mono ?_
    rintro e w3 ⟨⟨v3, rfl⟩, H3⟩
    have hw3 := wstr_any H3 [0, 1] (by simp; omega)
    have HW3 := Lib.hid hw3
    clear hw3 H2
    go_wp2_with fail
    refine HW3.out.mono ?_
    rintro e w4 ⟨⟨v4, rfl⟩, H4⟩
    go_wp2
    refine bodyPost_ret (results_none rfl _ _ _) rfl ?_
    refine ⟨rfl, ?_⟩
    have H5 := H4.drop
    rw [show l ++ 32 :: (E ++ [0, 1]) = l ++ [32] ++ E ++ [0, 1] from by simp]
    exact H5
  | false =>
    rw [if_neg (by simp)]
    simp only
    obtain ⟨Z, HZ, hb0, hb1, hsr⟩ := H.out
    have hA := hb1 _ _ _ (HZ.new [.string (str s), .int .u64 (n : Int), .bool false] 42)
    obtain ⟨B, hB⟩ : ∃ B, B = w.heap.size := ⟨_, rfl⟩
    have hbits := Tu.digs_bits n hp
    have h8 := Tu.digs_len8 hp
    have hget := Tu.digs_get n
    obtain ⟨d, hd⟩ : ∃ d, d = Tu.digs n := ⟨_, rfl⟩
    rw [← hd] at hbits h8 hget ⊢
    obtain ⟨N, hN⟩ : ∃ N, N = d.length := ⟨_, rfl⟩
    rw [← hN] at hbits h8 hget ⊢
    have hlen := fun w => len64_any n hp w
    obtain ⟨bl, hbl⟩ : ∃ bl, bl = Lib.bitLen n := ⟨_, rfl⟩
    rw [← hbl] at hlen hbits
    have hbl2 : bl ≤ 64 := by rw [hbl]; exact Lib.bitLen_le n 64 (Nat.le_refl _) (by simpa using hp)
    obtain ⟨b7, hb7⟩ : ∃ b7, b7 = bl + 7 := ⟨_, rfl⟩
    have e1 : (bl : Int) + 7 = (b7 : Int) := by omega
    have e2 : (b7 : Int) / 8 = (N : Int) := by omega
    have e2' : (b7 : Int).tdiv 8 = (N : Int) := by rw [Int.tdiv_eq_ediv_of_nonneg (by omega)]; exact e2
    obtain ⟨T, hT⟩ : ∃ T : UInt8, T = UInt8.ofNat (16 + N) := ⟨_, rfl⟩
    have hTn : T.toNat = 16 + N := by rw [hT]; simp; omega
    have e3 : (16 : Int) + (N : Int) = (T.toNat : Int) := by omega
    have hb72 : b7 ≤ 71 := by omega
    have HA := Lib.hid hA
    have HLEN := Lib.hid hlen
    have HGET := Lib.hid hget
    have HN := Lib.hid hN
    have HD := Lib.hid hd
    have hTle : T.toNat ≤ 24 := by omega
    rw [← hT]
    clear hbits hget hd hN hlen hbl hb7 hT hTn hA H HZ hb0 hb1 hsr hB B
    go_enter Tryd.func25, Tryd.ntmps25
    have c1 := HA.out.rest.cell 0 rfl 1
    go_wp2_with fail
    refine (HLEN.out _).mono ?_
    rintro e w1 ⟨rfl, rfl⟩
    have hw := wbyte_any HA.out T (by omega)
    have HW := Lib.hid hw
    clear hw
    go_wp2_with fail
    refine HW.out.mono ?_
    rintro e w2 ⟨⟨v2, rfl⟩, H2⟩
    obtain ⟨B, hB⟩ : ∃ B, B = w.heap.size := ⟨_, rfl⟩
    rw [← hB] at H2
    clear e1 e2 e2' e3 HW HA HLEN c1
    go_wp2
    simp only [← hB]
    have HB := Lib.hid hB
    clear hB
    go_loopw [5] (fun i wr => ∃ j : Nat, j ≤ N ∧ i = .int .i64 ((N : Int) - 1 - (j : Int)) ∧ BB w0 wr M g (l ++ T :: d.take j) (eb B 42 [.string (str s), .int .u64 (n : Int), .bool false] :: L)) (fun i _ => (intOf i + 1).toNat)
    case atStart => exact ⟨0, by omega, by go_num, by simpa using H2⟩
    case round =>
      obtain ⟨j, hj, rfl, H3⟩ := hrel
      clear H2
      by_cases hlt : j < N
      · obtain ⟨i, hi⟩ : ∃ i : Nat, i = N - 1 - j := ⟨_, rfl⟩
        have hi2 : (N : Int) - 1 - (j : Int) = (i : Int) := by omega
        have hg0 := HGET.out j hlt
        rw [← hi] at hg0
        rw [hi2]
        obtain ⟨m, hm⟩ : ∃ m : Nat, m = 8 * i := ⟨_, rfl⟩
        have e1 : 8 * (i : Int) = (m : Int) := by omega
        obtain ⟨sh, hs⟩ : ∃ s : Nat, s = 2 ^ m := ⟨_, rfl⟩
        have e2 : (2 : Int) ^ m = (sh : Int) := by rw [hs]; push_cast; rfl
        have hsh : 256 ^ i = sh := by rw [hs, hm, Nat.pow_mul]
        rw [hsh] at hg0
        obtain ⟨q, hq⟩ : ∃ q : Nat, q = n / sh := ⟨_, rfl⟩
        have e3 : (n : Int) / (sh : Int) = (q : Int) := by rw [hq]; push_cast; rfl
        obtain ⟨b, hb⟩ : ∃ b : UInt8, b = UInt8.ofNat q := ⟨_, rfl⟩
        have e4 : (q : Int) % 256 = (b.toNat : Int) := by rw [hb]; simp
        rw [← hq, ← hb] at hg0
        have htk : d.take (j + 1) = d.take j ++ [b] := by
          have hjl : j < d.length := by rw [← HN.out]; exact hlt
          rw [List.take_succ_eq_append_getElem hjl]
          rw [List.getElem?_eq_getElem hjl] at hg0
          injection hg0 with hg0
          rw [hg0]
        have HT := Lib.hid htk
        have HI := Lib.hid hi2
        have hi3 : (i : Int) ≤ 7 := by omega
        have hm3 : m < 64 := by omega
        have HLT := Lib.hid hlt
        have c1 := H3.rest.cell 0 rfl 1
        have hw := wbyte_any H3 b (by rw [List.length_append, List.length_cons, List.length_take, ← HN.out]; omega)
        have HW := Lib.hid hw
        clear htk hi2 hs hq hb hm hi hlt hg0 hsh hw H3
        go_wp2_with fail
        refine HW.out.mono ?_
        rintro e w4 ⟨⟨v4, rfl⟩, H4⟩
        go_wp2
        refine ⟨⟨j + 1, by have := HLT.out; omega, congrArg (Value.int .i64) (by have := HI.out; omega), ?_⟩, by simp [intOf]⟩
        rw [HT.out, show l ++ T :: (d.take j ++ [b]) = l ++ T :: d.take j ++ [b] from by simp]
        exact H4
      · obtain rfl : j = N := by omega
        rw [List.take_of_length_le (by rw [HN.out]; exact Nat.le_refl _)] at H3
        clear hlt
        go_wp2
        go_end0
        exact ⟨rfl, H3.drop⟩
end
end Go.Proofs.YtbmiifglpjeegaaDoor
