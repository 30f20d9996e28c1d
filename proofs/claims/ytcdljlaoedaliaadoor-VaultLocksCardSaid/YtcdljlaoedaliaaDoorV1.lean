/- Sealed texts in plain Lean. No program is in sight. -/
import Derived.Test.YtcdljlaoedaliaaDoorMd
import Derived.Test.YtcdljlaoedaliaaDoorChecked
import Derived.Test.YtcdljlaoedaliaaDoorWk
import Derived.Test.YtcdljlaoedaliaaDoorI5
import Derived.Lib.LazyBuf
import Derived.Test.YtcdljlaoedaliaaDoorB8
import Derived.Test.YtcdljlaoedaliaaDoorPt
import Derived.Test.YtcdljlaoedaliaaDoorMe
import Derived.Deep.DeepCutAuto
import Derived.Test.YtcdljlaoedaliaaDoorMo
import Derived.Test.YtcdljlaoedaliaaDoorMs
import Derived.Test.YtcdljlaoedaliaaDoorCs
set_option linter.unusedVariables false
set_option linter.unusedSimpArgs false
namespace Go.Proofs.YtcdljlaoedaliaaDoor
open Go.RowKit Wd
namespace Seal
def ctr (n : Nat) : List UInt8 := [UInt8.ofNat (n / 16777216), UInt8.ofNat (n / 65536), UInt8.ofNat (n / 256), UInt8.ofNat n]
/-- The i-th piece of the stream. -/
def blk (k nonce : List UInt8) (i : Nat) : List UInt8 := Mac.mac k (nonce ++ ctr i)
theorem blk_len (k nonce : List UInt8) (i : Nat) : (blk k nonce i).length = 32 := Mac.mac_len _ _
/-- A byte turned. -/
def tb (k nonce b : List UInt8) (j : Nat) : UInt8 := b.getD j 0 ^^^ (blk k nonce (j / 32)).getD (j % 32) 0
def turn (k nonce b : List UInt8) : List UInt8 := (List.range b.length).map (tb k nonce b)
theorem turn_len (k nonce b : List UInt8) : (turn k nonce b).length = b.length := by simp [turn]
theorem turn_at (k nonce b : List UInt8) (j : Nat) (h : j < b.length) : (turn k nonce b)[j]'(by rw [turn_len]; exact h) = tb k nonce b j := by simp [turn]
theorem turn_take (k nonce b : List UInt8) (j : Nat) (h : j < b.length) : (turn k nonce b).take (j + 1) = (turn k nonce b).take j ++ [tb k nonce b j] := by
  rw [List.take_succ_eq_append_getElem (by rw [turn_len]; exact h), turn_at k nonce b j h]
/-- Turned twice: as it was. -/
theorem turn_turn (k nonce b : List UInt8) : turn k nonce (turn k nonce b) = b := by
  apply List.ext_getElem (by rw [turn_len, turn_len])
  intro j h1 h2
  rw [turn_at k nonce (turn k nonce b) j (by rw [turn_len]; exact h2)]
  unfold tb
  rw [List.getD_eq_getElem?_getD, List.getElem?_eq_getElem (by rw [turn_len]; exact h2), turn_at k nonce b j h2]
  unfold tb
  rw [List.getD_eq_getElem?_getD, List.getElem?_eq_getElem h2]
  simp only [Option.getD_some]
  rw [UInt8.xor_assoc, UInt8.xor_self, UInt8.xor_zero]
/-- The first j bytes turned, the others as they were. -/
def upTo (k nonce b : List UInt8) (j : Nat) : List UInt8 := (turn k nonce b).take j ++ b.drop j
theorem upTo_zero (k nonce b : List UInt8) : upTo k nonce b 0 = b := by simp [upTo]
theorem upTo_end (k nonce b : List UInt8) (j : Nat) (h : b.length ≤ j) : upTo k nonce b j = turn k nonce b := by
  unfold upTo
  rw [List.take_of_length_le (by rw [turn_len]; exact h), List.drop_of_length_le h, List.append_nil]
theorem upTo_len (k nonce b : List UInt8) (j : Nat) : (upTo k nonce b j).length = b.length := by
  unfold upTo
  rw [List.length_append, List.length_take, turn_len, List.length_drop]
  omega
theorem upTo_get (k nonce b : List UInt8) (j : Nat) (h : j < b.length) : (upTo k nonce b j)[j]? = some b[j] := by
  unfold upTo
  rw [List.getElem?_append_right (by rw [List.length_take, turn_len]; omega), List.length_take, turn_len, Nat.min_eq_left (by omega), Nat.sub_self, List.getElem?_drop, Nat.add_zero]
  exact List.getElem?_eq_getElem h
theorem upTo_set (k nonce b : List UInt8) (j : Nat) (h : j < b.length) : (upTo k nonce b j).set j (tb k nonce b j) = upTo k nonce b (j + 1) := by
  unfold upTo
  have hl : ((turn k nonce b).take j).length = j := by rw [List.length_take, turn_len]; omega
  rw [List.set_append_right _ _ (by omega), hl, Nat.sub_self, List.drop_eq_getElem_cons h, List.set_cons_zero, turn_take k nonce b j h, List.append_assoc]
  rfl
theorem tb_at (k nonce b D : List UInt8) (m i : Nat) (hD : D = blk k nonce m) (hi : i < 32) (hj : 32 * m + i < b.length) : tb k nonce b (32 * m + i) = b[32 * m + i] ^^^ D[i]'(by rw [hD, blk_len]; exact hi) := by
  subst hD
  unfold tb
  rw [List.getD_eq_getElem?_getD, List.getElem?_eq_getElem hj, show (32 * m + i) / 32 = m from by omega, show (32 * m + i) % 32 = i from by omega, List.getD_eq_getElem?_getD, List.getElem?_eq_getElem (by rw [blk_len]; exact hi)]
  rfl
def streamL : List UInt8 := [115, 116, 114, 101, 97, 109]
def tagL : List UInt8 := [116, 97, 103]
/-- BYTES TURNED by a key and a nonce. -/
def turned (key nonce b : List UInt8) : List UInt8 := turn (Mac.derive key streamL 32) nonce b
theorem turned_len (key nonce b : List UInt8) : (turned key nonce b).length = b.length := turn_len _ _ _
theorem turned_turned (key nonce b : List UInt8) : turned key nonce (turned key nonce b) = b := turn_turn _ _ _
/-- THE TAG of what is sealed. -/
def tag (key lb s : List UInt8) : List UInt8 := Mac.mac (Mac.derive key tagL 32) ([UInt8.ofNat (lb.length / 256), UInt8.ofNat lb.length] ++ lb ++ s)
theorem tag_len (key lb s : List UInt8) : (tag key lb s).length = 32 := Mac.mac_len _ _
def body (key nonce b : List UInt8) : List UInt8 := nonce ++ turned key nonce b
def sealed (key nonce lb b : List UInt8) : List UInt8 := body key nonce b ++ tag key lb (body key nonce b)
theorem sealed_len (key nonce lb b : List UInt8) (hn : nonce.length = 16) : (sealed key nonce lb b).length = b.length + 48 := by
  unfold sealed body
  rw [List.length_append, List.length_append, turned_len, tag_len, hn]
  omega
/-- A SEALED TEXT, and the error. -/
def sealR (key nonce lb b : List UInt8) : List UInt8 × Int := if 256 < lb.length ∨ 4096 < b.length then ([], 3) else (sealed key nonce lb b, 0)
/-- WHAT A TEXT IS, opened. -/
def openR (key lb s : List UInt8) : List UInt8 × Int :=
  if 256 < lb.length ∨ 4144 < s.length then ([], 3)
  else if s.length < 48 then ([], 5)
  else if tag key lb (s.take (s.length - 32)) = s.drop (s.length - 32) then (turned key (s.take 16) ((s.drop 16).take (s.length - 48)), 0)
  else ([], 11)
theorem open_sealed (key nonce lb b : List UInt8) (hn : nonce.length = 16) (h1 : ¬ 256 < lb.length) (h2 : ¬ 4096 < b.length) : openR key lb (sealed key nonce lb b) = (b, 0) := by
  have hl := sealed_len key nonce lb b hn
  have hbl : (body key nonce b).length = b.length + 16 := by unfold body; rw [List.length_append, turned_len, hn]; omega
  have e1 : (sealed key nonce lb b).take (b.length + 16) = body key nonce b := by unfold sealed; rw [← hbl]; exact List.take_left
  have e2 : (sealed key nonce lb b).drop (b.length + 16) = tag key lb (body key nonce b) := by unfold sealed; rw [← hbl]; exact List.drop_left
  have e3 : (sealed key nonce lb b).take 16 = nonce := by
    rw [show (16 : Nat) = min 16 (b.length + 16) from by omega, ← List.take_take, e1]
    unfold body
    rw [← hn]
    exact List.take_left
  have e4 : ((sealed key nonce lb b).drop 16).take b.length = turned key nonce b := by
    rw [List.take_drop, show 16 + b.length = b.length + 16 from by omega, e1]
    unfold body
    rw [← hn]
    exact List.drop_left
  unfold openR
  rw [if_neg (by omega), if_neg (by omega), hl, show b.length + 48 - 32 = b.length + 16 from by omega, e1, e2, if_pos rfl, e3, show b.length + 48 - 48 = b.length from by omega, e4, turned_turned]
end Seal
end Go.Proofs.YtcdljlaoedaliaaDoor
/- The contract of slices.Clone at bytes. -/
set_option linter.unusedVariables false
set_option linter.unusedSimpArgs false
namespace Go.Proofs.YtcdljlaoedaliaaDoor
open Go.RowKit Wd
section
variable {w0 w : World} {M : Mem} {L : List Ent}
set_option maxRecDepth 100000 in
theorem clone_any (H : St w0 w M L) {A : Option Addr} {c : Nat} {l : List UInt8} (hA : A = none → c = 0) (hc : l.length ≤ c) (hl : Sr w0 M L A l) (hn : l.length < 140737488355000) :
    Calls Tryd.prog 85 #[.slice A l.length c] w fun e w' => ∃ v, e = .returned v ∧ St w0 w' M (er 5 1 v l.length (bv l) :: L) := by
  have hq := fun (a : Option Addr) (n c : Nat) (w : World) => run_eql_slice_nil (P := Tryd.prog) w 42 5 a n c Tryd.underlying42
  cases A with
  | none =>
    obtain rfl := hA rfl
    obtain rfl : l = [] := List.eq_nil_of_length_eq_zero (by omega)
    have H1 := H.addNil 5 1
    go_enter Tryd.func85, Tryd.ntmps85
    go_wp2
    go_ret
    exact ⟨_, rfl, H1⟩
  | some ad =>
    have H1 := H.lit0 5
    have r1 := (hl.cons (er 5 1 (.slice (some ⟨w.heap.size, 0, none⟩) 0 0) 0 [])).now H1
    go_enter Tryd.func85, Tryd.ntmps85
    go_wp2_with (at_builtin; refine wpList_append_st H1 (by rfl) (.tmp 5) (.tmp 6) 42 (by rfl) Tryd.info5 Tryd.underlying42 (by rfl) (some ad) l.length c l (by rfl) rfl hA r1 (by omega) ?_)
    intro v1 w1 H2
    try simp only [Nat.zero_add, List.nil_append] at H2
    go_wp2
    go_ret
    exact ⟨_, rfl, H2⟩
end
end Go.Proofs.YtcdljlaoedaliaaDoor
/- The contract of seal's stream. -/
set_option linter.unusedVariables false
set_option linter.unusedSimpArgs false
namespace Go.Proofs.YtcdljlaoedaliaaDoor
open Go.RowKit Wd
/-- The counter's bytes, as the walk reckons them. -/
theorem ctr_facts (m : Nat) (hm : m ≤ 10000) : ∃ x0 x1 x2 x3 : UInt8, Seal.ctr m = [x0, x1, x2, x3] ∧ (m : Int) / 16777216 = (x0.toNat : Int) ∧ (m : Int) / 65536 = (x1.toNat : Int) ∧ (m : Int) / 256 = (x2.toNat : Int) ∧ (m : Int) % 256 = (x3.toNat : Int) := by
  refine ⟨_, _, _, _, rfl, ?_, ?_, ?_, ?_⟩ <;> rw [UInt8.toNat_ofNat'] <;> omega
section
variable {w0 w : World} {M : Mem} {L : List Ent}
set_option maxRecDepth 100000 in
set_option maxHeartbeats 2000000 in
theorem stream_any (ht : Tabs w0) (H : St w0 w M L) {A : Option Addr} {c : Nat} {k : List UInt8} (hA : A = none → c = 0) (hc : k.length ≤ c) (hk : Sr w0 M L A k) (hn : k.length < 1000000)
    {B : Option Addr} {d : Nat} {non : List UInt8} (hB : B = none → d = 0) (hbd : non.length ≤ d) (hnon : Sr w0 M L B non) (hnn : non.length < 1000000)
    {C : Option Addr} {f : Nat} {b : List UInt8} (hC : C = none → f = 0) (hbf : b.length ≤ f) (hb : Sr w0 M L C b) (hbn : b.length ≤ 10000) :
    Calls Tryd.prog 70 #[.slice A k.length c, .slice B non.length d, .slice C b.length f] w fun e w' => ∃ v, e = .returned v ∧ St w0 w' M (er 5 1 v b.length (bv (Seal.turned k non b)) :: L) := by
  obtain ⟨T, hT⟩ : ∃ T, T = Seal.turned k non b := ⟨_, rfl⟩
  rw [← hT]
  have HT := Lib.hid hT
  clear hT
  go_enter Tryd.func70, Tryd.ntmps70
  go_wp2_with fail
  refine (derive_any ht H hA hc hk (by omega) (lb := Seal.streamL) (by decide) 32).mono ?_
  rintro e w1 hres
  rcases hres with ⟨hbad, _, _⟩ | ⟨_, _, A1, M1, rfl, hA1, hM1, hin1, H1⟩
  · omega
  · rw [show (32 : Int).toNat = 32 from rfl] at hin1 ⊢
    obtain ⟨K, hK⟩ : ∃ K, K = Mac.derive k Seal.streamL 32 := ⟨_, rfl⟩
    have hKl : K.length = 32 := by rw [hK, Mac.derive_len]
    rw [← hK] at hin1
    have hA1' : A1 ≠ none := fun h => by have := hA1 h; omega
    have HK := Lib.hid hK
    have HIN := Lib.hid (And.intro hKl (And.intro hin1 hA1'))
    clear hK hKl hin1 hA1 hA1'
    go_wp2_with fail
    refine (clone_any H1 hC hbf (hb.le hM1) (by omega)).mono ?_
    rintro e w2 ⟨v0, rfl, H2⟩
    obtain ⟨A2, c2, rfl, hc2, hA2⟩ := H2.shape' 0 rfl
    obtain ⟨n, hn0⟩ : ∃ n, n = b.length := ⟨_, rfl⟩
    rw [← hn0] at H2 hbn hc2 ⊢
    have HN := Lib.hid hn0
    clear hn0
    go_wp2
    go_loopw [10] (fun i wr => ∃ (m P : Nat), P = 32 * m ∧ P < n + 32 ∧ i = .int .i64 P ∧ St w0 wr M1 (er 5 1 (.slice A2 n c2) n (bv (Seal.upTo K non b P)) :: L)) (fun i _ => n - (intOf i).toNat)
    case atStart => exact ⟨0, 0, rfl, by omega, rfl, by rw [Seal.upTo_zero]; exact H2⟩
    case round =>
      obtain ⟨m, P, hP, hPn, rfl, H3⟩ := hrel
      clear H2
      have hn0 := HN.out
      by_cases hlt : P < n
      · have hltI : (P : Int) < (n : Int) := by omega
        have d1 : (P : Int).tdiv 32 = (m : Int) := by rw [Int.tdiv_eq_ediv_of_nonneg (by omega)]; omega
        have d2 : (P : Int) / 32 = (m : Int) := by omega
        obtain ⟨x0, x1, x2, x3, hctr, e0, e1, e2, e3⟩ := ctr_facts m (by omega)
        have y0 := x0.toNat_lt
        have y1 := x1.toNat_lt
        have y2 := x2.toNat_lt
        have m0 : (0 : Int) ≤ (m : Int) := by omega
        have m1 : (m : Int) ≤ 400 := by omega
        have HC := Lib.hid (show P = 32 * m ∧ P < n ∧ Seal.ctr m = [x0, x1, x2, x3] ∧ n = b.length from ⟨hP, hlt, hctr, hn0⟩)
        clear hP hPn hlt hctr hn0
        go_wp2_with fail
        refine (clone_any H3 hB hbd ((hnon.le hM1).cons _) (by omega)).mono ?_
        rintro e w4 ⟨v1, rfl, H4⟩
        have H5 := H4.lit (bv [x0, x1, x2, x3]) 5 (by show 4 ≤ maxLen; decide)
        go_wp2_with (at_builtin; refine wpList_append_st H5.f1 (by rfl) (.tmp 31) (.tmp 43) 42 (by rfl) Tryd.info5 Tryd.underlying42 (by rfl) (some ⟨w4.heap.size, 0, none⟩) 4 4 [x0, x1, x2, x3] (by rfl) rfl (by rintro ⟨⟩) (er_RB (H5.get 0 rfl)) (by omega) ?_)
        intro v5 w5 H6
        rw [← bv_append] at H6
        obtain ⟨A6, c6, rfl, hc6, hA6⟩ := H6.shape' 0 rfl
        have hul : (non ++ [x0, x1, x2, x3]).length = non.length + 4 := by simp
        rw [← hul] at H6
        obtain ⟨hKl, hin1, hA1'⟩ := HIN.out
        have hm := mac_any ht H6 (A := A1) (c := 32) (k := K) (fun h => absurd h hA1') (by omega) (Sr.of_in hin1) (by omega) hA6 (Sr.row 0 rfl) (by omega)
        rw [hul, hKl] at hm
        obtain ⟨D, hD⟩ : ∃ D, D = Mac.mac K (non ++ [x0, x1, x2, x3]) := ⟨_, rfl⟩
        rw [← hD] at hm
        have hdl : (bv D).length = 32 := by rw [bv_length, hD, Mac.mac_len]
        have HD := Lib.hid hD
        have HM := Lib.hid hm
        clear hD hm H4 H5 hKl hin1 hA1' hul
        go_wp2_with fail
        refine HM.out.mono ?_
        rintro e w6 ⟨rfl, H7⟩
        have H8 := (H7.d0.d0).new (bv (List.replicate 32 0)) 40
        obtain ⟨w7, hst, H9⟩ := run_store_st (P := Tryd.prog) H8 (cs := bv D) (by rw [hdl, bv_length, List.length_replicate]) (bv_one _)
        rw [← obj32] at hst
        clear H6 H7 H8 HM H3
        have hDb : D = Seal.blk K non m := by rw [HD.out]; unfold Seal.blk; rw [HC.out.2.2.1]
        have HDB := Lib.hid hDb
        obtain ⟨Q, hQ⟩ : ∃ Q, Q = n - P := ⟨_, rfl⟩
        have hQ1 : (n : Int) - (P : Int) = (Q : Int) := by omega
        have HQ := Lib.hid hQ
        have hx : (32 ≤ Q) ∨ Q < 32 := by omega
        clear hQ hDb
        rcases hx with hx | hx
        · have hx2 : (32 : Int) ≤ (Q : Int) := by omega
          have HR := Lib.hid (show 32 ≤ Q from hx)
          clear hx
          go_wp2
          clear hst
          generalize w6.heap.size = g12 at *
          go_loopw [51] (fun i wr => ∃ (j : Nat), j ≤ 32 ∧ i = .int .i64 j ∧ St w0 wr M1 (eb g12 40 (bv D) :: er 5 1 (.slice A2 n c2) n (bv (Seal.upTo K non b (P + j))) :: L)) (fun i _ => 32 - (intOf i).toNat)
          case atStart => exact ⟨0, by omega, rfl, by rw [Nat.add_zero]; exact H9⟩
          case round =>
            obtain ⟨j, hj, rfl, H10⟩ := hrel
            clear H9
            obtain ⟨k1, k2, k3, k4⟩ := HC.out
            have kq := HQ.out
            have kr := HR.out
            by_cases hjl : j < 32
            · obtain ⟨N, hN⟩ : ∃ N, N = P + j := ⟨_, rfl⟩
              rw [← hN] at H10
              have hNn : N < b.length := by omega
              have htb := Seal.tb_at K non b D m j HDB.out (by omega) (by omega)
              obtain ⟨x, hxx⟩ : ∃ x, x = b[N]'hNn := ⟨_, rfl⟩
              have hjD : j < D.length := by rw [HDB.out, Seal.blk_len]; omega
              obtain ⟨y, hyy⟩ : ∃ y, y = D[j]'hjD := ⟨_, rfl⟩
              have hN32 : 32 * m + j = N := by omega
              simp only [hN32] at htb
              rw [← hxx, ← hyy] at htb
              have hse := Seal.upTo_set K non b N hNn
              have hge2 := Seal.upTo_get K non b N hNn
              rw [← hxx] at hge2
              obtain ⟨z, hzz⟩ : ∃ z, z = x ^^^ y := ⟨_, rfl⟩
              have exy := B8.xor_ x y
              rw [← hzz] at exy htb
              rw [htb] at hse
              obtain ⟨g2, rfl, hcell, hfr⟩ := H10.drew.f1.at_ N (by omega)
              rw [bv_get, hge2, Option.map_some] at hcell
              have hcd : ∀ W, St w0 W M1 (eb g12 40 (bv D) :: er 5 1 (.slice (some ⟨g2, 0, none⟩) n c2) n (bv (Seal.upTo K non b N)) :: L) → W.cell? ⟨g2, N, none⟩ = some (.int .u8 (x.toNat : Int)) ∧ W.cell? ⟨g12, j, none⟩ = some (.int .u8 (y.toNat : Int)) := fun W hW => by
                obtain ⟨g', he, hc', _⟩ := hW.f1.at_ N (by omega)
                injection he with he
                injection he with he
                subst he
                refine ⟨by rw [hc', bv_get, hge2]; rfl, ?_⟩
                rw [hW.cell 0 rfl j, bv_get, List.getElem?_eq_getElem hjD, hyy]
                rfl
              have e5 : (P : Int) + (j : Int) = (N : Int) := by omega
              have n0 : (0 : Int) ≤ (N : Int) := by omega
              have e6 : IntKind.i64.wrap (N : Int) = (N : Int) := by rw [IntKind.wrap_i64]; omega
              have n1 : (N : Int) < (n : Int) := by omega
              have n2 : (N : Int) < 20000 := by omega
              have j1 : (j : Int) < 32 := by omega
              have jR : (j : Int) < 32 := by omega
              have H11 := H10.drew.f1.store N (.int .u8 (z.toNat : Int))
              rw [bv_set, hse] at H11
              have HJ := Lib.hid (show N = P + j ∧ j < 32 from ⟨hN, hjl⟩)
              have HCD := Lib.hid hcd
              have hS0 := H10.drew
              clear k1 k2 k3 k4 kq kr hN hNn htb hxx hyy hzz hse hge2 hcd hjl hj hN32 hjD
              go_wp2
              refine Pt.wp_plan (fun w' => St w0 w' M1 (eb g12 40 (bv D) :: er 5 1 (.slice (some ⟨g2, 0, none⟩) n c2) n (bv (Seal.upTo K non b N)) :: L)) (Pt.prs [0, 1, 2, 3, 4, 6, 7] (Pt.rds [5, 8] (Pt.prs [9, 10] (.st 11 .fin)))) [11] Tryd.mixed (by kernel_rfl) (fun _ _ d _ _ h => by cases d <;> exact h) hS0 ?_
              simp only [Pt.toL, Pt.rds, Pt.prs, Pt.at_, List.drop_succ_cons, List.drop_zero]
              iterate 7 (refine Pt.pr_run (v := ?_) (by rfl) ?_ ?_; rotate_left; (focus (intro w'; go_simp; with_reducible rfl)); simp only [Act.put, List.setIfInBounds_toArray, List.set_cons_zero, List.set_cons_succ])
              iterate 2 (refine Pt.rd_run (v := ?_) (by rfl) ?_ ?_; rotate_left; (focus (intro w' hS; obtain ⟨s0, s1⟩ := HCD.out w' hS; go_simp; with_reducible rfl)); simp only [Act.put, List.setIfInBounds_toArray, List.set_cons_zero, List.set_cons_succ])
              iterate 2 (refine Pt.pr_run (v := ?_) (by rfl) ?_ ?_; rotate_left; (focus (intro w'; go_simp; with_reducible rfl)); simp only [Act.put, List.setIfInBounds_toArray, List.set_cons_zero, List.set_cons_succ])
              refine Pt.run_st ?_
              obtain ⟨s0, s1⟩ := HCD.out _ hS0
              go_wp2_with fail
              simp only [Pl.Then, Act.put]
              refine Pt.run_fin ?_
              clear s0 s1 hS0 H10
              go_wp2
              obtain ⟨q1, q2⟩ := HJ.out
              exact ⟨⟨j + 1, by omega, by go_num, by rw [← Nat.add_assoc, ← q1]; exact H11.f1⟩, by simp [intOf]; omega⟩
            · have hend : Seal.upTo K non b (P + j) = Seal.upTo K non b (P + 32) := by rw [show j = 32 from by omega]
              rw [hend] at H10
              have HP := Lib.hid (show P + 32 = 32 * (m + 1) ∧ P + 32 < n + 32 from ⟨by omega, by omega⟩)
              have hjR : ¬ (j : Int) < 32 := by omega
              have hP2 : (P : Int) < 20000 := by omega
              clear k1 k2 k3 k4 kq kr hjl hj hend
              go_wp2
              obtain ⟨q1, q2⟩ := HP.out
              exact ⟨⟨m + 1, P + 32, q1, q2, by go_num, H10.d0⟩, by simp [intOf]; omega⟩
        · have hx2 : (Q : Int) < 32 := by omega
          have HR := Lib.hid (show Q < 32 from hx)
          clear hx
          go_wp2
          clear hst
          generalize w6.heap.size = g12 at *
          go_loopw [51] (fun i wr => ∃ (j : Nat), j ≤ Q ∧ i = .int .i64 j ∧ St w0 wr M1 (eb g12 40 (bv D) :: er 5 1 (.slice A2 n c2) n (bv (Seal.upTo K non b (P + j))) :: L)) (fun i _ => Q - (intOf i).toNat)
          case atStart => exact ⟨0, by omega, rfl, by rw [Nat.add_zero]; exact H9⟩
          case round =>
            obtain ⟨j, hj, rfl, H10⟩ := hrel
            clear H9
            obtain ⟨k1, k2, k3, k4⟩ := HC.out
            have kq := HQ.out
            have kr := HR.out
            by_cases hjl : j < Q
            · obtain ⟨N, hN⟩ : ∃ N, N = P + j := ⟨_, rfl⟩
              rw [← hN] at H10
              have hNn : N < b.length := by omega
              have htb := Seal.tb_at K non b D m j HDB.out (by omega) (by omega)
              obtain ⟨x, hxx⟩ : ∃ x, x = b[N]'hNn := ⟨_, rfl⟩
              have hjD : j < D.length := by rw [HDB.out, Seal.blk_len]; omega
              obtain ⟨y, hyy⟩ : ∃ y, y = D[j]'hjD := ⟨_, rfl⟩
              have hN32 : 32 * m + j = N := by omega
              simp only [hN32] at htb
              rw [← hxx, ← hyy] at htb
              have hse := Seal.upTo_set K non b N hNn
              have hge2 := Seal.upTo_get K non b N hNn
              rw [← hxx] at hge2
              obtain ⟨z, hzz⟩ : ∃ z, z = x ^^^ y := ⟨_, rfl⟩
              have exy := B8.xor_ x y
              rw [← hzz] at exy htb
              rw [htb] at hse
              obtain ⟨g2, rfl, hcell, hfr⟩ := H10.drew.f1.at_ N (by omega)
              rw [bv_get, hge2, Option.map_some] at hcell
              have hcd : ∀ W, St w0 W M1 (eb g12 40 (bv D) :: er 5 1 (.slice (some ⟨g2, 0, none⟩) n c2) n (bv (Seal.upTo K non b N)) :: L) → W.cell? ⟨g2, N, none⟩ = some (.int .u8 (x.toNat : Int)) ∧ W.cell? ⟨g12, j, none⟩ = some (.int .u8 (y.toNat : Int)) := fun W hW => by
                obtain ⟨g', he, hc', _⟩ := hW.f1.at_ N (by omega)
                injection he with he
                injection he with he
                subst he
                refine ⟨by rw [hc', bv_get, hge2]; rfl, ?_⟩
                rw [hW.cell 0 rfl j, bv_get, List.getElem?_eq_getElem hjD, hyy]
                rfl
              have e5 : (P : Int) + (j : Int) = (N : Int) := by omega
              have n0 : (0 : Int) ≤ (N : Int) := by omega
              have e6 : IntKind.i64.wrap (N : Int) = (N : Int) := by rw [IntKind.wrap_i64]; omega
              have n1 : (N : Int) < (n : Int) := by omega
              have n2 : (N : Int) < 20000 := by omega
              have j1 : (j : Int) < 32 := by omega
              have jR : (j : Int) < (Q : Int) := by omega
              have H11 := H10.drew.f1.store N (.int .u8 (z.toNat : Int))
              rw [bv_set, hse] at H11
              have HJ := Lib.hid (show N = P + j ∧ j < Q from ⟨hN, hjl⟩)
              have HCD := Lib.hid hcd
              have hS0 := H10.drew
              clear k1 k2 k3 k4 kq kr hN hNn htb hxx hyy hzz hse hge2 hcd hjl hj hN32 hjD
              go_wp2
              refine Pt.wp_plan (fun w' => St w0 w' M1 (eb g12 40 (bv D) :: er 5 1 (.slice (some ⟨g2, 0, none⟩) n c2) n (bv (Seal.upTo K non b N)) :: L)) (Pt.prs [0, 1, 2, 3, 4, 6, 7] (Pt.rds [5, 8] (Pt.prs [9, 10] (.st 11 .fin)))) [11] Tryd.mixed (by kernel_rfl) (fun _ _ d _ _ h => by cases d <;> exact h) hS0 ?_
              simp only [Pt.toL, Pt.rds, Pt.prs, Pt.at_, List.drop_succ_cons, List.drop_zero]
              iterate 7 (refine Pt.pr_run (v := ?_) (by rfl) ?_ ?_; rotate_left; (focus (intro w'; go_simp; with_reducible rfl)); simp only [Act.put, List.setIfInBounds_toArray, List.set_cons_zero, List.set_cons_succ])
              iterate 2 (refine Pt.rd_run (v := ?_) (by rfl) ?_ ?_; rotate_left; (focus (intro w' hS; obtain ⟨s0, s1⟩ := HCD.out w' hS; go_simp; with_reducible rfl)); simp only [Act.put, List.setIfInBounds_toArray, List.set_cons_zero, List.set_cons_succ])
              iterate 2 (refine Pt.pr_run (v := ?_) (by rfl) ?_ ?_; rotate_left; (focus (intro w'; go_simp; with_reducible rfl)); simp only [Act.put, List.setIfInBounds_toArray, List.set_cons_zero, List.set_cons_succ])
              refine Pt.run_st ?_
              obtain ⟨s0, s1⟩ := HCD.out _ hS0
              go_wp2_with fail
              simp only [Pl.Then, Act.put]
              refine Pt.run_fin ?_
              clear s0 s1 hS0 H10
              go_wp2
              obtain ⟨q1, q2⟩ := HJ.out
              exact ⟨⟨j + 1, by omega, by go_num, by rw [← Nat.add_assoc, ← q1]; exact H11.f1⟩, by simp [intOf]; omega⟩
            · have hend : Seal.upTo K non b (P + j) = Seal.upTo K non b (P + 32) := by rw [Seal.upTo_end K non b _ (by omega), Seal.upTo_end K non b _ (by omega)]
              rw [hend] at H10
              have HP := Lib.hid (show P + 32 = 32 * (m + 1) ∧ P + 32 < n + 32 from ⟨by omega, by omega⟩)
              have hjR : ¬ (j : Int) < (Q : Int) := by omega
              have hP2 : (P : Int) < 20000 := by omega
              clear k1 k2 k3 k4 kq kr hjl hj hend
              go_wp2
              obtain ⟨q1, q2⟩ := HP.out
              exact ⟨⟨m + 1, P + 32, q1, q2, by go_num, H10.d0⟩, by simp [intOf]; omega⟩
      · have hge : ¬ (P : Int) < (n : Int) := by omega
        rw [Seal.upTo_end K non b P (by omega)] at H3
        have e1 : Seal.turn K non b = T := by rw [HT.out, HK.out]; rfl
        rw [e1] at H3
        clear hP hPn hlt hn0 e1
        go_wp2
        go_ret
        rw [HN.out] at H3
        exact ⟨_, by rw [← HN.out]; rfl, H3.weak H hM1⟩
end
end Go.Proofs.YtcdljlaoedaliaaDoor
/- The contract of the reference's turned. -/
set_option linter.unusedVariables false
set_option linter.unusedSimpArgs false
namespace Go.Proofs.YtcdljlaoedaliaaDoor
open Go.RowKit Wd
section
variable {w0 w : World} {M : Mem} {L : List Ent}
set_option maxRecDepth 100000 in
set_option maxHeartbeats 2000000 in
theorem turned_any (H : St w0 w M L) {A : Option Addr} {c : Nat} {k : List UInt8} (hA : A = none → c = 0) (hc : k.length ≤ c) (hk : Sr w0 M L A k) (hn : k.length < 1000000)
    {B : Option Addr} {d : Nat} {non : List UInt8} (hB : B = none → d = 0) (hbd : non.length ≤ d) (hnon : Sr w0 M L B non) (hnn : non.length < 1000000)
    {C : Option Addr} {f : Nat} {b : List UInt8} (hC : C = none → f = 0) (hbf : b.length ≤ f) (hb : Sr w0 M L C b) (hbn : b.length ≤ 10000) :
    Calls Tryd.prog 74 #[.slice A k.length c, .slice B non.length d, .slice C b.length f] w fun e w' => ∃ v, e = .returned v ∧ St w0 w' M (er 5 1 v b.length (bv (Seal.turned k non b)) :: L) := by
  obtain ⟨T, hT⟩ : ∃ T, T = Seal.turned k non b := ⟨_, rfl⟩
  rw [← hT]
  have HT := Lib.hid hT
  clear hT
  go_enter Tryd.func74, Tryd.ntmps74
  go_wp2_with fail
  refine (rderive_any H hA hc hk hn (lb := Seal.streamL) (by decide) 32 (by decide)).mono ?_
  rintro e w1 ⟨A1, c1, M1, rfl, hlc, hA1, hM1, hin1, H1⟩
  obtain ⟨K, hK⟩ : ∃ K, K = Mac.derive k Seal.streamL 32 := ⟨_, rfl⟩
  have hKl : K.length = 32 := by rw [hK, Mac.derive_len]
  rw [← hK] at hin1 hlc ⊢
  rw [hKl] at hlc ⊢
  have HK := Lib.hid hK
  have HIN := Lib.hid (And.intro hKl (And.intro hin1 hA1))
  clear hK hKl hin1 hA1
  have H2 := H1.lit0 5
  go_upto_region 3 with fail
  refine wp_region_lit ?_
  refine wpList_build_none (by rfl) 40 (by rfl) Tryd.builtO ?_
  simp only [Act.put, List.setIfInBounds_toArray, List.set_cons_zero, List.set_cons_succ]
  refine wpList_alloc_st H2 (by rfl) 40 (by rfl) Tryd.zero24 ?_
  intro g9 w3 H3
  rw [show (Value.agg (Array.replicate 32 (.int .u8 0))).cells.toList = bv (List.replicate 32 0) from rfl] at H3
  simp only [Act.put, List.setIfInBounds_toArray, List.set_cons_zero, List.set_cons_succ]
  refine wpList_store_st H3 (by rfl) 40 (.tmp 9) (.tmp 15) (by rfl) 0 (bv (List.replicate 32 0)) (by rfl) (by rfl) (by exact Nat.le_refl 32) (by exact Tryd.size24) (bv_one _) ?_
  intro w4 H4
  rw [ins_all _ _ rfl] at H4
  obtain ⟨Z, hZ⟩ : ∃ Z : List UInt8, Z = List.replicate 32 0 := ⟨_, rfl⟩
  rw [← hZ] at H4 ⊢
  have hZl : Z.length = 32 := by rw [hZ, List.length_replicate]
  refine wpList_nil ?_
  simp only [Act.put]
  obtain ⟨n, hn0⟩ : ∃ n, n = b.length := ⟨_, rfl⟩
  rw [← hn0] at hbn hbf ⊢
  have HN := Lib.hid hn0
  clear hZ hn0 H2 H3
  go_wp2
  go_loopw [8, 10] (fun v i wr => ∃ (p : Nat) (D : List UInt8), p ≤ n ∧ D.length = 32 ∧ (p % 32 ≠ 0 → D = Seal.blk K non (p / 32)) ∧ i = .int .i64 p ∧ St w0 wr M1 (er 5 1 v p (bv ((Seal.turn K non b).take p)) :: eb g9 40 (bv D) :: L)) (fun _ i _ => n - (intOf i).toNat)
  case atStart => exact ⟨0, Z, by omega, hZl, fun h => absurd rfl h, rfl, H4.f1⟩
  case round =>
    obtain ⟨p, D, hp, hDl, hDb, rfl, H5⟩ := hrel
    clear H4
    obtain ⟨A5, c5, rfl, hc5, hA5⟩ := H5.shape' 0 rfl
    have hn0 := HN.out
    by_cases hlt : p < n
    · have hltI : (p : Int) < (n : Int) := by omega
      obtain ⟨m, hm⟩ : ∃ m, m = p / 32 := ⟨_, rfl⟩
      obtain ⟨r, hr⟩ : ∃ r, r = p % 32 := ⟨_, rfl⟩
      rw [← hm] at hDb
      have p1 : (p : Int).tmod 32 = (r : Int) := by rw [Int.tmod_eq_emod_of_nonneg (by omega)]; omega
      have p2 : (p : Int) % 32 = (r : Int) := by omega
      have p3 : (p : Int).tdiv 32 = (m : Int) := by rw [Int.tdiv_eq_ediv_of_nonneg (by omega)]; omega
      have p4 : (p : Int) / 32 = (m : Int) := by omega
      have p5 : (p : Int) < 20000 := by omega
      have r0 : (0 : Int) ≤ (r : Int) := by omega
      have r1 : (r : Int) < 32 := by omega
      have HC := Lib.hid (show p < n ∧ m = p / 32 ∧ r = p % 32 ∧ n = b.length ∧ m ≤ 400 from ⟨hlt, hm, hr, hn0, by omega⟩)
      have HDbI := Lib.hid hDb
      clear hm hr hn0 hDb hlt hp
      go_upto_if 24 with fail
      go_cut [10] (fun v wx => v = .int .i64 p ∧ St w0 wx M1 (er 5 1 (.slice A5 p c5) p (bv ((Seal.turn K non b).take p)) :: eb g9 40 (bv (Seal.blk K non m)) :: L))
      case first =>
        by_cases hr0 : r = 0
        · obtain ⟨x0, x1, x2, x3, hctr, e0, e1, e2, e3⟩ := ctr_facts m (by omega)
          have f0 : (m : Int).tdiv 16777216 = (x0.toNat : Int) := by rw [Int.tdiv_eq_ediv_of_nonneg (by omega)]; exact e0
          have f1 : (m : Int).tdiv 65536 = (x1.toNat : Int) := by rw [Int.tdiv_eq_ediv_of_nonneg (by omega)]; exact e1
          have f2 : (m : Int).tdiv 256 = (x2.toNat : Int) := by rw [Int.tdiv_eq_ediv_of_nonneg (by omega)]; exact e2
          have y0 := x0.toNat_lt
          have y1 := x1.toNat_lt
          have y2 := x2.toNat_lt
          have m0 : (0 : Int) ≤ (m : Int) := by omega
          have m1 : (m : Int) ≤ 400 := by omega
          have hr0I : ((r : Int) == 0) = true := by simp; omega
          have HCT := Lib.hid hctr
          clear hr0 hctr
          have H6 := H5.lit0 5
          have rn := (((hnon.le hM1).cons _).cons _).cons _ |>.now H6
          go_wp2_with (at_builtin; refine wpList_append_st H6 (by rfl) (.tmp 28) (.tmp 29) 42 (by rfl) Tryd.info5 Tryd.underlying42 (by rfl) B non.length d non (by rfl) rfl hB rn (by omega) ?_)
          intro v6 w6 H7
          try simp only [Nat.zero_add, List.nil_append] at H7
          have H8 := H7.lit (bv [x0, x1, x2, x3]) 5 (by show 4 ≤ maxLen; decide)
          clear rn H6
          go_wp2_with (at_builtin; refine wpList_append_st H8.f1 (by rfl) (.tmp 30) (.tmp 42) 42 (by rfl) Tryd.info5 Tryd.underlying42 (by rfl) (some ⟨w6.heap.size, 0, none⟩) 4 4 [x0, x1, x2, x3] (by rfl) rfl (by rintro ⟨⟩) (er_RB (H8.get 0 rfl)) (by omega) ?_)
          intro v8 w8 H9
          rw [← bv_append] at H9
          obtain ⟨A6, c6, rfl, hc6, hA6⟩ := H9.shape' 0 rfl
          have hul : (non ++ [x0, x1, x2, x3]).length = non.length + 4 := by simp
          rw [← hul] at H9
          obtain ⟨hKl, hin1, hA1⟩ := HIN.out
          have hmc := rmac_any H9 (A := A1) (c := c1) (k := K) hA1 (Sr.of_in hin1) (by omega) (by omega) hA6 (Sr.row 0 rfl) (by omega)
          rw [hul, hKl] at hmc
          obtain ⟨E, hE⟩ : ∃ E, E = Mac.mac K (non ++ [x0, x1, x2, x3]) := ⟨_, rfl⟩
          rw [← hE] at hmc
          have hel : (bv E).length = 32 := by rw [bv_length, hE, Mac.mac_len]
          have HE := Lib.hid hE
          have HM := Lib.hid hmc
          clear hE hmc H7 H8 hKl hin1 hA1 hul
          go_wp2_with fail
          refine HM.out.mono ?_
          rintro e w9 ⟨rfl, H10⟩
          obtain ⟨w10, hst, H11⟩ := run_store_st (P := Tryd.prog) H10.d0.d0.f1 (cs := bv E) (by rw [hel, bv_length, hDl]) (bv_one _)
          clear H9 H10 HM
          go_wp2_with fail
          go_meet
          refine ⟨rfl, ?_⟩
          rw [show Seal.blk K non m = E from by rw [HE.out]; unfold Seal.blk; rw [HCT.out]]
          exact H11.f1
        · have hr0I : ((r : Int) == 0) = false := by simp; omega
          have hDb2 : D = Seal.blk K non m := HDbI.out (by have := HC.out.2.2.1; omega)
          rw [hDb2] at H5
          clear hr0 hDb2
          go_wp2_with fail
          go_meet
          exact ⟨rfl, H5⟩
      case rest =>
        obtain ⟨rfl, H6⟩ := hcut
        clear H5 HDbI hDl D
        obtain ⟨hlt, hm, hr, hn0, _⟩ := HC.out
        obtain ⟨D, hD⟩ : ∃ D, D = Seal.blk K non m := ⟨_, rfl⟩
        have hDl : D.length = 32 := by rw [hD, Seal.blk_len]
        rw [← hD] at H6
        obtain ⟨bc, oc, rfl, hcb⟩ := ((((hb.le hM1).cons _).cons _).now H6.drew).at p (by omega)
        have htb := Seal.tb_at K non b D m r hD (by omega) (by omega)
        have hN32 : 32 * m + r = p := by omega
        simp only [hN32] at htb
        have htk := Seal.turn_take K non b p (by omega)
        obtain ⟨x, hx⟩ : ∃ x, x = b[p]'(by omega) := ⟨_, rfl⟩
        obtain ⟨y, hy⟩ : ∃ y, y = D[r]'(by omega) := ⟨_, rfl⟩
        have hbp : b[p]? = some x := by rw [hx]; exact List.getElem?_eq_getElem (by omega)
        have hDr : D[r]? = some y := by rw [hy]; exact List.getElem?_eq_getElem (by omega)
        rw [← hx, ← hy] at htb
        obtain ⟨z, hz⟩ : ∃ z, z = x ^^^ y := ⟨_, rfl⟩
        have exy := B8.xor_ x y
        rw [← hz] at exy htb
        rw [htb] at htk
        have hsb := (hb.le hM1)
        have hcd : ∀ W E, St w0 W M1 (E :: eb g9 40 (bv D) :: L) → W.cell? ⟨bc, oc + p, none⟩ = some (.int .u8 (x.toNat : Int)) ∧ W.cell? ⟨g9, r, none⟩ = some (.int .u8 (y.toNat : Int)) := fun W E hW => by
          refine ⟨?_, by rw [hW.cell 1 rfl r, bv_get, hDr]; rfl⟩
          have h1 := ((hsb.cons _).cons _).now hW
          obtain ⟨b', o', he, hc'⟩ := h1.at p (by omega)
          injection he with he
          injection he with e1 e2
          subst e1 e2
          rw [hc', hx]
        have HCD := Lib.hid hcd
        have HTK := Lib.hid htk
        have hDlt : (p : Int) < (f : Int) := by omega
        have HDB := Lib.hid (And.intro hD hDl)
        have hS0 := H6.drew
        clear hcb htb hN32 htk hx hy hbp hDr hz hcd hD hDl hm hr hlt hn0 hsb
        go_wp2
        refine Pt.wp_plan (fun w' => w'.cell? ⟨bc, oc + p, none⟩ = some (.int .u8 (x.toNat : Int)) ∧ w'.cell? ⟨g9, r, none⟩ = some (.int .u8 (y.toNat : Int))) (Pt.prs [0, 1, 2, 3, 5, 6, 7] (Pt.rds [4, 8] (Pt.prs [9] (.go 10 (.go 11 (Pt.prs [12] .fin)))))) [] Tryd.mixed (by kernel_rfl) (fun _ _ d _ _ h => by cases d <;> exact h) (HCD.out _ _ hS0) ?_
        generalize wc.drew = wd at *
        simp only [Pt.toL, Pt.rds, Pt.prs, Pt.at_, List.drop_succ_cons, List.drop_zero]
        iterate 7 (refine Pt.pr_run (v := ?_) (by rfl) ?_ ?_; rotate_left; (focus (intro w'; go_simp; with_reducible rfl)); simp only [Act.put, List.setIfInBounds_toArray, List.set_cons_zero, List.set_cons_succ])
        iterate 2 (refine Pt.rd_run (v := ?_) (by rfl) ?_ ?_; rotate_left; (focus (intro w' hS; obtain ⟨s0, s1⟩ := hS; go_simp; with_reducible rfl)); simp only [Act.put, List.setIfInBounds_toArray, List.set_cons_zero, List.set_cons_succ])
        (refine Pt.pr_run (v := ?_) (by rfl) ?_ ?_; rotate_left; (focus (intro w'; go_simp; with_reducible rfl)); simp only [Act.put, List.setIfInBounds_toArray, List.set_cons_zero, List.set_cons_succ])
        have H7 := hS0.lit (bv [z]) 5 (by show 1 ≤ maxLen; decide)
        refine Pt.run_go ?_
        go_wp2_with fail
        refine Pt.same (HCD.out _ _ H7.d0) ?_
        refine Pt.run_go ?_
        refine wpList_append_st H7.f1 (by rfl) (.tmp 45) (.tmp 55) 42 (by rfl) Tryd.info5 Tryd.underlying42 (by rfl) (some ⟨wd.heap.size, 0, none⟩) 1 1 [z] (by rfl) rfl (by rintro ⟨⟩) (er_RB (H7.get 0 rfl)) (by omega) ?_
        intro v8 w8 H8
        have H8 := H8.d1
        rw [← bv_append, ← HTK.out] at H8
        refine wpList_nil ?_
        refine Pt.same (HCD.out _ _ H8) ?_
        simp only [Act.put, List.setIfInBounds_toArray, List.set_cons_zero, List.set_cons_succ]
        (refine Pt.pr_run (v := ?_) (by rfl) ?_ ?_; rotate_left; (focus (intro w'; go_simp; with_reducible rfl)); simp only [Act.put, List.setIfInBounds_toArray, List.set_cons_zero, List.set_cons_succ])
        refine Pt.run_fin ?_
        clear H7 hS0 H6
        go_wp2
        obtain ⟨k1, k2, k3, k4, k5⟩ := HC.out
        obtain ⟨d1, d2⟩ := HDB.out
        exact ⟨⟨p + 1, D, by omega, d2, fun h => by rw [d1, k2]; congr 1; omega, by go_num, H8⟩, by simp [intOf]; omega⟩
    · obtain rfl : p = n := by omega
      have hge : ¬ (p : Int) < (p : Int) := by omega
      rw [List.take_of_length_le (by rw [Seal.turn_len]; omega), show Seal.turn K non b = T from by rw [HT.out, HK.out]; rfl] at H5
      clear hp hlt hge hDb
      go_wp2
      go_ret
      rw [hn0] at H5
      exact ⟨_, by rw [← hn0]; rfl, H5.d1.weak H hM1⟩
end
end Go.Proofs.YtcdljlaoedaliaaDoor
/- The contracts of seal's tag and of the reference's. -/
set_option linter.unusedVariables false
set_option linter.unusedSimpArgs false
namespace Go.Proofs.YtcdljlaoedaliaaDoor
open Go.RowKit Wd
theorem len_facts (n : Nat) (hn : n ≤ 60000) : ∃ hi lo : UInt8, hi = UInt8.ofNat (n / 256) ∧ lo = UInt8.ofNat n ∧ (n : Int) / 256 = (hi.toNat : Int) ∧ (n : Int) % 256 = (lo.toNat : Int) ∧ (n : Int).tdiv 256 = (hi.toNat : Int) ∧ (n : Int).tmod 256 = (lo.toNat : Int) := by
  have h1 : (n : Int) / 256 = ((UInt8.ofNat (n / 256)).toNat : Int) := by rw [UInt8.toNat_ofNat']; omega
  have h2 : (n : Int) % 256 = ((UInt8.ofNat n).toNat : Int) := by rw [UInt8.toNat_ofNat']; omega
  exact ⟨_, _, rfl, rfl, h1, h2, by rw [Int.tdiv_eq_ediv_of_nonneg (by omega)]; exact h1, by rw [Int.tmod_eq_emod_of_nonneg (by omega)]; exact h2⟩
section
variable {w0 w : World} {M : Mem} {L : List Ent}
set_option maxRecDepth 100000 in
set_option maxHeartbeats 2000000 in
theorem tag_any (ht : Tabs w0) (H : St w0 w M L) {A : Option Addr} {c : Nat} {k : List UInt8} (hA : A = none → c = 0) (hc : k.length ≤ c) (hk : Sr w0 M L A k) (hn : k.length < 1000000) (lb : List UInt8) (hlb : lb.length ≤ 60000)
    {B : Option Addr} {d : Nat} {s : List UInt8} (hB : B = none → d = 0) (hs : Sr w0 M L B s) (hsn : s.length < 1000000) :
    Calls Tryd.prog 69 #[.slice A k.length c, .string ⟨lb.toArray⟩, .slice B s.length d] w fun e w' => e = .returned (.agg (bv (Seal.tag k lb s)).toArray) ∧ St w0 w' M L := by
  have hsz : (ByteArray.mk lb.toArray).size = lb.length := by show lb.toArray.size = _; simp
  obtain ⟨T, hT⟩ : ∃ T, T = Seal.tag k lb s := ⟨_, rfl⟩
  rw [← hT]
  have HT := Lib.hid hT
  clear hT
  obtain ⟨hi, lo, hhi, hlo, e1, e2, e3, e4⟩ := len_facts lb.length hlb
  have HHL := Lib.hid (And.intro hhi hlo)
  have y0 := hi.toNat_lt
  have y1 := lo.toNat_lt
  clear hhi hlo
  go_enter Tryd.func69, Tryd.ntmps69
  go_upto_region 1 with fail
  have H1 := H.new (bv (List.replicate 32 0)) 40
  rw [obj32]
  generalize hw1 : w.alloc (.cells (bv (List.replicate 32 0)).toArray 40) = w1 at *
  generalize hob : w.heap.size = ob at *
  obtain ⟨zs, hzs⟩ : ∃ zs, zs = bv (List.replicate 32 0) := ⟨_, rfl⟩
  rw [← hzs] at H1
  have hzl : zs.length = 32 := by rw [hzs, bv_length, List.length_replicate]
  have HZS := Lib.hid hzl
  clear hw1 hob hzs hzl
  go_wp2_with fail
  refine (derive_any ht H1 hA hc (hk.cons _) (by omega) (lb := Seal.tagL) (by decide) 32).mono ?_
  rintro e w2 hres
  rcases hres with ⟨hbad, _, _⟩ | ⟨_, _, A1, M1, rfl, hA1, hM1, hin1, H2⟩
  · omega
  · rw [show (32 : Int).toNat = 32 from rfl] at hin1 ⊢
    obtain ⟨K, hK⟩ : ∃ K, K = Mac.derive k Seal.tagL 32 := ⟨_, rfl⟩
    have hKl : K.length = 32 := by rw [hK, Mac.derive_len]
    rw [← hK] at hin1
    have hA1' : A1 ≠ none := fun h => by have := hA1 h; omega
    have HK := Lib.hid hK
    have HIN := Lib.hid (And.intro hKl (And.intro hin1 hA1'))
    clear hK hKl hin1 hA1 hA1' H1
    have H3 := H2.lit (bv [hi, lo]) 5 (by show 2 ≤ maxLen; decide)
    go_wp2_with (at_builtin; refine wpList_append_str_st H3 (by rfl) (.tmp 22) (.tmp 23) 42 9 (by rfl) Tryd.info5 Tryd.underlying42 Tryd.underlying9 (by rfl) lb (by rfl) (by show 2 + lb.length ≤ _; omega) ?_)
    intro v4 w4 H4
    rw [← bv_append, show (bv [hi, lo]).length = 2 from rfl] at H4
    obtain ⟨A4, c4, rfl, hc4, hA4⟩ := H4.shape' 0 rfl
    have rs := ((hs.le hM1).cons (eb ob 40 zs)).cons (er 5 1 (.slice A4 (2 + lb.length) c4) (2 + lb.length) (bv ([hi, lo] ++ lb))) |>.now H4
    clear H3 H2
    go_wp2_with (at_builtin; refine wpList_append_st H4 (by rfl) (.tmp 26) (.tmp 27) 42 (by rfl) Tryd.info5 Tryd.underlying42 (by rfl) B s.length d s (by rfl) rfl hB rs (by omega) ?_)
    intro v5 w5 H5
    rw [← bv_append] at H5
    obtain ⟨A5, c5, rfl, hc5, hA5⟩ := H5.shape' 0 rfl
    obtain ⟨U, hU⟩ : ∃ U, U = hi :: lo :: lb ++ s := ⟨_, rfl⟩
    have hUl : U.length = 2 + lb.length + s.length := by rw [hU]; simp; omega
    rw [← hU, ← hUl] at H5
    obtain ⟨hKl, hin1, hA1'⟩ := HIN.out
    have hm := mac_any ht H5 (A := A1) (c := 32) (k := K) (fun h => absurd h hA1') (by omega) (Sr.of_in hin1) (by omega) hA5 (Sr.row 0 rfl) (by omega)
    rw [hUl, hKl, show Mac.mac K U = T from by rw [HT.out, HK.out, hU]; unfold Seal.tag; rw [HHL.out.1, HHL.out.2]; first | done | rfl] at hm
    have hdl : (bv T).length = 32 := by rw [bv_length, HT.out, Seal.tag_len]
    have HM := Lib.hid hm
    clear hm rs H4 hKl hin1 hA1' hU hUl
    go_wp2_with fail
    refine HM.out.mono ?_
    rintro e w6 ⟨rfl, H6⟩
    obtain ⟨w7, hst, H7⟩ := run_store_st (P := Tryd.prog) H6.d0 (cs := bv T) (by rw [hdl, HZS.out]) (bv_one _)
    go_wp2
    refine ret_row H7 (by rfl) (by rfl) Tryd.underlying40 (by rfl) (by rw [hdl]; exact Tryd.size24) rfl ?_
    exact ⟨rfl, H7.d0.weak H hM1⟩
set_option maxRecDepth 100000 in
set_option maxHeartbeats 2000000 in
theorem rtag_any (H : St w0 w M L) {A : Option Addr} {c : Nat} {k : List UInt8} (hA : A = none → c = 0) (hc : k.length ≤ c) (hk : Sr w0 M L A k) (hn : k.length < 1000000) (lb : List UInt8) (hlb : lb.length ≤ 60000)
    {B : Option Addr} {d : Nat} {s : List UInt8} (hB : B = none → d = 0) (hs : Sr w0 M L B s) (hsn : s.length < 1000000) :
    Calls Tryd.prog 73 #[.slice A k.length c, .string ⟨lb.toArray⟩, .slice B s.length d] w fun e w' => ∃ v, e = .returned v ∧ St w0 w' M (er 5 1 v 32 (bv (Seal.tag k lb s)) :: L) := by
  have hsz : (ByteArray.mk lb.toArray).size = lb.length := by show lb.toArray.size = _; simp
  obtain ⟨T, hT⟩ : ∃ T, T = Seal.tag k lb s := ⟨_, rfl⟩
  rw [← hT]
  have HT := Lib.hid hT
  clear hT
  obtain ⟨hi, lo, hhi, hlo, e1, e2, e3, e4⟩ := len_facts lb.length hlb
  have HHL := Lib.hid (And.intro hhi hlo)
  have y0 := hi.toNat_lt
  have y1 := lo.toNat_lt
  clear hhi hlo
  have H3 := H.lit (bv [hi, lo]) 5 (by show 2 ≤ maxLen; decide)
  go_enter Tryd.func73, Tryd.ntmps73
  go_wp2_with (at_builtin; refine wpList_append_str_st H3 (by rfl) (.tmp 18) (.tmp 19) 42 9 (by rfl) Tryd.info5 Tryd.underlying42 Tryd.underlying9 (by rfl) lb (by rfl) (by show 2 + lb.length ≤ _; omega) ?_)
  intro v4 w4 H4
  rw [← bv_append, show (bv [hi, lo]).length = 2 from rfl] at H4
  obtain ⟨A4, c4, rfl, hc4, hA4⟩ := H4.shape' 0 rfl
  have rs := hs.cons (er 5 1 (.slice A4 (2 + lb.length) c4) (2 + lb.length) (bv ([hi, lo] ++ lb))) |>.now H4
  clear H3
  go_wp2_with (at_builtin; refine wpList_append_st H4 (by rfl) (.tmp 20) (.tmp 21) 42 (by rfl) Tryd.info5 Tryd.underlying42 (by rfl) B s.length d s (by rfl) rfl hB rs (by omega) ?_)
  intro v5 w5 H5
  rw [← bv_append] at H5
  obtain ⟨A5, c5, rfl, hc5, hA5⟩ := H5.shape' 0 rfl
  obtain ⟨U, hU⟩ : ∃ U, U = hi :: lo :: lb ++ s := ⟨_, rfl⟩
  have hUl : U.length = 2 + lb.length + s.length := by rw [hU]; simp; omega
  rw [← hU] at H5
  have HU := Lib.hid (And.intro hU hUl)
  clear rs H4 hU hUl
  go_wp2_with fail
  refine (rderive_any H5 hA hc (hk.cons _) hn (lb := Seal.tagL) (by decide) 32 (by decide)).mono ?_
  rintro e w1 ⟨A1, c1, M1, rfl, hlc, hA1, hM1, hin1, H6⟩
  obtain ⟨K, hK⟩ : ∃ K, K = Mac.derive k Seal.tagL 32 := ⟨_, rfl⟩
  have hKl : K.length = 32 := by rw [hK, Mac.derive_len]
  rw [← hK] at hin1 hlc ⊢
  rw [← HU.out.2] at H6
  have hm := rmac_any H6 (A := A1) (c := c1) (k := K) hA1 (Sr.of_in hin1) (by omega) (by omega) hA5 (Sr.row 0 rfl) (by have := HU.out.2; omega)
  rw [HU.out.2, show Mac.mac K U = T from by rw [HT.out, hK, HU.out.1]; unfold Seal.tag; rw [HHL.out.1, HHL.out.2]; first | done | rfl] at hm
  have htl : T.length = 32 := by rw [HT.out, Seal.tag_len]
  have hdl : (bv T).length = 32 := by rw [bv_length, htl]
  have HM := Lib.hid hm
  have HTL := Lib.hid htl
  clear hm htl hKl hin1 hK hlc
  go_wp2_with fail
  refine HM.out.mono ?_
  rintro e w6 ⟨rfl, H7⟩
  have H8 := (H7.d0.weak H hM1).new (bv (List.replicate 32 0)) 40
  obtain ⟨w7, hst, H9⟩ := run_store_st (P := Tryd.prog) H8 (cs := bv T) (by rw [hdl, bv_length, List.length_replicate]) (bv_one _)
  rw [← obj32] at hst
  have H10 := H9.lit0 5
  go_wp2_with (at_builtin; refine wpList_append_st H10 (by rfl) (.tmp 27) (.tmp 28) 42 (by rfl) Tryd.info5 Tryd.underlying42 (by rfl) (some ⟨w6.heap.size, 0, none⟩) 32 32 T (by rfl) HTL.out.symm (by rintro ⟨⟩) ((H10.blk 1 rfl).RB (by rw [List.drop_zero, List.take_of_length_le (by rw [bv_length]; exact Nat.le_refl _)])) (by omega) ?_)
  intro v8 w8 H11
  try simp only [Nat.zero_add, List.nil_append] at H11
  go_wp2
  go_ret
  exact ⟨_, rfl, H11.d1⟩
end
end Go.Proofs.YtcdljlaoedaliaaDoor
/- The contracts of seal.Seal and Size, and of the reference's Seal. -/
set_option linter.unusedVariables false
set_option linter.unusedSimpArgs false
namespace Go.Proofs.YtcdljlaoedaliaaDoor
open Go.RowKit Wd
theorem Wd.St.rowBytes {w0 w : World} {M : Mem} {L : List Ent} {e : TypeId} {n : Nat} {v : Value} {l : List UInt8} (h : St w0 w M (er e 1 v n (bv l) :: L)) : ∃ A c M', v = .slice A l.length c ∧ l.length ≤ c ∧ (A = none → c = 0) ∧ M.le M' ∧ In M' (RB · A l) ∧ St w0 w M' L := by
  have hl := h.len 0 rfl
  rw [bv_length, Nat.mul_one] at hl
  subst hl
  obtain ⟨A, c, rfl, h1, h2⟩ := h.shape' 0 rfl
  obtain ⟨M', h3, h4, h5⟩ := h.keepRow
  exact ⟨A, c, M', rfl, h1, h2, h3, h5, h4⟩
section
variable {w0 w : World} {M : Mem} {L : List Ent}
set_option maxRecDepth 100000 in
set_option maxHeartbeats 2000000 in
theorem seal_any (ht : Tabs w0) (H : St w0 w M L) {A : Option Addr} {c : Nat} {k : List UInt8} (hA : A = none → c = 0) (hc : k.length ≤ c) (hk : Sr w0 M L A k) (hn : k.length < 1000000)
    (non lb : List UInt8) (hnl : non.length = 16) (hlb : lb.length ≤ 60000)
    {C : Option Addr} {f : Nat} {b : List UInt8} (hC : C = none → f = 0) (hbf : b.length ≤ f) (hb : Sr w0 M L C b) (hbn : b.length ≤ 10000) :
    Calls Tryd.prog 53 #[.slice A k.length c, .agg (bv non).toArray, .string ⟨lb.toArray⟩, .slice C b.length f] w (RetBytes w0 M L (Seal.sealR k non lb b).1 fun v => .returned (.tuple #[v, .int .i64 (Seal.sealR k non lb b).2])) := by
  have hsz : (ByteArray.mk lb.toArray).size = lb.length := by show lb.toArray.size = _; simp
  have hbl : (bv non).length = 16 := by rw [bv_length, hnl]
  have H1 := H.new (bv non) 24
  by_cases hbad : 256 < lb.length ∨ 4096 < b.length
  · have hR : Seal.sealR k non lb b = ([], 3) := if_pos hbad
    rw [hR]
    have hx : (256 : Int) < (lb.length : Int) ∨ (¬ (256 : Int) < (lb.length : Int) ∧ (4096 : Int) < (b.length : Int)) := by omega
    clear hbad hR
    rcases hx with hx | ⟨hx, hx2⟩
    all_goals
      go_enter Tryd.func53, Tryd.ntmps53
      go_wp2
      go_ret2
      exact ⟨none, 0, M, rfl, Nat.le_refl _, fun _ => rfl, Mem.le.refl _, fun _ _ h => absurd rfl h, H1.d0⟩
  · have hR : Seal.sealR k non lb b = (Seal.sealed k non lb b, 0) := if_neg hbad
    rw [hR]
    have q1 : ¬ (256 : Int) < (lb.length : Int) := by omega
    have q2 : ¬ (4096 : Int) < (b.length : Int) := by omega
    obtain ⟨Y, hY⟩ : ∃ Y, Y = Seal.body k non b := ⟨_, rfl⟩
    obtain ⟨T, hT⟩ : ∃ T, T = Seal.tag k lb Y := ⟨_, rfl⟩
    have hS : Seal.sealed k non lb b = Y ++ T := by rw [hT, hY]; rfl
    have hYl : Y.length = 16 + b.length := by rw [hY]; unfold Seal.body; rw [List.length_append, Seal.turned_len, hnl]
    have hTl : T.length = 32 := by rw [hT, Seal.tag_len]
    have hTl2 : (bv T).length = 32 := by rw [bv_length, hTl]
    rw [hS]
    have HY := Lib.hid hY
    have HT := Lib.hid hT
    have HYL := Lib.hid hYl
    have HTL := Lib.hid hTl
    have HNL := Lib.hid hnl
    have hns : Sr w0 M (eb w.heap.size 24 (bv non) :: L) (some ⟨w.heap.size, 0, none⟩) non := Sr.blk 0 rfl (by rw [List.drop_zero, List.take_of_length_le (by rw [bv_length]; exact Nat.le_refl _)])
    have hst := fun (W : World) (HW : St w0 W M (eb w.heap.size 24 (bv non) :: L)) => stream_any ht HW hA hc (hk.cons _) hn (B := some ⟨w.heap.size, 0, none⟩) (d := 16) (non := non) (by rintro ⟨⟩) (by rw [hnl]; exact Nat.le_refl _) hns (by rw [hnl]; decide) hC hbf (hb.cons _) hbn
    rw [hnl] at hst
    have HST := Lib.hid hst
    clear hbad hR hY hT hS hYl hTl hnl hst
    go_enter Tryd.func53, Tryd.ntmps53
    go_upto_region 3 with fail
    generalize hw1 : w.alloc (.cells (bv non).toArray 24) = w1 at *
    generalize hg : w.heap.size = g at *
    clear hw1 hg
    refine Pt.wp_plan (fun w' => True) (Pt.prs [0, 1, 2, 3] (.go 4 (.go 5 (Pt.prs [6] .fin)))) [] Tryd.mixed (by kernel_rfl) (fun _ _ d _ _ h => by cases d <;> exact h) trivial ?_
    simp only [Pt.toL, Pt.rds, Pt.prs, Pt.at_, List.drop_succ_cons, List.drop_zero]
    iterate 4 (refine Pt.pr_run (v := ?_) (by rfl) ?_ ?_; rotate_left; (focus (intro w'; go_simp; with_reducible rfl)); simp only [Act.put, List.setIfInBounds_toArray, List.set_cons_zero, List.set_cons_succ])
    have H2 := H1.drew
    generalize w1.drew = w2 at *
    refine Pt.run_go ?_
    go_wp2_with fail
    refine (HST.out _ H2).mono ?_
    rintro e w3 ⟨v3, rfl, H3⟩
    go_wp2_with fail
    refine Pt.same trivial ?_
    refine Pt.run_go ?_
    obtain ⟨A3, c3, rfl, hc3, hA3⟩ := H3.shape' 0 rfl
    by_cases hb0 : b = []
    · subst hb0
      refine wpList_append_zero (by rfl) (.tmp 20) (.tmp 24) 42 (by rfl) Tryd.info5 Tryd.underlying42 (some ⟨g, 0, none⟩) 16 16 (by rfl) (Nat.le_refl _) A3 c3 (by rfl) ?_
      refine wpList_nil ?_
      refine Pt.same trivial ?_
      simp only [Act.put, List.setIfInBounds_toArray, List.set_cons_zero, List.set_cons_succ]
      (refine Pt.pr_run (v := ?_) (by rfl) ?_ ?_; rotate_left; (focus (intro w'; go_simp; with_reducible rfl)); simp only [Act.put, List.setIfInBounds_toArray, List.set_cons_zero, List.set_cons_succ])
      refine Pt.run_fin ?_
      have hYn : Y = non := by rw [HY.out]; unfold Seal.body; rw [List.eq_nil_of_length_eq_zero (Seal.turned_len k non []), List.append_nil]
      have h2 := tag_any ht H3.d0 hA hc (hk.cons _) hn lb hlb (B := some ⟨g, 0, none⟩) (d := 16) (s := Y) (by rintro ⟨⟩) (by rw [hYn]; exact hns) (by rw [HYL.out]; decide)
      rw [show Y.length = 16 from HYL.out, ← HT.out] at h2
      have HTG := Lib.hid h2
      have HYN := Lib.hid hYn
      clear h2 hYn HST
      go_wp2_with fail
      refine HTG.out.mono ?_
      rintro e w4 ⟨rfl, H4⟩
      have H5 := H4.new (bv (List.replicate 32 0)) 40
      obtain ⟨w5, hst, H6⟩ := run_store_st (P := Tryd.prog) H5 (cs := bv T) (by rw [hTl2, bv_length, List.length_replicate]) (bv_one _)
      rw [← obj32] at hst
      clear H5 H4 H3 HTG
      go_wp2_with (at_builtin; refine wpList_append_full_st H6 (by rfl) (.tmp 30) (.tmp 31) 42 (by rfl) Tryd.info5 Tryd.underlying42 (some ⟨g, 0, none⟩) 16 16 Y (by rfl) HYL.out.symm (by rintro ⟨⟩) (by rw [HYN.out]; exact (H6.blk 1 rfl).RB (by rw [List.drop_zero, List.take_of_length_le (by rw [bv_length]; exact Nat.le_refl _)])) ⟨w4.heap.size, 0, none⟩ 32 32 T (by rfl) HTL.out.symm ((H6.blk 0 rfl).RB (by rw [List.drop_zero, List.take_of_length_le (by rw [bv_length]; exact Nat.le_refl _)])) (by omega) (by omega) (by omega) ?_)
      intro v7 w7 H7
      obtain ⟨A7, c7, M7, rfl, h1, h2, h3, h4, h5⟩ := H7.rowBytes
      go_wp2
      go_ret2
      exact ⟨A7, c7, M7, rfl, h1, h2, h3, h4, h5.d0.d0⟩
    · have hb1 : 0 < b.length := by rcases b with _ | ⟨x, b⟩; exact absurd rfl hb0; simp
      have hA3n : A3 ≠ none := fun h => by have := hA3 h; omega
      obtain ⟨ad, rfl⟩ := Option.ne_none_iff_exists'.1 hA3n
      refine wpList_append_full_st H3 (by rfl) (.tmp 20) (.tmp 24) 42 (by rfl) Tryd.info5 Tryd.underlying42 (some ⟨g, 0, none⟩) 16 16 non (by rfl) HNL.out.symm (by rintro ⟨⟩) ((H3.blk 1 rfl).RB (by rw [List.drop_zero, List.take_of_length_le (by rw [bv_length]; exact Nat.le_refl _)])) ad b.length c3 (Seal.turned k non b) (by rfl) (Seal.turned_len k non b).symm (er_RB (by have h := H3.get 0 rfl; rw [← Seal.turned_len k non b] at h; exact h)) (by omega) (by omega) (by omega) ?_
      intro v4 w4 H4
      refine wpList_nil ?_
      refine Pt.same trivial ?_
      simp only [Act.put, List.setIfInBounds_toArray, List.set_cons_zero, List.set_cons_succ]
      (refine Pt.pr_run (v := ?_) (by rfl) ?_ ?_; rotate_left; (focus (intro w'; go_simp; with_reducible rfl)); simp only [Act.put, List.setIfInBounds_toArray, List.set_cons_zero, List.set_cons_succ])
      refine Pt.run_fin ?_
      rw [show non ++ Seal.turned k non b = Y from HY.out.symm] at H4
      obtain ⟨A4, c4, rfl, hc4, hA4⟩ := H4.shape' 0 rfl
      rw [← HYL.out] at H4
      have h2 := tag_any ht H4 hA hc (((hk.cons _).cons _).cons _) hn lb hlb (B := A4) (d := c4) (s := Y) hA4 (Sr.row 0 rfl) (by rw [HYL.out]; omega)
      rw [HYL.out, ← HT.out] at h2
      have HTG := Lib.hid h2
      clear h2 HST H3 hA3n hA3 hb0
      go_wp2_with fail
      refine HTG.out.mono ?_
      rintro e w5 ⟨rfl, H5⟩
      have H6 := H5.new (bv (List.replicate 32 0)) 40
      obtain ⟨w6, hst, H7⟩ := run_store_st (P := Tryd.prog) H6 (cs := bv T) (by rw [hTl2, bv_length, List.length_replicate]) (bv_one _)
      rw [← obj32] at hst
      clear H5 H6 H4 HTG
      go_wp2_with (at_builtin; refine wpList_append_st H7.f1 (by rfl) (.tmp 30) (.tmp 31) 42 (by rfl) Tryd.info5 Tryd.underlying42 (by rfl) (some ⟨w5.heap.size, 0, none⟩) 32 32 T (by rfl) HTL.out.symm (by rintro ⟨⟩) ((H7.blk 0 rfl).RB (by rw [List.drop_zero, List.take_of_length_le (by rw [bv_length]; exact Nat.le_refl _)])) (by omega) ?_)
      intro v8 w8 H8
      rw [← bv_append] at H8
      obtain ⟨A8, c8, M8, rfl, h1, h2, h3, h4, h5⟩ := H8.rowBytes
      go_wp2
      go_ret2
      exact ⟨A8, c8, M8, rfl, h1, h2, h3, h4, h5.d0.d0.d0⟩
end
end Go.Proofs.YtcdljlaoedaliaaDoor
/- The contract of the reference's Seal. -/
set_option linter.unusedVariables false
set_option linter.unusedSimpArgs false
namespace Go.Proofs.YtcdljlaoedaliaaDoor
open Go.RowKit Wd
section
variable {w0 w : World} {M : Mem} {L : List Ent}
set_option maxRecDepth 100000 in
set_option maxHeartbeats 2000000 in
theorem rseal_any (H : St w0 w M L) {A : Option Addr} {c : Nat} {k : List UInt8} (hA : A = none → c = 0) (hc : k.length ≤ c) (hk : Sr w0 M L A k) (hn : k.length < 1000000)
    (non lb : List UInt8) (hnl : non.length = 16) (hlb : lb.length ≤ 60000)
    {C : Option Addr} {f : Nat} {b : List UInt8} (hC : C = none → f = 0) (hbf : b.length ≤ f) (hb : Sr w0 M L C b) (hbn : b.length ≤ 10000) :
    Calls Tryd.prog 55 #[.slice A k.length c, .agg (bv non).toArray, .string ⟨lb.toArray⟩, .slice C b.length f] w (RetBytes w0 M L (Seal.sealR k non lb b).1 fun v => .returned (.tuple #[v, .int .i64 (Seal.sealR k non lb b).2])) := by
  have hsz : (ByteArray.mk lb.toArray).size = lb.length := by show lb.toArray.size = _; simp
  have hbl : (bv non).length = 16 := by rw [bv_length, hnl]
  have H1 := H.new (bv non) 24
  by_cases hbad : 256 < lb.length ∨ 4096 < b.length
  · have hR : Seal.sealR k non lb b = ([], 3) := if_pos hbad
    rw [hR]
    have hx : (256 : Int) < (lb.length : Int) ∨ (¬ (256 : Int) < (lb.length : Int) ∧ (4096 : Int) < (b.length : Int)) := by omega
    clear hbad hR
    rcases hx with hx | ⟨hx, hx2⟩
    all_goals
      go_enter Tryd.func55, Tryd.ntmps55
      go_wp2
      go_ret2
      exact ⟨none, 0, M, rfl, Nat.le_refl _, fun _ => rfl, Mem.le.refl _, fun _ _ h => absurd rfl h, H1.d0⟩
  · have hR : Seal.sealR k non lb b = (Seal.sealed k non lb b, 0) := if_neg hbad
    rw [hR]
    have q1 : ¬ (256 : Int) < (lb.length : Int) := by omega
    have q2 : ¬ (4096 : Int) < (b.length : Int) := by omega
    obtain ⟨Y, hY⟩ : ∃ Y, Y = Seal.body k non b := ⟨_, rfl⟩
    obtain ⟨T, hT⟩ : ∃ T, T = Seal.tag k lb Y := ⟨_, rfl⟩
    have hS : Seal.sealed k non lb b = Y ++ T := by rw [hT, hY]; rfl
    have hYl : Y.length = 16 + b.length := by rw [hY]; unfold Seal.body; rw [List.length_append, Seal.turned_len, hnl]
    have hTl : T.length = 32 := by rw [hT, Seal.tag_len]
    rw [hS]
    have HY := Lib.hid hY
    have HT := Lib.hid hT
    have HYL := Lib.hid hYl
    have HTL := Lib.hid hTl
    have HNL := Lib.hid hnl
    have H2 := H1.lit0 5
    rw [show (w.alloc (.cells (bv non).toArray 24)).heap.size = w.heap.size + 1 from by simp] at H2
    have b2 : b.length ≤ 4096 := by omega
    clear hbad hR hY hT hS hYl hTl hnl
    go_enter Tryd.func55, Tryd.ntmps55
    go_wp2_with (at_builtin; refine wpList_append_st H2 (by rfl) (.tmp 20) (.tmp 21) 42 (by rfl) Tryd.info5 Tryd.underlying42 (by rfl) (some ⟨w.heap.size, 0, none⟩) 16 16 non (by rfl) HNL.out.symm (by rintro ⟨⟩) ((H2.blk 1 rfl).RB (by rw [List.drop_zero, List.take_of_length_le (by rw [bv_length]; exact Nat.le_refl _)])) (by omega) ?_)
    intro v1 w1 H3
    try simp only [Nat.zero_add, List.nil_append] at H3
    obtain ⟨A3, c3, rfl, hc3, hA3⟩ := H3.shape' 0 rfl
    have H4 := H3.lit0 5
    clear H2 H1
    go_wp2_with (at_builtin; refine wpList_append_st H4 (by rfl) (.tmp 23) (.tmp 24) 42 (by rfl) Tryd.info5 Tryd.underlying42 (by rfl) A3 16 c3 non (by rfl) HNL.out.symm hA3 (er_RB (H4.get 1 rfl)) (by omega) ?_)
    intro v2 w2 H5
    try simp only [Nat.zero_add, List.nil_append] at H5
    have hsn : Sr w0 M (er 5 1 v2 16 (bv non) :: er 5 1 (.slice A3 16 c3) 16 (bv non) :: eb w.heap.size 24 (bv non) :: L) A3 non := by
      have h := Sr.row (w0 := w0) (M := M) (F := er 5 1 v2 16 (bv non) :: er 5 1 (.slice A3 16 c3) 16 (bv non) :: eb w.heap.size 24 (bv non) :: L) (A := A3) (c := c3) (l := non) (n := 16) (e := 5) 1 rfl
      exact h
    have htu := turned_any H5 hA hc (((hk.cons _).cons _).cons _) hn (B := A3) (d := c3) (non := non) hA3 (by rw [HNL.out]; exact hc3) hsn (by rw [HNL.out]; decide) hC hbf (((hb.cons _).cons _).cons _) hbn
    rw [HNL.out] at htu
    have HTU := Lib.hid htu
    clear htu H4 H3 hsn
    go_wp2_with fail
    refine HTU.out.mono ?_
    rintro e w3 ⟨v3, rfl, H6⟩
    obtain ⟨A6, c6, rfl, hc6, hA6⟩ := H6.shape' 0 rfl
    have ht6 : RB w3 A6 (Seal.turned k non b) := er_RB (by have h := H6.get 0 rfl; rw [← Seal.turned_len k non b] at h; exact h)
    clear HTU H5
    go_wp2_with (at_builtin; refine wpList_append_st H6.f1 (by rfl) (.tmp 25) (.tmp 29) 42 (by rfl) Tryd.info5 Tryd.underlying42 (by rfl) A6 b.length c6 (Seal.turned k non b) (by rfl) (Seal.turned_len k non b).symm hA6 ht6 (by omega) ?_)
    intro v4 w4 H7
    rw [← bv_append, show non ++ Seal.turned k non b = Y from HY.out.symm, ← HYL.out] at H7
    obtain ⟨A7, c7, rfl, hc7, hA7⟩ := H7.shape' 0 rfl
    have H8 := H7.lit0 5
    have r8 := er_RB (H8.get 1 rfl)
    clear H6 ht6
    go_wp2_with (at_builtin; refine wpList_append_st H8 (by rfl) (.tmp 31) (.tmp 32) 42 (by rfl) Tryd.info5 Tryd.underlying42 (by rfl) A7 Y.length c7 Y (by rfl) rfl hA7 r8 (by have := HYL.out; omega) ?_)
    intro v5 w5 H9
    try simp only [Nat.zero_add, List.nil_append] at H9
    have hrt := rtag_any H9 hA hc (((((hk.cons _).cons _).cons _).cons _).cons _) hn lb hlb (B := A7) (d := c7) (s := Y) hA7 (Sr.row 1 rfl) (by rw [HYL.out]; omega)
    rw [← HT.out] at hrt
    have HRT := Lib.hid hrt
    clear hrt H8 H7 r8
    go_wp2_with fail
    refine HRT.out.mono ?_
    rintro e w6 ⟨v6, rfl, H10⟩
    obtain ⟨A10, c10, rfl, hc10, hA10⟩ := H10.shape' 0 rfl
    have ht10 : RB w6 A10 T := er_RB (by have h := H10.get 0 rfl; rw [← HTL.out] at h; exact h)
    clear HRT H9
    go_wp2_with (at_builtin; refine wpList_append_st H10.f1 (by rfl) (.tmp 33) (.tmp 37) 42 (by rfl) Tryd.info5 Tryd.underlying42 (by rfl) A10 32 c10 T (by rfl) HTL.out.symm hA10 ht10 (by have := HYL.out; omega) ?_)
    intro v8 w8 H11
    rw [← bv_append] at H11
    obtain ⟨A8, c8, M8, rfl, h1, h2, h3, h4, h5⟩ := H11.rowBytes
    go_wp2
    go_ret2
    exact ⟨A8, c8, M8, rfl, h1, h2, h3, h4, h5.d0.d0.d0.d0.d0⟩
end
end Go.Proofs.YtcdljlaoedaliaaDoor
/- The contract of seal.Open. -/
set_option linter.unusedVariables false
set_option linter.unusedSimpArgs false
namespace Go.Proofs.YtcdljlaoedaliaaDoor
open Go.RowKit Wd
theorem Wd.Sr.sub {w0 : World} {M : Mem} {F : List Ent} {b o : Nat} {l : List UInt8} (h : Sr w0 M F (some ⟨b, o, none⟩) l) (k m : Nat) : Sr w0 M F (some ⟨b, o + k, none⟩) ((l.drop k).take m) := fun w' M' hM hS => (h w' M' hM hS).sub
theorem Wd.Sr.drop {w0 : World} {M : Mem} {F : List Ent} {b o : Nat} {l : List UInt8} (h : Sr w0 M F (some ⟨b, o, none⟩) l) (k : Nat) : Sr w0 M F (some ⟨b, o + k, none⟩) (l.drop k) := by
  have h1 := h.sub k (l.length - k)
  rwa [List.take_of_length_le (by rw [List.length_drop]; exact Nat.le_refl _)] at h1
section
variable {w0 w : World} {M : Mem} {L : List Ent}
set_option maxRecDepth 100000 in
set_option maxHeartbeats 2000000 in
theorem open_any (ht : Tabs w0) (H : St w0 w M L) {A : Option Addr} {c : Nat} {k : List UInt8} (hA : A = none → c = 0) (hc : k.length ≤ c) (hk : Sr w0 M L A k) (hn : k.length < 1000000)
    (lb : List UInt8) (hlb : lb.length ≤ 60000)
    {C : Option Addr} {f : Nat} {s : List UInt8} (hC : C = none → f = 0) (hsf : s.length ≤ f) (hs : Sr w0 M L C s) (hsn : s.length ≤ 10000) :
    Calls Tryd.prog 48 #[.slice A k.length c, .string ⟨lb.toArray⟩, .slice C s.length f] w (RetBytes w0 M L (Seal.openR k lb s).1 fun v => .returned (.tuple #[v, .int .i64 (Seal.openR k lb s).2])) := by
  have hsz : (ByteArray.mk lb.toArray).size = lb.length := by show lb.toArray.size = _; simp
  have nil_ : ∀ w', St w0 w' M L → ∀ E : Int, RetBytes w0 M L ([] : List UInt8) (fun v => .returned (.tuple #[v, .int .i64 E])) (.returned (.tuple #[.slice none 0 0, .int .i64 E])) w' := fun w' H' E => ⟨none, 0, M, rfl, Nat.le_refl _, fun _ => rfl, Mem.le.refl _, fun _ _ h => absurd rfl h, H'⟩
  have NIL := Lib.hid nil_
  clear nil_
  by_cases hbad : 256 < lb.length ∨ 4144 < s.length
  · rw [show Seal.openR k lb s = ([], 3) from if_pos hbad]
    have hx : (256 : Int) < (lb.length : Int) ∨ (¬ (256 : Int) < (lb.length : Int) ∧ (4144 : Int) < (s.length : Int)) := by omega
    clear hbad
    rcases hx with hx | ⟨hx, hx2⟩
    all_goals
      go_enter Tryd.func48, Tryd.ntmps48
      go_wp2
      go_ret2
      exact NIL.out _ H _
  · have q1 : ¬ (256 : Int) < (lb.length : Int) := by omega
    have q2 : ¬ (4144 : Int) < (s.length : Int) := by omega
    by_cases h48 : s.length < 48
    · rw [show Seal.openR k lb s = ([], 5) from by unfold Seal.openR; rw [if_neg hbad, if_pos h48]]
      have q3 : (s.length : Int) < 48 := by omega
      clear hbad h48
      go_enter Tryd.func48, Tryd.ntmps48
      go_wp2
      go_ret2
      exact NIL.out _ H _
    · have hR : Seal.openR k lb s = if Seal.tag k lb (s.take (s.length - 32)) = s.drop (s.length - 32) then (Seal.turned k (s.take 16) ((s.drop 16).take (s.length - 48)), 0) else ([], 11) := by
        conv => lhs; unfold Seal.openR
        rw [if_neg hbad, if_neg h48]
      rw [hR]
      obtain ⟨bc, oc, rfl⟩ : ∃ b o, C = some ⟨b, o, none⟩ := by
        obtain ⟨b, o, h, _⟩ := hs.now H (by rintro rfl; simp at h48)
        exact ⟨b, o, h⟩
      have q3 : ¬ (s.length : Int) < 48 := by omega
      obtain ⟨N, hN⟩ : ∃ N, N = s.length - 32 := ⟨_, rfl⟩
      obtain ⟨B, hB⟩ : ∃ B, B = s.length - 48 := ⟨_, rfl⟩
      obtain ⟨T, hT⟩ : ∃ T, T = Seal.tag k lb (s.take N) := ⟨_, rfl⟩
      have hTl : T.length = 32 := by rw [hT, Seal.tag_len]
      have hTl2 : (bv T).length = 32 := by rw [bv_length, hTl]
      have e1 : (s.length : Int) - 32 = (N : Int) := by omega
      have e2 : (N : Int) - 16 = (B : Int) := by omega
      have z1 : N - 16 = B := by omega
      have z2 : s.length - N = 32 := by omega
      have n1 : (N : Int) ≤ (f : Int) := by omega
      have n2 : (16 : Int) ≤ (N : Int) := by omega
      have n3 : (N : Int) ≤ (s.length : Int) := by omega
      have n4 : (16 : Int) ≤ (f : Int) := by omega
      have n5 : (s.length : Int) - (N : Int) = 32 := by omega
      have hsl : (s.take N).length = N := by rw [List.length_take]; omega
      have hsd : (s.drop N).length = 32 := by rw [List.length_drop]; omega
      have hsb : ((s.drop 16).take B).length = B := by rw [List.length_take, List.length_drop]; omega
      have hs16 : (s.take 16).length = 16 := by rw [List.length_take]; omega
      have htg := tag_any ht H hA hc hk hn lb hlb (B := some ⟨bc, oc, none⟩) (d := f) (s := s.take N) (by rintro ⟨⟩) (hs.take N) (by rw [hsl]; omega)
      rw [hsl, ← hT] at htg
      have hsm := fun (W : World) (r1 : RB W (some ⟨w.heap.size, 0, none⟩) T) => True
      rw [← hN, ← hB, ← hT]
      have HTG := Lib.hid htg
      have HTL := Lib.hid hTl
      have HSD := Lib.hid hsd
      have HSB := Lib.hid hsb
      have HS16 := Lib.hid hs16
      have HNB := Lib.hid (And.intro hN hB)
      clear hsm htg hTl hsd hsb hs16 hsl hR hbad h48 hT hN hB
      by_cases heq : T = s.drop N
      · rw [if_pos heq]
        have HEQ := Lib.hid heq
        clear heq
        go_enter Tryd.func48, Tryd.ntmps48
        go_wp2_with fail
        refine HTG.out.mono ?_
        rintro e w2 ⟨rfl, H2⟩
        have H3 := H2.new (bv (List.replicate 32 0)) 40
        obtain ⟨w3, hst, H4⟩ := run_store_st (P := Tryd.prog) H3 (cs := bv T) (by rw [hTl2, bv_length, List.length_replicate]) (bv_one _)
        rw [← obj32] at hst
        clear H2 H3 HTG
        go_upto_region 7 with fail
        clear hst
        generalize w2.heap.size = g9 at *
        refine Pt.wp_plan (fun w' => True) (Pt.prs [0, 1, 2, 3] (.go 4 (Pt.prs [5] .fin))) [] Tryd.mixed (by kernel_rfl) (fun _ _ d _ _ h => by cases d <;> exact h) trivial ?_
        have H5 := H4.drew
        generalize w3.drew = w4 at *
        simp only [Pt.toL, Pt.rds, Pt.prs, Pt.at_, List.drop_succ_cons, List.drop_zero]
        iterate 4 (refine Pt.pr_run (v := ?_) (by rfl) ?_ ?_; rotate_left; (focus (intro w'; go_simp; with_reducible rfl)); simp only [Act.put, List.setIfInBounds_toArray, List.set_cons_zero, List.set_cons_succ])
        have hsm := same_any (w := w4) (A := some ⟨g9, 0, none⟩) (c := 32) (a := T) (B := some ⟨bc, oc + N, none⟩) (d := f - N) (b := s.drop N) ((H5.blk 0 rfl).RB (by rw [List.drop_zero, List.take_of_length_le (by rw [bv_length]; exact Nat.le_refl _)])) (((hs.cons _).drop N).now H5) (by rw [HTL.out]; exact Nat.le_refl _) (by rw [HSD.out]; omega) (by rw [HTL.out]; decide)
        rw [HTL.out, HSD.out] at hsm
        rw [decide_eq_true HEQ.out] at hsm
        have HSM := Lib.hid hsm
        clear hsm
        refine Pt.run_go ?_
        go_wp2_with fail
        refine HSM.out.mono ?_
        rintro e w' ⟨rfl, rfl⟩
        go_wp2_with fail
        refine Pt.same trivial ?_
        (refine Pt.pr_run (v := ?_) (by rfl) ?_ ?_; rotate_left; (focus (intro w'; go_simp; with_reducible rfl)); simp only [Act.put, List.setIfInBounds_toArray, List.set_cons_zero, List.set_cons_succ])
        refine Pt.run_fin ?_
        have hstr := fun (W : World) (HW : St w0 W M (eb g9 40 (bv T) :: L)) => stream_any ht HW hA hc (hk.cons _) hn (B := some ⟨bc, oc, none⟩) (d := f) (non := s.take 16) (by rintro ⟨⟩) (by rw [HS16.out]; omega) ((hs.cons _).take 16) (by rw [HS16.out]; decide) (C := some ⟨bc, oc + 16, none⟩) (f := f - 16) (b := (s.drop 16).take B) (by rintro ⟨⟩) (by rw [HSB.out]; omega) ((hs.cons _).sub 16 B) (by rw [HSB.out]; omega)
        rw [HS16.out, HSB.out] at hstr
        have HSTR := Lib.hid hstr
        clear hstr HSM
        go_wp2
        refine Pt.wp_plan (fun w' => True) (Pt.prs [0, 1, 2, 3, 4, 5] (.go 6 (Pt.prs [7, 8] .fin))) [] Tryd.mixed (by kernel_rfl) (fun _ _ d _ _ h => by cases d <;> exact h) trivial ?_
        have H6 := H5.drew
        simp only [Pt.toL, Pt.rds, Pt.prs, Pt.at_, List.drop_succ_cons, List.drop_zero]
        iterate 6 (refine Pt.pr_run (v := ?_) (by rfl) ?_ ?_; rotate_left; (focus (intro w'; go_simp; with_reducible rfl)); simp only [Act.put, List.setIfInBounds_toArray, List.set_cons_zero, List.set_cons_succ])
        refine Pt.run_go ?_
        go_wp2_with fail
        refine (HSTR.out _ H6).mono ?_
        rintro e w5 ⟨v5, rfl, H7⟩
        obtain ⟨A8, c8, M8, rfl, h1, h2, h3, h4, h5⟩ := H7.rowBytes
        go_wp2_with fail
        refine Pt.same trivial ?_
        iterate 2 (refine Pt.pr_run (v := ?_) (by rfl) ?_ ?_; rotate_left; (focus (intro w'; go_simp; with_reducible rfl)); simp only [Act.put, List.setIfInBounds_toArray, List.set_cons_zero, List.set_cons_succ])
        refine Pt.run_fin ?_
        go_wp2
        go_ret2
        exact ⟨A8, c8, M8, rfl, h1, h2, h3, h4, h5.d0⟩
      · rw [if_neg heq]
        have HEQ := Lib.hid heq
        clear heq
        go_enter Tryd.func48, Tryd.ntmps48
        go_wp2_with fail
        refine HTG.out.mono ?_
        rintro e w2 ⟨rfl, H2⟩
        have H3 := H2.new (bv (List.replicate 32 0)) 40
        obtain ⟨w3, hst, H4⟩ := run_store_st (P := Tryd.prog) H3 (cs := bv T) (by rw [hTl2, bv_length, List.length_replicate]) (bv_one _)
        rw [← obj32] at hst
        clear H2 H3 HTG
        go_upto_region 7 with fail
        clear hst
        generalize w2.heap.size = g9 at *
        refine Pt.wp_plan (fun w' => True) (Pt.prs [0, 1, 2, 3] (.go 4 (Pt.prs [5] .fin))) [] Tryd.mixed (by kernel_rfl) (fun _ _ d _ _ h => by cases d <;> exact h) trivial ?_
        have H5 := H4.drew
        generalize w3.drew = w4 at *
        simp only [Pt.toL, Pt.rds, Pt.prs, Pt.at_, List.drop_succ_cons, List.drop_zero]
        iterate 4 (refine Pt.pr_run (v := ?_) (by rfl) ?_ ?_; rotate_left; (focus (intro w'; go_simp; with_reducible rfl)); simp only [Act.put, List.setIfInBounds_toArray, List.set_cons_zero, List.set_cons_succ])
        have hsm := same_any (w := w4) (A := some ⟨g9, 0, none⟩) (c := 32) (a := T) (B := some ⟨bc, oc + N, none⟩) (d := f - N) (b := s.drop N) ((H5.blk 0 rfl).RB (by rw [List.drop_zero, List.take_of_length_le (by rw [bv_length]; exact Nat.le_refl _)])) (((hs.cons _).drop N).now H5) (by rw [HTL.out]; exact Nat.le_refl _) (by rw [HSD.out]; omega) (by rw [HTL.out]; decide)
        rw [HTL.out, HSD.out] at hsm
        rw [decide_eq_false HEQ.out] at hsm
        have HSM := Lib.hid hsm
        clear hsm
        refine Pt.run_go ?_
        go_wp2_with fail
        refine HSM.out.mono ?_
        rintro e w' ⟨rfl, rfl⟩
        go_wp2_with fail
        refine Pt.same trivial ?_
        (refine Pt.pr_run (v := ?_) (by rfl) ?_ ?_; rotate_left; (focus (intro w'; go_simp; with_reducible rfl)); simp only [Act.put, List.setIfInBounds_toArray, List.set_cons_zero, List.set_cons_succ])
        refine Pt.run_fin ?_
        go_wp2
        go_ret2
        exact NIL.out _ H5.d0 _
end
end Go.Proofs.YtcdljlaoedaliaaDoor
/- The contract of the reference's Open. -/
set_option linter.unusedVariables false
set_option linter.unusedSimpArgs false
namespace Go.Proofs.YtcdljlaoedaliaaDoor
open Go.RowKit Wd
section
variable {w0 w : World} {M : Mem} {L : List Ent}
set_option maxRecDepth 100000 in
set_option maxHeartbeats 2000000 in
theorem ropen_any (H : St w0 w M L) {A : Option Addr} {c : Nat} {k : List UInt8} (hA : A = none → c = 0) (hc : k.length ≤ c) (hk : Sr w0 M L A k) (hn : k.length < 1000000)
    (lb : List UInt8) (hlb : lb.length ≤ 60000)
    {C : Option Addr} {f : Nat} {s : List UInt8} (hC : C = none → f = 0) (hsf : s.length ≤ f) (hs : Sr w0 M L C s) (hsn : s.length ≤ 10000) :
    Calls Tryd.prog 51 #[.slice A k.length c, .string ⟨lb.toArray⟩, .slice C s.length f] w (RetBytes w0 M L (Seal.openR k lb s).1 fun v => .returned (.tuple #[v, .int .i64 (Seal.openR k lb s).2])) := by
  have hsz : (ByteArray.mk lb.toArray).size = lb.length := by show lb.toArray.size = _; simp
  have nil_ : ∀ w', St w0 w' M L → ∀ E : Int, RetBytes w0 M L ([] : List UInt8) (fun v => .returned (.tuple #[v, .int .i64 E])) (.returned (.tuple #[.slice none 0 0, .int .i64 E])) w' := fun w' H' E => ⟨none, 0, M, rfl, Nat.le_refl _, fun _ => rfl, Mem.le.refl _, fun _ _ h => absurd rfl h, H'⟩
  have NIL := Lib.hid nil_
  clear nil_
  by_cases hbad : 256 < lb.length ∨ 4144 < s.length
  · rw [show Seal.openR k lb s = ([], 3) from if_pos hbad]
    have hx : (256 : Int) < (lb.length : Int) ∨ (¬ (256 : Int) < (lb.length : Int) ∧ (4144 : Int) < (s.length : Int)) := by omega
    clear hbad
    rcases hx with hx | ⟨hx, hx2⟩
    all_goals
      go_enter Tryd.func51, Tryd.ntmps51
      go_wp2
      go_ret2
      exact NIL.out _ H _
  · have q1 : ¬ (256 : Int) < (lb.length : Int) := by omega
    have q2 : ¬ (4144 : Int) < (s.length : Int) := by omega
    by_cases h48 : s.length < 48
    · rw [show Seal.openR k lb s = ([], 5) from by unfold Seal.openR; rw [if_neg hbad, if_pos h48]]
      have q3 : (s.length : Int) < 48 := by omega
      clear hbad h48
      go_enter Tryd.func51, Tryd.ntmps51
      go_wp2
      go_ret2
      exact NIL.out _ H _
    · have hR : Seal.openR k lb s = if Seal.tag k lb (s.take (s.length - 32)) = s.drop (s.length - 32) then (Seal.turned k (s.take 16) ((s.drop 16).take (s.length - 48)), 0) else ([], 11) := by
        conv => lhs; unfold Seal.openR
        rw [if_neg hbad, if_neg h48]
      rw [hR]
      obtain ⟨bc, oc, rfl⟩ : ∃ b o, C = some ⟨b, o, none⟩ := by
        obtain ⟨b, o, h, _⟩ := hs.now H (by rintro rfl; simp at h48)
        exact ⟨b, o, h⟩
      have q3 : ¬ (s.length : Int) < 48 := by omega
      obtain ⟨N, hN⟩ : ∃ N, N = s.length - 32 := ⟨_, rfl⟩
      obtain ⟨B, hB⟩ : ∃ B, B = s.length - 48 := ⟨_, rfl⟩
      obtain ⟨T, hT⟩ : ∃ T, T = Seal.tag k lb (s.take N) := ⟨_, rfl⟩
      have hTl : T.length = 32 := by rw [hT, Seal.tag_len]
      have e1 : (s.length : Int) - 32 = (N : Int) := by omega
      have e2 : (N : Int) - 16 = (B : Int) := by omega
      have z1 : N - 16 = B := by omega
      have fN : ¬ f = N := by omega
      have z2 : s.length - N = 32 := by omega
      have n1 : (N : Int) ≤ (f : Int) := by omega
      have n2 : (16 : Int) ≤ (N : Int) := by omega
      have n3 : (N : Int) ≤ (s.length : Int) := by omega
      have n4 : (16 : Int) ≤ (f : Int) := by omega
      have n5 : (s.length : Int) - (N : Int) = 32 := by omega
      have hsl : (s.take N).length = N := by rw [List.length_take]; omega
      have hsd : (s.drop N).length = 32 := by rw [List.length_drop]; omega
      have hsb : ((s.drop 16).take B).length = B := by rw [List.length_take, List.length_drop]; omega
      have hs16 : (s.take 16).length = 16 := by rw [List.length_take]; omega
      have htg := fun (W : World) (HW : St w0 W M L) => rtag_any HW hA hc hk hn lb hlb (B := some ⟨bc, oc, none⟩) (d := f) (s := s.take N) (by rintro ⟨⟩) (hs.take N) (by rw [hsl]; omega)
      rw [hsl, ← hT] at htg
      rw [← hN, ← hB, ← hT]
      have HTG' := Lib.hid htg
      have HTL := Lib.hid hTl
      have HSD := Lib.hid hsd
      have HSB := Lib.hid hsb
      have HS16 := Lib.hid hs16
      have HNB := Lib.hid (And.intro hN hB)
      clear htg hTl hsd hsb hs16 hsl hR hbad h48 hT hN hB
      by_cases heq : T = s.drop N
      · rw [if_pos heq]
        have hse : (T == s.drop N) = true := by simpa using heq
        have HSE := Lib.hid hse
        clear heq hse
        go_enter Tryd.func51, Tryd.ntmps51
        go_upto_region 6 with fail
        refine Pt.wp_plan (fun w' => St w0 w' M L) (Pt.prs [0, 1, 2, 3, 4, 7, 8, 9] (Pt.rds [10] (.go 5 (Pt.rds [6] (Pt.prs [11] .fin))))) [] Tryd.mixed (by kernel_rfl) (fun _ _ d _ _ h => by cases d <;> exact h) H.drew ?_
        have H3 := H.drew
        simp only [Pt.toL, Pt.rds, Pt.prs, Pt.at_, List.drop_succ_cons, List.drop_zero]
        iterate 8 (refine Pt.pr_run (v := ?_) (by rfl) ?_ ?_; rotate_left; (focus (intro w'; go_simp; with_reducible rfl)); simp only [Act.put, List.setIfInBounds_toArray, List.set_cons_zero, List.set_cons_succ])
        (refine Pt.rd_run (v := ?_) (by rfl) ?_ ?_; rotate_left; (focus (intro w' hS; have cv := conv_RB (P := Tryd.prog) (src := 42) (dst := 9) (c := f - N) (n := 32) Tryd.underlying42 Tryd.underlying5 Tryd.underlying9 ((hs.drop N).now hS) HSD.out.symm; go_simp; with_reducible rfl)); simp only [Act.put, List.setIfInBounds_toArray, List.set_cons_zero, List.set_cons_succ])
        refine Pt.run_go ?_
        go_wp2_with fail
        refine (HTG'.out _ H3).mono ?_
        rintro e w4 ⟨v4, rfl, H5⟩
        obtain ⟨A4, c4, rfl, hc4, hA4⟩ := H5.shape' 0 rfl
        go_wp2_with fail
        refine Pt.more (fun w' => St w0 w' M (er 5 1 (.slice A4 32 c4) 32 (bv T) :: L)) H5.d0 H5 ?_
        (refine Pt.rd_run (v := ?_) (by rfl) ?_ ?_; rotate_left; (focus (intro w' hS; have cv := conv_RB (P := Tryd.prog) (src := 42) (dst := 9) (c := c4) (n := 32) Tryd.underlying42 Tryd.underlying5 Tryd.underlying9 (er_RB (by have h := hS.2.get 0 rfl; rw [← HTL.out] at h; exact h)) HTL.out.symm; go_simp; with_reducible rfl)); simp only [Act.put, List.setIfInBounds_toArray, List.set_cons_zero, List.set_cons_succ])
        have hse := HSE.out
        (refine Pt.pr_run (v := ?_) (by rfl) ?_ ?_; rotate_left; (focus (intro w'; go_simp; with_reducible rfl)); simp only [Act.put, List.setIfInBounds_toArray, List.set_cons_zero, List.set_cons_succ])
        clear hse
        refine Pt.run_fin ?_
        have hstr := fun (W : World) (HW : St w0 W M L) => turned_any HW hA hc hk hn (B := some ⟨bc, oc, none⟩) (d := f) (non := s.take 16) (by rintro ⟨⟩) (by rw [HS16.out]; omega) (hs.take 16) (by rw [HS16.out]; decide) (C := some ⟨bc, oc + 16, none⟩) (f := f - 16) (b := (s.drop 16).take B) (by rintro ⟨⟩) (by rw [HSB.out]; omega) (hs.sub 16 B) (by rw [HSB.out]; omega)
        rw [HS16.out, HSB.out] at hstr
        have HSTR := Lib.hid hstr
        clear hstr
        go_wp2
        refine Pt.wp_plan (fun w' => True) (Pt.prs [0, 1, 2, 3, 4, 5] (.go 6 (Pt.prs [7, 8] .fin))) [] Tryd.mixed (by kernel_rfl) (fun _ _ d _ _ h => by cases d <;> exact h) trivial ?_
        have H6 := H5.d0.drew
        simp only [Pt.toL, Pt.rds, Pt.prs, Pt.at_, List.drop_succ_cons, List.drop_zero]
        iterate 6 (refine Pt.pr_run (v := ?_) (by rfl) ?_ ?_; rotate_left; (focus (intro w'; go_simp; with_reducible rfl)); simp only [Act.put, List.setIfInBounds_toArray, List.set_cons_zero, List.set_cons_succ])
        refine Pt.run_go ?_
        go_wp2_with fail
        refine (HSTR.out _ H6).mono ?_
        rintro e w5 ⟨v5, rfl, H7⟩
        obtain ⟨A8, c8, M8, rfl, h1, h2, h3, h4, h5⟩ := H7.rowBytes
        go_wp2_with fail
        refine Pt.same trivial ?_
        iterate 2 (refine Pt.pr_run (v := ?_) (by rfl) ?_ ?_; rotate_left; (focus (intro w'; go_simp; with_reducible rfl)); simp only [Act.put, List.setIfInBounds_toArray, List.set_cons_zero, List.set_cons_succ])
        refine Pt.run_fin ?_
        go_wp2
        go_ret2
        exact ⟨A8, c8, M8, rfl, h1, h2, h3, h4, h5⟩
      · rw [if_neg heq]
        have hse : (T == s.drop N) = false := by simpa using heq
        have HSE := Lib.hid hse
        clear heq hse
        go_enter Tryd.func51, Tryd.ntmps51
        go_upto_region 6 with fail
        refine Pt.wp_plan (fun w' => St w0 w' M L) (Pt.prs [0, 1, 2, 3, 4, 7, 8, 9] (Pt.rds [10] (.go 5 (Pt.rds [6] (Pt.prs [11] .fin))))) [] Tryd.mixed (by kernel_rfl) (fun _ _ d _ _ h => by cases d <;> exact h) H.drew ?_
        have H3 := H.drew
        simp only [Pt.toL, Pt.rds, Pt.prs, Pt.at_, List.drop_succ_cons, List.drop_zero]
        iterate 8 (refine Pt.pr_run (v := ?_) (by rfl) ?_ ?_; rotate_left; (focus (intro w'; go_simp; with_reducible rfl)); simp only [Act.put, List.setIfInBounds_toArray, List.set_cons_zero, List.set_cons_succ])
        (refine Pt.rd_run (v := ?_) (by rfl) ?_ ?_; rotate_left; (focus (intro w' hS; have cv := conv_RB (P := Tryd.prog) (src := 42) (dst := 9) (c := f - N) (n := 32) Tryd.underlying42 Tryd.underlying5 Tryd.underlying9 ((hs.drop N).now hS) HSD.out.symm; go_simp; with_reducible rfl)); simp only [Act.put, List.setIfInBounds_toArray, List.set_cons_zero, List.set_cons_succ])
        refine Pt.run_go ?_
        go_wp2_with fail
        refine (HTG'.out _ H3).mono ?_
        rintro e w4 ⟨v4, rfl, H5⟩
        obtain ⟨A4, c4, rfl, hc4, hA4⟩ := H5.shape' 0 rfl
        go_wp2_with fail
        refine Pt.more (fun w' => St w0 w' M (er 5 1 (.slice A4 32 c4) 32 (bv T) :: L)) H5.d0 H5 ?_
        (refine Pt.rd_run (v := ?_) (by rfl) ?_ ?_; rotate_left; (focus (intro w' hS; have cv := conv_RB (P := Tryd.prog) (src := 42) (dst := 9) (c := c4) (n := 32) Tryd.underlying42 Tryd.underlying5 Tryd.underlying9 (er_RB (by have h := hS.2.get 0 rfl; rw [← HTL.out] at h; exact h)) HTL.out.symm; go_simp; with_reducible rfl)); simp only [Act.put, List.setIfInBounds_toArray, List.set_cons_zero, List.set_cons_succ])
        have hse := HSE.out
        (refine Pt.pr_run (v := ?_) (by rfl) ?_ ?_; rotate_left; (focus (intro w'; go_simp; with_reducible rfl)); simp only [Act.put, List.setIfInBounds_toArray, List.set_cons_zero, List.set_cons_succ])
        clear hse
        refine Pt.run_fin ?_
        go_wp2
        go_ret2
        exact NIL.out _ H5.d0 _
end
end Go.Proofs.YtcdljlaoedaliaaDoor
