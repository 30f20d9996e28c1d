/- The reference of files: contracts of put, cut, Dump. -/
import Derived.Test.YtinhpiggakillaaBe
import Derived.Test.YtinhpiggakillaaBf
import Derived.Test.YtinhpiggakillaaSl
set_option linter.unusedVariables false
set_option linter.unusedSimpArgs false
namespace Go.Proofs.Ytinhpiggakillaa
open Go.RowKit Wd

theorem spl_step (l : List UInt8) (o : Nat) (m : List UInt8) (k : Nat) (hk : k < m.length) (h : o + m.length ≤ l.length) : (spl l o (m.take k)).set (o + k) m[k] = spl l o (m.take (k + 1)) := by
  unfold spl
  apply List.ext_getElem?
  intro j
  simp only [List.getElem?_set, List.getElem?_append, List.getElem?_take, List.getElem?_drop, List.length_append, List.length_take, List.length_drop]
  rcases Nat.lt_trichotomy j (o + k) with hj | hj | hj <;> grind
set_option maxRecDepth 100000 in
theorem ref_put {w0 w : World} {M : Mem} {F : List Ent} (H : St w0 w M F) {A B : Option Addr} {c cb : Nat} {l m : List UInt8} (hA : A = none → c = 0) (hl : In M (RB · A l)) (hm : Sr w0 M F B m) (o : Nat) (hfit : o + m.length ≤ l.length) (hlen : l.length ≤ 140737488355328) :
    Calls Try.prog 27 #[.slice A l.length c, .int .i64 (o : Int), .slice B m.length cb] w fun e w' => ∃ v, e = .returned v ∧ St w0 w' M (er 5 1 v l.length (bv (spl l o m)) :: F) := by
  have H1 := H.lit0 5
  have r1 := hl.now H1
  go_enter Try.func27, Try.ntmps27
  go_wp2_with (at_builtin; refine wpList_append_st H1 (by rfl) (.tmp 9) (.tmp 10) 28 (by rfl) Try.info5 Try.underlying28 (by rfl) A l.length c l (by rfl) rfl hA r1 (by omega) ?_)
  intro v1 w1 H2
  obtain ⟨A1, c1, rfl, hc1⟩ := H2.shape 0 rfl
  try simp only [Nat.zero_add, List.nil_append] at H2
  try simp only [Nat.zero_add] at hc1
  clear H H1 r1
  go_wp2
  go_loopw [8] (fun i wr => ∃ k : Nat, k ≤ m.length ∧ i = .int .i64 k ∧ St w0 wr M (er 5 1 (.slice A1 l.length c1) l.length (bv (spl l o (m.take k))) :: F)) (fun i _ => m.length - (intOf i).toNat)
  case atStart => exact ⟨0, by omega, rfl, by rw [List.take_zero, spl_nil]; exact H2⟩
  case round =>
    obtain ⟨k, hk, rfl, Hr⟩ := hrel
    clear H2
    by_cases hlt : k < m.length
    · obtain ⟨b, bo, rfl, hc⟩ := (hm.now Hr.d0).at k hlt
      obtain ⟨g, rfl, hg, hfz⟩ := Hr.at_ (o + k) (by omega)
      obtain ⟨x, hx⟩ : ∃ x : UInt8, x = m[k] := ⟨_, rfl⟩
      rw [← hx] at hc
      have hsp : (bv (spl l o (m.take k)))[o + k]? = some (.int .u8 (((spl l o (m.take k)).getD (o + k) 0).toNat : Int)) := by
        rw [bv_get, List.getD_eq_getElem?_getD, List.getElem?_eq_getElem (by rw [spl_length _ _ _ (by rw [List.length_take]; omega)]; omega)]; rfl
      rw [hsp] at hg
      have HX := Lib.hid hx
      clear hsp hx
      go_wp2
      go_roundw
      case rel =>
        refine ⟨k + 1, by omega, by go_num, ?_⟩
        have h1 := Hr.store (o + k) (.int .u8 (x.toNat : Int))
        rw [HX.out, bv_set, spl_step l o m k hlt hfit] at h1
        rw [HX.out]
        exact h1
      case measure => simp [intOf]; omega
    · obtain rfl : k = m.length := by omega
      rw [List.take_length] at Hr
      go_wp2
      go_ret
      exact ⟨_, rfl, Hr⟩
theorem ref_put' {w0 w : World} {M : Mem} {F : List Ent} (H : St w0 w M F) {A B : Option Addr} {c cb : Nat} {l m : List UInt8} (hA : A = none → c = 0) (hl : In M (RB · A l)) (hm : Sr w0 M F B m) (o : Nat) (hfit : o + m.length ≤ l.length) (hlen : l.length ≤ 140737488355328)
    {n k : Nat} {oi : Int} (hn : n = l.length) (hk : k = m.length) (ho : oi = (o : Int)) :
    Calls Try.prog 27 #[.slice A n c, .int .i64 oi, .slice B k cb] w fun e w' => ∃ A' c', e = .returned (.slice A' n c') ∧ n ≤ c' ∧ (A' = none → c' = 0) ∧ St w0 w' M (er 5 1 (.slice A' n c') n (bv (spl l o m)) :: F) := by
  subst hn hk ho
  refine (ref_put H hA hl hm o hfit hlen).mono ?_
  rintro e w' ⟨v, rfl, H'⟩
  obtain ⟨A', c', rfl, h1, h2⟩ := H'.shape' 0 rfl
  exact ⟨A', c', rfl, h1, h2, H'⟩
end Go.Proofs.Ytinhpiggakillaa
