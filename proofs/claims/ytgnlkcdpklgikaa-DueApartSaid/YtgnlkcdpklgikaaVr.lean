/- Which dues are picked: due.Done's closure, slices.ContainsFunc, the reference's in. -/
import Derived.Test.YtgnlkcdpklgikaaVl
set_option linter.unusedVariables false
set_option linter.unusedSimpArgs false
namespace Go.Proofs.Ytgnlkcdpklgikaa
open Go.RowKit Wd Go.Sort
open Du (Due)
/-- The same tenant and subscription. -/
def Du.like (y p : Due) : Bool := decide (p.t = y.t ∧ p.s = y.s)
def Du.hit (ps : List Due) (y : Due) : Bool := ps.any (Du.like y)
def Du.fwd (now gap : Int) (ps : List Due) (y : Due) : Due := if Du.hit ps y then ⟨y.t, y.s, min 1099511627776 (now + gap)⟩ else y
def Du.done (now gap : Int) (ps l : List Due) : List Due := l.map (Du.fwd now gap ps)
theorem ord_zero (p q : Due) : (ord p q == 0) = Du.like q p := by
  unfold ord Du.like
  rw [Bool.eq_iff_iff, beq_iff_eq, decide_eq_true_eq]
  simp only [orL]
  rcases ncmp_cases p.t q.t with ⟨h1, h2⟩ | ⟨h1, h2⟩ | ⟨h1, h2⟩
  · rw [h2]; simp; omega
  · rw [h2]
    simp only [ne_eq, not_true_eq_false, if_false]
    rcases ncmp_cases p.s q.s with ⟨h3, h4⟩ | ⟨h3, h4⟩ | ⟨h3, h4⟩
    · rw [h4]; simp; omega
    · rw [h4]; simp; omega
    · rw [h4]; simp; omega
  · rw [h2]; simp; omega
section
variable {w0 w : World} {M : Mem} {L : List Ent}
theorem done1_any (H : St w0 w M L) {g : Nat} {y : Due} (hi : eb g 40 (dc y) ∈ L) (p : Due) :
    Calls Try.prog 34 #[dv p, .pointer (some ⟨g, 0, none⟩)] w fun e w' => e = .returned (.bool (Du.like y p)) ∧ St w0 w' M L := by
  have H1 := H.new (dc p) 40
  have rg := (H1.blkm (List.mem_cons_of_mem _ hi)).range 0 3 (dc y) rfl
  have rg2 := (H1.blk 0 rfl).range 0 3 (dc p) rfl
  have hord := order_any p y (w.alloc (.cells (dc p).toArray 40))
  rw [← ord_zero]
  obtain ⟨O, hO⟩ : ∃ O, O = ord p y := ⟨_, rfl⟩
  rw [← hO] at hord ⊢
  have RG := Lib.hid rg
  have RG2 := Lib.hid rg2
  have HO := Lib.hid hord
  clear rg rg2 hord hO
  unfold dc at H1 HO
  unfold dv at HO ⊢
  go_enter Try.func34, Try.ntmps34
  go_wp2_with first
    | (refine wpList_load_mid (by rfl) 40 (.tmp 1) (by rfl) g 0 (by rfl) [.int .u64 (y.t : Int), .int .u64 (y.s : Int), .int .i64 y.a] _ RG.out Try.underlying40 rfl (by exact Try.sizeDue) ?_)
  go_wp2_with fail
  refine HO.out.mono ?_
  rintro e w1 ⟨rfl, q, os, rfl⟩
  have H2 := St.grow H1 q os
  generalize hxx : grow _ os = w2 at *
  clear hxx H1
  go_wp2
  go_ret
  exact ⟨rfl, H2.d0⟩
/-- Does one of them answer? -/
theorem contains_any (g : Nat) (cb : Array Value) (eg : ∀ args w, (callFunc g args).run Try.prog w = .ok (.enter g args) w) (P : Due → Bool) (H : St w0 w M L) {A : Option Addr} {c n : Nat} {l : List Due} (hn : n = l.length) (hl : SrA w0 M L A (dcs l)) (hn2 : n ≤ 1000000)
    (hg : ∀ p w, St w0 w M L → Calls Try.prog g (#[dv p] ++ cb) w fun e w' => e = .returned (.bool (P p)) ∧ St w0 w' M L) :
    Calls Try.prog 33 #[.slice A n c, .func (.func g) #[] cb] w fun e w' => e = .returned (.bool (l.any P)) ∧ St w0 w' M L := by
  have hi := idx_any g cb eg P (c := c) H hn hl hn2 hg
  obtain ⟨R, hR⟩ : ∃ R, R = l.any P := ⟨_, rfl⟩
  rw [← hR]
  have HI := Lib.hid hi
  have HR := Lib.hid hR
  have HN := Lib.hid hn
  clear hi hn hR hg
  go_enter Try.func33, Try.ntmps33
  go_wp2_with fail
  refine HI.out.mono ?_
  rintro e w1 ⟨⟨rfl, hno⟩ | ⟨k, hk, rfl, -, hpk⟩, H1⟩
  · have h : R = false := by rw [HR.out, List.any_eq_false]; exact fun x hx => by rw [hno x hx]; simp
    subst h
    clear hno
    go_wp2
    go_ret
    exact ⟨rfl, H1⟩
  · have h : R = true := by rw [HR.out, List.any_eq_true]; exact ⟨l[k], List.getElem_mem hk, hpk⟩
    subst h
    have q : (0 : Int) ≤ (k : Int) := by omega
    clear hk hpk
    go_wp2
    go_ret
    exact ⟨rfl, H1⟩
end
end Go.Proofs.Ytgnlkcdpklgikaa
