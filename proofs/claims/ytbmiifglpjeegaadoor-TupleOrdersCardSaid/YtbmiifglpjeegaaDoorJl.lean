/- The contract of tuple.Decode. -/
import Derived.Test.YtbmiifglpjeegaaDoorJk
set_option linter.unusedVariables false
set_option linter.unusedSimpArgs false
namespace Go.Proofs.YtbmiifglpjeegaaDoor
open Go.RowKit Wd
theorem Tryd.infoPart : (Tryd.prog.info? 42).map (fun i => (i.zero, i.size, i.bytes)) = some (some (.agg #[.string ⟨#[]⟩, .int .u64 0, .bool false]), 3, 32) := by kernel_rfl
section
variable {w0 w : World} {M : Mem} {L : List Ent}
/-- What Decode gives. -/
def RetDec (w0 : World) (M : Mem) (L : List Ent) (s : List UInt8) (e : Ending) (w' : World) : Prop :=
  (∃ l v, Tu.Key s l ∧ e = .returned (.tuple #[v, .int .i64 0]) ∧ St w0 w' M (er 42 3 v l.length (pcs l) :: L)) ∨ ((∀ l, ¬ Tu.Key s l) ∧ e = .returned (.tuple #[.slice none 0 0, .int .i64 5]) ∧ St w0 w' M L)
set_option maxRecDepth 100000 in
theorem decode_long (s : List UInt8) (hs : 1024 < s.length) :
    Calls Tryd.prog 8 #[.string (str s)] w fun e w' => e = .returned (.tuple #[.slice none 0 0, .int .i64 3]) ∧ w = w' := by
  have q : (1024 : Int) < (s.length : Int) := by omega
  go_enter Tryd.func8, Tryd.ntmps8
  go_wp2
  go_ret2
  exact ⟨rfl, rfl⟩
set_option maxRecDepth 100000 in
set_option maxHeartbeats 1000000 in
theorem decode_any (H : St w0 w M L) (s : List UInt8) (hs : s.length ≤ 1024) :
    Calls Tryd.prog 8 #[.string (str s)] w (RetDec w0 M L s) := by
  have q : ¬ (1024 : Int) < (s.length : Int) := by omega
  have H0 := H.addNil 42 3
  go_enter Tryd.func8, Tryd.ntmps8
  go_wp2
  go_loopw [0, 4] (fun x v wr => ∃ cur l, x = .string (str cur) ∧ (∀ p ∈ l, Tu.ok p) ∧ Tu.enc l ++ cur = s ∧ cur.length ≤ 1024 ∧ l.length ≤ 8 ∧ St w0 wr M (er 42 3 v l.length (pcs l) :: L)) (fun x _ _ => slen x)
  case atStart => exact ⟨s, [], rfl, by simp, rfl, hs, by simp, H0⟩
  case round =>
    obtain ⟨cur, l, rfl, hok, hen, hcl, hl8, H1⟩ := hrel
    clear H0 H q
    have HEN := Lib.hid hen
    have HOK := Lib.hid hok
    clear hen hok
    cases cur with
    | nil =>
      have hkey : Tu.Key s l := ⟨HOK.out, hl8, by have := HEN.out; simpa using this⟩
      have HK := Lib.hid hkey
      clear hkey
      obtain ⟨A1, c1, rfl, hc1⟩ := H1.shape 0 rfl
      go_wp2
      go_ret2
      exact .inl ⟨l, _, HK.out, rfl, H1⟩
    | cons c r =>
      obtain ⟨A1, c1, rfl, hc1⟩ := H1.shape 0 rfl
      have htk := take_any H1 c r (by simp at hcl; omega)
      have hno : (Tu.take (c :: r) = none ∨ 8 ≤ l.length) → ∀ m, ¬ Tu.Key s m := fun h => by
        rw [← HEN.out]
        exact Tu.no_key HOK.out (by simp) h
      obtain ⟨cur, hcur⟩ : ∃ cur, cur = c :: r := ⟨_, rfl⟩
      rw [← hcur] at htk hno HEN hcl ⊢
      have e0 : cur.isEmpty = false := by rw [hcur]; rfl
      have hcn : cur.length = 1 + r.length := by rw [hcur]; simp; omega
      have HCUR := Lib.hid hcur
      have HNO := Lib.hid hno
      have HTK := Lib.hid htk
      have HCN := Lib.hid hcn
      clear hcur hno htk hcn
      go_wp2_with fail
      refine HTK.out.mono ?_
      rintro e w1 (⟨p, rest, hsome, rfl, H2⟩ | ⟨hnone, rfl, H2⟩)
      · have hs2 := Tu.take_some (by rw [HCUR.out] at hsome; exact hsome)
        have hrl : rest.length < cur.length := by
          rw [HCUR.out, hs2.2, List.length_append]
          have := Tu.one_ne p
          have h1 : 0 < (Tu.one p).length := List.length_pos_iff.2 this
          omega
        have hen2 : Tu.enc (l ++ [p]) ++ rest = s := by
          rw [Tu.enc_append, Tu.enc_cons, ← HEN.out, HCUR.out, hs2.2]
          simp [Tu.enc]
        have hok2 : ∀ q ∈ l ++ [p], Tu.ok q := fun q hq => by
          rcases List.mem_append.1 hq with hq | hq
          · exact HOK.out q hq
          · simp only [List.mem_singleton] at hq; subst hq; exact hs2.1
        have HEN2 := Lib.hid hen2
        have HOK2 := Lib.hid hok2
        have HRL := Lib.hid hrl
        clear hen2 hok2 hrl hs2 hsome
        unfold pv
        have H3 := H2.new [.string (str p.text), .int .u64 (p.num : Int), .bool p.isText] 42
        by_cases h8 : l.length = 8
        · have hn2 := HNO.out (.inr (by omega))
          have HN2 := Lib.hid hn2
          have e8 : (l.length : Int) = 8 := by omega
          clear hn2 h8
          go_wp2
          go_ret2
          exact .inr ⟨HN2.out, rfl, H3.d0.d0⟩
        · have e8 : ((l.length : Int) == 8) = false := by simp; omega
          have e8n : ¬ l.length = 8 := h8
          clear h8
          have H4 := H3.newg [.string (str p.text), .int .u64 (p.num : Int), .bool p.isText] 42 (g := w1.heap.size + 1) (by simp)
          have ra := (H4.blk 0 rfl).ra 0 3 [.string (str p.text), .int .u64 (p.num : Int), .bool p.isText] rfl
          go_wp2_with (at_builtin; refine wpList_append_any_st H4.f2 (by rfl) (.tmp 26) (.tmp 28) 23 (by rfl) Tryd.infoPart (by rfl) (by decide) Tryd.underlying23 (by rfl) (some ⟨w1.heap.size + 1, 0, none⟩) 1 1 [.string (str p.text), .int .u64 (p.num : Int), .bool p.isText] (by rfl) (by rfl) (by rintro ⟨⟩) ra (by simp [Value.oneCell']) (by omega) (by omega) ?_)
          intro v5 w5 H5
          have H6 : St w0 w5 M (er 42 3 v5 (l ++ [p]).length (pcs (l ++ [p])) :: L) := by
            rw [List.length_append, pcs_append]
            exact H5.d1.d1
          clear H2 H3 H4 H5 ra
          go_wp2
          refine ⟨⟨rest, l ++ [p], rfl, HOK2.out, HEN2.out, by have := HRL.out; omega, by rw [List.length_append, List.length_singleton]; omega, H6⟩, ?_⟩
          show slen (.string (str rest)) < slen (.string (str cur))
          rw [slen_str, slen_str]
          exact HRL.out
      · have hn2 := HNO.out (.inl hnone)
        have HN2 := Lib.hid hn2
        clear hn2 hnone
        unfold pv
        go_wp2
        go_ret2
        exact .inr ⟨HN2.out, rfl, (H2.alloc _).d0⟩
end
end Go.Proofs.YtbmiifglpjeegaaDoor
