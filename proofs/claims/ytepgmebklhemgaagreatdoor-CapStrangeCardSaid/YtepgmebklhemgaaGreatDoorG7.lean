/- Bytes with how many there are, read: kv's take. -/
import Derived.Test.YtepgmebklhemgaaGreatDoorA9
import Derived.Test.YtepgmebklhemgaaGreatDoorA8
import Derived.Test.YtepgmebklhemgaaGreatDoorG6
import Derived.Test.YtepgmebklhemgaaGreatDoorA5
import Derived.Deep.DeepCutAuto
set_option linter.unusedVariables false
set_option linter.unusedSimpArgs false
namespace Go.Proofs.YtepgmebklhemgaaGreatDoor
open Go.RowKit Wd
theorem Tryz.sz8 (w : World) : (Go.sizeOf 5).run Tryz.prog w = .ok 1 w := by go_simp
/-- What take gives. -/
def RetTake (w0 : World) (M : Mem) (L : List Ent) (b : Nat) (r : List UInt8) (e : Ending) (w' : World) : Prop :=
  St w0 w' M L ∧ ((Kv.take2 r = none ∧ e = .returned (.tuple #[.slice none 0 0, .slice none 0 0, .bool false])) ∨
    ∃ k t o1 c1 o2 c2, Kv.take2 r = some (k, t) ∧ e = .returned (.tuple #[.slice (some ⟨b, o1, none⟩) k.length c1, .slice (some ⟨b, o2, none⟩) t.length c2, .bool true]) ∧ In M (RB · (some ⟨b, o1, none⟩) k) ∧ In M (RB · (some ⟨b, o2, none⟩) t) ∧ k.length ≤ c1 ∧ t.length ≤ c2)
section
variable {w0 w : World} {M : Mem} {L : List Ent}
set_option maxRecDepth 100000 in
set_option maxHeartbeats 1000000 in
theorem take_any (H : St w0 w M L) {b o c n : Nat} {r : List UInt8} (hn : n = r.length) (hr : In M (RB · (some ⟨b, o, none⟩) r)) (hc : n ≤ c) (hn2 : n ≤ 1000000000) :
    Calls Tryz.prog 112 #[.slice (some ⟨b, o, none⟩) n c] w (RetTake w0 M L b r) := by
  rcases r with _ | ⟨x, _ | ⟨y, r⟩⟩
  · skip
    have hn0 : n = 0 := hn
    subst hn0
    have HZ := Lib.hid hr
    clear hn hr hc hn2 HZ
    go_enter Tryz.func112, Tryz.ntmps112
    go_wp2
    go_ret3
    exact ⟨H, .inl ⟨rfl, rfl⟩⟩
  · skip
    have hn0 : n = 1 := hn
    subst hn0
    have HZ := Lib.hid hr
    clear hn hr hc hn2 HZ
    go_enter Tryz.func112, Tryz.ntmps112
    go_wp2
    go_ret3
    exact ⟨H, .inl ⟨rfl, rfl⟩⟩
  · skip
    have hx := x.toNat_lt
    have hy := y.toNat_lt
    obtain ⟨q, N, hq, hN, e1, e2⟩ := two_bytes x.toNat y.toNat hx hy
    have htk : Kv.take2 (x :: y :: r) = if r.length < N then none else some (r.take N, r.drop N) := by rw [Kv.take2, hN]
    obtain ⟨T, hT⟩ : ∃ T, T = Kv.take2 (x :: y :: r) := ⟨_, rfl⟩
    have c0 := fun W (HW : St w0 W M L) => RB.cell (hr.now HW) 0 (by simp)
    have c1 := fun W (HW : St w0 W M L) => RB.cell (hr.now HW) 1 (by simp)
    simp only [List.getElem_cons_zero, List.getElem_cons_succ, Nat.add_zero] at c0 c1
    obtain ⟨a0, ha0⟩ : ∃ a0, a0 = x.toNat := ⟨_, rfl⟩
    obtain ⟨a1, ha1⟩ : ∃ a1, a1 = y.toNat := ⟨_, rfl⟩
    rw [← ha0] at e1 hx
    rw [← ha1] at e2 hy
    simp only [← ha0] at c0
    simp only [← ha1] at c1
    have hr2 : In M (RB · (some ⟨b, slo o c 2, none⟩) r) := hr.imp fun W h => slo_RB' h (by rw [← hn]; exact hc) 2
    obtain ⟨o2, ho2⟩ : ∃ o2, o2 = slo o c 2 := ⟨_, rfl⟩
    have s1 := fun W => slo_l (P := Tryz.prog) (t := 30) W Tryz.underlying30 Tryz.sz8 b o n c 2 (by rw [hn]; simp)
    rw [show ((2 : Nat) : Int) = 2 from rfl] at s1
    rw [← ho2] at hr2
    simp only [← ho2] at s1
    obtain ⟨m, hm⟩ : ∃ m, m = n - 2 := ⟨_, rfl⟩
    obtain ⟨d, hd⟩ : ∃ d, d = c - 2 := ⟨_, rfl⟩
    simp only [← hm, ← hd] at s1
    have hml : m = r.length := by rw [hm, hn]; simp
    have hmd : m ≤ d := by omega
    have hN6 : N ≤ 65535 := by omega
    have hq6 : q ≤ 65280 := by omega
    have w0' : IntKind.i64.wrap (a0 : Int) = (a0 : Int) := by rw [IntKind.wrap_i64]; omega
    have w1' : IntKind.i64.wrap (a1 : Int) = (a1 : Int) := by rw [IntKind.wrap_i64]; omega
    have w2' : IntKind.i64.wrap (q : Int) = (q : Int) := by rw [IntKind.wrap_i64]; omega
    have q0 : ¬ (n : Int) < 2 := by rw [hn]; simp; omega
    have q1 : (1 : Int) < (n : Int) := by omega
    have q2 : (0 : Int) < (n : Int) := by omega
    have q1n : 1 < n := by omega
    have q0n : 0 < n := by omega
    unfold RetTake
    simp only [← hT]
    rw [← hT, ← hml] at htk
    have C0 := Lib.hid c0
    have C1 := Lib.hid c1
    have HTK := Lib.hid htk
    have HML := Lib.hid hml
    have HR2 := Lib.hid hr2
    have S1 := Lib.hid s1
    have HMD := Lib.hid hmd
    clear htk hT c0 c1 ha0 ha1 hr2 ho2 s1 hm hd hml hmd hq hN hn hr hc
    by_cases hlt : m < N
    · have q3 : (m : Int) < (N : Int) := by omega
      have hno : T = none := by rw [HTK.out, if_pos hlt]
      have HNO := Lib.hid hno
      clear hno
      go_enter Tryz.func112, Tryz.ntmps112
      go_upto_region 3 with fail
      refine Pt.wp_plan (fun w' => St w0 w' M L) (Pt.prs [0, 1, 5, 6] (Pt.rds [2, 3] (Pt.prs [4] (Pt.rds [7, 8] (Pt.prs [9, 10] .fin))))) [] Tryz.mixed (by kernel_rfl) (fun _ _ d _ _ h => by cases d <;> exact h) H.drew ?_
      have H2 := H.drew
      simp only [Pt.toL, Pt.rds, Pt.prs, Pt.at_, List.drop_succ_cons, List.drop_zero]
      iterate 4 (refine Pt.pr_run (v := ?_) (by rfl) ?_ ?_; rotate_left; (focus (intro w'; go_simp; with_reducible rfl)); simp only [Act.put, List.setIfInBounds_toArray, List.set_cons_zero, List.set_cons_succ])
      iterate 2 (refine Pt.rd_run (v := ?_) (by rfl) ?_ ?_; rotate_left; (focus (intro w' hS; have c0 := C0.out _ hS; go_simp; with_reducible rfl)); simp only [Act.put, List.setIfInBounds_toArray, List.set_cons_zero, List.set_cons_succ])
      (refine Pt.pr_run (v := ?_) (by rfl) ?_ ?_; rotate_left; (focus (intro w'; go_simp; with_reducible rfl)); simp only [Act.put, List.setIfInBounds_toArray, List.set_cons_zero, List.set_cons_succ])
      iterate 2 (refine Pt.rd_run (v := ?_) (by rfl) ?_ ?_; rotate_left; (focus (intro w' hS; have c1 := C1.out _ hS; go_simp; with_reducible rfl)); simp only [Act.put, List.setIfInBounds_toArray, List.set_cons_zero, List.set_cons_succ])
      iterate 2 (refine Pt.pr_run (v := ?_) (by rfl) ?_ ?_; rotate_left; (focus (intro w'; go_simp; with_reducible rfl)); simp only [Act.put, List.setIfInBounds_toArray, List.set_cons_zero, List.set_cons_succ])
      refine Pt.run_fin ?_
      have s1 := S1.out
      go_wp2
      go_ret3
      exact ⟨H2, .inl ⟨HNO.out, rfl⟩⟩
    · have q3 : ¬ (m : Int) < (N : Int) := by omega
      have hyes : T = some (r.take N, r.drop N) := by rw [HTK.out, if_neg hlt]
      have HYES := Lib.hid hyes
      have hNd : N ≤ d := by have := HMD.out; omega
      have s2 := fun W => slo_h (P := Tryz.prog) (t := 30) W Tryz.underlying30 Tryz.sz8 b o2 m d N hNd
      have s3 := fun W => slo_l (P := Tryz.prog) (t := 30) W Tryz.underlying30 Tryz.sz8 b o2 m d N (by omega)
      have hk1 : In M (RB · (some ⟨b, o2, none⟩) (r.take N)) := HR2.out.imp fun W h => h.take N
      have hk2 : In M (RB · (some ⟨b, slo o2 d N, none⟩) (r.drop N)) := HR2.out.imp fun W h => slo_RB' h (by rw [← HML.out]; exact HMD.out) N
      have hl1 : (r.take N).length = N := by rw [List.length_take, ← HML.out]; omega
      have hl2 : (r.drop N).length = m - N := by rw [List.length_drop, ← HML.out]
      obtain ⟨o3, ho3⟩ : ∃ o3, o3 = slo o2 d N := ⟨_, rfl⟩
      rw [← ho3] at hk2
      simp only [← ho3] at s3
      obtain ⟨m2, hm2⟩ : ∃ m2, m2 = m - N := ⟨_, rfl⟩
      obtain ⟨d2, hd2⟩ : ∃ d2, d2 = d - N := ⟨_, rfl⟩
      simp only [← hm2, ← hd2] at s3
      rw [← hm2] at hl2
      have hle : m2 ≤ d2 := by have := HMD.out; omega
      have HK := Lib.hid (And.intro hk1 (And.intro hk2 (And.intro hl1 (And.intro hl2 (And.intro hNd hle)))))
      have S2 := Lib.hid s2
      have S3 := Lib.hid s3
      clear hyes hNd s2 s3 hk1 hk2 hl1 hl2 ho3 hm2 hd2 hle
      go_enter Tryz.func112, Tryz.ntmps112
      go_upto_region 3 with fail
      refine Pt.wp_plan (fun w' => St w0 w' M L) (Pt.prs [0, 1, 5, 6] (Pt.rds [2, 3] (Pt.prs [4] (Pt.rds [7, 8] (Pt.prs [9, 10] .fin))))) [] Tryz.mixed (by kernel_rfl) (fun _ _ d _ _ h => by cases d <;> exact h) H.drew ?_
      have H2 := H.drew
      simp only [Pt.toL, Pt.rds, Pt.prs, Pt.at_, List.drop_succ_cons, List.drop_zero]
      iterate 4 (refine Pt.pr_run (v := ?_) (by rfl) ?_ ?_; rotate_left; (focus (intro w'; go_simp; with_reducible rfl)); simp only [Act.put, List.setIfInBounds_toArray, List.set_cons_zero, List.set_cons_succ])
      iterate 2 (refine Pt.rd_run (v := ?_) (by rfl) ?_ ?_; rotate_left; (focus (intro w' hS; have c0 := C0.out _ hS; go_simp; with_reducible rfl)); simp only [Act.put, List.setIfInBounds_toArray, List.set_cons_zero, List.set_cons_succ])
      (refine Pt.pr_run (v := ?_) (by rfl) ?_ ?_; rotate_left; (focus (intro w'; go_simp; with_reducible rfl)); simp only [Act.put, List.setIfInBounds_toArray, List.set_cons_zero, List.set_cons_succ])
      iterate 2 (refine Pt.rd_run (v := ?_) (by rfl) ?_ ?_; rotate_left; (focus (intro w' hS; have c1 := C1.out _ hS; go_simp; with_reducible rfl)); simp only [Act.put, List.setIfInBounds_toArray, List.set_cons_zero, List.set_cons_succ])
      iterate 2 (refine Pt.pr_run (v := ?_) (by rfl) ?_ ?_; rotate_left; (focus (intro w'; go_simp; with_reducible rfl)); simp only [Act.put, List.setIfInBounds_toArray, List.set_cons_zero, List.set_cons_succ])
      refine Pt.run_fin ?_
      have s1 := S1.out
      go_upto_region 7 with fail
      clear s1
      refine Pt.wp_plan (fun w' => St w0 w' M L) (Pt.prs [0, 1, 2, 3, 4, 5, 6, 7, 8] .fin) [] Tryz.mixed (by kernel_rfl) (fun _ _ d _ _ h => by cases d <;> exact h) H2.drew ?_
      have H3 := H2.drew
      have s2 := S2.out
      have s3 := S3.out
      simp only [Pt.toL, Pt.rds, Pt.prs, Pt.at_, List.drop_succ_cons, List.drop_zero]
      iterate 9 (refine Pt.pr_run (v := ?_) (by rfl) ?_ ?_; rotate_left; (focus (intro w'; go_simp; with_reducible rfl)); simp only [Act.put, List.setIfInBounds_toArray, List.set_cons_zero, List.set_cons_succ])
      refine Pt.run_fin ?_
      clear s2 s3
      go_wp2
      go_ret3
      obtain ⟨g1, g2, g3, g4, g5, g6⟩ := HK.out
      exact ⟨H3, .inr ⟨r.take N, r.drop N, HYES.out, o2, d, o3, d2, by rw [g3, g4]; rfl, g1, g2, by rw [g3]; exact g5, by rw [g4]; exact g6⟩⟩
end
end Go.Proofs.YtepgmebklhemgaaGreatDoor
/- The contract of kv.Decode. -/
set_option linter.unusedVariables false
set_option linter.unusedSimpArgs false
namespace Go.Proofs.YtepgmebklhemgaaGreatDoor
open Go.RowKit Wd
/-- What reading has found so far. -/
def Kv.sofar (cnt : Nat) (r0 : List UInt8) (l : List Kv.Act) (m : Nat) (rest : List UInt8) : Prop := Kv.rd true cnt r0 = (Kv.rd true m rest).map fun p => (l ++ p.1, p.2)
theorem Kv.sofar_start (cnt : Nat) (r0 : List UInt8) : Kv.sofar cnt r0 [] cnt r0 := by
  unfold Kv.sofar
  cases Kv.rd true cnt r0 with
  | none => rfl
  | some p => rfl
theorem Kv.sofar_step {cnt m : Nat} {r0 rest t : List UInt8} {l : List Kv.Act} {a : Kv.Act} (h : Kv.sofar cnt r0 l (m + 1) rest) (h1 : Kv.rd1 true rest = some (a, t)) : Kv.sofar cnt r0 (l ++ [a]) m t := by
  unfold Kv.sofar at h ⊢
  rw [h, Kv.rd, h1]
  simp only
  cases Kv.rd true m t with
  | none => rfl
  | some p => simp
theorem Kv.sofar_stop {cnt m : Nat} {r0 rest : List UInt8} {l : List Kv.Act} (h : Kv.sofar cnt r0 l (m + 1) rest) (h1 : Kv.rd1 true rest = none) : Kv.rd true cnt r0 = none := by
  unfold Kv.sofar at h
  rw [h, Kv.rd, h1]
  rfl
theorem Kv.sofar_end {cnt : Nat} {r0 rest : List UInt8} {l : List Kv.Act} (h : Kv.sofar cnt r0 l 0 rest) : Kv.rd true cnt r0 = some (l, rest) := by
  unfold Kv.sofar at h
  rw [h]
  simp [Kv.rd]
theorem Kv.decode_none {x : UInt8} {r0 : List UInt8} (h : Kv.rd true x.toNat r0 = none) : Kv.decode (x :: r0) = none := by
  rw [Kv.decode, h]
theorem Kv.decode_end {x : UInt8} {r0 rest : List UInt8} {l : List Kv.Act} (h : Kv.rd true x.toNat r0 = some (l, rest)) : Kv.decode (x :: r0) = if rest = [] ∧ Kv.check l = 0 then some l else none := by
  rw [Kv.decode, h]
  cases rest with
  | nil => simp
  | cons => simp
/-- An act of a tag and what take gives. -/
theorem Kv.rd1_tag {t : UInt8} {r : List UInt8} (h : 1 < t.toNat) : Kv.rd1 true (t :: r) = none := by
  rw [Kv.rd1, if_pos (by simp [h])]
theorem Kv.rd1_eq {t : UInt8} {r : List UInt8} (h : ¬ 1 < t.toNat) : Kv.rd1 true (t :: r) = (match Kv.take2 r with
    | none => none
    | some (k, r1) => if t = 1 then (match Kv.take2 r1 with
      | none => none
      | some (d, r2) => some (⟨k, true, d⟩, r2)) else some (⟨k, false, []⟩, r1)) := by
  rw [Kv.rd1, if_neg (by simp [h])]
  rfl
def RetDec (w0 : World) (M : Mem) (L : List Ent) (r : List UInt8) (e : Ending) (w' : World) : Prop :=
  (Kv.decode r = none ∧ e = .returned (.tuple #[.slice none 0 0, .int .i64 5]) ∧ St w0 w' M L) ∨
  ∃ ps v M', Kv.decode r = some (ps.map Ac.act) ∧ e = .returned (.tuple #[v, .int .i64 0]) ∧ M.le M' ∧ AcIn M' ps ∧ St w0 w' M' (er 75 3 v ps.length (acs ps) :: L)
section
variable {w0 w : World} {M : Mem} {L : List Ent}
set_option maxRecDepth 100000 in
set_option maxHeartbeats 4000000 in
theorem decode_any (H : St w0 w M L) {A : Option Addr} {c n : Nat} {r : List UInt8} (hn : n = r.length) (hr : In M (RB · A r)) (hc : n ≤ c) (hn2 : n ≤ 1000000000) :
    Calls Tryz.prog 83 #[.slice A n c] w (RetDec w0 M L r) := by
  rcases r with _ | ⟨x, r0⟩
  · have hn0 : n = 0 := hn
    subst hn0
    clear hn hr hc hn2
    go_enter Tryz.func83, Tryz.ntmps83
    go_wp2
    go_ret2
    exact .inl ⟨rfl, rfl, H⟩
  · obtain ⟨b, o, rfl, -, -⟩ := (hr.now H) (by simp)
    have c0 := RB.cell (hr.now H) 0 (by simp)
    simp only [List.getElem_cons_zero, Nat.add_zero] at c0
    have hr1 : In M (RB · (some ⟨b, slo o c 1, none⟩) r0) := hr.imp fun W h => slo_RB' h (by rw [← hn]; exact hc) 1
    have s1 := fun W => slo_l (P := Tryz.prog) (t := 30) W Tryz.underlying30 Tryz.sz8 b o n c 1 (by rw [hn]; simp)
    rw [show ((1 : Nat) : Int) = 1 from rfl] at s1
    obtain ⟨o1, ho1⟩ : ∃ o1, o1 = slo o c 1 := ⟨_, rfl⟩
    obtain ⟨m, hm⟩ : ∃ m, m = n - 1 := ⟨_, rfl⟩
    obtain ⟨d, hd⟩ : ∃ d, d = c - 1 := ⟨_, rfl⟩
    rw [← ho1] at hr1
    simp only [← ho1, ← hm, ← hd] at s1
    have hml : m = r0.length := by rw [hm, hn]; simp
    have hmd : m ≤ d := by omega
    have q0 : ((n : Int) == 0) = false := by rw [beq_eq_false_iff_ne]; rw [hn]; simp; omega
    have q1 : (0 : Int) < (n : Int) := by rw [hn]; simp
    have q1n : 0 < n := by omega
    obtain ⟨cnt, hcnt⟩ : ∃ cnt, cnt = x.toNat := ⟨_, rfl⟩
    have hx := x.toNat_lt
    rw [← hcnt] at c0 hx
    have wc : IntKind.i64.wrap (cnt : Int) = (cnt : Int) := by rw [IntKind.wrap_i64]; omega
    have hdn := fun h => Kv.decode_none (x := x) (r0 := r0) h
    have hde := fun l rest h => Kv.decode_end (x := x) (r0 := r0) (rest := rest) (l := l) h
    rw [← hcnt] at hdn
    simp only [← hcnt] at hde
    obtain ⟨D, hD⟩ : ∃ D, D = Kv.decode (x :: r0) := ⟨_, rfl⟩
    unfold RetDec
    simp only [← hD] at hdn hde ⊢
    have HDN := Lib.hid hdn
    have HDE := Lib.hid hde
    have HR1 := Lib.hid hr1
    have HML := Lib.hid hml
    have HMD := Lib.hid hmd
    have hm9 : m ≤ 1000000000 := by omega
    have HM9 := Lib.hid hm9
    clear hdn hde hr1 hml hmd hm ho1 hd hD hcnt hn hr hc hm9
    go_enter Tryz.func83, Tryz.ntmps83
    go_wp2
    clear s1 c0
    have H1 := H.addNil 75 3
    go_loopw [4, 5, 22] (fun v sl i wr => ∃ (k : Nat) (ps : List Ac) (rest : List UInt8) (mr o5 c5 : Nat) (M' : Mem), k ≤ cnt ∧ i = .int .i64 k ∧ sl = .slice (some ⟨b, o5, none⟩) mr c5 ∧ mr = rest.length ∧ mr ≤ c5 ∧ mr ≤ m ∧ M.le M' ∧ In M' (RB · (some ⟨b, o5, none⟩) rest) ∧ AcIn M' ps ∧ ps.length = k ∧ Kv.sofar cnt r0 (ps.map Ac.act) (cnt - k) rest ∧ St w0 wr M' (er 75 3 v k (acs ps) :: L)) (fun _ _ i _ => cnt - (intOf i).toNat)
    case atStart => exact ⟨0, [], r0, m, o1, d, M, by omega, rfl, rfl, HML.out, HMD.out, Nat.le_refl _, Mem.le.refl _, HR1.out, AcIn.nil _, rfl, Kv.sofar_start _ _, H1⟩
    case round =>
      obtain ⟨k, ps, rest, mr, o5, c5, M', hk, rfl, rfl, hmr, hmc, hmm, hM, hrr, hps, hpl, hso, H2⟩ := hrel
      clear H1
      have HH := Lib.hid (And.intro hmc (And.intro hmm (And.intro hps hpl)))
      have HM := Lib.hid hM
      clear hmc hmm hM hps hpl
      obtain ⟨A4, c4, rfl, -⟩ := H2.shape 0 rfl
      by_cases hlt : k < cnt
      · have q2 : (k : Int) < (cnt : Int) := by omega
        have hso2 : Kv.sofar cnt r0 (ps.map Ac.act) ((cnt - (k + 1)) + 1) rest := by rw [show cnt - (k + 1) + 1 = cnt - k by omega]; exact hso
        have HSO := Lib.hid hso2
        have HLT := Lib.hid hlt
        clear hso hso2
        rcases rest with _ | ⟨t, r1⟩
        · have hz : mr = 0 := hmr
          subst hz
          have hdn := HDN.out (Kv.sofar_stop HSO.out rfl)
          have HD0 := Lib.hid hdn
          have HZ := H2.d0.weak H HM.out
          clear hmr hrr hdn
          go_wp2
          go_ret2
          exact .inl ⟨HD0.out, rfl, HZ⟩
        · have c0 := RB.cell (hrr.now H2) 0 (by simp)
          simp only [List.getElem_cons_zero, Nat.add_zero] at c0
          have hr2 : In M' (RB · (some ⟨b, slo o5 c5 1, none⟩) r1) := hrr.imp fun W h => slo_RB' h (by rw [← hmr]; exact HH.out.1) 1
          have s1 := fun W => slo_l (P := Tryz.prog) (t := 30) W Tryz.underlying30 Tryz.sz8 b o5 mr c5 1 (by rw [hmr]; simp)
          rw [show ((1 : Nat) : Int) = 1 from rfl] at s1
          obtain ⟨o6, ho6⟩ : ∃ o6, o6 = slo o5 c5 1 := ⟨_, rfl⟩
          obtain ⟨m6, hm6⟩ : ∃ m6, m6 = mr - 1 := ⟨_, rfl⟩
          obtain ⟨c6, hc6⟩ : ∃ c6, c6 = c5 - 1 := ⟨_, rfl⟩
          rw [← ho6] at hr2
          simp only [← ho6, ← hm6, ← hc6] at s1
          have hm6l : m6 = r1.length := by rw [hm6, hmr]; simp
          have hm6c : m6 ≤ c6 := by have := HH.out.1; omega
          have q3 : ((mr : Int) == 0) = false := by rw [beq_eq_false_iff_ne]; rw [hmr]; simp; omega
          have q4 : (0 : Int) < (mr : Int) := by rw [hmr]; simp
          have q4n : 0 < mr := by omega
          obtain ⟨tn, htn⟩ : ∃ tn, tn = t.toNat := ⟨_, rfl⟩
          have ht := t.toNat_lt
          rw [← htn] at c0 ht
          have hm6m : m6 ≤ m := by have := HH.out.2.1; omega
          have HS1 := Lib.hid s1
          have HR2 := Lib.hid (And.intro hr2 (And.intro hm6l (And.intro hm6c hm6m)))
          clear hr2 hrr ho6 hm6 hc6 hm6l hm6c hmr s1 hm6m
          by_cases ht1 : 1 < tn
          · have q5 : (1 : Int) < (tn : Int) := by omega
            have hdn := HDN.out (Kv.sofar_stop HSO.out (Kv.rd1_tag (by rw [← htn]; exact ht1)))
            have HD0 := Lib.hid hdn
            have HZ := H2.d0.weak H HM.out
            clear hdn htn ht1 hlt
            go_wp2
            go_ret2
            exact .inl ⟨HD0.out, rfl, HZ⟩
          · have q5 : ¬ (1 : Int) < (tn : Int) := by omega
            have hrd := Kv.rd1_eq (t := t) (r := r1) (by rw [← htn]; exact ht1)
            obtain ⟨B, hB⟩ : ∃ B : Bool, B = ((tn : Int) == 1) := ⟨_, rfl⟩
            have hBt : (t = 1) ↔ B = true := by
              rw [hB, beq_iff_eq, htn]
              constructor
              · rintro rfl; rfl
              · intro h
                apply UInt8.toNat_inj.1
                show t.toNat = 1
                omega
            have HRD := Lib.hid hrd
            have HBT := Lib.hid hBt
            have hB2 := hB.symm
            have H3 := H2.new [.string ⟨#[]⟩, .bool B, .slice none 0 0] 75
            have hta := take_any H3 HR2.out.2.1 (HR2.out.1) HR2.out.2.2.1 (by have := HR2.out.2.2.2; have := HM9.out; omega)
            have HTA := Lib.hid hta
            clear hrd hBt hB htn ht1 hlt hta
            have s1 := HS1.out
            go_wp2_with fail
            refine HTA.out.mono ?_
            rintro e w1 ⟨H4, htk⟩
            rcases htk with ⟨htk, rfl⟩ | ⟨key, tl, o7, c7, o8, c8, htk, rfl, hkr, htr, hk7, ht8⟩
            · have hdn := HDN.out (Kv.sofar_stop HSO.out (by rw [HRD.out, htk]))
              have HD0 := Lib.hid hdn
              have HZ := H4.d0.d0.weak H HM.out
              clear hdn htk HTA H3 s1
              go_wp2
              go_ret2
              exact .inl ⟨HD0.out, rfl, HZ⟩
            · have c1 := H4.cell 0 rfl 1
              simp only [List.getElem?_cons_succ, List.getElem?_cons_zero] at c1
              have hkl := (Kv.take2_eq htk).2
              have htl := Kv.take2_len htk
              obtain ⟨g, hg⟩ : ∃ g, g = wr.heap.size := ⟨_, rfl⟩
              rw [← hg] at c1 H4 ⊢
              obtain ⟨kn, hkn⟩ : ∃ kn, kn = key.length := ⟨_, rfl⟩
              obtain ⟨mt, hmt⟩ : ∃ mt, mt = tl.length := ⟨_, rfl⟩
              rw [← hkn] at hk7 ⊢
              rw [← hmt] at ht8 ⊢
              have hmtm : mt ≤ m := by have := HR2.out.2.1; have := HR2.out.2.2.2; omega
              have HKR := Lib.hid (And.intro hkr (And.intro hkn hk7))
              have HTR := Lib.hid (And.intro htr (And.intro hmt (And.intro ht8 hmtm)))
              have hrd1 := HRD.out
              rw [htk] at hrd1
              simp only at hrd1
              have HRD1 := Lib.hid hrd1
              have HKL := Lib.hid hkl
              clear hkr htr hkn hmt hk7 ht8 hrd1 hkl htl hg htk HTA H3 s1 HRD hmtm
              cases B with
              | true =>
                have hta := take_any H4 HTR.out.2.1 HTR.out.1 HTR.out.2.2.1 (by have := HTR.out.2.2.2; have := HM9.out; omega)
                have HTA := Lib.hid hta
                clear hta
                go_wp2_with fail
                refine HTA.out.mono ?_
                rintro e w2 ⟨H5, htk⟩
                rcases htk with ⟨htk, rfl⟩ | ⟨dt, tl2, o9, c9, oa, ca, htk, rfl, hdr, htr2, hd9, hta2⟩
                · have hcl := clone_any (c := 0) H5 (A := none) (l := []) (fun _ => rfl) (Nat.le_refl _) (fun _ _ _ _ h => absurd rfl h) (by simp)
                  have HCL := Lib.hid hcl
                  have hdn := HDN.out (Kv.sofar_stop HSO.out (by rw [HRD1.out, if_pos (HBT.out.2 (by trivial)), htk]))
                  have HD0 := Lib.hid hdn
                  clear hcl hdn htk HTA H4 c1
                  go_wp2_with fail
                  refine HCL.out.mono ?_
                  rintro e w3 ⟨v3, rfl, H6⟩
                  obtain ⟨A3, c3, rfl, -⟩ := H6.shape 0 rfl
                  have z2 := H6.frozen 1 rfl 2
                  have c2 := H6.cell 1 rfl 2
                  simp only [List.getElem?_cons_succ, List.getElem?_cons_zero] at c2
                  have H7 := H6.f1.set 2 (.slice A3 0 c3)
                  have HZ := H7.d0.d0.d0.weak H HM.out
                  clear HCL H5 H6 H7
                  go_wp2
                  go_ret2
                  exact .inl ⟨HD0.out, rfl, HZ⟩
                · have hdl := (Kv.take2_eq htk).2
                  have htl2 := Kv.take2_len htk
                  obtain ⟨dn, hdn⟩ : ∃ dn, dn = dt.length := ⟨_, rfl⟩
                  obtain ⟨m2, hm2⟩ : ∃ m2, m2 = tl2.length := ⟨_, rfl⟩
                  have hm2m : m2 ≤ m := by have := HTR.out.2.1; have := HTR.out.2.2.2; omega
                  have hcl := clone_any (c := c9) H5 (A := some ⟨b, o9, none⟩) (l := dt) (by rintro ⟨⟩) hd9 (Sr.of_in hdr) (by omega)
                  rw [← hdn] at hcl hd9 ⊢
                  rw [← hm2] at hta2 ⊢
                  have HCL := Lib.hid hcl
                  have hrd2 := HRD1.out
                  rw [if_pos (HBT.out.2 (by trivial)), htk] at hrd2
                  simp only at hrd2
                  have hs3 := Kv.sofar_step HSO.out hrd2
                  have HS3 := Lib.hid hs3
                  have HTR2 := Lib.hid (And.intro htr2 (And.intro hm2 (And.intro hta2 hm2m)))
                  have HDN2 := Lib.hid hdn
                  clear hcl hdl htl2 hdr htr2 hd9 hta2 hdn hm2 hrd2 hs3 htk HTA H4 c1 hm2m
                  go_wp2_with fail
                  refine HCL.out.mono ?_
                  rintro e w3 ⟨v3, rfl, H6⟩
                  obtain ⟨A3, c3, rfl, hc3, hA3⟩ := H6.shape' 0 rfl
                  obtain ⟨M3, hM3, H7, hin3⟩ := H6.keepRow
                  have z2 := H7.frozen 0 rfl 2
                  have c2 := H7.cell 0 rfl 2
                  simp only [List.getElem?_cons_succ, List.getElem?_cons_zero] at c2
                  have H8 := H7.set 2 (.slice A3 dn c3)
                  simp only [List.set_cons_succ, List.set_cons_zero] at H8
                  have HIN3 := Lib.hid (And.intro hin3 (And.intro hM3 (And.intro hc3 hA3)))
                  clear hin3 hM3 hc3 hA3 HCL H5 H6
                  have cv := conv_RB (P := Tryz.prog) (src := 30) (dst := 9) (c := c7) Tryz.underlying30 Tryz.underlying5 Tryz.underlying9 ((HKR.out.1.le HIN3.out.2.1).now H8) HKR.out.2.1
                  have z0 := H8.frozen 0 rfl 0
                  have y0 := H8.cell 0 rfl 0
                  simp only [List.getElem?_cons_succ, List.getElem?_cons_zero] at y0
                  have H9 := H8.set 0 (.string (str key))
                  simp only [List.set_cons_succ, List.set_cons_zero] at H9
                  go_upto_region 18 with fail
                  clear cv z0 y0 z2 c2 H7 H8
                  generalize World.setCell _ _ _ = w4 at *
                  refine wp_region_lit ?_
                  (refine wpList_ex (v := ?_) (by rfl) ?_ ?_; rotate_left; (focus (go_simp; with_reducible rfl)); simp only [Act.put, List.setIfInBounds_toArray, List.set_cons_zero, List.set_cons_succ])
                  refine wpList_load_mid (by rfl) 75 (.tmp 6) (by rfl) g 0 (by rfl) [.string (str key), .bool true, .slice A3 dn c3] _ ((H9.blk 0 rfl).range 0 3 _ rfl) Tryz.underlying75 rfl (by exact Tryz.sizeAct) ?_
                  simp only [Act.put, List.setIfInBounds_toArray, List.set_cons_zero, List.set_cons_succ]
                  have hbs := run_buildSlice_one (P := Tryz.prog) (n := 3) Tryz.underlying42 Tryz.zeroAct rfl (by decide) (by decide) (.agg #[.string (str key), .bool true, .slice A3 dn c3]) rfl w4
                  have H10 := H9.alloc (.cells #[.string (str key), .bool true, .slice A3 dn c3] 75)
                  have hra : RA (w4.alloc (.cells #[.string (str key), .bool true, .slice A3 dn c3] 75)) (some ⟨w4.heap.size, 0, none⟩) (ac ⟨key, true, ⟨A3, dn, c3, dt⟩⟩) := fun _ => ⟨_, 0, rfl, (Blk.new w4 75 [.string (str key), .bool true, .slice A3 dn c3]).lt, (Blk.new w4 75 [.string (str key), .bool true, .slice A3 dn c3]).range 0 3 _ rfl⟩
                  refine wpList_bs1 (by rfl) 42 (.tmp 66) (by rfl) (by rfl) hbs ?_
                  simp only [Act.put, List.setIfInBounds_toArray, List.set_cons_zero, List.set_cons_succ]
                  refine wpList_append_any_st H10.f1 (by rfl) (.tmp 65) (.tmp 67) 42 (by rfl) Tryz.infoAct (by rfl) (by decide) Tryz.underlying42 (by rfl) (some ⟨w4.heap.size, 0, none⟩) 1 1 (ac ⟨key, true, ⟨A3, dn, c3, dt⟩⟩) (by rfl) rfl (by rintro ⟨⟩) hra (ac_one _) (by omega) (by omega) ?_
                  intro v9 w9 H11
                  clear hbs hra H9 H10
                  simp only [Act.put, List.setIfInBounds_toArray, List.set_cons_zero, List.set_cons_succ]
                  (refine wpList_ex (v := ?_) (by rfl) ?_ ?_; rotate_left; (focus (go_simp; with_reducible rfl)); simp only [Act.put, List.setIfInBounds_toArray, List.set_cons_zero, List.set_cons_succ])
                  refine wpList_nil ?_
                  have he : acs ps ++ ac ⟨key, true, ⟨A3, dn, c3, dt⟩⟩ = acs (ps ++ [⟨key, true, ⟨A3, dn, c3, dt⟩⟩]) := by rw [acs_append]; simp [acs]
                  rw [he] at H11
                  go_wp2
                  exact ⟨⟨k + 1, ps ++ [⟨key, true, ⟨A3, dn, c3, dt⟩⟩], tl2, m2, oa, ca, M3, by have := HLT.out; omega, by go_num, rfl, HTR2.out.2.1, HTR2.out.2.2.1, HTR2.out.2.2.2, HM.out.trans HIN3.out.2.1, HTR2.out.1.le HIN3.out.2.1, (HH.out.2.2.1.le HIN3.out.2.1).snoc ⟨HDN2.out, HIN3.out.2.2.2, HIN3.out.2.2.1⟩ HIN3.out.1, by rw [List.length_append, HH.out.2.2.2]; rfl, by rw [List.map_append]; exact HS3.out, H11.d1⟩, by have := HLT.out; simp [intOf]; omega⟩
              | false =>
                have hrd2 := HRD1.out
                rw [if_neg (fun h => by simpa using HBT.out.1 h)] at hrd2
                have hs3 := Kv.sofar_step HSO.out hrd2
                have HS3 := Lib.hid hs3
                have cv := conv_RB (P := Tryz.prog) (src := 30) (dst := 9) (c := c7) Tryz.underlying30 Tryz.underlying5 Tryz.underlying9 (HKR.out.1.now H4) HKR.out.2.1
                have z0 := H4.frozen 0 rfl 0
                have y0 := H4.cell 0 rfl 0
                simp only [List.getElem?_cons_succ, List.getElem?_cons_zero] at y0
                have H9 := H4.set 0 (.string (str key))
                simp only [List.set_cons_succ, List.set_cons_zero] at H9
                clear hrd2 hs3
                go_upto_region 18 with fail
                clear cv z0 y0 c1 H4
                generalize World.setCell _ _ _ = w4 at *
                refine wp_region_lit ?_
                (refine wpList_ex (v := ?_) (by rfl) ?_ ?_; rotate_left; (focus (go_simp; with_reducible rfl)); simp only [Act.put, List.setIfInBounds_toArray, List.set_cons_zero, List.set_cons_succ])
                refine wpList_load_mid (by rfl) 75 (.tmp 6) (by rfl) g 0 (by rfl) [.string (str key), .bool false, .slice none 0 0] _ ((H9.blk 0 rfl).range 0 3 _ rfl) Tryz.underlying75 rfl (by exact Tryz.sizeAct) ?_
                simp only [Act.put, List.setIfInBounds_toArray, List.set_cons_zero, List.set_cons_succ]
                have hbs := run_buildSlice_one (P := Tryz.prog) (n := 3) Tryz.underlying42 Tryz.zeroAct rfl (by decide) (by decide) (.agg #[.string (str key), .bool false, .slice none 0 0]) rfl w4
                have H10 := H9.alloc (.cells #[.string (str key), .bool false, .slice none 0 0] 75)
                have hra : RA (w4.alloc (.cells #[.string (str key), .bool false, .slice none 0 0] 75)) (some ⟨w4.heap.size, 0, none⟩) (ac ⟨key, false, ⟨none, 0, 0, []⟩⟩) := fun _ => ⟨_, 0, rfl, (Blk.new w4 75 [.string (str key), .bool false, .slice none 0 0]).lt, (Blk.new w4 75 [.string (str key), .bool false, .slice none 0 0]).range 0 3 _ rfl⟩
                refine wpList_bs1 (by rfl) 42 (.tmp 66) (by rfl) (by rfl) hbs ?_
                simp only [Act.put, List.setIfInBounds_toArray, List.set_cons_zero, List.set_cons_succ]
                refine wpList_append_any_st H10.f1 (by rfl) (.tmp 65) (.tmp 67) 42 (by rfl) Tryz.infoAct (by rfl) (by decide) Tryz.underlying42 (by rfl) (some ⟨w4.heap.size, 0, none⟩) 1 1 (ac ⟨key, false, ⟨none, 0, 0, []⟩⟩) (by rfl) rfl (by rintro ⟨⟩) hra (ac_one _) (by omega) (by omega) ?_
                intro v9 w9 H11
                clear hbs hra H9 H10
                simp only [Act.put, List.setIfInBounds_toArray, List.set_cons_zero, List.set_cons_succ]
                (refine wpList_ex (v := ?_) (by rfl) ?_ ?_; rotate_left; (focus (go_simp; with_reducible rfl)); simp only [Act.put, List.setIfInBounds_toArray, List.set_cons_zero, List.set_cons_succ])
                refine wpList_nil ?_
                have he : acs ps ++ ac ⟨key, false, ⟨none, 0, 0, []⟩⟩ = acs (ps ++ [⟨key, false, ⟨none, 0, 0, []⟩⟩]) := by rw [acs_append]; simp [acs]
                rw [he] at H11
                go_wp2
                exact ⟨⟨k + 1, ps ++ [⟨key, false, ⟨none, 0, 0, []⟩⟩], tl, mt, o8, c8, M', by have := HLT.out; omega, by go_num, rfl, HTR.out.2.1, HTR.out.2.2.1, HTR.out.2.2.2, HM.out, HTR.out.1, HH.out.2.2.1.snoc ⟨rfl, fun _ => rfl, Nat.le_refl _⟩ (fun _ _ h => absurd rfl h), by rw [List.length_append, HH.out.2.2.2]; rfl, by rw [List.map_append]; exact HS3.out, H11.d1⟩, by have := HLT.out; simp [intOf]; omega⟩
      · obtain rfl : k = cnt := by omega
        have hend := HDE.out _ _ (Kv.sofar_end (by rw [Nat.sub_self] at hso; exact hso))
        have HEND := Lib.hid hend
        have hec := encode_any (c := c4) H2 HH.out.2.2.2.symm (SrA.row 0 rfl) HH.out.2.2.1 (by omega)
        have hcz : Kv.check (ps.map Ac.act) = 0 → (Kv.enc (ps.map Ac.act)).2 = 0 := fun h => by unfold Kv.enc; rw [if_pos h]
        have hcn : Kv.check (ps.map Ac.act) ≠ 0 → (Kv.enc (ps.map Ac.act)).2 ≠ 0 := fun h => by unfold Kv.enc; rw [if_neg h]; exact h
        obtain ⟨⟨EB, EC⟩, hE⟩ : ∃ E, E = Kv.enc (ps.map Ac.act) := ⟨_, rfl⟩
        simp only [← hE] at hec hcz hcn
        have HEC := Lib.hid hec
        have HCZ := Lib.hid (And.intro hcz hcn)
        have HMR := Lib.hid hmr
        clear hend hec hcz hcn hE hmr hso hrr
        go_wp2_with fail
        refine HEC.out.mono ?_
        rintro e w1 ⟨A5, c5', M5, rfl, -, -, hM5, -, H3⟩
        have HM5 := Lib.hid hM5
        clear HEC hM5
        by_cases hec0 : EC = 0
        · have hck : Kv.check (ps.map Ac.act) = 0 := by
            by_cases h : Kv.check (ps.map Ac.act) = 0
            · exact h
            · exact absurd hec0 (HCZ.out.2 h)
          have HCK := Lib.hid hck
          subst hec0
          by_cases hr0 : 0 < mr
          · have q2 : (0 : Int) < (mr : Int) := by omega
            have hno : D = none := by rw [HEND.out, if_neg (fun h => by have := HMR.out; rw [h.1] at this; simp at this; omega)]
            have HNO := Lib.hid hno
            have HZ := H3.d0.weak H (HM.out.trans HM5.out)
            clear hno hck hr0 H2
            go_wp2
            go_ret2
            exact .inl ⟨HNO.out, rfl, HZ⟩
          · have q2 : ¬ (0 : Int) < (mr : Int) := by omega
            have hyes : D = some (ps.map Ac.act) := by rw [HEND.out, if_pos ⟨List.eq_nil_of_length_eq_zero (by rw [← HMR.out]; omega), HCK.out⟩]
            have HYES := Lib.hid hyes
            have HPL := Lib.hid HH.out.2.2.2
            clear hyes hck hr0 H2
            go_wp2
            go_ret2
            exact .inr ⟨ps, _, M5, HYES.out, rfl, HM.out.trans HM5.out, HH.out.2.2.1.le HM5.out, by rw [HPL.out]; exact H3⟩
        · have q2 : (EC != 0) = true := by rw [bne, beq_eq_false_iff_ne.2 hec0]; rfl
          have hno : D = none := by
            rw [HEND.out, if_neg (fun h => hec0 (HCZ.out.1 h.2))]
          have HNO := Lib.hid hno
          have HZ := H3.d0.weak H (HM.out.trans HM5.out)
          clear hno hec0 H2
          go_wp2
          go_ret2
          exact .inl ⟨HNO.out, rfl, HZ⟩
end
end Go.Proofs.YtepgmebklhemgaaGreatDoor
