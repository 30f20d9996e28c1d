/- A kv.Store at its place; the contracts of its small methods. -/
import Derived.Test.YtepgmebklhemgaaGreatDoorA9
import Derived.Test.YtepgmebklhemgaaGreatDoorG4
import Derived.Test.YtepgmebklhemgaaGreatDoorG5
set_option linter.unusedVariables false
set_option linter.unusedSimpArgs false
namespace Go.Proofs.YtepgmebklhemgaaGreatDoor
open Go.RowKit Wd Go.MapKept
def scells (g mb : Nat) : List Value := [.pointer (some ⟨g, 0, none⟩), .map (some mb)]
/-- The store at block s: its log at block g of the file at f, its map at block mb. -/
def KS (w0 w : World) (M : Mem) (s g f mb : Nat) (F : FM) (gen : Nat) (ls : List (List UInt8)) (en : Nat) (D : List Pa) (L : List Ent) : Prop :=
  PaIn M D ∧ LS w0 w M g f F gen ls en (eb s 138 (scells g mb) :: mp mb D :: L)
section
variable {w0 w : World} {M : Mem} {L : List Ent} {s g f mb gen en : Nat} {F : FM} {ls : List (List UInt8)} {D : List Pa}
theorem LS.head (H : LS w0 w M g f F gen ls en L) : ∃ Hd : List Ent, St w0 w M (Hd ++ L) ∧ ∀ w' M' L', M.le M' → St w0 w' M' (Hd ++ L') → LS w0 w' M' g f F gen ls en L' := by
  obtain ⟨v, ps, hr, ok, lb, pv, H⟩ := H
  refine ⟨[eb f 95 (fcells lb F pv), eb lb 91 (bv F.l), er 162 129 pv F.pend.length (pcs F.pend), eb g 170 (lcells f gen v en), er 30 1 v ps.length (ps.map Pc.v)], H, fun w' M' L' hM h => ⟨v, ps, hr.le hM, ok, lb, pv, h⟩⟩
theorem mid_front {a b : Ent} {Hd L : List Ent} : (Hd ++ a :: b :: L).Perm (b :: a :: (Hd ++ L)) := by
  have h1 : (Hd ++ a :: b :: L).Perm (a :: (Hd ++ b :: L)) := List.perm_middle
  have h2 : (Hd ++ b :: L).Perm (b :: (Hd ++ L)) := List.perm_middle
  exact h1.trans ((h2.cons a).trans (List.Perm.swap _ _ _))
/-- The store opened: its map first. -/
theorem KS.open_ (H : KS w0 w M s g f mb F gen ls en D L) : ∃ Hd : List Ent, St w0 w M (mp mb D :: eb s 138 (scells g mb) :: (Hd ++ L)) ∧
    ∀ w' M' L' D', M.le M' → PaIn M' D' → St w0 w' M' (mp mb D' :: eb s 138 (scells g mb) :: (Hd ++ L')) → KS w0 w' M' s g f mb F gen ls en D' L' := by
  obtain ⟨hD, H⟩ := H
  obtain ⟨Hd, h1, h2⟩ := H.head
  exact ⟨Hd, h1.perm mid_front, fun w' M' L' D' hM hD' h => ⟨hD', h2 _ _ _ hM (h.perm mid_front.symm)⟩⟩
theorem KS.c0 (H : KS w0 w M s g f mb F gen ls en D L) : w.cell? ⟨s, 0, none⟩ = some (.pointer (some ⟨g, 0, none⟩)) := by
  obtain ⟨Hd, h, _⟩ := H.open_
  exact h.cell 1 rfl 0
theorem KS.c1 (H : KS w0 w M s g f mb F gen ls en D L) : w.cell? ⟨s, 1, none⟩ = some (.map (some mb)) := by
  obtain ⟨Hd, h, _⟩ := H.open_
  exact h.cell 1 rfl 1
theorem KS.drew (H : KS w0 w M s g f mb F gen ls en D L) : KS w0 w.drew M s g f mb F gen ls en D L := ⟨H.1, H.2.drew⟩
theorem KS.rest (H : KS w0 w M s g f mb F gen ls en D L) : St w0 w M L := by
  obtain ⟨Hd, h, _⟩ := H.open_
  exact h.sub ((List.sublist_append_right Hd L).trans ((List.sublist_cons_self _ _).trans (List.sublist_cons_self _ _)))
theorem KS.drop {e : Ent} (H : KS w0 w M s g f mb F gen ls en D (e :: L)) : KS w0 w M s g f mb F gen ls en D L := by
  obtain ⟨Hd, h, hb⟩ := H.open_
  exact hb _ _ _ _ (Mem.le.refl _) H.1 (h.sub (.cons_cons _ (.cons_cons _ (List.Sublist.append (List.Sublist.refl _) (List.sublist_cons_self _ _)))))
theorem KS.apart (H : KS w0 w M s g f mb F gen ls en D L) : Kv.Apart (D.map Pa.pr) := by
  obtain ⟨Hd, h, _⟩ := H.open_
  obtain ⟨es, clock, hi, _⟩ := h.openMap
  unfold Kv.Apart
  rw [List.pairwise_map]
  exact hi.apart
/-- With what was laid on top. -/
theorem KS.top {e : Ent} {Hd : List Ent} (hb : ∀ w' M' L' D', M.le M' → PaIn M' D' → St w0 w' M' (mp mb D' :: eb s 138 (scells g mb) :: (Hd ++ L')) → KS w0 w' M' s g f mb F gen ls en D' L') {w' : World} {M' : Mem} {D' : List Pa} (hM : M.le M') (hD : PaIn M' D') (h : St w0 w' M' (e :: mp mb D' :: eb s 138 (scells g mb) :: (Hd ++ L))) : KS w0 w' M' s g f mb F gen ls en D' (e :: L) := by
  refine hb _ _ _ _ hM hD (h.perm ?_)
  have h1 : (Hd ++ e :: L).Perm (e :: (Hd ++ L)) := List.perm_middle
  exact ((List.Perm.swap _ _ _).trans ((List.Perm.swap _ _ _).cons _)).trans ((h1.symm.cons _).cons _)
theorem Sr.app {A : Option Addr} {l : List UInt8} {Hd : List Ent} (h : Sr w0 M L A l) : Sr w0 M (Hd ++ L) A l := fun w' M' hM H => h w' M' hM (H.sub (List.sublist_append_right Hd L))
theorem SrA.app {A : Option Addr} {l : List Value} {Hd : List Ent} (h : SrA w0 M L A l) : SrA w0 M (Hd ++ L) A l := fun w' M' hM H => h w' M' hM (H.sub (List.sublist_append_right Hd L))
theorem sis_any (H : KS w0 w M s g f mb F gen ls en D L) : Calls Tryz.prog 65 #[.pointer (some ⟨s, 0, none⟩)] w fun e w' => e = .returned (.bool true) ∧ w = w' := by
  have c0 := H.c0
  go_enter Tryz.func65, Tryz.ntmps65
  go_wp2
  go_ret
  exact ⟨rfl, rfl⟩
theorem map_len {P : Program} {t k e ty : TypeId} {g : Nat} (h : (mp g D).holds M w) (ht : P.underlying t = some (.map k e)) : (Builtin.len_ #[t] ty #[.map (some g)]).run P w = .ok (.int .i64 (D.length : Int)) w := by
  obtain ⟨h1, h2, es, clock, hb, hi⟩ := h
  rw [← hi.len]
  simp [Builtin.len_, run_underlying ht, MapKept.run_getObj_map hb, Result.andThen, goInt]
/-- What Get gives: a copy of its own. -/
def RetGet (w0 : World) (M : Mem) (s g f mb : Nat) (F : FM) (gen : Nat) (ls : List (List UInt8)) (en : Nat) (D : List Pa) (L : List Ent) (o : Option (List UInt8)) (e : Ending) (w' : World) : Prop :=
  ∃ v, e = .returned (.tuple #[v, .bool o.isSome]) ∧ KS w0 w' M s g f mb F gen ls en D (er 5 1 v (o.getD []).length (bv (o.getD [])) :: L)
set_option maxRecDepth 100000 in
theorem sget_any (H : KS w0 w M s g f mb F gen ls en D L) (key : List UInt8) (hsz : ∀ a ∈ D, a.p.l.length ≤ 1000000) :
    Calls Tryz.prog 52 #[.pointer (some ⟨s, 0, none⟩), .string (str key)] w (RetGet w0 M s g f mb F gen ls en D L ((getD_ D key).map fun a => a.p.l)) := by
  have c1 := H.c1
  have HI := Lib.hid (sis_any H)
  have hD := H.1
  obtain ⟨Hd, h, hb⟩ := H.open_
  have hz : ∀ w, (zeroValue 30).run Tryz.prog w = .ok (.slice none 0 0) w := fun w => by go_simp
  have hl := (map_lookup (P := Tryz.prog) (t := 134) (h.get 0 rfl) Tryz.underlying134 Tryz.underlying9 hz key).1
  unfold lookV at hl
  unfold RetGet
  cases hg : getD_ D key with
  | none =>
    rw [hg] at hl
    simp only [Option.isSome_none, Option.map_none, Option.getD_none, List.length_nil] at hl ⊢
    have hcl := clone_any (c := 0) h (A := none) (l := []) (fun _ => rfl) (Nat.le_refl _) (fun _ _ _ _ h => absurd rfl h) (by simp)
    have HCL := Lib.hid hcl
    clear hcl hg hz
    go_enter Tryz.func52, Tryz.ntmps52
    go_wp2_with fail
    refine HI.out.mono ?_
    rintro e w' ⟨rfl, rfl⟩
    go_wp2_with fail
    refine HCL.out.mono ?_
    rintro e w1 ⟨v1, rfl, H2⟩
    clear hl c1
    obtain ⟨A2, c2, rfl, -⟩ := H2.shape 0 rfl
    go_wp2
    go_ret2
    exact ⟨_, rfl, KS.top hb (Mem.le.refl _) hD H2⟩
  | some a =>
    rw [hg] at hl
    have ha := hD a (getD_mem hg).1
    have hsa := hsz a (getD_mem hg).1
    obtain ⟨k2, ⟨PA, PN, PC, PL⟩⟩ := a
    simp only [Option.isSome_some, Option.map_some, Option.getD_some, Pc.v] at hl ha hsa ⊢
    obtain ⟨⟨hPN, hPA, hPC⟩, hpr⟩ := ha
    simp only at hPN hPA hPC hpr
    have hcl := clone_any (c := PC) h (A := PA) (l := PL) hPA (by rw [← hPN]; exact hPC) (Sr.of_in hpr) (by omega)
    rw [← hPN] at hcl ⊢
    have HCL := Lib.hid hcl
    clear hcl hg hz hPN hPA hPC hpr hsa
    go_enter Tryz.func52, Tryz.ntmps52
    go_wp2_with fail
    refine HI.out.mono ?_
    rintro e w' ⟨rfl, rfl⟩
    go_wp2_with fail
    refine HCL.out.mono ?_
    rintro e w1 ⟨v1, rfl, H2⟩
    clear hl c1
    obtain ⟨A2, c2, rfl, -⟩ := H2.shape 0 rfl
    go_wp2
    go_ret2
    exact ⟨_, rfl, KS.top hb (Mem.le.refl _) hD H2⟩
end
end Go.Proofs.YtepgmebklhemgaaGreatDoor
