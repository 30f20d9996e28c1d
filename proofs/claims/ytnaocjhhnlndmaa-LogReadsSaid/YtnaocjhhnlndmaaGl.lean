/- The law's own small question (awake), layer 18 (under way). -/
import Derived.Test.YtnaocjhhnlndmaaGk
import Derived.Lib.SlBytesConst
set_option linter.unusedVariables false
set_option linter.unusedSimpArgs false
namespace Go.Proofs.Ytnaocjhhnlndmaa
open Go.RowKit Wd
def f18 : FM := FM.new 6
def abc : List UInt8 := [97, 98, 99]
def g18 : FM := (Lg.appF f18 0 0 abc).crash 0 0
theorem f18_gen : Lg.generation f18.l = 0 := by decide +kernel
theorem f18_rec : Lg.records 0 (Lg.half f18.l 0) = ([], 0) := by decide +kernel
theorem g18_n : g18.n = 6 := by decide +kernel
theorem g18_pend : (Lg.appF f18 0 0 abc).pend.length = 0 := by decide +kernel
theorem g18_gen : Lg.generation g18.l = 0 := by decide +kernel
theorem g18_rec : Lg.records 0 (Lg.half g18.l 0) = ([abc], 9) := by decide +kernel
def RetFresh (w0 : World) (M : Mem) (L : List Ent) (e : Ending) (w' : World) : Prop :=
  ∃ f g M', e = .returned (.tuple #[.pointer (some ⟨f, 0, none⟩), .pointer (some ⟨g, 0, none⟩), .bool true]) ∧ M.le M' ∧ LS w0 w' M' g f f18 0 [] 0 L
section
variable {w0 w : World} {M : Mem} {L : List Ent}
set_option maxRecDepth 100000 in
theorem fresh_any (H : St w0 w M L) : Calls Try.prog 21 #[.int .i64 6] w fun e w' => RetFresh w0 M L e w' := by
  have hn := fs_new H 6 (by decide) (by decide)
  go_enter Try.func21, Try.ntmps21
  go_wp2_with fail
  refine hn.mono ?_
  rintro e w1 ⟨f, rfl, H1⟩
  go_wp2_with fail
  refine (open_any H1 (by decide)).mono ?_
  rintro e w2 ⟨g, M', rfl, hM', H2⟩
  have e0 : FM.new 6 = f18 := rfl
  rw [e0, f18_gen, f18_rec] at H2
  go_wp2
  go_ret3
  exact ⟨f, g, M', rfl, hM', H2⟩
set_option maxRecDepth 100000 in
theorem awake18_any (H : St w0 w M L) : Calls Try.prog 5 #[] w fun e w' => e = .returned (.bool true) ∧ Below w0.heap.size w0 w' := by
  have kc := fun (w : World) (C : Array Value) (n c : Nat) => Lib.run_convert_bytes_const (P := Try.prog) w 22 5 C n c Try.underlying22 Try.underlying5
  go_enter Try.func5, Try.ntmps5
  go_wp2_with fail
  refine (fresh_any H).mono ?_
  rintro e w1 ⟨f, g, M1, rfl, hM1, H1⟩
  have hr := room_any H1 (by decide) (by decide) (by decide) (by decide)
  rw [show Lg.room (64 * Lg.halfN f18.n) 0 = 122 from by decide +kernel] at hr
  go_wp2_with fail
  refine hr.mono ?_
  rintro e w2 ⟨rfl, H2⟩
  obtain ⟨Z, HZ, hb0, hb1, hsr⟩ := H2.out
  obtain ⟨M2, hM2, H3, in2⟩ := HZ.constBytes abc 5 (3, 4)
  have H4 := hb0 _ _ hM2 H3
  have ha := append_any H4 (by decide) (by decide) (by decide) (B := some ⟨w2.heap.size, 0, none⟩) (d := 3) (m := 3) (b := abc) rfl (by rintro ⟨⟩) (by omega) (Sr.of_in in2) (by omega) (by decide +kernel) (by decide) (by decide)
  go_wp2_with fail
  refine ha.mono ?_
  rintro e w3 ⟨M3, rfl, hM3, v, ps, hrw, H5⟩
  have hc := fs_crash H5 0 0 (by rw [g18_pend]; decide) (by decide)
  clear H1 H2 H3 H4 HZ hb0 hb1 hsr hr ha in2
  go_wp2_with fail
  refine hc.mono ?_
  rintro e w4 ⟨rfl, H6⟩
  have H7 : FS w0 w4 M3 f g18 L := Fs_sub H6 (.cons _ (.cons _ (List.Sublist.refl _)))
  have ho := open_any H7 (by rw [g18_n]; decide)
  clear H5 H6 hc
  go_wp2_with fail
  refine ho.mono ?_
  rintro e w5 ⟨g2, M4, rfl, hM4, H8⟩
  rw [g18_gen, g18_rec] at H8
  have hget := get_any H8 0 (by decide) (by decide)
  clear ho
  go_wp2_with fail
  refine hget.mono ?_
  rintro e w6 ⟨v7, rfl, H9⟩
  change LS w0 w6 M4 g2 f g18 0 [abc] 9 (er 5 1 v7 3 (bv abc) :: L) at H9
  obtain ⟨Z9, HZ9, -, -, hs9⟩ := H9.out
  obtain ⟨A7, c7, rfl, hc7, hA7⟩ := (show St w0 w6 M4 [er 5 1 v7 3 (bv abc)] from by obtain ⟨_, _, _, h⟩ := H9; exact h.rest.sub (.cons _ (.cons _ (.cons_cons _ (List.nil_sublist _))))).shape' 0 rfl
  have cv := conv_RB (P := Try.prog) (src := 22) (dst := 9) (n := 3) (c := c7) Try.underlying22 Try.underlying5 Try.underlying9 ((hs9 A7 abc (Sr.row 0 rfl)).now HZ9) rfl
  have hl := len_any H9
  have hr := room_any H9 (by rw [g18_n]; decide) (by rw [g18_n]; decide) (by decide) (by decide)
  rw [show Lg.room (64 * Lg.halfN g18.n) 9 = 113 from by rw [g18_n]; decide +kernel] at hr
  simp only [abc] at cv
  have HL := Lib.hid hl
  have HR := Lib.hid hr
  clear hl hr hget hs9 HZ9
  go_wp2_with fail
  refine HL.out.mono ?_
  rintro e w7 ⟨rfl, rfl⟩
  go_wp2_with fail
  refine HR.out.mono ?_
  rintro e w7 ⟨rfl, H10⟩
  go_wp2
  go_ret
  refine ⟨rfl, ?_⟩
  obtain ⟨_, _, _, h⟩ := H10
  exact h.rest.below
end
end Go.Proofs.Ytnaocjhhnlndmaa
