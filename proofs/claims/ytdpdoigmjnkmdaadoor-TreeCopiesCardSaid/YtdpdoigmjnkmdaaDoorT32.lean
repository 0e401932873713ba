/- The walk of works. -/
import Derived.Test.YtdpdoigmjnkmdaaDoorT31
import Derived.Outline
set_option linter.unusedSimpArgs false
set_option linter.unusedVariables false
namespace Go.Proofs.YtdpdoigmjnkmdaaDoor.Tr
open Go.RowKit
open Fl

theorem EnvW.tab {w : World} (h : EnvW w) : Pl.Tab w := by
  obtain ⟨_, ⟨h1, _⟩, _⟩ := h; exact h1
theorem read_y (w : World) (h : EnvW w) : Calls Tryd.prog 20 #[.string ⟨#[40, 50, 32, 45, 32, 48, 58, 32, 45, 51, 32, 40, 49, 32, 49, 58, 49, 32, 50, 58, 97, 98, 32, 48, 41, 32, 40, 48, 32, 45, 32, 48, 58, 32, 48, 41, 41]⟩] w fun e w' => ∃ b, e = .returned (.tuple #[.pointer (some ⟨b, 0, none⟩), .int .i64 0]) ∧ Below w.heap.size w w' ∧ RepS (fun x => w.heap.size ≤ x) w' (.node dY kY .no) [.pointer (some ⟨b, 0, none⟩)] := by
  have c := read_any (txt1 dY kY) w (by rw [txt_y]; simp) h.mx h.tabs h.sz
  have e : (⟨(txt1 dY kY).toArray⟩ : ByteArray) = ⟨#[40, 50, 32, 45, 32, 48, 58, 32, 45, 51, 32, 40, 49, 32, 49, 58, 49, 32, 50, 58, 97, 98, 32, 48, 41, 32, 40, 48, 32, 45, 32, 48, 58, 32, 48, 41, 41]⟩ := by rw [txt_y]
  rw [e] at c
  refine c.mono fun e w' hr => ?_
  have hn := all_nrm yAll
  rcases hr with ⟨d, k, u, he, h1, h2, h3, _, _, h4, h5⟩ | ⟨c, he, hc, _, herr⟩
  · obtain ⟨rfl, rfl, _⟩ := txt1_part (x := []) (y := []) hn.1 h1 hn.2.1 h2 (by rw [h3])
    obtain ⟨b, _, _, _, rfl, _⟩ := h5.rep.one
    exact ⟨b, he, h4, h5⟩
  · exfalso
    have hd : kY.deep = 1 := by decide
    have hk : cnt1 kY = 3 := by decide
    rcases herr dY kY hn.1 hn.2.1 rfl with ⟨_, h⟩ | ⟨_, h⟩ <;> omega
theorem new_x (w : World) : Calls Tryd.prog 22 #[.int .u8 1, .complex .f64 (fl 1) (fl 1), .string ⟨#[97, 98]⟩, .int .i64 0, .slice none 0 0] w fun e w' => ∃ b, e = .returned (.pointer (some ⟨b, 0, none⟩)) ∧ Below w.heap.size w w' ∧ Rep w' (.node dX .no .no) [.pointer (some ⟨b, 0, none⟩)] :=
  (new_any (fun _ => False) 1 1 1 ⟨#[97, 98]⟩ 0 none 0 [] .no w (by simp) Reads.none_ (by unfold RepN; rfl)).mono fun e w' ⟨u, h1, h2, h3⟩ => by
    obtain ⟨b, _, _, _, rfl, _⟩ := h3.rep.one
    exact ⟨b, h1, h2, h3.rep⟩
theorem reads_two (w : World) (u v : Value) : Reads (w.alloc (.cells #[u, v] 25)) (w.alloc (.cells #[u, v] 25)).heap.size 1 (some ⟨w.heap.size, 0, none⟩) 2 [u, v] := by
  refine ⟨by simp, fun _ => ⟨_, rfl, by simp, fun j x hx => ?_⟩⟩
  exact World.news_of_block (cs := #[u, v]) (t := 25) (fr := (0, 0)) (heap_alloc_new w _) j x hx
theorem new_y (b : Nat) (w : World) (hx : Rep w (.node dX .no .no) [.pointer (some ⟨b, 0, none⟩)]) : Calls Tryd.prog 22 #[.int .u8 2, .complex .f64 0 0, .string ⟨#[]⟩, .int .i64 (-3), .slice (some ⟨w.heap.size, 0, none⟩) 2 2] (w.alloc (.cells #[.pointer (some ⟨b, 0, none⟩), .pointer none] 25)) fun e w' => ∃ b, e = .returned (.pointer (some ⟨b, 0, none⟩)) ∧ Below w.heap.size w w' ∧ Rep w' (.node dY kY .no) [.pointer (some ⟨b, 0, none⟩)] := by
  have hb : Below w.heap.size w (w.alloc (.cells #[.pointer (some ⟨b, 0, none⟩), .pointer none] 25)) := (Below.refl _ _).alloc (Nat.le_refl _) _
  have c := new_any (fun _ => True) 2 0 0 ⟨#[]⟩ (-3) (some ⟨w.heap.size, 0, none⟩) 2 [.pointer (some ⟨b, 0, none⟩), .pointer none] kY (w.alloc (.cells #[.pointer (some ⟨b, 0, none⟩), .pointer none] 25)) (by simp) (reads_two w _ _) (by
    unfold kY RepN
    refine ⟨_, _, rfl, .inr ((hx.below hb).lt_.more fun _ _ _ => trivial), ?_⟩
    unfold RepN
    exact ⟨_, _, rfl, .inl ⟨rfl, rfl, rfl⟩, by unfold RepN; rfl⟩)
  rw [fl_0] at c
  exact c.mono fun e w' ⟨u, h1, h2, h3⟩ => by
    obtain ⟨b, _, _, _, rfl, _⟩ := h3.rep.one
    exact ⟨b, h1, hb.trans (h2.mono hb.size), h3.rep⟩
set_option maxRecDepth 100000 in
set_option maxHeartbeats 6400000 in
theorem works_any (w : World) (h : EnvW w) : Calls Tryd.prog 9 #[] w fun e w' => e = .returned (.bool true) ∧ Below w.heap.size w w' := by
  have HE := Lib.hid h
  clear h
  have hof := fun w' => Pl.Of_any 1 1 w'
  have h11 : Pl.ofN 1 1 = (1, 1) := rfl
  rw [h11] at hof
  unfold Pl.C at hof
  simp only at hof
  have HO := Lib.hid hof
  clear hof h11
  have hL : (⟨(txt1 dX .no).toArray⟩ : ByteArray) = ⟨#[40, 49, 32, 49, 58, 49, 32, 50, 58, 97, 98, 32, 48, 41]⟩ := by rw [txt_x]
  have hM : (⟨(txt1 dY kY).toArray⟩ : ByteArray) = ⟨#[40, 50, 32, 45, 32, 48, 58, 32, 45, 51, 32, 40, 49, 32, 49, 58, 49, 32, 50, 58, 97, 98, 32, 48, 41, 32, 40, 48, 32, 45, 32, 48, 58, 32, 48, 41, 41]⟩ := by rw [txt_y]
  have cX := fun (w' : World) (v : Value) => text1 (.node dX .no .no) v w' (by decide) ⟨dX_fine.2.1, trivial, trivial⟩ (by show (txt1 dX .no).length ≤ _; rw [txt_x]; simp)
  have cY := fun (w' : World) (v : Value) => text1 (.node dY kY .no) v w' (by decide) (all_ok yAll) (by show (txt1 dY kY).length ≤ _; rw [txt_y]; simp)
  unfold txtT at cX cY
  rw [hL] at cX
  rw [hM] at cY
  have HX := Lib.hid cX
  have HY := Lib.hid cY
  have hS := fun (w' : World) (v v' : Value) => same1 (.node dY kY .no) (.node dY kY .no) v v' w' (by decide)
  rw [Fo.same_refl] at hS
  have HS := Lib.hid hS
  have hC := fun (w' : World) (v : Value) => count1 (.node dY kY .no) v w' (by decide)
  rw [show ((Fo.node dY kY .no).count : Nat) = 3 by decide] at hC
  have HC := Lib.hid hC
  have hD := fun (w' : World) (v : Value) => deep1 (.node dY kY .no) v w' (by decide)
  rw [show ((Fo.node dY kY .no).deep : Nat) = 2 by decide] at hD
  have HD := Lib.hid hD
  clear hL hM cX cY hS hC hD
  go_enter Tryd.func9, Tryd.ntmps9
  go_wp2_with fail
  ((with_reducible refine (HO.out _).mono ?_); rintro e w1 ⟨rfl, rfl⟩)
  go_wp2_with fail
  ((with_reducible refine (new_x _).mono ?_); rintro e w1 ⟨bx, rfl, hb1, hr1⟩)
  have B1 := Lib.hid hb1
  have X1 := Lib.hid hr1
  clear hb1 hr1
  go_wp2_with fail
  ((with_reducible refine (new_y bx w1 X1.out).mono ?_); rintro e w2 ⟨by_, rfl, hb2, hr2⟩)
  have B2 := Lib.hid (B1.out.trans (hb2.mono B1.out.size))
  have X2 := Lib.hid (X1.out.below hb2)
  have Y2 := Lib.hid hr2
  clear hb2 hr2
  go_wp2_with fail
  ((with_reducible refine (read_y w2 (HE.out.below B2.out)).mono ?_); rintro e w3 ⟨bz, rfl, hb3, hr3⟩)
  have B3 := Lib.hid (B2.out.trans (hb3.mono B2.out.size))
  have X3 := Lib.hid (One.some_ ((X2.out.below hb3).lt_))
  have Y3 := Lib.hid (One.some_ ((Y2.out.below hb3).lt_))
  have Z3 := Lib.hid (One.some_ hr3)
  clear hb3 hr3 X1 X2 Y2
  go_wp2_with fail
  ((with_reducible refine (HX.out w3 _ (HE.out.below B3.out).tab X3.out).mono ?_); rintro e w4 ⟨rfl, hb4⟩)
  have B4 := Lib.hid (B3.out.trans (hb4.mono B3.out.size))
  have Y4 := Lib.hid (Y3.out.below hb4)
  have Z4 := Lib.hid (Z3.out.below hb4)
  clear hb4
  go_wp2_with fail
  ((with_reducible refine (HS.out w4 _ _ Y4.out Z4.out).mono ?_); rintro e w5 ⟨rfl, hb5⟩)
  have B5 := Lib.hid (B4.out.trans (hb5.mono B4.out.size))
  have Y5 := Lib.hid (Y4.out.below hb5)
  clear hb5
  go_wp2_with fail
  ((with_reducible refine (HC.out w5 _ Y5.out).mono ?_); rintro e w6 ⟨rfl, hb6⟩)
  have B6 := Lib.hid (B5.out.trans (hb6.mono B5.out.size))
  have Y6 := Lib.hid (Y5.out.below hb6)
  clear hb6
  go_wp2_with fail
  ((with_reducible refine (HD.out w6 _ Y6.out).mono ?_); rintro e w7 ⟨rfl, hb7⟩)
  have B7 := Lib.hid (B6.out.trans (hb7.mono B6.out.size))
  have Y7 := Lib.hid (Y6.out.below hb7)
  clear hb7
  go_wp2_with fail
  ((with_reducible refine (HY.out w7 _ (HE.out.below B7.out).tab Y7.out).mono ?_); rintro e w8 ⟨rfl, hb8⟩)
  have B8 := Lib.hid (B7.out.trans (hb8.mono B7.out.size))
  clear hb8
  go_wp2
  go_ret
  exact ⟨rfl, B8.out⟩
end Go.Proofs.YtdpdoigmjnkmdaaDoor.Tr
