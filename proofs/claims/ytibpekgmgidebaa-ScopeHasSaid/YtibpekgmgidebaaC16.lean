/- works. -/
import Derived.Test.YtibpekgmgidebaaC15
set_option linter.unusedSimpArgs false
set_option linter.unusedVariables false
namespace Go.Proofs.Ytibpekgmgidebaa.Sc
open Go.RowKit
open Od
open Lx (EnvS isName Name_any)
attribute [local go_sem] lvl_field1

theorem envS_below {w w' : World} {B : Nat} (E : EnvS w) (hb : Below B w w') (hB : 0 < B) : EnvS w' := by
  obtain ⟨m, hm⟩ := E.ml
  exact ⟨m, (hb.cell hB).trans hm⟩
theorem envS_lt {w : World} (E : EnvS w) : 0 < w.heap.size := by
  obtain ⟨m, hm⟩ := E.ml
  exact Lx.cell_lt hm
theorem EnvAt.lob {w : World} {B vb : Nat} {ls : List Lvl} {l : Lvl} (H : EnvAt w B vb (ls ++ [l])) : B ≤ l.b := (H.maps l (by simp)).1
theorem below_lvl {w w' w0 : World} {B vb : Nat} {ls : List Lvl} {l : Lvl} (H : EnvAt w B vb (ls ++ [l])) (hb : Below B w0 w) (hB : B ≤ w.heap.size) (hg : w.grownBy w' (some l.b)) : Below B w0 w' :=
  hb.grown hg hB (fun k e => by injection e with e; rw [← e]; exact H.lob)
def eA : Ent := ⟨nA, 3, 1, .nilIface, 0, 0, ⟨#[]⟩⟩
def nM : Nm := [77]
def e0 : Ent := ⟨[], 0, 0, .nilIface, 0, 0, ⟨#[]⟩⟩
set_option maxRecDepth 100000 in
set_option maxHeartbeats 6400000 in
theorem works_any {w : World} (E : EnvS w) : Calls Try.prog 4 #[] w fun r w' => r = .returned (.bool true) ∧ Below w.heap.size w w' := by
  have hlt := envS_lt E
  have HE := Lib.hid E
  have HLT := Lib.hid hlt
  clear E hlt
  go_enter Try.func4, Try.ntmps4
  go_wp2_with fail
  with_reducible refine (new_any w).mono ?_
  rintro r w1 ⟨vb, l0, rfl, hb1, he1, hba⟩
  have HB1 := Lib.hid hb1
  have HE1 := Lib.hid he1
  have HBA := Lib.hid hba
  clear hb1 he1 hba
  go_wp2_with fail
  with_reducible refine (open_any HE1.out false (by simp)).mono ?_
  rintro r w2 ⟨rfl, f1, he2, hb2⟩
  have HB2 := Lib.hid (HB1.out.trans hb2)
  have HE2 := Lib.hid he2
  generalize w1.heap.size = b1 at *
  clear hb2 he2 HE1 HB1
  have HP := Lib.hid (show Calls Try.prog 7 #[.pointer (some ⟨vb, 0, none⟩), .agg #[.string ⟨#[97]⟩, .int .u8 3, .int .i64 1, .nilIface, .int .i64 0, .int .i64 0, .string ⟨#[]⟩]] w2 _ from put_out HE2.out (envS_below HE.out HB2.out HLT.out) eA (by decide) (by show 1 ≤ 3 ∧ 3 ≤ 9; omega) rfl (by simp))
  go_wp2_with fail
  with_reducible refine HP.out.mono ?_
  rintro r w3 ⟨rfl, hg3, he3⟩
  have HB3 := Lib.hid (below_lvl HE2.out HB2.out HB2.out.size hg3)
  have HE3 := Lib.hid he3
  clear hg3 he3 HE2 HB2 HP
  go_wp2_with fail
  with_reducible refine (open_any HE3.out true (by simp)).mono ?_
  rintro r w4 ⟨rfl, f2, he4, hb4⟩
  have HB4 := Lib.hid (HB3.out.trans hb4)
  have HE4 := Lib.hid he4
  generalize w3.heap.size = b2 at *
  clear hb4 he4 HE3 HB3
  obtain ⟨l1, l2, HE5, HL1, HL2⟩ : ∃ l1 l2 : Lvl, Hid (EnvAt w4 w.heap.size vb ([l0, l1] ++ [l2])) ∧ Hid (nA ∈ l1.ks ∧ l1.f nA = (eA, .slice none 0 0)) ∧ Hid (l2.cl = true ∧ l2.ks = []) := ⟨_, _, HE4, Lib.hid ⟨by simp [eA], by simp [updI, eA]⟩, Lib.hid ⟨rfl, rfl⟩⟩
  clear HE4
  have HF1 := Lib.hid (show Calls Try.prog 11 #[.pointer (some ⟨vb, 0, none⟩), .string ⟨#[97]⟩] w4 (fun r w' => r = .returned (.tuple #[.agg #[.string ⟨#[]⟩, .int .u8 0, .int .i64 0, .nilIface, .int .i64 0, .int .i64 0, .string ⟨#[]⟩], .bool false]) ∧ w4.grownBy w' none) from Find_any HE5.out rfl nA (e0, .slice none 0 0) false rfl rfl (fun o => find_none (k := 2) (l := l2) (l0 := l0) (HE5.out.grown (World.grownBy_alloc _ o none)) (by show 2 < 3; omega) (by omega) rfl rfl nA (by rw [HL2.out.2]; simp) HL2.out.1 HBA.out.2.1))
  go_wp2_with fail
  with_reducible refine HF1.out.mono ?_
  rintro r w5 ⟨rfl, hg5⟩
  have HG5 := Lib.hid hg5
  clear hg5 HF1
  have HOU := Lib.hid (show ∀ wx, w4.grownBy wx none → Calls Try.prog 12 #[.pointer (some ⟨vb, 0, none⟩), .string ⟨#[97]⟩] wx (fun r w' => r = .returned (.tuple #[.agg #[.string ⟨#[97]⟩, .int .u8 3, .int .i64 1, .nilIface, .int .i64 0, .int .i64 0, .string ⟨#[]⟩], .bool true]) ∧ wx.grownBy w' none) from fun wx hg => Outer_any (HE5.out.grown hg) rfl nA (eA, .slice none 0 0) true rfl rfl (fun o => by have h := find_at (k := 1) (l := l1) ((HE5.out.grown hg).grown (World.grownBy_alloc _ o none)) (by show 1 < 3; omega) (by omega) rfl nA HL1.out.1; rw [HL1.out.2] at h; exact h))
  go_wp2_with fail
  with_reducible refine (HOU.out _ (grown_alloc HG5.out)).mono ?_
  rintro r w6 ⟨rfl, hg6⟩
  have HG6 := Lib.hid (grown_trans (grown_alloc HG5.out) hg6)
  clear hg6 HOU
  obtain ⟨tn, tk, tt, tl, ta, tm, tx, hft⟩ : ∃ a b c e' g h x, l0.f nT = (⟨a, b, c, .iface 41 (.bool true), e', g, h⟩, x) := by
    have h := (HBA.out.2.2 rfl).2
    rcases hf : l0.f nT with ⟨⟨a, b, c, v, e', g, h'⟩, x⟩
    rw [hf] at h
    dsimp only at h
    subst h
    exact ⟨_, _, _, _, _, _, _, rfl⟩
  have HTX := Lib.hid (show tx.oneCell' = true from by have h := (HE5.out.one l0 (by simp) nT (HBA.out.2.2 rfl).1).2; rw [hft] at h; exact h)
  have HFT := Lib.hid hft
  clear hft
  have HTR := Lib.hid (show ∀ wx, w4.grownBy wx none → Calls Try.prog 11 #[.pointer (some ⟨vb, 0, none⟩), .string ⟨#[84, 82, 85, 69]⟩] wx (fun r w' => r = .returned (.tuple #[.agg #[.string (S tn), .int .u8 tk, .int .i64 tt, .iface 41 (.bool true), .int .i64 tl, .int .i64 ta, .string tm], .bool true]) ∧ wx.grownBy w' none) from fun wx hg => Find_any (HE5.out.grown hg) rfl nT (⟨tn, tk, tt, .iface 41 (.bool true), tl, ta, tm⟩, tx) true rfl HTX.out (fun o => by have h := find_base (k := 2) (l := l2) (l0 := l0) ((HE5.out.grown hg).grown (World.grownBy_alloc _ o none)) (by show 2 < 3; omega) (by omega) rfl rfl nT (by rw [HL2.out.2]; simp) HL2.out.1 (HBA.out.2.2 rfl).1; rw [HFT.out] at h; exact h))
  go_wp2_with fail
  with_reducible refine (HTR.out _ (grown_alloc HG6.out)).mono ?_
  rintro r w7 ⟨rfl, hg7⟩
  have HG7 := Lib.hid (grown_trans (grown_alloc HG6.out) hg7)
  have HX7 := Lib.hid hg7
  clear hg7 HTR
  have HUN := Lib.hid (fun (wx : World) (b : Nat) (hg : w4.grownBy wx none) (hb : wx.heap[b]? = some (.cells #[.string ⟨#[98]⟩, .int .u8 1, .int .i64 0, .nilIface, .int .i64 0, .int .i64 0, .string ⟨#[]⟩] 31 (0, 0))) => show Calls Try.prog 13 #[.pointer (some ⟨vb, 0, none⟩), .string ⟨#[77]⟩, .slice (some ⟨b, 0, none⟩) 1 1] wx _ from unit_any (HE5.out.grown hg) (envS_grown (envS_below HE.out HB4.out HLT.out) hg (by simp)) nM (by decide) (by rw [HL2.out.2]; simp) hb (by simp [Value.oneCell']))
  go_wp2_with fail
  have hb8 : ((w7.alloc (.cells #[.string (S tn), .int .u8 tk, .int .i64 tt, .iface 41 (.bool true), .int .i64 tl, .int .i64 ta, .string tm] 31)).alloc (.cells #[.string ⟨#[98]⟩, .int .u8 1, .int .i64 0, .nilIface, .int .i64 0, .int .i64 0, .string ⟨#[]⟩] 31)).heap[w7.heap.size + 1]? = some (.cells #[.string ⟨#[98]⟩, .int .u8 1, .int .i64 0, .nilIface, .int .i64 0, .int .i64 0, .string ⟨#[]⟩] 31 (0, 0)) := by
    have h := heap_alloc_new (w7.alloc (.cells #[.string (S tn), .int .u8 tk, .int .i64 tt, .iface 41 (.bool true), .int .i64 tl, .int .i64 ta, .string tm] 31)) (.cells #[.string ⟨#[98]⟩, .int .u8 1, .int .i64 0, .nilIface, .int .i64 0, .int .i64 0, .string ⟨#[]⟩] 31)
    rw [World.size_alloc] at h
    exact h
  with_reducible refine (HUN.out _ _ (grown_alloc (grown_alloc HG7.out)) hb8).mono ?_
  rintro r w9 ⟨rfl, g, cap, cur, he9, hg9, hgl, hgc, hgt⟩
  have hl2 : l2.b < w4.heap.size := (HE5.out.maps l2 (by simp)).2.lt
  have h46 := HG6.out.size
  have h67 : w6.heap.size + 1 ≤ w7.heap.size := by have := HX7.out.size; simpa using this
  have q6 : w9.heap[w6.heap.size]? = some (.cells #[.string ⟨#[97]⟩, .int .u8 3, .int .i64 1, .nilIface, .int .i64 0, .int .i64 0, .string ⟨#[]⟩] 31 (0, 0)) :=
    (hg9.block _ (by simp; omega) (fun e => by injection e with e; omega)).trans ((heap_alloc_old _ _ (by simp; omega)).trans ((heap_alloc_old _ _ (by omega)).trans ((HX7.out.block _ (by simp) (by simp)).trans (heap_alloc_new w6 _))))
  have q7 : w9.heap[w7.heap.size]? = some (.cells #[.string (S tn), .int .u8 tk, .int .i64 tt, .iface 41 (.bool true), .int .i64 tl, .int .i64 ta, .string tm] 31 (0, 0)) :=
    (hg9.block _ (by simp; omega) (fun e => by injection e with e; omega)).trans ((heap_alloc_old _ _ (by simp)).trans (heap_alloc_new w7 _))
  have hB9 : Below w.heap.size w w9 := HB4.out.grown (grown_trans (grown_alloc (grown_alloc HG7.out)) hg9) HB4.out.size (fun k e => by injection e with e; rw [← e]; exact HE5.out.lob)
  have HOF := Lib.hid (show Calls Try.prog 14 #[.pointer (some ⟨vb, 0, none⟩), .string ⟨#[77]⟩, .string ⟨#[98]⟩] w9 _ from Of_any (ls := [l0, l1] ++ [⟨l2.cl, l2.b, l2.ks ++ [nM], updI l2.f nM (eU nM, .slice (some ⟨g, 0, none⟩) 1 cap)⟩]) he9 rfl nM ⟨#[98]⟩ (cap := cap) hgc hgt (by simp [Value.oneCell']) (fun o o2 => by have h := find_at (k := 2) (l := ⟨l2.cl, l2.b, l2.ks ++ [nM], updI l2.f nM (eU nM, .slice (some ⟨g, 0, none⟩) 1 cap)⟩) ((he9.grown (World.grownBy_alloc _ o none)).grown (World.grownBy_alloc _ o2 none)) (by show 2 < 3; omega) (by omega) rfl nM (by simp); dsimp only at h; rw [show (updI l2.f nM (eU nM, .slice (some ⟨g, 0, none⟩) 1 cap)) nM = (eU nM, .slice (some ⟨g, 0, none⟩) 1 cap) by simp [updI]] at h; exact h))
  have HE9 := Lib.hid he9
  have HB9 := Lib.hid hB9
  have HQ6 := Lib.hid q6
  have HQ7 := Lib.hid q7
  clear hb8 he9 hg9 hgl hgc hgt hl2 h46 h67 q6 q7 hB9 HUN HX7 HG7 HG6 HG5
  go_wp2_with fail
  with_reducible refine HOF.out.mono ?_
  rintro r wa ⟨rfl, hga⟩
  have c6 := fun j => (World.cell?_of_block (a := ⟨w6.heap.size, j, none⟩) (hga.block w6.heap.size (Array.getElem?_eq_some_iff.1 HQ6.out).1 (by simp))).trans (cell_of_row _ _ j _ _ _ HQ6.out)
  have c7 := fun j => (World.cell?_of_block (a := ⟨w7.heap.size, j, none⟩) (hga.block w7.heap.size (Array.getElem?_eq_some_iff.1 HQ7.out).1 (by simp))).trans (cell_of_row _ _ j _ _ _ HQ7.out)
  have c62 := c6 2
  have c73 := c7 3
  simp only [List.getElem?_toArray, List.getElem?_cons_zero, List.getElem?_cons_succ] at c62 c73
  have l6 := Nat.lt_of_lt_of_le (Array.getElem?_eq_some_iff.1 HQ6.out).1 hga.size
  have l7 := Nat.lt_of_lt_of_le (Array.getElem?_eq_some_iff.1 HQ7.out).1 hga.size
  have HGA := Lib.hid hga
  have HSM := Lib.hid (fun (wx : World) => same_true wx)
  clear c6 c7 hga HOF
  go_wp2_with fail
  with_reducible refine (HSM.out _).mono ?_
  rintro r wb ⟨rfl, hgb⟩
  have y1 := boxed (w := wa) (w' := wb) hgb 1
  simp only [List.getElem?_toArray, List.getElem?_cons_zero, List.getElem?_cons_succ] at y1
  have HGC := Lib.hid (grown_trans HGA.out (grown_trans (World.grownBy_alloc wa _ none) hgb))
  have HDP := Lib.hid (show Calls Try.prog 16 #[.pointer (some ⟨vb, 0, none⟩)] wb (fun e w' => e = .returned (.int .i64 3) ∧ w' = wb) from (deep_any (HE9.out.grown HGC.out)).mono fun e w' ⟨h1, h2⟩ => ⟨h1, h2⟩)
  clear hgb
  go_wp2_with fail
  with_reducible refine HDP.out.mono ?_
  rintro r wc ⟨rfl, hw⟩
  have hw2 := hw.symm
  subst hw2
  clear hw
  go_wp2
  go_ret
  exact ⟨by simp, HB9.out.grown HGC.out HB9.out.size (fun k e => by cases e)⟩
end Go.Proofs.Ytibpekgmgidebaa.Sc
