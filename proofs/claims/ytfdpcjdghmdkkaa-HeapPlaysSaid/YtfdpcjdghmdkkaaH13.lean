/- alive; HeapNil. -/
import Derived.Test.YtfdpcjdghmdkkaaH12
import Derived.Test.YtfdpcjdghmdkkaaS11
set_option linter.unusedSimpArgs false
set_option linter.unusedVariables false
namespace Go.Proofs.Ytfdpcjdghmdkkaa.Hp
open Go.RowKit Go.Sort
/-- A state in memory. -/
structure St (w : World) (h b fr n last : Nat) (ks : List Nat) (g : Nat → Bk) : Prop where
  at_ : HpAt w h b fr n last ks g
  ok : OKSt fr n last ks g
theorem St.keeps {w w' : World} {h b fr n last : Nat} {ks : List Nat} {g : Nat → Bk} (S : St w h b fr n last ks g) (hb : Below w.heap.size w w') : St w' h b fr n last ks g :=
  ⟨S.at_.below hb S.at_.lt S.at_.map.lt, S.ok⟩
/-- Make where the place is known. -/
theorem make_at {w : World} {h b fr n last : Nat} {ks : List Nat} {g : Nat → Bk} (S : St w h b fr n last ks g) {m a : Nat} (hm : 1 ≤ m) (hhi : m ≤ 65536) (hl : last < 65535) (hf : Fits fr n ks g a m) (hmin : ∀ a', Fits fr n ks g a' m → a ≤ a') :
    Calls Try.prog 19 #[.pointer (some ⟨h, 0, none⟩), .int .i64 (m : Nat)] w fun e w' => e = .returned (.tuple #[.int .u16 ((last + 1 : Nat) : Int), .int .i64 (a : Nat), .int .i64 0]) ∧ St w' h b fr n (last + 1) (ks ++ [last + 1]) (updB g (last + 1) (mkB a m)) ∧ Keeps2 h b w w' := by
  refine (make_plain S.at_ S.ok hm (by omega)).mono ?_
  rintro e w' ⟨hk, ⟨a2, h1, h2, h3, h4, h5, h6⟩ | ⟨h1, h2, h3⟩⟩
  · have : a2 = a := Nat.le_antisymm (h3 a hf) (hmin a2 h2)
    subst this
    exact ⟨h4, ⟨h5, h6⟩, hk⟩
  · rcases h1 with h1 | h1
    · omega
    · exact absurd hf (h1 a)
theorem make_full {w : World} {h b fr n last : Nat} {ks : List Nat} {g : Nat → Bk} (S : St w h b fr n last ks g) {m : Nat} (hm : 1 ≤ m) (hhi : m ≤ 65536) (hno : ∀ a', ¬ Fits fr n ks g a' m) :
    Calls Try.prog 19 #[.pointer (some ⟨h, 0, none⟩), .int .i64 (m : Nat)] w fun e w' => e = .returned (.tuple #[.int .u16 0, .int .i64 0, .int .i64 4]) ∧ St w' h b fr n last ks g ∧ Keeps2 h b w w' := by
  refine (make_plain S.at_ S.ok hm (by omega)).mono ?_
  rintro e w' ⟨hk, ⟨a2, h1, h2, h3, h4, h5, h6⟩ | ⟨h1, h2, h3⟩⟩
  · exact absurd h2 (hno a2)
  · exact ⟨h2, ⟨h3, S.ok⟩, hk⟩
def gA : Nat → Bk := fun _ => mkB 0 0
def gA1 : Nat → Bk := updB gA 1 (mkB 1 4)
def gA2 : Nat → Bk := updB gA1 2 (mkB 5 4)
def gA3 : Nat → Bk := updB gA2 3 (mkB 1 3)
def gA4 : Nat → Bk := updB gA3 4 (mkB 4 1)
theorem gA_vals : (gA1 1).out = (1, 4) ∧ (gA2 1).out = (1, 4) ∧ (gA2 2).out = (5, 4) ∧ (gA3 2).out = (5, 4) ∧ (gA3 3).out = (1, 3) ∧ (gA4 2).out = (5, 4) ∧ (gA4 3).out = (1, 3) ∧ (gA4 4).out = (4, 1) := by
  refine ⟨?_, ?_, ?_, ?_, ?_, ?_, ?_, ?_⟩ <;> rfl
theorem out_fst {x : Bk} {a m : Nat} (h : x.out = (a, m)) : x.1.val = a ∧ x.2 = m := ⟨congrArg Prod.fst h, congrArg Prod.snd h⟩
set_option maxRecDepth 100000 in
set_option maxHeartbeats 3200000 in
theorem alive_any (w : World) : Calls Try.prog 7 #[] w fun e w' => e = .returned (.bool true) ∧ Below w.heap.size w w' := by
  obtain ⟨v1, v2, v3, v4, v5, v6, v7, v8⟩ := gA_vals
  obtain ⟨a1, b1⟩ := out_fst v1
  obtain ⟨a2, b2⟩ := out_fst v2
  obtain ⟨a3, b3⟩ := out_fst v3
  obtain ⟨a4, b4⟩ := out_fst v4
  obtain ⟨a5, b5⟩ := out_fst v5
  obtain ⟨a6, b6⟩ := out_fst v6
  obtain ⟨a7, b7⟩ := out_fst v7
  obtain ⟨a8, b8⟩ := out_fst v8
  have h := w.heap.size + 1
  have C0 := Lib.hid (new_good 1 10 w (by decide) (by decide) gA)
  have C1 := Lib.hid (fun (w' : World) (S : St w' (w.heap.size + 1) w.heap.size 1 10 0 [] gA) => make_at (a := 1) (m := 4) S (by decide) (by decide) (by decide) ⟨by decide, by decide, nomem⟩ (fun a' hf => hf.1))
  have C2 := Lib.hid (fun (w' : World) (S : St w' (w.heap.size + 1) w.heap.size 1 10 1 [1] gA1) => make_at (a := 5) (m := 4) S (by decide) (by decide) (by decide) ⟨by decide, by decide, by intro k hk; rw [List.mem_singleton] at hk; subst hk; omega⟩ (fun a' hf => by have := hf.1; have := hf.2.2 1 (by simp); omega))
  have C3 := Lib.hid (fun (w' : World) (S : St w' (w.heap.size + 1) w.heap.size 1 10 2 [1, 2] gA2) => make_full (m := 4) S (by decide) (by decide) (fun a' hf => by have := hf.1; have := hf.2.1; have := hf.2.2 1 (by simp); have := hf.2.2 2 (by simp); omega))
  have C5 := Lib.hid (fun (w' : World) (S : St w' (w.heap.size + 1) w.heap.size 1 10 2 [2] gA2) => make_at (a := 1) (m := 3) S (by decide) (by decide) (by decide) ⟨by decide, by decide, by intro k hk; rw [List.mem_singleton] at hk; subst hk; omega⟩ (fun a' hf => hf.1))
  have C6 := Lib.hid (fun (w' : World) (S : St w' (w.heap.size + 1) w.heap.size 1 10 3 [2, 3] gA3) => make_at (a := 4) (m := 1) S (by decide) (by decide) (by decide) ⟨by decide, by decide, by intro k hk; simp at hk; rcases hk with rfl | rfl <;> omega⟩ (fun a' hf => by have := hf.1; have := hf.2.2 3 (by simp); omega))
  have HB0 : Hid (sumB gA4 [2, 3, 4] = 8) := Lib.hid (by simp [sumB, b6, b7, b8])
  clear a1 b1 a2 b2 a3 b3 a4 b4 a5 b5 a6 b6 a7 b7 a8 b8 v1 v2 v3 v4 v5 v6 v7 v8 h
  go_enter Try.func7, Try.ntmps7
  go_wp2_with fail
  refine C0.out.mono ?_
  rintro e w1 ⟨rfl, hp, hb⟩
  have S0 := Lib.hid (show St w1 (w.heap.size + 1) w.heap.size 1 10 0 [] gA from ⟨hp, OKSt.start (by decide) (by decide) _⟩)
  have B0 := Lib.hid hb
  clear hp hb
  go_wp2_with fail
  refine (C1.out _ S0.out).mono ?_
  rintro e w2 ⟨rfl, hs, hk⟩
  have S1 := Lib.hid (show St w2 (w.heap.size + 1) w.heap.size 1 10 1 [1] gA1 from hs)
  have B1 := Lib.hid (B0.out.trans (hk.below B0.out.size (Nat.le_succ _) (Nat.le_refl _)))
  clear hs hk
  go_wp2_with fail
  refine (C2.out _ S1.out).mono ?_
  rintro e w3 ⟨rfl, hs, hk⟩
  have S2 := Lib.hid (show St w3 (w.heap.size + 1) w.heap.size 1 10 2 [1, 2] gA2 from hs)
  have B2 := Lib.hid (B1.out.trans (hk.below B1.out.size (Nat.le_succ _) (Nat.le_refl _)))
  clear hs hk
  go_wp2_with fail
  refine (C3.out _ S2.out).mono ?_
  rintro e w4 ⟨rfl, hs, hk⟩
  have S3 := Lib.hid hs
  have B3 := Lib.hid (B2.out.trans (hk.below B2.out.size (Nat.le_succ _) (Nat.le_refl _)))
  clear hs hk
  go_wp2_with fail
  refine (free_any S3.out.at_ 1).mono ?_
  rintro e w5 ⟨rfl, hp, hk⟩
  have S4 := Lib.hid (show St w5 (w.heap.size + 1) w.heap.size 1 10 2 [2] gA2 from ⟨hp, S3.out.ok.freed 1⟩)
  have B4 := Lib.hid (B3.out.trans (hk.below B3.out.size (Nat.le_succ _) (Nat.le_refl _)))
  clear hp hk
  go_wp2_with fail
  refine (C5.out _ S4.out).mono ?_
  rintro e w6 ⟨rfl, hs, hk⟩
  have S5 := Lib.hid (show St w6 (w.heap.size + 1) w.heap.size 1 10 3 [2, 3] gA3 from hs)
  have B5 := Lib.hid (B4.out.trans (hk.below B4.out.size (Nat.le_succ _) (Nat.le_refl _)))
  clear hs hk
  go_wp2_with fail
  refine (C6.out _ S5.out).mono ?_
  rintro e w7 ⟨rfl, hs, hk⟩
  have S6 := Lib.hid (show St w7 (w.heap.size + 1) w.heap.size 1 10 4 [2, 3, 4] gA4 from hs)
  have B6 := Lib.hid (B5.out.trans (hk.below B5.out.size (Nat.le_succ _) (Nat.le_refl _)))
  clear hs hk
  go_wp2_with fail
  refine (at_out S6.out.at_ (m := 1) (by decide)).mono ?_
  rintro e w8 ⟨rfl, hb⟩
  have S7 := Lib.hid (S6.out.keeps hb)
  have B7 := Lib.hid (B6.out.trans (hb.mono B6.out.size))
  clear hb
  go_wp2_with fail
  have HRM := Lib.hid (room_any S7.out.at_ (by rw [HB0.out]; decide) (by decide))
  refine HRM.out.mono ?_
  rintro e w9 ⟨rfl, hb⟩
  have S8 := Lib.hid (S7.out.keeps hb)
  have B8 := Lib.hid (B7.out.trans (hb.mono B7.out.size))
  have hr : ((10 - sumB gA4 [2, 3, 4] : Nat) : Int) = 2 := by rw [HB0.out]; rfl
  rw [hr]
  clear hb hr
  go_wp2_with fail
  refine (last_any S8.out.at_ (by decide)).mono ?_
  rintro e w10 ⟨rfl, hw⟩
  have hw2 := hw.symm
  subst hw2
  clear hw
  go_wp2_with fail
  refine (live_any S8.out.at_ (by decide)).mono ?_
  rintro e w11 ⟨v, l, rfl, hp, hs, hrow, hb⟩
  have hl : l.length = 3 := hp.length_eq
  rw [hl] at hrow
  obtain ⟨A, c, rfl, _⟩ := own_form hrow
  have B9 := Lib.hid (B8.out.trans (hb.mono B8.out.size))
  clear hp hs hrow hb hl
  go_wp2
  go_ret
  exact ⟨rfl, B9.out⟩
set_option maxRecDepth 100000 in
set_option maxHeartbeats 3200000 in
theorem nil_walk (n : Int) (m : Int) (w : World) : Calls Try.prog 6 #[.int .i64 n, .int .u16 m] w fun e w' => e = .returned (.bool true) ∧ Below w.heap.size w w' := by
  have c1 := make_nil n
  have c2 := at_nil m
  have c3 := free_nil m
  have c4 := live_nil
  have c5 := room_nil
  have c6 := last_nil
  have c7 := alive_any
  go_enter Try.func6, Try.ntmps6
  go_wp2_with (first
    | (go_at_call 19; refine (c1 _).mono ?_; rintro e w' ⟨rfl, hw⟩; have hw2 := hw.symm; subst hw2; clear hw)
    | (go_at_call 14; refine (c2 _).mono ?_; rintro e w' ⟨rfl, hw⟩; have hw2 := hw.symm; subst hw2; clear hw)
    | (go_at_call 20; refine (c3 _).mono ?_; rintro e w' ⟨rfl, hw⟩; have hw2 := hw.symm; subst hw2; clear hw)
    | (go_at_call 17; refine (c4 _).mono ?_; rintro e w' ⟨rfl, hw⟩; have hw2 := hw.symm; subst hw2; clear hw)
    | (go_at_call 11; refine (c5 _).mono ?_; rintro e w' ⟨rfl, hw⟩; have hw2 := hw.symm; subst hw2; clear hw)
    | (go_at_call 13; refine (c6 _).mono ?_; rintro e w' ⟨rfl, hw⟩; have hw2 := hw.symm; subst hw2; clear hw)
    | (go_at_call 7; refine (c7 _).mono ?_; rintro e w' ⟨rfl, hb⟩))
  go_ret
  exact ⟨rfl, hb⟩
end Go.Proofs.Ytfdpcjdghmdkkaa.Hp
