/- The walk of the law PlaceOrder. -/
import Derived.Test.YtpomnihgimgpdaaDoorL0
set_option linter.unusedSimpArgs false
set_option linter.unusedVariables false
namespace Go.Proofs.YtpomnihgimgpdaaDoor.Pl
open Go.RowKit
open Fl
open Num

/-- Before answers this, at these two. -/
def Bef (p q : Nat × Nat) (z : Bool) : Prop := ∀ w : World, Calls Tryd.prog 19 #[C p, C q] w fun e w' => e = .returned (.bool z) ∧ w = w'
theorem bef_of {p q : Nat × Nat} {z : Bool} (h1 : p.1 < 4294967296) (h2 : p.2 < 4294967296) (h3 : q.1 < 4294967296) (h4 : q.2 < 4294967296) (h : befN p q = z) : Bef p q z := fun w => by
  subst h; exact Before_any p q w h1 h2 h3 h4
/-- Of answers this. -/
def OfIs (l c : Int) (p : Nat × Nat) : Prop := ∀ w : World, Calls Tryd.prog 11 #[.int .i64 l, .int .i64 c] w fun e w' => e = .returned (C p) ∧ w = w'
theorem of_is {l c : Int} {p : Nat × Nat} (h : ofN l c = p) : OfIs l c p := fun w => by subst h; exact Of_any l c w
def Same (p q : Nat × Nat) (z : Bool) : Prop := ((FloatKind.f64.format.order (fl p.1) (fl q.1) == some .eq) && (FloatKind.f64.format.order (fl p.2) (fl q.2) == some .eq)) = z
theorem same_of {p q : Nat × Nat} {z : Bool} (h1 : p.1 < 4294967296) (h2 : p.2 < 4294967296) (h3 : q.1 < 4294967296) (h4 : q.2 < 4294967296) (h : decide (p = q) = z) : Same p q z := (same_c p q h1 h2 h3 h4).trans h

set_option maxHeartbeats 3200000 in
theorem order_lt1 (a b c d f g : Nat) (w : World) (ha : a < 65536) (hb : b < 65536) (hc : c < 65536) (hd : d < 65536) (hf : f < 65536) (hg : g < 65536) (ht : Tabs w) (p q r : Nat × Nat)
    (o1 : OfIs ((a : Int) + 1) ((b : Int) + 1) p) (o2 : OfIs ((c : Int) + 1) ((d : Int) + 1) q) (o3 : OfIs ((f : Int) + 1) ((g : Int) + 1) r) (hxy : Bef p q true) (hyx : Bef q p false) (hs : Same p q false) (hyz : Bef q r false) (h0 : Bef p (0, 0) false) (h9 : Bef (0, 0) p false) :
    Calls Tryd.prog 4 #[.int .u16 a, .int .u16 b, .int .u16 c, .int .u16 d, .int .u16 f, .int .u16 g] w fun e w' => e = .returned (.bool true) ∧ Below w.heap.size w w' := by
  have HT := Lib.hid ht
  clear ht
  unfold OfIs at o1 o2 o3
  unfold Bef at hxy hyx h0 h9
  unfold Same at hs
  unfold Bef at hyz
  rw [C_zero] at h0 h9
  obtain ⟨p1, p2⟩ := p
  obtain ⟨q1, q2⟩ := q
  obtain ⟨r1, r2⟩ := r
  unfold C at o1 o2 o3 hxy hyx h0 h9 hyz
  simp only at o1 o2 o3 hxy hyx h0 h9 hyz hs
  have Ho1 := Lib.hid o1
  clear o1
  have Ho2 := Lib.hid o2
  clear o2
  have Ho3 := Lib.hid o3
  clear o3
  have Hhxy := Lib.hid hxy
  clear hxy
  have Hhyx := Lib.hid hyx
  clear hyx
  have Hh0 := Lib.hid h0
  clear h0
  have Hh9 := Lib.hid h9
  clear h9
  have Hhyz := Lib.hid hyz
  clear hyz
  go_enter Tryd.func4, Tryd.ntmps4
  go_wp2_with fail
  ((with_reducible refine (Ho1.out _).mono ?_); rintro e w' ⟨rfl, rfl⟩)
  go_wp2_with fail
  ((with_reducible refine (Ho2.out _).mono ?_); rintro e w' ⟨rfl, rfl⟩)
  go_wp2_with fail
  ((with_reducible refine (Ho3.out _).mono ?_); rintro e w' ⟨rfl, rfl⟩)
  go_wp2_with fail
  ((with_reducible refine (Hhxy.out _).mono ?_); rintro e w' ⟨rfl, rfl⟩)
  go_wp2_with fail
  ((with_reducible refine (Hhyx.out _).mono ?_); rintro e w' ⟨rfl, rfl⟩)
  go_wp2_with fail
  ((with_reducible refine (Hhxy.out _).mono ?_); rintro e w' ⟨rfl, rfl⟩)
  go_wp2_with fail
  ((with_reducible refine (Hhyz.out _).mono ?_); rintro e w' ⟨rfl, rfl⟩)
  go_wp2_with fail
  ((with_reducible refine (Hh0.out _).mono ?_); rintro e w' ⟨rfl, rfl⟩)
  go_wp2_with fail
  ((with_reducible refine (Hh9.out _).mono ?_); rintro e w' ⟨rfl, rfl⟩)
  go_wp2_with fail
  ((with_reducible refine (works_any _ HT.out).mono ?_); rintro e x1 ⟨rfl, g1⟩)
  go_wp2
  go_ret
  exact ⟨rfl, g1⟩

set_option maxHeartbeats 3200000 in
theorem order_lt2 (a b c d f g : Nat) (w : World) (ha : a < 65536) (hb : b < 65536) (hc : c < 65536) (hd : d < 65536) (hf : f < 65536) (hg : g < 65536) (ht : Tabs w) (p q r : Nat × Nat)
    (o1 : OfIs ((a : Int) + 1) ((b : Int) + 1) p) (o2 : OfIs ((c : Int) + 1) ((d : Int) + 1) q) (o3 : OfIs ((f : Int) + 1) ((g : Int) + 1) r) (hxy : Bef p q true) (hyx : Bef q p false) (hs : Same p q false) (hyz : Bef q r true) (hxz : Bef p r true) (h0 : Bef p (0, 0) false) (h9 : Bef (0, 0) p false) :
    Calls Tryd.prog 4 #[.int .u16 a, .int .u16 b, .int .u16 c, .int .u16 d, .int .u16 f, .int .u16 g] w fun e w' => e = .returned (.bool true) ∧ Below w.heap.size w w' := by
  have HT := Lib.hid ht
  clear ht
  unfold OfIs at o1 o2 o3
  unfold Bef at hxy hyx h0 h9
  unfold Same at hs
  unfold Bef at hyz
  unfold Bef at hxz
  rw [C_zero] at h0 h9
  obtain ⟨p1, p2⟩ := p
  obtain ⟨q1, q2⟩ := q
  obtain ⟨r1, r2⟩ := r
  unfold C at o1 o2 o3 hxy hyx h0 h9 hyz hxz
  simp only at o1 o2 o3 hxy hyx h0 h9 hyz hxz hs
  have Ho1 := Lib.hid o1
  clear o1
  have Ho2 := Lib.hid o2
  clear o2
  have Ho3 := Lib.hid o3
  clear o3
  have Hhxy := Lib.hid hxy
  clear hxy
  have Hhyx := Lib.hid hyx
  clear hyx
  have Hh0 := Lib.hid h0
  clear h0
  have Hh9 := Lib.hid h9
  clear h9
  have Hhyz := Lib.hid hyz
  clear hyz
  have Hhxz := Lib.hid hxz
  clear hxz
  go_enter Tryd.func4, Tryd.ntmps4
  go_wp2_with fail
  ((with_reducible refine (Ho1.out _).mono ?_); rintro e w' ⟨rfl, rfl⟩)
  go_wp2_with fail
  ((with_reducible refine (Ho2.out _).mono ?_); rintro e w' ⟨rfl, rfl⟩)
  go_wp2_with fail
  ((with_reducible refine (Ho3.out _).mono ?_); rintro e w' ⟨rfl, rfl⟩)
  go_wp2_with fail
  ((with_reducible refine (Hhxy.out _).mono ?_); rintro e w' ⟨rfl, rfl⟩)
  go_wp2_with fail
  ((with_reducible refine (Hhyx.out _).mono ?_); rintro e w' ⟨rfl, rfl⟩)
  go_wp2_with fail
  ((with_reducible refine (Hhxy.out _).mono ?_); rintro e w' ⟨rfl, rfl⟩)
  go_wp2_with fail
  ((with_reducible refine (Hhyz.out _).mono ?_); rintro e w' ⟨rfl, rfl⟩)
  go_wp2_with fail
  ((with_reducible refine (Hhxz.out _).mono ?_); rintro e w' ⟨rfl, rfl⟩)
  go_wp2_with fail
  ((with_reducible refine (Hh0.out _).mono ?_); rintro e w' ⟨rfl, rfl⟩)
  go_wp2_with fail
  ((with_reducible refine (Hh9.out _).mono ?_); rintro e w' ⟨rfl, rfl⟩)
  go_wp2_with fail
  ((with_reducible refine (works_any _ HT.out).mono ?_); rintro e x1 ⟨rfl, g1⟩)
  go_wp2
  go_ret
  exact ⟨rfl, g1⟩

set_option maxHeartbeats 3200000 in
theorem order_gt (a b c d f g : Nat) (w : World) (ha : a < 65536) (hb : b < 65536) (hc : c < 65536) (hd : d < 65536) (hf : f < 65536) (hg : g < 65536) (ht : Tabs w) (p q r : Nat × Nat)
    (o1 : OfIs ((a : Int) + 1) ((b : Int) + 1) p) (o2 : OfIs ((c : Int) + 1) ((d : Int) + 1) q) (o3 : OfIs ((f : Int) + 1) ((g : Int) + 1) r) (hxy : Bef p q false) (hyx : Bef q p true) (hs : Same p q false) (h0 : Bef p (0, 0) false) (h9 : Bef (0, 0) p false) :
    Calls Tryd.prog 4 #[.int .u16 a, .int .u16 b, .int .u16 c, .int .u16 d, .int .u16 f, .int .u16 g] w fun e w' => e = .returned (.bool true) ∧ Below w.heap.size w w' := by
  have HT := Lib.hid ht
  clear ht
  unfold OfIs at o1 o2 o3
  unfold Bef at hxy hyx h0 h9
  unfold Same at hs
  rw [C_zero] at h0 h9
  obtain ⟨p1, p2⟩ := p
  obtain ⟨q1, q2⟩ := q
  obtain ⟨r1, r2⟩ := r
  unfold C at o1 o2 o3 hxy hyx h0 h9
  simp only at o1 o2 o3 hxy hyx h0 h9 hs
  have Ho1 := Lib.hid o1
  clear o1
  have Ho2 := Lib.hid o2
  clear o2
  have Ho3 := Lib.hid o3
  clear o3
  have Hhxy := Lib.hid hxy
  clear hxy
  have Hhyx := Lib.hid hyx
  clear hyx
  have Hh0 := Lib.hid h0
  clear h0
  have Hh9 := Lib.hid h9
  clear h9
  go_enter Tryd.func4, Tryd.ntmps4
  go_wp2_with fail
  ((with_reducible refine (Ho1.out _).mono ?_); rintro e w' ⟨rfl, rfl⟩)
  go_wp2_with fail
  ((with_reducible refine (Ho2.out _).mono ?_); rintro e w' ⟨rfl, rfl⟩)
  go_wp2_with fail
  ((with_reducible refine (Ho3.out _).mono ?_); rintro e w' ⟨rfl, rfl⟩)
  go_wp2_with fail
  ((with_reducible refine (Hhxy.out _).mono ?_); rintro e w' ⟨rfl, rfl⟩)
  go_wp2_with fail
  ((with_reducible refine (Hhyx.out _).mono ?_); rintro e w' ⟨rfl, rfl⟩)
  go_wp2_with fail
  ((with_reducible refine (Hhxy.out _).mono ?_); rintro e w' ⟨rfl, rfl⟩)
  go_wp2_with fail
  ((with_reducible refine (Hh0.out _).mono ?_); rintro e w' ⟨rfl, rfl⟩)
  go_wp2_with fail
  ((with_reducible refine (Hh9.out _).mono ?_); rintro e w' ⟨rfl, rfl⟩)
  go_wp2_with fail
  ((with_reducible refine (works_any _ HT.out).mono ?_); rintro e x1 ⟨rfl, g1⟩)
  go_wp2
  go_ret
  exact ⟨rfl, g1⟩

set_option maxHeartbeats 3200000 in
theorem order_eq (a b c d f g : Nat) (w : World) (ha : a < 65536) (hb : b < 65536) (hc : c < 65536) (hd : d < 65536) (hf : f < 65536) (hg : g < 65536) (ht : Tabs w) (p q r : Nat × Nat)
    (o1 : OfIs ((a : Int) + 1) ((b : Int) + 1) p) (o2 : OfIs ((c : Int) + 1) ((d : Int) + 1) q) (o3 : OfIs ((f : Int) + 1) ((g : Int) + 1) r) (hxy : Bef p q false) (hyx : Bef q p false) (hs : Same p q true) (h0 : Bef p (0, 0) false) (h9 : Bef (0, 0) p false) :
    Calls Tryd.prog 4 #[.int .u16 a, .int .u16 b, .int .u16 c, .int .u16 d, .int .u16 f, .int .u16 g] w fun e w' => e = .returned (.bool true) ∧ Below w.heap.size w w' := by
  have HT := Lib.hid ht
  clear ht
  unfold OfIs at o1 o2 o3
  unfold Bef at hxy hyx h0 h9
  unfold Same at hs
  rw [C_zero] at h0 h9
  obtain ⟨p1, p2⟩ := p
  obtain ⟨q1, q2⟩ := q
  obtain ⟨r1, r2⟩ := r
  unfold C at o1 o2 o3 hxy hyx h0 h9
  simp only at o1 o2 o3 hxy hyx h0 h9 hs
  have Ho1 := Lib.hid o1
  clear o1
  have Ho2 := Lib.hid o2
  clear o2
  have Ho3 := Lib.hid o3
  clear o3
  have Hhxy := Lib.hid hxy
  clear hxy
  have Hhyx := Lib.hid hyx
  clear hyx
  have Hh0 := Lib.hid h0
  clear h0
  have Hh9 := Lib.hid h9
  clear h9
  go_enter Tryd.func4, Tryd.ntmps4
  go_wp2_with fail
  ((with_reducible refine (Ho1.out _).mono ?_); rintro e w' ⟨rfl, rfl⟩)
  go_wp2_with fail
  ((with_reducible refine (Ho2.out _).mono ?_); rintro e w' ⟨rfl, rfl⟩)
  go_wp2_with fail
  ((with_reducible refine (Ho3.out _).mono ?_); rintro e w' ⟨rfl, rfl⟩)
  go_wp2_with fail
  ((with_reducible refine (Hhxy.out _).mono ?_); rintro e w' ⟨rfl, rfl⟩)
  go_wp2_with fail
  ((with_reducible refine (Hhyx.out _).mono ?_); rintro e w' ⟨rfl, rfl⟩)
  go_wp2_with fail
  ((with_reducible refine (Hhxy.out _).mono ?_); rintro e w' ⟨rfl, rfl⟩)
  go_wp2_with fail
  ((with_reducible refine (Hh0.out _).mono ?_); rintro e w' ⟨rfl, rfl⟩)
  go_wp2_with fail
  ((with_reducible refine (Hh9.out _).mono ?_); rintro e w' ⟨rfl, rfl⟩)
  go_wp2_with fail
  ((with_reducible refine (works_any _ HT.out).mono ?_); rintro e x1 ⟨rfl, g1⟩)
  go_wp2
  go_ret
  exact ⟨rfl, g1⟩

theorem befN_mk (a b c d : Nat) (ha : a < 65536) (hb : b < 65536) (hc : c < 65536) (hd : d < 65536) : befN (a + 1, b + 1) (c + 1, d + 1) = (decide (a < c) || (decide (a = c) && decide (b < d))) := by
  rw [befN_in (by simp [isN, inN]; omega) (by simp [isN, inN]; omega)]
  rw [Bool.eq_iff_iff]; simp
theorem ofN_mk (a b : Nat) (ha : a < 65536) (hb : b < 65536) : ofN ((a : Int) + 1) ((b : Int) + 1) = (a + 1, b + 1) := by
  rw [ofN_in (isR_mk (by omega) (by omega) (by omega) (by omega))]; rfl
theorem order_any (a b c d f g : Nat) (w : World) (ha : a < 65536) (hb : b < 65536) (hc : c < 65536) (hd : d < 65536) (hf : f < 65536) (hg : g < 65536) (ht : Tabs w) :
    Calls Tryd.prog 4 #[.int .u16 a, .int .u16 b, .int .u16 c, .int .u16 d, .int .u16 f, .int .u16 g] w fun e w' => e = .returned (.bool true) ∧ Below w.heap.size w w' := by
  have o1 : OfIs ((a : Int) + 1) ((b : Int) + 1) (a + 1, b + 1) := of_is (ofN_mk a b ha hb)
  have o2 : OfIs ((c : Int) + 1) ((d : Int) + 1) (c + 1, d + 1) := of_is (ofN_mk c d hc hd)
  have o3 : OfIs ((f : Int) + 1) ((g : Int) + 1) (f + 1, g + 1) := of_is (ofN_mk f g hf hg)
  have k0 : Bef (a + 1, b + 1) (0, 0) false := bef_of (by simp; omega) (by simp; omega) (by simp) (by simp) (befN_out2 rfl)
  have k9 : Bef (0, 0) (a + 1, b + 1) false := bef_of (by simp) (by simp) (by simp; omega) (by simp; omega) (befN_out1 rfl)
  have kxy : Bef (a + 1, b + 1) (c + 1, d + 1) _ := bef_of (by simp; omega) (by simp; omega) (by simp; omega) (by simp; omega) rfl
  have kyx : Bef (c + 1, d + 1) (a + 1, b + 1) _ := bef_of (by simp; omega) (by simp; omega) (by simp; omega) (by simp; omega) rfl
  have kyz : Bef (c + 1, d + 1) (f + 1, g + 1) _ := bef_of (by simp; omega) (by simp; omega) (by simp; omega) (by simp; omega) rfl
  have kxz : Bef (a + 1, b + 1) (f + 1, g + 1) _ := bef_of (by simp; omega) (by simp; omega) (by simp; omega) (by simp; omega) rfl
  have ks : Same (a + 1, b + 1) (c + 1, d + 1) _ := same_of (by simp; omega) (by simp; omega) (by simp; omega) (by simp; omega) rfl
  have exy := befN_mk a b c d ha hb hc hd
  have eyx := befN_mk c d a b hc hd ha hb
  have eyz := befN_mk c d f g hc hd hf hg
  have exz := befN_mk a b f g ha hb hf hg
  have es : decide ((a + 1, b + 1) = (c + 1, d + 1)) = (decide (a = c) && decide (b = d)) := by rw [Bool.eq_iff_iff]; simp
  rw [exy] at kxy
  rw [eyx] at kyx
  rw [eyz] at kyz
  rw [exz] at kxz
  rw [es] at ks
  clear exy eyx eyz exz es
  by_cases h1 : a < c ∨ a = c ∧ b < d
  · rw [show (decide (a < c) || (decide (a = c) && decide (b < d))) = true by simpa using h1] at kxy
    rw [show (decide (c < a) || (decide (c = a) && decide (d < b))) = false by simp; omega] at kyx
    rw [show (decide (a = c) && decide (b = d)) = false by simp; omega] at ks
    by_cases h2 : c < f ∨ c = f ∧ d < g
    · rw [show (decide (c < f) || (decide (c = f) && decide (d < g))) = true by simpa using h2] at kyz
      rw [show (decide (a < f) || (decide (a = f) && decide (b < g))) = true by simp; omega] at kxz
      exact order_lt2 a b c d f g w ha hb hc hd hf hg ht _ _ _ o1 o2 o3 kxy kyx ks kyz kxz k0 k9
    · rw [show (decide (c < f) || (decide (c = f) && decide (d < g))) = false by simp; omega] at kyz
      exact order_lt1 a b c d f g w ha hb hc hd hf hg ht _ _ _ o1 o2 o3 kxy kyx ks kyz k0 k9
  · rw [show (decide (a < c) || (decide (a = c) && decide (b < d))) = false by simp; omega] at kxy
    by_cases h3 : a = c ∧ b = d
    · rw [show (decide (c < a) || (decide (c = a) && decide (d < b))) = false by simp; omega] at kyx
      rw [show (decide (a = c) && decide (b = d)) = true by simpa using h3] at ks
      exact order_eq a b c d f g w ha hb hc hd hf hg ht _ _ _ o1 o2 o3 kxy kyx ks k0 k9
    · rw [show (decide (c < a) || (decide (c = a) && decide (d < b))) = true by simp; omega] at kyx
      rw [show (decide (a = c) && decide (b = d)) = false by simp; omega] at ks
      exact order_gt a b c d f g w ha hb hc hd hf hg ht _ _ _ o1 o2 o3 kxy kyx ks k0 k9

end Go.Proofs.YtpomnihgimgpdaaDoor.Pl
