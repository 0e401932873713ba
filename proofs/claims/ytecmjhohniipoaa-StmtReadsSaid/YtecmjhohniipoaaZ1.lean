/- A part of the proof: Fl, P1, P2, P3, P4, P5, R1, R2. -/
import Derived.Laws.FloatArith
import Derived.Test.YtecmjhohniipoaaRows
import Derived.Lib.Hide
import Derived.WalkKit
import Derived.WalkLawsBesides
import Derived.Laws.ComplexArith
import Derived.OpenShut
import Derived.Laws.OwnMore
set_option linter.unusedSimpArgs false
set_option linter.unusedVariables false
namespace Go.Proofs.Ytecmjhohniipoaa
open Go.RowKit in
theorem qh {p : Prop} (h : p) : Hid p := Lib.hid h
end Go.Proofs.Ytecmjhohniipoaa

section
namespace Go.Proofs.Ytecmjhohniipoaa.Fl
open Go Ieee
def fl (n : Nat) : Nat := floatOfInt .f64 (n : Int)
def Val (d : Datum) (n : Nat) : Prop := ∃ s : Nat, d = .number false (n * 2 ^ s) (-(s : Int))
theorem log2_shift (n s : Nat) (h : n ≠ 0) : (n * 2 ^ s).log2 = n.log2 + s := by
 have hp : 0 < 2 ^ s := Nat.pow_pos (by omega)
 have hne : n * 2 ^ s ≠ 0 := Nat.mul_ne_zero h (by omega)
 rw [Nat.log2_eq_iff hne]
 have h1 := Nat.log2_self_le h
 have h2 := Nat.lt_log2_self (n := n)
 rw [Nat.pow_add, show n.log2 + s + 1 = (n.log2 + 1) + s by omega, Nat.pow_add]
 exact ⟨Nat.mul_le_mul_right _ h1, Nat.mul_lt_mul_of_pos_right h2 hp⟩
theorem leastPlace_double : double.leastPlace = -1074 := by decide +kernel
theorem binade_double : double.binade = 2 ^ 52 := rfl
theorem infRung_double : double.infRung = 2047 * 2 ^ 52 := by decide +kernel
theorem signWeight_double : double.signWeight = 2 ^ 63 := by decide +kernel
theorem kept_bd (n : Nat) (h0 : n ≠ 0) (h : n < 2 ^ 53) : n.log2 ≤ 52 ∧ 2 ^ 52 ≤ n * 2 ^ (52 - n.log2) ∧ n * 2 ^ (52 - n.log2) < 2 ^ 53 := by
 have h1 := Nat.log2_self_le h0
 have h2 := Nat.lt_log2_self (n := n)
 have hL : n.log2 ≤ 52 := by
  have := (Nat.log2_lt h0 (k := 53)).2 h
  omega
 refine ⟨hL, ?_, ?_⟩
 ·have : 2 ^ n.log2 * 2 ^ (52 - n.log2) = 2 ^ 52 := by rw [← Nat.pow_add]; congr 1; omega
  rw [← this]; exact Nat.mul_le_mul_right _ h1
 ·have : 2 ^ (n.log2 + 1) * 2 ^ (52 - n.log2) = 2 ^ 53 := by rw [← Nat.pow_add]; congr 1; omega
  rw [← this]; exact Nat.mul_lt_mul_of_pos_right h2 (Nat.pow_pos (by omega))
theorem near_form (n s : Nat) (h0 : n ≠ 0) (h : n < 2 ^ 53) : double.nearest false (n * 2 ^ s) (-(s : Int)) = (n.log2 + 1022) * 2 ^ 52 + n * 2 ^ (52 - n.log2) := by
 obtain ⟨hL, k0, k1⟩ := kept_bd n h0 h
 have hp : 0 < 2 ^ s := Nat.pow_pos (by omega)
 have hne : n * 2 ^ s ≠ 0 := Nat.mul_ne_zero h0 (by omega)
 unfold Format.nearest
 rw [if_neg hne, log2_shift n s h0, leastPlace_double, binade_double, infRung_double]
 have hlast : max (-(s : Int) + ((n.log2 + s : Nat) : Int) - ((double.fractionBits : Nat) : Int)) (-1074) = (n.log2 : Int) - 52 := by
  show max (-(s : Int) + ((n.log2 + s : Nat) : Int) - 52) (-1074) = _
  omega
 simp only [hlast]
 have hkept : Toward.even.cut false ((n * 2 ^ s) <<< (-(s : Int) - ((n.log2 : Int) - 52)).toNat) ((n.log2 : Int) - 52 - -(s : Int)).toNat = n * 2 ^ (52 - n.log2) := by
  by_cases hs : s + n.log2 ≤ 52
  ·rw [show (-(s : Int) - ((n.log2 : Int) - 52)).toNat = 52 - n.log2 - s by omega, show ((n.log2 : Int) - 52 - -(s : Int)).toNat = 0 by omega]
   rw [Nat.shiftLeft_eq, Nat.mul_assoc, ← Nat.pow_add, show s + (52 - n.log2 - s) = 52 - n.log2 by omega]
   unfold Toward.cut
   simp [Nat.mod_one]
  ·rw [show (-(s : Int) - ((n.log2 : Int) - 52)).toNat = 0 by omega, show ((n.log2 : Int) - 52 - -(s : Int)).toNat = s + n.log2 - 52 by omega, Nat.shiftLeft_zero]
   unfold Toward.cut
   have hm : min (s + n.log2 - 52) ((n * 2 ^ s).log2 + 2) = s + n.log2 - 52 := by rw [log2_shift n s h0]; omega
   have hsplit : n * 2 ^ s = n * 2 ^ (52 - n.log2) * 2 ^ (s + n.log2 - 52) := by
    rw [Nat.mul_assoc, ← Nat.pow_add, show 52 - n.log2 + (s + n.log2 - 52) = s by omega]
   have hpp : 0 < 2 ^ (s + n.log2 - 52) := Nat.pow_pos (by omega)
   simp only [hm]
   rw [Nat.shiftLeft_eq, Nat.one_mul, hsplit, Nat.mul_div_cancel _ hpp, Nat.mul_mod_left]
   simp
 rw [hkept]
 have e : ((n.log2 : Int) - 52 - -1074).toNat = n.log2 + 1022 := by omega
 rw [e]
 unfold Format.word
 simp only [Bool.false_eq_true, if_false]
 have h53 : 2 ^ 53 = 2 * 2 ^ 52 := by decide +kernel
 rw [h53] at k1
 have h1 : (n.log2 + 1022) * 2 ^ 52 ≤ 1074 * 2 ^ 52 := Nat.mul_le_mul_right _ (by omega)
 apply Nat.min_eq_left
 generalize 2 ^ 52 = Q at *
 generalize n * 2 ^ (52 - n.log2) = k at *
 omega
theorem near_val (n s : Nat) (h : n < 2 ^ 53) : double.nearest false (n * 2 ^ s) (-(s : Int)) = fl n := by
 have hf : fl n = double.nearest false n 0 := by
  show double.nearest (decide ((n : Int) < 0)) (n : Int).natAbs 0 = _
  rw [show decide ((n : Int) < 0) = false by simp]
  rfl
 by_cases h0 : n = 0
 ·subst h0
  rw [hf]; unfold Format.nearest; rw [if_pos (Nat.zero_mul _), if_pos rfl]
 ·have := near_form n 0 h0 h
  rw [hf, near_form n s h0 h]
  simpa using this.symm
theorem read_val (n : Nat) (h : n < 2 ^ 53) : Val (double.read (fl n)) n := by
 by_cases h0 : n = 0
 ·subst h0
  exact ⟨1074, by decide +kernel⟩
 ·obtain ⟨hL, k0, k1⟩ := kept_bd n h0 h
  have hf : fl n = (n.log2 + 1022) * 2 ^ 52 + n * 2 ^ (52 - n.log2) := by
   rw [← near_val n 0 h, near_form n 0 h0 h]
  refine ⟨52 - n.log2, ?_⟩
  rw [hf]
  generalize hk : n * 2 ^ (52 - n.log2) = k at *
  generalize n.log2 = L at *
  unfold Format.read
  rw [signWeight_double, binade_double, infRung_double, leastPlace_double]
  have hw : (L + 1022) * 2 ^ 52 + k < 2 ^ 63 := by omega
  have hmod : ((L + 1022) * 2 ^ 52 + k) % 2 ^ 63 = (L + 1022) * 2 ^ 52 + k := Nat.mod_eq_of_lt hw
  have hdiv : ((L + 1022) * 2 ^ 52 + k) / 2 ^ 63 = 0 := Nat.div_eq_of_lt hw
  simp only [hmod, hdiv]
  rw [if_neg (by omega), if_pos (by omega)]
  have q1 : ((L + 1022) * 2 ^ 52 + k) / 2 ^ 52 = L + 1023 := by omega
  have q2 : ((L + 1022) * 2 ^ 52 + k) % 2 ^ 52 = k - 2 ^ 52 := by omega
  rw [q1, q2]
  have e1 : 2 ^ 52 + (k - 2 ^ 52) = k := by omega
  have e2 : (-1074 : Int) + ((L + 1023 - 1 : Nat) : Int) = -((52 - L : Nat) : Int) := by omega
  rw [e1, e2]
  rfl
theorem shl_mul (m s : Nat) : m <<< s = m * 2 ^ s := Nat.shiftLeft_eq m s
theorem order_val {d e : Datum} {a b : Nat} (hd : Val d a) (he : Val e b) : d.order e = some (compare a b) := by
 obtain ⟨s, rfl⟩ := hd
 obtain ⟨t, rfl⟩ := he
 show some _ = _
 congr 1
 have hmin : min (-(s : Int)) (-(t : Int)) = -((max s t : Nat) : Int) := by omega
 simp only [hmin]
 have i1 : (-(s : Int) - -((max s t : Nat) : Int)).toNat = max s t - s := by omega
 have i2 : (-(t : Int) - -((max s t : Nat) : Int)).toNat = max s t - t := by omega
 rw [i1, i2]
 unfold signed
 simp only [Bool.false_eq_true, if_false, shl_mul]
 rw [Nat.mul_assoc, Nat.mul_assoc, ← Nat.pow_add, ← Nat.pow_add, show s + (max s t - s) = max s t by omega, show t + (max s t - t) = max s t by omega]
 have hp : 0 < 2 ^ max s t := Nat.pow_pos (by omega)
 generalize 2 ^ max s t = M at *
 rcases Nat.lt_trichotomy a b with h | h | h
 ·have h1 : a * M < b * M := Nat.mul_lt_mul_of_pos_right h hp
  rw [Nat.compare_eq_lt.2 h]
  exact compareOfLessAndEq_eq_lt.2 (by omega)
 ·subst h
  rw [Nat.compare_eq_eq.2 rfl]
  unfold compare
  simp [instOrdInt, compareOfLessAndEq]
 ·have h1 : b * M < a * M := Nat.mul_lt_mul_of_pos_right h hp
  rw [Nat.compare_eq_gt.2 h]
  simp only [compare, compareOfLessAndEq]
  rw [if_neg (by omega), if_neg (by omega)]
theorem fl_order (a b : Nat) (ha : a < 2 ^ 53) (hb : b < 2 ^ 53) : FloatKind.f64.format.order (fl a) (fl b) = some (compare a b) :=
 order_val (read_val a ha) (read_val b hb)
theorem fl_0 : fl 0 = 0 := by decide +kernel
end Go.Proofs.Ytecmjhohniipoaa.Fl
end

section
namespace Go.Proofs.Ytecmjhohniipoaa.Pl
open Go.RowKit
open Fl
theorem ret_int {k : IntKind} {a b : Int} (h : a = b) : Ending.returned (.int k a) = .returned (.int k b) := by rw [h]
theorem ret_bool {a b : Bool} (h : a = b) : Ending.returned (.bool a) = .returned (.bool b) := by rw [h]
def most : Nat := 1073741824
def inN (n : Nat) : Bool := decide (1 ≤ n) && decide (n ≤ 1073741824)
def isN (p : Nat × Nat) : Bool := inN p.1 && inN p.2
def C (p : Nat × Nat) : Value := .complex .f64 (fl p.1) (fl p.2)
theorem inN_in {n : Nat} (h : inN n = true) : 1 ≤ n ∧ n ≤ 1073741824 := by simpa [inN] using h
def ofN (l c : Int) : Nat × Nat := if l < 1 ∨ 1073741824 < l ∨ c < 1 ∨ 1073741824 < c then (0, 0) else (l.toNat, c.toNat)
theorem C_zero : C (0, 0) = .complex .f64 0 0 := by unfold C; rw [fl_0]
theorem ret_c {F G : Nat} {p : Nat × Nat} (h1 : F = fl p.1) (h2 : G = fl p.2) : Ending.returned (.complex .f64 F G) = .returned (C p) := by subst h1 h2; rfl
theorem ret_c0 {p : Nat × Nat} (h : p = (0, 0)) : Ending.returned (.complex .f64 0 0) = .returned (C p) := by rw [h, C_zero]
end Go.Proofs.Ytecmjhohniipoaa.Pl
end

section
namespace Go.Proofs.Ytecmjhohniipoaa.Pl
open Go.RowKit
open Fl
theorem isN_part {p : Nat × Nat} (h : isN p = true) : inN p.1 = true ∧ inN p.2 = true := by simpa [isN] using h
theorem isN_bd {p : Nat × Nat} (h : isN p = true) : (1 ≤ p.1 ∧ p.1 ≤ 1073741824) ∧ (1 ≤ p.2 ∧ p.2 ≤ 1073741824) := ⟨inN_in (isN_part h).1, inN_in (isN_part h).2⟩
def stepN (p : Nat × Nat) (c : UInt8) : Nat × Nat := if c.toNat = 10 then (p.1 + 1, 1) else (p.1, p.2 + 1)
def behN (p : Nat × Nat) : List UInt8 → Nat × Nat
 | [] => if isN p then p else (0, 0)
 | c :: l => if isN p then behN (stepN p c) l else (0, 0)
theorem behN_out {p : Nat × Nat} (h : isN p = false) : ∀ l, behN p l = (0, 0)
 | [] => by simp [behN, h]
 | c :: l => by simp [behN, h]
theorem behN_cons {p : Nat × Nat} (h : isN p = true) (c : UInt8) (l : List UInt8) : behN p (c :: l) = behN (stepN p c) l := by simp [behN, h]
theorem drop_cons (s : ByteArray) (k : Nat) (h : k < s.size) : s.data.toList.drop k = s[k] :: s.data.toList.drop (k + 1) := by
 have hl : k < s.data.toList.length := by simpa using h
 rw [List.drop_eq_getElem_cons hl]
 rfl
end Go.Proofs.Ytecmjhohniipoaa.Pl
end

section
namespace Go.Proofs.Ytecmjhohniipoaa.Pl
open Go.RowKit
open Fl
end Go.Proofs.Ytecmjhohniipoaa.Pl
end

section
namespace Go.Proofs.Ytecmjhohniipoaa.Pl
open Go.RowKit
open Fl
def R (l c : Int) : Value := .agg #[.int .i64 l, .int .i64 c]
def isR (l c : Int) : Bool := decide (1 ≤ l) && decide (l ≤ 1073741824) && (decide (1 ≤ c) && decide (c ≤ 1073741824))
theorem isR_in {l c : Int} (h : isR l c = true) : (1 ≤ l ∧ l ≤ 1073741824) ∧ 1 ≤ c ∧ c ≤ 1073741824 := by simpa [isR] using h
theorem ofN_in {l c : Int} (h : isR l c = true) : ofN l c = (l.toNat, c.toNat) := by
 have := isR_in h
 unfold ofN; rw [if_neg (by omega)]
theorem isR_mk {l c : Int} (h1 : 1 ≤ l) (h2 : l ≤ 1073741824) (h3 : 1 ≤ c) (h4 : c ≤ 1073741824) : isR l c = true := by simp [isR, h1, h2, h3, h4]
theorem ofN_out {l c : Int} (h : isR l c = false) : ofN l c = (0, 0) := by
 unfold ofN; rw [if_pos]
 by_cases g : 1 ≤ l ∧ l ≤ 1073741824 ∧ 1 ≤ c ∧ c ≤ 1073741824
 ·rw [isR_mk g.1 g.2.1 g.2.2.1 g.2.2.2] at h; cases h
 ·omega
theorem below_alloc {w wr : World} (h : Below w.heap.size w wr) (o : Obj) : Below w.heap.size w (wr.alloc o) := h.alloc h.size o
set_option maxHeartbeats 800000 in
theorem rIs_any (l c : Int) (w : World) : Calls Try.prog 45 #[R l c] w fun e w' => e = .returned (.bool (isR l c)) ∧ Below w.heap.size w w' := by
 unfold R
 by_cases h1 : 1 ≤ l
 ·by_cases h2 : l ≤ 1073741824
  ·by_cases h3 : 1 ≤ c
   ·have HR := qh (show isR l c = decide (c ≤ 1073741824) from by unfold isR; simp [h1, h2, h3])
    go_enter Try.func45, Try.ntmps45
    go_wp2
    go_ret
    exact ⟨ret_bool (by rw [HR.out]), below_alloc (Below.refl _ _) _⟩
   ·have HR := qh (show isR l c = false from by unfold isR; simp; omega)
    go_enter Try.func45, Try.ntmps45
    go_wp2
    go_ret
    exact ⟨ret_bool (by rw [HR.out]), below_alloc (Below.refl _ _) _⟩
  ·have HR := qh (show isR l c = false from by unfold isR; simp; omega)
   go_enter Try.func45, Try.ntmps45
   go_wp2
   go_ret
   exact ⟨ret_bool (by rw [HR.out]), below_alloc (Below.refl _ _) _⟩
 ·have HR := qh (show isR l c = false from by unfold isR; simp; omega)
  go_enter Try.func45, Try.ntmps45
  go_wp2
  go_ret
  exact ⟨ret_bool (by rw [HR.out]), below_alloc (Below.refl _ _) _⟩
set_option maxHeartbeats 800000 in
theorem rPos_any (l c : Int) (w : World) : Calls Try.prog 22 #[R l c] w fun e w' => e = .returned (C (ofN l c)) ∧ Below w.heap.size w w' := by
 have hI := fun w' => rIs_any l c w'
 unfold R at *
 cases a : isR l c
 ·rw [a] at hI
  have HI := qh hI
  have HO := qh (ofN_out a)
  clear hI a
  go_enter Try.func22, Try.ntmps22
  go_wp2_with fail
  ((with_reducible refine (HI.out _).mono ?_); rintro e w' ⟨rfl, hb⟩)
  replace hb := (below_alloc (Below.refl _ _) _).trans (hb.mono (below_alloc (Below.refl _ _) _).size)
  go_wp2
  go_ret
  exact ⟨ret_c0 HO.out, hb⟩
 ·rw [a] at hI
  have HI := qh hI
  have HO := qh (ofN_in a)
  have hb := isR_in a
  have e1 : floatOfInt .f64 l = fl l.toNat := by rw [show fl l.toNat = floatOfInt .f64 ((l.toNat : Nat) : Int) from rfl, show ((l.toNat : Nat) : Int) = l by omega]
  have e2 : floatOfInt .f64 c = fl c.toNat := by rw [show fl c.toNat = floatOfInt .f64 ((c.toNat : Nat) : Int) from rfl, show ((c.toNat : Nat) : Int) = c by omega]
  have E1 := qh e1
  have E2 := qh e2
  clear e1 e2 hI a hb
  go_enter Try.func22, Try.ntmps22
  go_wp2_with fail
  ((with_reducible refine (HI.out _).mono ?_); rintro e w' ⟨rfl, hb⟩)
  have k0 := (hb.cell (p := ⟨w.heap.size, 0, none⟩) (by simp)).trans (World.cell?_alloc_new _ _ _ _)
  have k1 := (hb.cell (p := ⟨w.heap.size, 1, none⟩) (by simp)).trans (World.cell?_alloc_new _ _ _ _)
  simp only [List.getElem?_toArray, List.getElem?_cons_zero, List.getElem?_cons_succ] at k0 k1
  replace hb := (below_alloc (Below.refl _ _) _).trans (hb.mono (below_alloc (Below.refl _ _) _).size)
  go_wp2
  go_ret
  exact ⟨ret_c (by rw [HO.out]; exact E1.out) (by rw [HO.out]; exact E2.out), hb⟩
end Go.Proofs.Ytecmjhohniipoaa.Pl
end

section
namespace Go.Proofs.Ytecmjhohniipoaa.Pl
open Go.RowKit
open Fl
def Two (w : World) (b : Nat) (l c : Int) : Prop := w.cell? ⟨b, 0, none⟩ = some (.int .i64 l) ∧ w.cell? ⟨b, 1, none⟩ = some (.int .i64 c) ∧ w.frozen? ⟨b, 0, none⟩ = false ∧ w.frozen? ⟨b, 1, none⟩ = false
theorem Two.below {w w' : World} {B b : Nat} {l c : Int} (h : Two w b l c) (hb : Below B w w') (hB : b < B) : Two w' b l c :=
 ⟨(hb.cell (p := ⟨b, 0, none⟩) hB).trans h.1, (hb.cell (p := ⟨b, 1, none⟩) hB).trans h.2.1, (hb.frozen (p := ⟨b, 0, none⟩) hB).trans h.2.2.1, (hb.frozen (p := ⟨b, 1, none⟩) hB).trans h.2.2.2⟩
theorem Two.set0 {w : World} {b : Nat} {l c : Int} (h : Two w b l c) (x : Int) : Two (w.setCell ⟨b, 0, none⟩ (.int .i64 x)) b x c :=
 ⟨World.cell?_setCell_same _ _ _ h.1, (World.cell?_setCell_other _ _ _ _ (by simp)).trans h.2.1, by rw [World.frozen?_setCell]; exact h.2.2.1, by rw [World.frozen?_setCell]; exact h.2.2.2⟩
theorem Two.set1 {w : World} {b : Nat} {l c : Int} (h : Two w b l c) (x : Int) : Two (w.setCell ⟨b, 1, none⟩ (.int .i64 x)) b l x :=
 ⟨(World.cell?_setCell_other _ _ _ _ (by simp)).trans h.1, World.cell?_setCell_same _ _ _ h.2.1, by rw [World.frozen?_setCell]; exact h.2.2.1, by rw [World.frozen?_setCell]; exact h.2.2.2⟩
theorem Two.set_far {w : World} {b : Nat} {l c : Int} (h : Two w b l c) {p : Addr} (hp : p.block ≠ b) (v : Value) : Two (w.setCell p v) b l c :=
 ⟨(World.cell?_setCell_other _ _ _ _ (by intro e; subst e; simp at hp)).trans h.1, (World.cell?_setCell_other _ _ _ _ (by intro e; subst e; simp at hp)).trans h.2.1, by rw [World.frozen?_setCell]; exact h.2.2.1, by rw [World.frozen?_setCell]; exact h.2.2.2⟩
theorem two_load {w : World} {b : Nat} {l c : Int} (h0 : w.cell? ⟨b, 0, none⟩ = some (.int .i64 l)) (h1 : w.cell? ⟨b, 1, none⟩ = some (.int .i64 c)) : (loadVar 64 ⟨b, 0, none⟩).run Try.prog w = .ok (.agg #[.int .i64 l, .int .i64 c]) w := by
 have hl : (loadCells ⟨b, 0, none⟩ 2).run Try.prog w = .ok #[.int .i64 l, .int .i64 c] w :=
  run_loadCells_list (P := Try.prog) w ⟨b, 0, none⟩ [.int .i64 l, .int .i64 c] (fun j v hv => by
   match j with
   | 0 => simp at hv; subst hv; simpa [Addr.add] using h0
   | 1 => simp at hv; subst hv; simpa [Addr.add] using h1
   | j + 2 => simp at hv)
 simp [loadVar, Sem.run_bind, Try.isAgg64, Try.sizeOf64, hl]
theorem two_ret {fn : Func} {p : Tmp} (h : fn.results = #[.cell p 64]) (tmps : Array Value) (w : World) (b : Nat) (l c : Int) (hp : tmps.getD p undef = .pointer (some ⟨b, 0, none⟩)) (h0 : w.cell? ⟨b, 0, none⟩ = some (.int .i64 l)) (h1 : w.cell? ⟨b, 1, none⟩ = some (.int .i64 c)) :
 (results fn tmps).run Try.prog w = .ok (.agg #[.int .i64 l, .int .i64 c]) w := by
 have hp' : tmps[p]?.getD undef = .pointer (some ⟨b, 0, none⟩) := by simpa using hp
 simp [results, h, hp', asAddr, two_load h0 h1]
theorem behN_pair (n m : Nat) (r : List UInt8) : behN (n, m) r = behN (ofN n m) r := by
 cases a : isN (n, m)
 ·rw [behN_out a, ofN_out, behN_out rfl]
  by_cases g : isR n m = true
  ·have := isR_in g
   simp [isN, inN] at a
   omega
  ·simpa using g
 ·have := isN_bd a
  rw [ofN_in (isR_mk (by omega) (by omega) (by omega) (by omega))]; rfl
theorem ret_R {a b : Int} {p : Nat × Nat} (h1 : a = p.1) (h2 : b = p.2) : Ending.returned (.agg #[.int .i64 a, .int .i64 b]) = .returned (.agg #[.int .i64 (p.1 : Nat), .int .i64 (p.2 : Nat)]) := by subst h1 h2; rfl
set_option maxHeartbeats 3200000 in
theorem rBehind_any (l c : Int) (s : ByteArray) (w : World) (hs : s.size ≤ 9223372036854775806) : Calls Try.prog 25 #[R l c, .string s] w fun e w' => e = .returned (R ((behN (ofN l c) s.data.toList).1 : Nat) ((behN (ofN l c) s.data.toList).2 : Nat)) ∧ Below w.heap.size w w' := by
 unfold R
 go_enter Try.func25, Try.ntmps25
 go_wp2
 go_loopw [5] (fun i wr => ∃ (l' c' : Int) (k : Nat), k ≤ s.size ∧ i = .int .i64 k ∧ Two wr w.heap.size l' c' ∧ Two wr (w.heap.size + 1) 0 0 ∧ w.heap.size + 1 < wr.heap.size ∧ Below w.heap.size w wr ∧ Hid (behN (ofN l c) s.data.toList = behN (ofN l' c') (s.data.toList.drop k))) (fun i _ => s.size - (intOf i).toNat)
 case atStart =>
  refine ⟨l, c, 0, Nat.zero_le _, rfl, ?_, ?_, ?_, below_alloc (below_alloc (Below.refl _ _) _) _, qh rfl⟩
  ·refine ⟨?_, ?_, ?_, ?_⟩ <;> simp [go_sem]
  ·refine ⟨?_, ?_, ?_, ?_⟩ <;> simp [go_sem]
  ·simp
 case round =>
  obtain ⟨l', c', k, hk, rfl, ta, tb, hsz, hb, HB⟩ := hrel
  have hI := fun w' => rIs_any l' c' w'
  unfold R at hI
  by_cases hlt : k < s.size
  ·have HD := qh (drop_cons s k hlt)
   cases a : isR l' c'
   ·rw [a] at hI
    have HI := qh hI
    have HR := qh (show behN (ofN l c) s.data.toList = (0, 0) from by rw [HB.out, ofN_out a]; exact behN_out rfl _)
    clear hI HB a HD
    obtain ⟨z0, z1, z2, z3⟩ := ta
    go_wp2_with fail
    ((with_reducible refine (HI.out _).mono ?_); rintro e w1 ⟨rfl, h1⟩)
    have tb1 := tb.below h1 (by omega)
    have tb2 := (tb1.set0 0).set1 0
    obtain ⟨b0, b1, b2, b3⟩ := tb1
    have hsz1 := h1.size
    replace h1 := hb.trans (h1.mono hb.size)
    clear z0 z1 z2 z3
    go_wp2
    (try simp only [Exit.inBlock, Exit.then])
    refine bodyPost_ret (two_ret rfl _ _ (w.heap.size + 1) 0 0 rfl tb2.1 tb2.2.1) rfl ?_
    exact ⟨ret_R (by rw [HR.out]; rfl) (by rw [HR.out]; rfl), (h1.setCell (by simp) _).setCell (by simp) _⟩
   ·have hbd := isR_in a
    have ha := ofN_in a
    rw [a] at hI
    have HI := qh hI
    have HS := qh (show behN (ofN l c) s.data.toList = behN (stepN (l'.toNat, c'.toNat) s[k]) (s.data.toList.drop (k + 1)) from by
     rw [HB.out, HD.out, ha]
     refine behN_cons ?_ _ _
     unfold isN inN
     simp
     omega)
    clear hI HB HD a ha
    obtain ⟨z0, z1, z2, z3⟩ := ta
    have ta' : Two wr w.heap.size l' c' := ⟨z0, z1, z2, z3⟩
    by_cases h10 : s[k].toNat = 10
    ·have HN := qh (show behN (ofN l c) s.data.toList = behN (ofN (l' + 1) 1) (s.data.toList.drop (k + 1)) from by
      rw [HS.out]
      unfold stepN
      rw [if_pos h10, behN_pair]
      congr 2
      show ((l'.toNat + 1 : Nat) : Int) = _
      omega)
     have hc : ((s[k].toNat : Int) == 10) = true := by simp [h10]
     clear HS h10
     have TA := qh ta'
     have TB := qh tb
     clear ta' tb
     go_wp2_with fail
     ((with_reducible refine (HI.out _).mono ?_); rintro e w1 ⟨rfl, h1⟩)
     have ta1 := TA.out.below h1 (by omega)
     have tb1 := TB.out.below h1 (by omega)
     have TA2 := qh ((ta1.set0 (l' + 1)).set1 1)
     have TB2 := qh ((tb1.set_far (p := ⟨w.heap.size, 0, none⟩) (by simp) (.int .i64 (l' + 1))).set_far (p := ⟨w.heap.size, 1, none⟩) (by simp) (.int .i64 1))
     obtain ⟨a0, a1, a2, a3⟩ := ta1
     clear tb1
     have hsz1 := h1.size
     replace h1 := hb.trans (h1.mono hb.size)
     clear z0 z1 z2 z3
     go_wp2
     go_roundw
     case rel => exact ⟨l' + 1, 1, k + 1, by omega, by go_num, TA2.out, TB2.out, by simp [World.setCell]; omega, (h1.setCell (by simp) _).setCell (by simp) _, HN⟩
     case measure => simp [intOf]; omega
    ·have HN := qh (show behN (ofN l c) s.data.toList = behN (ofN l' (c' + 1)) (s.data.toList.drop (k + 1)) from by
      rw [HS.out]
      unfold stepN
      rw [if_neg h10, behN_pair]
      congr 2
      ·show ((l'.toNat : Nat) : Int) = _
       omega
      ·show ((c'.toNat + 1 : Nat) : Int) = _
       omega)
     have hc : ((s[k].toNat : Int) == 10) = false := by simp; omega
     clear HS h10
     have TA := qh ta'
     have TB := qh tb
     clear ta' tb
     go_wp2_with fail
     ((with_reducible refine (HI.out _).mono ?_); rintro e w1 ⟨rfl, h1⟩)
     have ta1 := TA.out.below h1 (by omega)
     have tb1 := TB.out.below h1 (by omega)
     have TA2 := qh (ta1.set1 (c' + 1))
     have TB2 := qh (tb1.set_far (p := ⟨w.heap.size, 1, none⟩) (by simp) (.int .i64 (c' + 1)))
     obtain ⟨a0, a1, a2, a3⟩ := ta1
     clear tb1
     have hsz1 := h1.size
     replace h1 := hb.trans (h1.mono hb.size)
     clear z0 z1 z2 z3
     go_wp2
     go_roundw
     case rel => exact ⟨l', c' + 1, k + 1, by omega, by go_num, TA2.out, TB2.out, by simp [World.setCell]; omega, h1.setCell (by simp) _, HN⟩
     case measure => simp [intOf]; omega
  ·have hkS : k = s.size := by omega
   subst hkS
   have HE := qh (show behN (ofN l c) s.data.toList = behN (ofN l' c') [] from by rw [HB.out, List.drop_of_length_le (by simp)])
   obtain ⟨z0, z1, z2, z3⟩ := ta
   have TA := qh (show Two wr w.heap.size l' c' from ⟨z0, z1, z2, z3⟩)
   have TB := qh tb
   cases a : isR l' c'
   ·rw [a] at hI
    have HI := qh hI
    have HR := qh (show behN (ofN l c) s.data.toList = (0, 0) from by rw [HB.out, ofN_out a]; exact behN_out rfl _)
    clear hI HB HE a tb
    go_wp2_with fail
    ((with_reducible refine (HI.out _).mono ?_); rintro e w1 ⟨rfl, h1⟩)
    have tb1 := TB.out.below h1 (by omega)
    have tb2 := (tb1.set0 0).set1 0
    obtain ⟨b0, b1, b2, b3⟩ := tb1
    have hsz1 := h1.size
    replace h1 := hb.trans (h1.mono hb.size)
    clear z0 z1 z2 z3
    go_wp2
    (try simp only [Exit.inBlock, Exit.then])
    refine bodyPost_ret (two_ret rfl _ _ (w.heap.size + 1) 0 0 rfl tb2.1 tb2.2.1) rfl ?_
    exact ⟨ret_R (by rw [HR.out]; rfl) (by rw [HR.out]; rfl), (h1.setCell (by simp) _).setCell (by simp) _⟩
   ·have hbd := isR_in a
    have HR := qh (show behN (ofN l c) s.data.toList = (l'.toNat, c'.toNat) from by
     rw [HE.out, ofN_in a]
     have : isN (l'.toNat, c'.toNat) = true := by unfold isN inN; simp; omega
     simp [behN, this])
    rw [a] at hI
    have HI := qh hI
    clear hI HB HE a tb
    go_wp2_with fail
    ((with_reducible refine (HI.out _).mono ?_); rintro e w1 ⟨rfl, h1⟩)
    have ta1 := TA.out.below h1 (by omega)
    have tb1 := TB.out.below h1 (by omega)
    have tb2 := (tb1.set0 l').set1 c'
    obtain ⟨b0, b1, b2, b3⟩ := tb1
    obtain ⟨a0, a1, a2, a3⟩ := ta1
    have hsz1 := h1.size
    replace h1 := hb.trans (h1.mono hb.size)
    clear z0 z1 z2 z3
    go_wp2
    (try simp only [Exit.inBlock, Exit.then])
    refine bodyPost_ret (two_ret rfl _ _ (w.heap.size + 1) l' c' rfl tb2.1 tb2.2.1) rfl ?_
    exact ⟨ret_R (by rw [HR.out]; simp; omega) (by rw [HR.out]; simp; omega), (h1.setCell (by simp) _).setCell (by simp) _⟩
end Go.Proofs.Ytecmjhohniipoaa.Pl
end

section
namespace Go.Proofs.Ytecmjhohniipoaa.Lx
open Go.RowKit
open Pl
def isL (c : UInt8) : Bool := decide (65 ≤ c.toNat) && decide (c.toNat ≤ 90) || decide (97 ≤ c.toNat) && decide (c.toNat ≤ 122)
def isD (c : UInt8) : Bool := decide (48 ≤ c.toNat) && decide (c.toNat ≤ 57)
theorem u8_lt (c : UInt8) : c.toNat < 256 := UInt8.toNat_lt c
set_option maxHeartbeats 800000 in
theorem rletter_any (c : UInt8) (w : World) : Calls Try.prog 46 #[.int .u8 c.toNat] w fun e w' => e = .returned (.bool (isL c)) ∧ w = w' := by
 unfold isL
 generalize c.toNat = n
 go_enter Try.func46, Try.ntmps46
 go_wp2
 all_goals
  go_ret
  exact ⟨ret_bool (by rw [Bool.eq_iff_iff]; first | (simp only [Bool.or_eq_true, Bool.and_eq_true, decide_eq_true_eq, true_iff, Bool.false_eq_true, false_iff, not_or, not_and]; omega) | (simp; omega)), rfl⟩
set_option maxHeartbeats 800000 in
theorem rdigit_any (c : UInt8) (w : World) : Calls Try.prog 47 #[.int .u8 c.toNat] w fun e w' => e = .returned (.bool (isD c)) ∧ w = w' := by
 unfold isD
 generalize c.toNat = n
 go_enter Try.func47, Try.ntmps47
 go_wp2
 all_goals
  go_ret
  exact ⟨ret_bool (by rw [Bool.eq_iff_iff]; first | (simp only [Bool.or_eq_true, Bool.and_eq_true, decide_eq_true_eq, true_iff, Bool.false_eq_true, false_iff, not_or, not_and]; omega) | (simp; omega)), rfl⟩
def dgt (c : UInt8) : Nat := if 65 ≤ c.toNat then c.toNat - 55 else c.toNat - 48
def valN (base most : Nat) : Nat → List UInt8 → Option Nat
 | n, [] => if n ≤ most then some n else none
 | n, c :: r => if base ≤ dgt c ∨ most < n then none else valN base most (n * base + dgt c) r
def valR (base most : Nat) (l : List UInt8) : Option Nat := if l = [] then none else valN base most 0 l
theorem empty_iff (s : ByteArray) : s.data.toList = [] ↔ s.size = 0 := by
 rw [← List.length_eq_zero_iff]; simp
set_option maxHeartbeats 3200000 in
theorem value_any (s : ByteArray) (base most : Nat) (hb : base ≤ 16) (hm : most ≤ 65535) (hs : s.size ≤ 9223372036854775806) (h48 : ∀ c ∈ s.data.toList, 48 ≤ c.toNat) (w : World) :
 Calls Try.prog 71 #[.string s, .int .i64 base, .int .i64 most] w fun e w' => (∃ m : Nat, m ≤ 2000000 ∧ e = .returned (.tuple #[.int .i64 m, .bool (valR base most s.data.toList).isSome]) ∧ (∀ v, valR base most s.data.toList = some v → m = v)) ∧ w = w' := by
 have H48 := qh h48
 clear h48
 go_enter Try.func71, Try.ntmps71
 go_wp2
 go_loop [8, 9] (fun v i => ∃ (n k : Nat), k ≤ s.size ∧ i = .int .i64 k ∧ v = .int .i64 n ∧ n ≤ 2000000 ∧ Hid (valN base most 0 s.data.toList = valN base most n (s.data.toList.drop k))) (fun _ i => s.size - (intOf i).toNat)
 case atStart => exact ⟨0, 0, Nat.zero_le _, rfl, rfl, by omega, qh rfl⟩
 case round =>
  obtain ⟨n, k, hk, rfl, rfl, hn, HB⟩ := hrel
  by_cases hlt : k < s.size
  ·have HD := qh (drop_cons s k hlt)
   have hc := H48.out s[k] (by rw [← List.take_append_drop k s.data.toList, HD.out]; simp)
   have hc2 := u8_lt s[k]
   have HR : Hid (valR base most s.data.toList = valN base most 0 s.data.toList) := qh (by unfold valR; rw [if_neg (by intro e; rw [e] at HD; have := HD.out; simp at this)])
   have HV := qh (show valN base most n (s.data.toList.drop k) = if base ≤ dgt s[k] ∨ most < n then none else valN base most (n * base + dgt s[k]) (s.data.toList.drop (k + 1)) by rw [HD.out]; rfl)
   have hdg : (65 ≤ s[k].toNat → dgt s[k] = s[k].toNat - 55) ∧ (s[k].toNat < 65 → dgt s[k] = s[k].toNat - 48) := ⟨fun h => by unfold dgt; rw [if_pos h], fun h => by unfold dgt; rw [if_neg (by omega)]⟩
   have hnb : n ≤ most → n * base ≤ 1048560 := fun h => by
    have := Nat.mul_le_mul (Nat.le_trans h hm) hb
    omega
   have hnc : ((n : Int) * (base : Int)) = ((n * base : Nat) : Int) := by simp
   generalize dgt s[k] = dd at *
   generalize n * base = nb at *
   generalize hx : s[k].toNat = x at *
   clear HD H48
   by_cases bad : base ≤ dd ∨ most < n
   ·rw [if_pos bad] at HV
    have HN := qh (show valR base most s.data.toList = none by rw [HR.out, HB.out, HV.out])
    clear HR HB HV hnc
    go_wp2
    all_goals first
     | (exfalso; omega)
     | (go_ret2; exact ⟨⟨0, by omega, by rw [HN.out]; rfl, fun v hv => by rw [HN.out] at hv; cases hv⟩, rfl⟩)
   ·rw [if_neg bad] at HV
    have hnb' := hnb (by omega)
    have HN := qh (show valN base most 0 s.data.toList = valN base most (nb + dd) (s.data.toList.drop (k + 1)) by rw [HB.out, HV.out])
    clear HR HB HV hnb
    go_wp2
    all_goals first
     | (exfalso; omega)
     | (go_round
        case rel => exact ⟨nb + dd, k + 1, by omega, by go_num, by go_num, by omega, HN⟩
        case measure => simp [intOf]; omega)
  ·have hkS : k = s.size := by omega
   subst hkS
   have HE := qh (show valN base most 0 s.data.toList = if n ≤ most then some n else none by rw [HB.out, List.drop_of_length_le (by simp)]; rfl)
   have hR : valR base most s.data.toList = if s.size = 0 then none else if n ≤ most then some n else none := by
    unfold valR
    rw [HE.out]
    by_cases h0 : s.size = 0
    ·rw [if_pos ((empty_iff s).2 h0), if_pos h0]
    ·rw [if_neg (fun e => h0 ((empty_iff s).1 e)), if_neg h0]
   have HR := qh hR
   clear hR HE HB H48
   have hl : s.toList = s.data.toList := ByteArray.toList_eq s
   by_cases h0 : s.size = 0
   ·have hnil : s.toList = [] := by rw [hl]; exact (empty_iff s).2 h0
    have HN := qh (show valR base most s.data.toList = none by rw [HR.out, if_pos h0])
    clear HR hl
    go_wp2
    all_goals
     go_ret2
     exact ⟨⟨n, hn, by rw [HN.out]; rfl, fun v hv => by rw [HN.out] at hv; cases hv⟩, rfl⟩
   ·have hnil : ¬ s.toList = [] := by rw [hl]; exact fun e => h0 ((empty_iff s).1 e)
    by_cases hle : n ≤ most
    ·have HN := qh (show valR base most s.data.toList = some n by rw [HR.out, if_neg h0, if_pos hle])
     clear HR hl
     have hle' : decide ((n : Int) ≤ (most : Int)) = true := by simp; omega
     go_wp2
     all_goals
      go_ret2
      exact ⟨⟨n, hn, by rw [HN.out]; simp; try omega, fun v hv => by rw [HN.out] at hv; injection hv⟩, rfl⟩
    ·have HN := qh (show valR base most s.data.toList = none by rw [HR.out, if_neg h0, if_neg hle])
     clear HR hl
     go_wp2
     all_goals
      go_ret2
      exact ⟨⟨n, hn, by rw [HN.out]; simp; try omega, fun v hv => by rw [HN.out] at hv; cases hv⟩, rfl⟩
end Go.Proofs.Ytecmjhohniipoaa.Lx
end

section
namespace Go.Proofs.Ytecmjhohniipoaa.Lx
open Go.RowKit
open Pl
def words : List ByteArray := [⟨#[65, 78, 68]⟩, ⟨#[65, 82, 82, 65, 89]⟩, ⟨#[66, 69, 71, 73, 78]⟩, ⟨#[66, 89]⟩, ⟨#[67, 65, 83, 69]⟩, ⟨#[67, 79, 78, 83, 84]⟩, ⟨#[68, 69, 70, 73, 78, 73, 84, 73, 79, 78]⟩, ⟨#[68, 73, 86]⟩, ⟨#[68, 79]⟩, ⟨#[69, 76, 83, 69]⟩, ⟨#[69, 76, 83, 73, 70]⟩, ⟨#[69, 78, 68]⟩, ⟨#[69, 88, 73, 84]⟩, ⟨#[69, 88, 80, 79, 82, 84]⟩, ⟨#[70, 79, 82]⟩, ⟨#[70, 82, 79, 77]⟩, ⟨#[73, 70]⟩, ⟨#[73, 77, 80, 76, 69, 77, 69, 78, 84, 65, 84, 73, 79, 78]⟩, ⟨#[73, 77, 80, 79, 82, 84]⟩, ⟨#[73, 78]⟩, ⟨#[76, 79, 79, 80]⟩, ⟨#[77, 79, 68]⟩, ⟨#[77, 79, 68, 85, 76, 69]⟩, ⟨#[78, 79, 84]⟩, ⟨#[79, 70]⟩, ⟨#[79, 82]⟩, ⟨#[80, 79, 73, 78, 84, 69, 82]⟩, ⟨#[80, 82, 79, 67, 69, 68, 85, 82, 69]⟩, ⟨#[81, 85, 65, 76, 73, 70, 73, 69, 68]⟩, ⟨#[82, 69, 67, 79, 82, 68]⟩, ⟨#[82, 69, 80, 69, 65, 84]⟩, ⟨#[82, 69, 84, 85, 82, 78]⟩, ⟨#[83, 69, 84]⟩, ⟨#[84, 72, 69, 78]⟩, ⟨#[84, 79]⟩, ⟨#[84, 89, 80, 69]⟩, ⟨#[85, 78, 84, 73, 76]⟩, ⟨#[86, 65, 82]⟩, ⟨#[87, 72, 73, 76, 69]⟩, ⟨#[87, 73, 84, 72]⟩]
def wordsV : Array Value := #[.string ⟨#[65, 78, 68]⟩, .string ⟨#[65, 82, 82, 65, 89]⟩, .string ⟨#[66, 69, 71, 73, 78]⟩, .string ⟨#[66, 89]⟩, .string ⟨#[67, 65, 83, 69]⟩, .string ⟨#[67, 79, 78, 83, 84]⟩, .string ⟨#[68, 69, 70, 73, 78, 73, 84, 73, 79, 78]⟩, .string ⟨#[68, 73, 86]⟩, .string ⟨#[68, 79]⟩, .string ⟨#[69, 76, 83, 69]⟩, .string ⟨#[69, 76, 83, 73, 70]⟩, .string ⟨#[69, 78, 68]⟩, .string ⟨#[69, 88, 73, 84]⟩, .string ⟨#[69, 88, 80, 79, 82, 84]⟩, .string ⟨#[70, 79, 82]⟩, .string ⟨#[70, 82, 79, 77]⟩, .string ⟨#[73, 70]⟩, .string ⟨#[73, 77, 80, 76, 69, 77, 69, 78, 84, 65, 84, 73, 79, 78]⟩, .string ⟨#[73, 77, 80, 79, 82, 84]⟩, .string ⟨#[73, 78]⟩, .string ⟨#[76, 79, 79, 80]⟩, .string ⟨#[77, 79, 68]⟩, .string ⟨#[77, 79, 68, 85, 76, 69]⟩, .string ⟨#[78, 79, 84]⟩, .string ⟨#[79, 70]⟩, .string ⟨#[79, 82]⟩, .string ⟨#[80, 79, 73, 78, 84, 69, 82]⟩, .string ⟨#[80, 82, 79, 67, 69, 68, 85, 82, 69]⟩, .string ⟨#[81, 85, 65, 76, 73, 70, 73, 69, 68]⟩, .string ⟨#[82, 69, 67, 79, 82, 68]⟩, .string ⟨#[82, 69, 80, 69, 65, 84]⟩, .string ⟨#[82, 69, 84, 85, 82, 78]⟩, .string ⟨#[83, 69, 84]⟩, .string ⟨#[84, 72, 69, 78]⟩, .string ⟨#[84, 79]⟩, .string ⟨#[84, 89, 80, 69]⟩, .string ⟨#[85, 78, 84, 73, 76]⟩, .string ⟨#[86, 65, 82]⟩, .string ⟨#[87, 72, 73, 76, 69]⟩, .string ⟨#[87, 73, 84, 72]⟩]
theorem wordsV_eq : wordsV = (words.map Value.string).toArray := rfl
theorem wordsV_at (i : Nat) (h : i < words.length) : wordsV[i]? = some (.string words[i]) := by
 rw [wordsV_eq]; simp [h]
def isW (s : ByteArray) : Bool := words.any (fun x => x.data.toList == s.data.toList)
theorem bytes_ext {a b : ByteArray} (h : a.data.toList = b.data.toList) : a = b := by
 cases a; cases b; simp_all
theorem ext_two (s : ByteArray) (k : Nat) (h : k + 1 < s.size) : (s.extract k (k + 2)).toList = [s[k], s[k + 1]] := by
 rw [ByteArray.toList_eq, ByteArray.data_extract, Array.toList_extract, List.extract_eq_take_drop, drop_cons s k (by omega), drop_cons s (k + 1) h]
 simp [show k + 2 - k = 2 from by omega]
set_option maxHeartbeats 1600000 in
theorem Words_any (w : World) : Calls Try.prog 70 #[] w fun e w' => e = .returned (.slice (some ⟨w.heap.size, 0, none⟩) 40 40) ∧ w' = w.alloc (.cells wordsV 9) := by
 go_enter Try.func70, Try.ntmps70
 go_wp2
 go_ret
 exact ⟨rfl, rfl⟩
set_option maxHeartbeats 1600000 in
theorem rWord_any (s : ByteArray) (w : World) : Calls Try.prog 48 #[.string s] w fun e w' => e = .returned (.bool (isW s)) ∧ w' = w.alloc (.cells wordsV 9) := by
 go_enter Try.func48, Try.ntmps48
 have HW := qh (Words_any w)
 go_wp2_with fail
 ((with_reducible refine HW.out.mono ?_); rintro e w1 ⟨rfl, rfl⟩)
 clear HW
 have hcell : ∀ i (h : i < words.length), (w.alloc (.cells wordsV 9)).cell? ⟨w.heap.size, i, none⟩ = some (.string words[i]) := fun i h => by
  rw [cell_of_row _ _ _ _ _ _ (heap_alloc_new w _)]; exact wordsV_at i h
 have HC := qh hcell
 have hlt0 : w.heap.size < (w.alloc (.cells wordsV 9)).heap.size := by simp
 clear hcell
 generalize hW1 : w.alloc (.cells wordsV 9) = W1 at *
 go_wp2
 go_loop [4] (fun i => ∃ k : Nat, k ≤ 40 ∧ i = .int .i64 k ∧ Hid (∀ x ∈ words.take k, x ≠ s)) (fun i => 40 - (intOf i).toNat)
 case atStart => exact ⟨0, by omega, rfl, qh (by simp)⟩
 case round =>
  obtain ⟨k, hk, rfl, HN⟩ := hrel
  by_cases hlt : k < 40
  ·have hkl : k < words.length := hlt
   have hc := HC.out k hkl
   have HT := qh (show words.take (k + 1) = words.take k ++ [words[k]] from by simp)
   have HM := qh (show words[k] ∈ words from by simp)
   generalize words[k] = x at *
   have hi0 : (0 : Int) ≤ (k : Int) := by omega
   have hi1 : (k : Int) < 40 := by omega
   by_cases he : x = s
   ·subst he
    have HR := qh (show isW x = true by unfold isW; exact List.any_eq_true.2 ⟨x, HM.out, by simp⟩)
    clear HM HT
    go_wp2
    all_goals
     go_ret
     exact ⟨ret_bool (by rw [HR.out]), rfl⟩
   ·have HN2 := qh (show ∀ y ∈ words.take (k + 1), y ≠ s by
     intro y hy
     rw [HT.out, List.mem_append, List.mem_singleton] at hy
     rcases hy with hy | rfl
     ·exact HN.out y hy
     ·exact he)
    have hb : (x.toList == s.toList) = false := by
     rw [ByteArray.toList_eq, ByteArray.toList_eq]
     simp only [beq_eq_false_iff_ne, ne_eq]
     exact fun e => he (bytes_ext e)
    clear HM HT HN he
    go_wp2
    go_round
    case rel => exact ⟨k + 1, by omega, by go_num, HN2⟩
    case measure => simp [intOf]; omega
  ·have hk4 : k = 40 := by omega
   subst hk4
   have HR := qh (show isW s = false by
    unfold isW
    rw [List.any_eq_false]
    intro x hx e
    exact HN.out x (by rw [show (40 : Nat) = words.length from rfl, List.take_length]; exact hx) (bytes_ext (by simpa using e)))
   clear HN
   go_wp2
   go_ret
   exact ⟨ret_bool (by rw [HR.out]), rfl⟩
def cmt : Int → Nat → List UInt8 → Nat
 | d, i, a :: b :: r => if a = 40 ∧ b = 42 then cmt (d + 1) (i + 2) r else if a = 42 ∧ b = 41 then (if d - 1 = 0 then i + 2 else cmt (d - 1) (i + 2) r) else cmt d (i + 1) (b :: r)
 | _, _, _ => 0
set_option maxHeartbeats 1600000 in
theorem comment_any (s : ByteArray) (hs : s.size ≤ 9223372036854775800) (w : World) : Calls Try.prog 23 #[.string s] w fun e w' => e = .returned (.int .i64 (cmt 0 0 s.data.toList : Nat)) ∧ w = w' := by
 go_enter Try.func23, Try.ntmps23
 go_wp2
 go_loop [3, 4] (fun dv i => ∃ (d : Int) (k : Nat), k ≤ s.size ∧ i = .int .i64 k ∧ dv = .int .i64 d ∧ - (k : Int) ≤ d ∧ d ≤ k ∧ Hid (cmt 0 0 s.data.toList = cmt d k (s.data.toList.drop k))) (fun _ i => s.size - (intOf i).toNat)
 case atStart => exact ⟨0, 0, Nat.zero_le _, rfl, rfl, by omega, by omega, qh rfl⟩
 case round =>
  obtain ⟨d, k, hk, rfl, rfl, hd0, hd1, HB⟩ := hrel
  by_cases hlt : k + 1 < s.size
  ·have HD := qh (drop_cons s k (by omega))
   have HD2 := qh (drop_cons s (k + 1) hlt)
   have hx0 : (0 : Int) ≤ (k : Int) := by omega
   have hx1 : (k : Int) ≤ (k : Int) + 2 := by omega
   have hx2 : (k : Int) + 2 ≤ (s.size : Int) := by omega
   have hE := ext_two s k hlt
   generalize s[k] = a at *
   generalize s[k + 1] = b at *
   have HC := qh (show cmt d k (s.data.toList.drop k) = if a = 40 ∧ b = 42 then cmt (d + 1) (k + 2) (s.data.toList.drop (k + 2)) else if a = 42 ∧ b = 41 then (if d - 1 = 0 then k + 2 else cmt (d - 1) (k + 2) (s.data.toList.drop (k + 2))) else cmt d (k + 1) (s.data.toList.drop (k + 1)) by rw [HD.out, HD2.out]; rfl)
   clear HD HD2
   by_cases h1 : a = 40 ∧ b = 42
   ·have hb : ((s.extract k (k + 2)).toList == [40, 42]) = true := by rw [hE, h1.1, h1.2]; rfl
    have HN := qh (show cmt 0 0 s.data.toList = cmt (d + 1) (k + 2) (s.data.toList.drop (k + 2)) by rw [HB.out, HC.out, if_pos h1])
    clear hE HB HC h1
    go_wp2
    go_round
    case rel => exact ⟨d + 1, k + 2, by omega, by go_num, by go_num, by omega, by omega, HN⟩
    case measure => simp [intOf]; omega
   ·have hb : ((s.extract k (k + 2)).toList == [40, 42]) = false := by
     rw [hE]; simp only [beq_eq_false_iff_ne, ne_eq, List.cons.injEq, and_true]; exact h1
    by_cases h2 : a = 42 ∧ b = 41
    ·have hb2 : ((s.extract k (k + 2)).toList == [42, 41]) = true := by rw [hE, h2.1, h2.2]; rfl
     by_cases h3 : d - 1 = 0
     ·have hb3 : (d - 1 == 0) = true := by simp [h3]
      have HN := qh (show cmt 0 0 s.data.toList = k + 2 by rw [HB.out, HC.out, if_neg h1, if_pos h2, if_pos h3])
      clear hE HB HC h1 h2 h3
      go_wp2
      go_ret
      exact ⟨ret_int (by rw [HN.out]; simp), rfl⟩
     ·have hb3 : (d - 1 == 0) = false := by simpa using h3
      have HN := qh (show cmt 0 0 s.data.toList = cmt (d - 1) (k + 2) (s.data.toList.drop (k + 2)) by rw [HB.out, HC.out, if_neg h1, if_pos h2, if_neg h3])
      clear hE HB HC h1 h2 h3
      go_wp2
      go_round
      case rel => exact ⟨d - 1, k + 2, by omega, by go_num, by go_num, by omega, by omega, HN⟩
      case measure => simp [intOf]; omega
    ·have hb2 : ((s.extract k (k + 2)).toList == [42, 41]) = false := by
      rw [hE]; simp only [beq_eq_false_iff_ne, ne_eq, List.cons.injEq, and_true]; exact h2
     have HN := qh (show cmt 0 0 s.data.toList = cmt d (k + 1) (s.data.toList.drop (k + 1)) by rw [HB.out, HC.out, if_neg h1, if_neg h2])
     clear hE HB HC h1 h2
     go_wp2
     go_round
     case rel => exact ⟨d, k + 1, by omega, by go_num, rfl, by omega, by omega, HN⟩
     case measure => simp [intOf]; omega
  ·have HN := qh (show cmt 0 0 s.data.toList = 0 by
    rw [HB.out]
    have hl : (s.data.toList.drop k).length ≤ 1 := by rw [List.length_drop]; simp; omega
    rcases h : s.data.toList.drop k with _ | ⟨a, _ | ⟨b, r⟩⟩
    ·rfl
    ·rfl
    ·rw [h] at hl; simp at hl)
   clear HB
   go_wp2
   go_ret
   exact ⟨ret_int (by rw [HN.out]; rfl), rfl⟩
end Go.Proofs.Ytecmjhohniipoaa.Lx
end
