/- The walks of the 31 functions that word.does puts into its map: each returns what its op says of the numbers that it captures. -/
import Derived.Test.YtdodbbedlgglcaaDoorD2
set_option linter.unusedSimpArgs false
set_option linter.unusedVariables false
namespace Go.Proofs.YtdodbbedlgglcaaDoor.Wd
open Go.RowKit
open WPlain


set_option maxHeartbeats 400000 in
theorem cl1 (B C : Nat) (x y : Int) (w : World) (hB : w.cell? ⟨B, 0, none⟩ = some (.int .i64 x)) (hC : w.cell? ⟨C, 0, none⟩ = some (.int .i64 y)) (hx : x.natAbs ≤ 65536) (hy : y.natAbs ≤ 65536) :
    Calls Tryd.prog 30 #[.pointer (some ⟨B, 0, none⟩), .pointer (some ⟨C, 0, none⟩)] w fun e w' => e = .returned (tup (signedP (x + y))) ∧ w = w' := by
  have hc := signed_any (x + y) w
  unfold tup at hc
  have HC := Lib.hid hc
  clear hc
  have b1 : -65536 ≤ x := by omega
  have b2 : x ≤ 65536 := by omega
  have b3 : -65536 ≤ y := by omega
  have b4 : y ≤ 65536 := by omega
  clear hx hy
  go_enter Tryd.func30, Tryd.ntmps30
  go_wp2_with fail
  ((with_reducible refine HC.out.mono ?_); rintro e w' ⟨rfl, rfl⟩)
  go_wp2
  go_ret2
  exact ⟨rfl, rfl⟩

set_option maxHeartbeats 400000 in
theorem cl2 (B C : Nat) (x y : Int) (w : World) (hB : w.cell? ⟨B, 0, none⟩ = some (.int .i64 x)) (hC : w.cell? ⟨C, 0, none⟩ = some (.int .i64 y)) (hx : x.natAbs ≤ 65536) (hy : y.natAbs ≤ 65536) :
    Calls Tryd.prog 32 #[.pointer (some ⟨B, 0, none⟩), .pointer (some ⟨C, 0, none⟩)] w fun e w' => e = .returned (tup (signedP (x - y))) ∧ w = w' := by
  have hc := signed_any (x - y) w
  unfold tup at hc
  have HC := Lib.hid hc
  clear hc
  have b1 : -65536 ≤ x := by omega
  have b2 : x ≤ 65536 := by omega
  have b3 : -65536 ≤ y := by omega
  have b4 : y ≤ 65536 := by omega
  clear hx hy
  go_enter Tryd.func32, Tryd.ntmps32
  go_wp2_with fail
  ((with_reducible refine HC.out.mono ?_); rintro e w' ⟨rfl, rfl⟩)
  go_wp2
  go_ret2
  exact ⟨rfl, rfl⟩

set_option maxHeartbeats 400000 in
theorem cl3 (B C : Nat) (x y : Int) (w : World) (hB : w.cell? ⟨B, 0, none⟩ = some (.int .i64 x)) (hC : w.cell? ⟨C, 0, none⟩ = some (.int .i64 y)) (hx : x.natAbs ≤ 65536) (hy : y.natAbs ≤ 65536) :
    Calls Tryd.prog 33 #[.pointer (some ⟨B, 0, none⟩), .pointer (some ⟨C, 0, none⟩)] w fun e w' => e = .returned (tup (signedP (x * y))) ∧ w = w' := by
  have hc := signed_any (x * y) w
  unfold tup at hc
  have HC := Lib.hid hc
  clear hc
  have hm := wrap_mul x y hx hy
  have b1 : -65536 ≤ x := by omega
  have b2 : x ≤ 65536 := by omega
  have b3 : -65536 ≤ y := by omega
  have b4 : y ≤ 65536 := by omega
  clear hx hy
  go_enter Tryd.func33, Tryd.ntmps33
  go_wp2_with fail
  ((with_reducible refine HC.out.mono ?_); rintro e w' ⟨rfl, rfl⟩)
  go_wp2
  go_ret2
  exact ⟨rfl, rfl⟩

set_option maxHeartbeats 400000 in
theorem cl4_1 (B C : Nat) (x y : Int) (w : World) (hB : w.cell? ⟨B, 0, none⟩ = some (.int .i64 x)) (hC : w.cell? ⟨C, 0, none⟩ = some (.int .i64 y)) (hx : x.natAbs ≤ 65536) (hy : y.natAbs ≤ 65536) (h0 : y ≠ 0) :
    Calls Tryd.prog 36 #[.pointer (some ⟨B, 0, none⟩), .pointer (some ⟨C, 0, none⟩)] w fun e w' => e = .returned (tup (signedP (x.tdiv y))) ∧ w = w' := by
  have hc := signed_any (x.tdiv y) w
  unfold tup at hc
  have HC := Lib.hid hc
  clear hc
  have hm := wrap_tdiv x y hx
  have b1 : -65536 ≤ x := by omega
  have b2 : x ≤ 65536 := by omega
  have b3 : -65536 ≤ y := by omega
  have b4 : y ≤ 65536 := by omega
  clear hx hy
  go_enter Tryd.func36, Tryd.ntmps36
  go_wp2_with fail
  ((with_reducible refine HC.out.mono ?_); rintro e w' ⟨rfl, rfl⟩)
  go_wp2
  go_ret2
  exact ⟨rfl, rfl⟩

set_option maxHeartbeats 400000 in
theorem cl5_1 (B C : Nat) (x y : Int) (w : World) (hB : w.cell? ⟨B, 0, none⟩ = some (.int .i64 x)) (hC : w.cell? ⟨C, 0, none⟩ = some (.int .i64 y)) (hx : x.natAbs ≤ 65536) (hy : y.natAbs ≤ 65536) (h0 : y ≠ 0) :
    Calls Tryd.prog 38 #[.pointer (some ⟨B, 0, none⟩), .pointer (some ⟨C, 0, none⟩)] w fun e w' => e = .returned (tup (signedP (x.tmod y))) ∧ w = w' := by
  have hc := signed_any (x.tmod y) w
  unfold tup at hc
  have HC := Lib.hid hc
  clear hc
  have b1 : -65536 ≤ x := by omega
  have b2 : x ≤ 65536 := by omega
  have b3 : -65536 ≤ y := by omega
  have b4 : y ≤ 65536 := by omega
  clear hx hy
  go_enter Tryd.func38, Tryd.ntmps38
  go_wp2_with fail
  ((with_reducible refine HC.out.mono ?_); rintro e w' ⟨rfl, rfl⟩)
  go_wp2
  go_ret2
  exact ⟨rfl, rfl⟩

set_option maxHeartbeats 400000 in
theorem cl8 (B C : Nat) (x y : Int) (w : World) (hB : w.cell? ⟨B, 0, none⟩ = some (.int .i64 x)) (hC : w.cell? ⟨C, 0, none⟩ = some (.int .i64 y)) (hx : x.natAbs ≤ 65536) (hy : y.natAbs ≤ 65536) :
    Calls Tryd.prog 41 #[.pointer (some ⟨B, 0, none⟩), .pointer (some ⟨C, 0, none⟩)] w fun e w' => e = .returned (tup (bareP (x + y))) ∧ w = w' := by
  have hc := bare_any (x + y) w
  unfold tup at hc
  have HC := Lib.hid hc
  clear hc
  have b1 : -65536 ≤ x := by omega
  have b2 : x ≤ 65536 := by omega
  have b3 : -65536 ≤ y := by omega
  have b4 : y ≤ 65536 := by omega
  clear hx hy
  go_enter Tryd.func41, Tryd.ntmps41
  go_wp2_with fail
  ((with_reducible refine HC.out.mono ?_); rintro e w' ⟨rfl, rfl⟩)
  go_wp2
  go_ret2
  exact ⟨rfl, rfl⟩

set_option maxHeartbeats 400000 in
theorem cl9 (B C : Nat) (x y : Int) (w : World) (hB : w.cell? ⟨B, 0, none⟩ = some (.int .i64 x)) (hC : w.cell? ⟨C, 0, none⟩ = some (.int .i64 y)) (hx : x.natAbs ≤ 65536) (hy : y.natAbs ≤ 65536) :
    Calls Tryd.prog 43 #[.pointer (some ⟨B, 0, none⟩), .pointer (some ⟨C, 0, none⟩)] w fun e w' => e = .returned (tup (bareP (x - y))) ∧ w = w' := by
  have hc := bare_any (x - y) w
  unfold tup at hc
  have HC := Lib.hid hc
  clear hc
  have b1 : -65536 ≤ x := by omega
  have b2 : x ≤ 65536 := by omega
  have b3 : -65536 ≤ y := by omega
  have b4 : y ≤ 65536 := by omega
  clear hx hy
  go_enter Tryd.func43, Tryd.ntmps43
  go_wp2_with fail
  ((with_reducible refine HC.out.mono ?_); rintro e w' ⟨rfl, rfl⟩)
  go_wp2
  go_ret2
  exact ⟨rfl, rfl⟩

set_option maxHeartbeats 400000 in
theorem cl10 (B C : Nat) (x y : Int) (w : World) (hB : w.cell? ⟨B, 0, none⟩ = some (.int .i64 x)) (hC : w.cell? ⟨C, 0, none⟩ = some (.int .i64 y)) (hx : x.natAbs ≤ 65536) (hy : y.natAbs ≤ 65536) :
    Calls Tryd.prog 44 #[.pointer (some ⟨B, 0, none⟩), .pointer (some ⟨C, 0, none⟩)] w fun e w' => e = .returned (tup (bareP (x * y))) ∧ w = w' := by
  have hc := bare_any (x * y) w
  unfold tup at hc
  have HC := Lib.hid hc
  clear hc
  have hm := wrap_mul x y hx hy
  have b1 : -65536 ≤ x := by omega
  have b2 : x ≤ 65536 := by omega
  have b3 : -65536 ≤ y := by omega
  have b4 : y ≤ 65536 := by omega
  clear hx hy
  go_enter Tryd.func44, Tryd.ntmps44
  go_wp2_with fail
  ((with_reducible refine HC.out.mono ?_); rintro e w' ⟨rfl, rfl⟩)
  go_wp2
  go_ret2
  exact ⟨rfl, rfl⟩

set_option maxHeartbeats 400000 in
theorem cl11_1 (B C : Nat) (x y : Int) (w : World) (hB : w.cell? ⟨B, 0, none⟩ = some (.int .i64 x)) (hC : w.cell? ⟨C, 0, none⟩ = some (.int .i64 y)) (hx : x.natAbs ≤ 65536) (hy : y.natAbs ≤ 65536) (h0 : y ≠ 0) :
    Calls Tryd.prog 46 #[.pointer (some ⟨B, 0, none⟩), .pointer (some ⟨C, 0, none⟩)] w fun e w' => e = .returned (tup (bareP (x.tdiv y))) ∧ w = w' := by
  have hc := bare_any (x.tdiv y) w
  unfold tup at hc
  have HC := Lib.hid hc
  clear hc
  have hm := wrap_tdiv x y hx
  have b1 : -65536 ≤ x := by omega
  have b2 : x ≤ 65536 := by omega
  have b3 : -65536 ≤ y := by omega
  have b4 : y ≤ 65536 := by omega
  clear hx hy
  go_enter Tryd.func46, Tryd.ntmps46
  go_wp2_with fail
  ((with_reducible refine HC.out.mono ?_); rintro e w' ⟨rfl, rfl⟩)
  go_wp2
  go_ret2
  exact ⟨rfl, rfl⟩

set_option maxHeartbeats 400000 in
theorem cl12_1 (B C : Nat) (x y : Int) (w : World) (hB : w.cell? ⟨B, 0, none⟩ = some (.int .i64 x)) (hC : w.cell? ⟨C, 0, none⟩ = some (.int .i64 y)) (hx : x.natAbs ≤ 65536) (hy : y.natAbs ≤ 65536) (h0 : y ≠ 0) :
    Calls Tryd.prog 48 #[.pointer (some ⟨B, 0, none⟩), .pointer (some ⟨C, 0, none⟩)] w fun e w' => e = .returned (tup (bareP (x.tmod y))) ∧ w = w' := by
  have hc := bare_any (x.tmod y) w
  unfold tup at hc
  have HC := Lib.hid hc
  clear hc
  have b1 : -65536 ≤ x := by omega
  have b2 : x ≤ 65536 := by omega
  have b3 : -65536 ≤ y := by omega
  have b4 : y ≤ 65536 := by omega
  clear hx hy
  go_enter Tryd.func48, Tryd.ntmps48
  go_wp2_with fail
  ((with_reducible refine HC.out.mono ?_); rintro e w' ⟨rfl, rfl⟩)
  go_wp2
  go_ret2
  exact ⟨rfl, rfl⟩

set_option maxHeartbeats 400000 in
theorem cl15 (B C : Nat) (x y : Int) (w : World) (hB : w.cell? ⟨B, 0, none⟩ = some (.int .i64 x)) (hC : w.cell? ⟨C, 0, none⟩ = some (.int .i64 y)) (hx : x.natAbs ≤ 65536) (hy : y.natAbs ≤ 65536) :
    Calls Tryd.prog 52 #[.pointer (some ⟨B, 0, none⟩), .pointer (some ⟨C, 0, none⟩)] w fun e w' => e = .returned (tup (isP (decide (x < y)))) ∧ w = w' := by
  have hc := asks_int0 x y w
  unfold tup at hc
  have HC := Lib.hid hc
  clear hc
  have b1 : -65536 ≤ x := by omega
  have b2 : x ≤ 65536 := by omega
  have b3 : -65536 ≤ y := by omega
  have b4 : y ≤ 65536 := by omega
  clear hx hy
  go_enter Tryd.func52, Tryd.ntmps52
  go_wp2_with fail
  ((with_reducible refine HC.out.mono ?_); rintro e w' ⟨rfl, rfl⟩)
  go_wp2
  go_ret2
  exact ⟨rfl, rfl⟩

set_option maxHeartbeats 400000 in
theorem cl19 (B C : Nat) (x y : Int) (w : World) (hB : w.cell? ⟨B, 0, none⟩ = some (.int .u16 x)) (hC : w.cell? ⟨C, 0, none⟩ = some (.int .u16 y)) (hx : x.natAbs ≤ 65536) (hy : y.natAbs ≤ 65536) :
    Calls Tryd.prog 57 #[.pointer (some ⟨B, 0, none⟩), .pointer (some ⟨C, 0, none⟩)] w fun e w' => e = .returned (tup (isP (decide (x < y)))) ∧ w = w' := by
  have hc := asks_uint160 x y w
  unfold tup at hc
  have HC := Lib.hid hc
  clear hc
  have b1 : -65536 ≤ x := by omega
  have b2 : x ≤ 65536 := by omega
  have b3 : -65536 ≤ y := by omega
  have b4 : y ≤ 65536 := by omega
  clear hx hy
  go_enter Tryd.func57, Tryd.ntmps57
  go_wp2_with fail
  ((with_reducible refine HC.out.mono ?_); rintro e w' ⟨rfl, rfl⟩)
  go_wp2
  go_ret2
  exact ⟨rfl, rfl⟩

set_option maxHeartbeats 400000 in
theorem cl16 (B C : Nat) (x y : Int) (w : World) (hB : w.cell? ⟨B, 0, none⟩ = some (.int .i64 x)) (hC : w.cell? ⟨C, 0, none⟩ = some (.int .i64 y)) (hx : x.natAbs ≤ 65536) (hy : y.natAbs ≤ 65536) :
    Calls Tryd.prog 54 #[.pointer (some ⟨B, 0, none⟩), .pointer (some ⟨C, 0, none⟩)] w fun e w' => e = .returned (tup (isP (decide (x ≤ y)))) ∧ w = w' := by
  have hc := asks_int1 x y w
  unfold tup at hc
  have HC := Lib.hid hc
  clear hc
  have b1 : -65536 ≤ x := by omega
  have b2 : x ≤ 65536 := by omega
  have b3 : -65536 ≤ y := by omega
  have b4 : y ≤ 65536 := by omega
  clear hx hy
  go_enter Tryd.func54, Tryd.ntmps54
  go_wp2_with fail
  ((with_reducible refine HC.out.mono ?_); rintro e w' ⟨rfl, rfl⟩)
  go_wp2
  go_ret2
  exact ⟨rfl, rfl⟩

set_option maxHeartbeats 400000 in
theorem cl20 (B C : Nat) (x y : Int) (w : World) (hB : w.cell? ⟨B, 0, none⟩ = some (.int .u16 x)) (hC : w.cell? ⟨C, 0, none⟩ = some (.int .u16 y)) (hx : x.natAbs ≤ 65536) (hy : y.natAbs ≤ 65536) :
    Calls Tryd.prog 59 #[.pointer (some ⟨B, 0, none⟩), .pointer (some ⟨C, 0, none⟩)] w fun e w' => e = .returned (tup (isP (decide (x ≤ y)))) ∧ w = w' := by
  have hc := asks_uint161 x y w
  unfold tup at hc
  have HC := Lib.hid hc
  clear hc
  have b1 : -65536 ≤ x := by omega
  have b2 : x ≤ 65536 := by omega
  have b3 : -65536 ≤ y := by omega
  have b4 : y ≤ 65536 := by omega
  clear hx hy
  go_enter Tryd.func59, Tryd.ntmps59
  go_wp2_with fail
  ((with_reducible refine HC.out.mono ?_); rintro e w' ⟨rfl, rfl⟩)
  go_wp2
  go_ret2
  exact ⟨rfl, rfl⟩

set_option maxHeartbeats 400000 in
theorem cl17 (B C : Nat) (x y : Int) (w : World) (hB : w.cell? ⟨B, 0, none⟩ = some (.int .i64 x)) (hC : w.cell? ⟨C, 0, none⟩ = some (.int .i64 y)) (hx : x.natAbs ≤ 65536) (hy : y.natAbs ≤ 65536) :
    Calls Tryd.prog 55 #[.pointer (some ⟨B, 0, none⟩), .pointer (some ⟨C, 0, none⟩)] w fun e w' => e = .returned (tup (isP (decide (y < x)))) ∧ w = w' := by
  have hc := asks_int2 x y w
  unfold tup at hc
  have HC := Lib.hid hc
  clear hc
  have b1 : -65536 ≤ x := by omega
  have b2 : x ≤ 65536 := by omega
  have b3 : -65536 ≤ y := by omega
  have b4 : y ≤ 65536 := by omega
  clear hx hy
  go_enter Tryd.func55, Tryd.ntmps55
  go_wp2_with fail
  ((with_reducible refine HC.out.mono ?_); rintro e w' ⟨rfl, rfl⟩)
  go_wp2
  go_ret2
  exact ⟨rfl, rfl⟩

set_option maxHeartbeats 400000 in
theorem cl21 (B C : Nat) (x y : Int) (w : World) (hB : w.cell? ⟨B, 0, none⟩ = some (.int .u16 x)) (hC : w.cell? ⟨C, 0, none⟩ = some (.int .u16 y)) (hx : x.natAbs ≤ 65536) (hy : y.natAbs ≤ 65536) :
    Calls Tryd.prog 60 #[.pointer (some ⟨B, 0, none⟩), .pointer (some ⟨C, 0, none⟩)] w fun e w' => e = .returned (tup (isP (decide (y < x)))) ∧ w = w' := by
  have hc := asks_uint162 x y w
  unfold tup at hc
  have HC := Lib.hid hc
  clear hc
  have b1 : -65536 ≤ x := by omega
  have b2 : x ≤ 65536 := by omega
  have b3 : -65536 ≤ y := by omega
  have b4 : y ≤ 65536 := by omega
  clear hx hy
  go_enter Tryd.func60, Tryd.ntmps60
  go_wp2_with fail
  ((with_reducible refine HC.out.mono ?_); rintro e w' ⟨rfl, rfl⟩)
  go_wp2
  go_ret2
  exact ⟨rfl, rfl⟩

set_option maxHeartbeats 400000 in
theorem cl18 (B C : Nat) (x y : Int) (w : World) (hB : w.cell? ⟨B, 0, none⟩ = some (.int .i64 x)) (hC : w.cell? ⟨C, 0, none⟩ = some (.int .i64 y)) (hx : x.natAbs ≤ 65536) (hy : y.natAbs ≤ 65536) :
    Calls Tryd.prog 56 #[.pointer (some ⟨B, 0, none⟩), .pointer (some ⟨C, 0, none⟩)] w fun e w' => e = .returned (tup (isP (decide (y ≤ x)))) ∧ w = w' := by
  have hc := asks_int3 x y w
  unfold tup at hc
  have HC := Lib.hid hc
  clear hc
  have b1 : -65536 ≤ x := by omega
  have b2 : x ≤ 65536 := by omega
  have b3 : -65536 ≤ y := by omega
  have b4 : y ≤ 65536 := by omega
  clear hx hy
  go_enter Tryd.func56, Tryd.ntmps56
  go_wp2_with fail
  ((with_reducible refine HC.out.mono ?_); rintro e w' ⟨rfl, rfl⟩)
  go_wp2
  go_ret2
  exact ⟨rfl, rfl⟩

set_option maxHeartbeats 400000 in
theorem cl22 (B C : Nat) (x y : Int) (w : World) (hB : w.cell? ⟨B, 0, none⟩ = some (.int .u16 x)) (hC : w.cell? ⟨C, 0, none⟩ = some (.int .u16 y)) (hx : x.natAbs ≤ 65536) (hy : y.natAbs ≤ 65536) :
    Calls Tryd.prog 61 #[.pointer (some ⟨B, 0, none⟩), .pointer (some ⟨C, 0, none⟩)] w fun e w' => e = .returned (tup (isP (decide (y ≤ x)))) ∧ w = w' := by
  have hc := asks_uint163 x y w
  unfold tup at hc
  have HC := Lib.hid hc
  clear hc
  have b1 : -65536 ≤ x := by omega
  have b2 : x ≤ 65536 := by omega
  have b3 : -65536 ≤ y := by omega
  have b4 : y ≤ 65536 := by omega
  clear hx hy
  go_enter Tryd.func61, Tryd.ntmps61
  go_wp2_with fail
  ((with_reducible refine HC.out.mono ?_); rintro e w' ⟨rfl, rfl⟩)
  go_wp2
  go_ret2
  exact ⟨rfl, rfl⟩

set_option maxHeartbeats 400000 in
theorem cl6 (B : Nat) (x : Int) (w : World) (hB : w.cell? ⟨B, 0, none⟩ = some (.int .i64 x)) (hx : x.natAbs ≤ 65536) :
    Calls Tryd.prog 39 #[.pointer (some ⟨B, 0, none⟩)] w fun e w' => e = .returned (tup (signedP (-x))) ∧ w = w' := by
  have hc := signed_any (-x) w
  unfold tup at hc
  have HC := Lib.hid hc
  clear hc
  have b1 : -65536 ≤ x := by omega
  have b2 : x ≤ 65536 := by omega
  clear hx
  go_enter Tryd.func39, Tryd.ntmps39
  go_wp2_with fail
  ((with_reducible refine HC.out.mono ?_); rintro e w' ⟨rfl, rfl⟩)
  go_wp2
  go_ret2
  exact ⟨rfl, rfl⟩

set_option maxHeartbeats 400000 in
theorem cl7 (B : Nat) (x : Int) (w : World) (hB : w.cell? ⟨B, 0, none⟩ = some (.int .i64 x)) (hx : x.natAbs ≤ 65536) :
    Calls Tryd.prog 40 #[.pointer (some ⟨B, 0, none⟩)] w fun e w' => e = .returned (tup (signedP (max x (-x)))) ∧ w = w' := by
  have hm := signed_any (max x (-x)) w
  unfold tup at hm
  have b1 : -65536 ≤ x := by omega
  have b2 : x ≤ 65536 := by omega
  clear hx
  by_cases h : 0 ≤ x
  · rw [show max x (-x) = x by omega] at hm
    have HE := Lib.hid (show max x (-x) = x by omega)
    have HC := Lib.hid hm
    clear hm
    have h1 : ¬ x < -x := by omega
    go_enter Tryd.func40, Tryd.ntmps40
    go_wp2_with fail
    all_goals
      have hz := HC.out
      try (rw [show x = -x by omega] at hz)
      ((with_reducible refine hz.mono ?_); rintro e w' ⟨rfl, rfl⟩)
      clear hz
      go_wp2
      go_ret2
      exact ⟨by rw [HE.out]; (first | rfl | (rw [show -x = x by omega]; rfl)), rfl⟩
  · rw [show max x (-x) = -x by omega] at hm
    have HE := Lib.hid (show max x (-x) = -x by omega)
    have HC := Lib.hid hm
    clear hm
    have h1 : x < -x := by omega
    go_enter Tryd.func40, Tryd.ntmps40
    go_wp2_with fail
    all_goals
      ((with_reducible refine HC.out.mono ?_); rintro e w' ⟨rfl, rfl⟩)
      go_wp2
      go_ret2
      exact ⟨by rw [HE.out]; rfl, rfl⟩

set_option maxHeartbeats 400000 in
theorem over_zero (fv : Value) (w : World) : Calls Tryd.prog 35 #[.int .i64 0, fv] w fun e w' => e = .returned (tup (0, 4)) ∧ w = w' := by
  have hz : ((0 : Int) == 0) = true := rfl
  go_enter Tryd.func35, Tryd.ntmps35
  go_wp2
  go_ret2
  exact ⟨rfl, rfl⟩

set_option maxHeartbeats 400000 in
theorem over4 (B C : Nat) (x y : Int) (w : World) (hB : w.cell? ⟨B, 0, none⟩ = some (.int .i64 x)) (hC : w.cell? ⟨C, 0, none⟩ = some (.int .i64 y)) (hx : x.natAbs ≤ 65536) (hy : y.natAbs ≤ 65536) (h0 : y ≠ 0) :
    Calls Tryd.prog 35 #[.int .i64 y, .func (.func 36) #[] #[.pointer (some ⟨B, 0, none⟩), .pointer (some ⟨C, 0, none⟩)]] w fun e w' => e = .returned (tup (signedP (x.tdiv y))) ∧ w = w' := by
  have hc := cl4_1 B C x y w hB hC hx hy h0
  unfold tup at hc
  have HC := Lib.hid hc
  clear hc
  have hz : (y == 0) = false := by simp [h0]
  clear h0 hx hy
  go_enter Tryd.func35, Tryd.ntmps35
  go_wp2_with fail
  ((with_reducible refine HC.out.mono ?_); rintro e w' ⟨rfl, rfl⟩)
  go_wp2
  go_ret2
  exact ⟨rfl, rfl⟩

set_option maxHeartbeats 400000 in
theorem cl4 (C B : Nat) (y x : Int) (w : World) (hC : w.cell? ⟨C, 0, none⟩ = some (.int .i64 y)) (hB : w.cell? ⟨B, 0, none⟩ = some (.int .i64 x)) (hy : y.natAbs ≤ 65536) (hx : x.natAbs ≤ 65536) :
    Calls Tryd.prog 34 #[.pointer (some ⟨C, 0, none⟩), .pointer (some ⟨B, 0, none⟩)] w fun e w' => e = .returned (tup (overP y (signedP (x.tdiv y)))) ∧ w = w' := by
  by_cases h0 : y = 0
  · subst h0
    have hc := over_zero (.func (.func 36) #[] #[.pointer (some ⟨B, 0, none⟩), .pointer (some ⟨C, 0, none⟩)]) w
    unfold tup at hc
    have HC := Lib.hid hc
    clear hc
    go_enter Tryd.func34, Tryd.ntmps34
    go_wp2_with fail
    ((with_reducible refine HC.out.mono ?_); rintro e w' ⟨rfl, rfl⟩)
    go_wp2
    go_ret2
    exact ⟨rfl, rfl⟩
  · have hc := over4 B C x y w hB hC hx hy h0
    unfold tup at hc
    have HC := Lib.hid hc
    clear hc
    have HO := Lib.hid (show overP y (signedP (x.tdiv y)) = signedP (x.tdiv y) from by unfold overP; rw [if_neg h0])
    clear h0 hx hy
    go_enter Tryd.func34, Tryd.ntmps34
    go_wp2_with fail
    ((with_reducible refine HC.out.mono ?_); rintro e w' ⟨rfl, rfl⟩)
    go_wp2
    go_ret2
    exact ⟨by rw [HO.out]; rfl, rfl⟩

set_option maxHeartbeats 400000 in
theorem over5 (B C : Nat) (x y : Int) (w : World) (hB : w.cell? ⟨B, 0, none⟩ = some (.int .i64 x)) (hC : w.cell? ⟨C, 0, none⟩ = some (.int .i64 y)) (hx : x.natAbs ≤ 65536) (hy : y.natAbs ≤ 65536) (h0 : y ≠ 0) :
    Calls Tryd.prog 35 #[.int .i64 y, .func (.func 38) #[] #[.pointer (some ⟨B, 0, none⟩), .pointer (some ⟨C, 0, none⟩)]] w fun e w' => e = .returned (tup (signedP (x.tmod y))) ∧ w = w' := by
  have hc := cl5_1 B C x y w hB hC hx hy h0
  unfold tup at hc
  have HC := Lib.hid hc
  clear hc
  have hz : (y == 0) = false := by simp [h0]
  clear h0 hx hy
  go_enter Tryd.func35, Tryd.ntmps35
  go_wp2_with fail
  ((with_reducible refine HC.out.mono ?_); rintro e w' ⟨rfl, rfl⟩)
  go_wp2
  go_ret2
  exact ⟨rfl, rfl⟩

set_option maxHeartbeats 400000 in
theorem cl5 (C B : Nat) (y x : Int) (w : World) (hC : w.cell? ⟨C, 0, none⟩ = some (.int .i64 y)) (hB : w.cell? ⟨B, 0, none⟩ = some (.int .i64 x)) (hy : y.natAbs ≤ 65536) (hx : x.natAbs ≤ 65536) :
    Calls Tryd.prog 37 #[.pointer (some ⟨C, 0, none⟩), .pointer (some ⟨B, 0, none⟩)] w fun e w' => e = .returned (tup (overP y (signedP (x.tmod y)))) ∧ w = w' := by
  by_cases h0 : y = 0
  · subst h0
    have hc := over_zero (.func (.func 38) #[] #[.pointer (some ⟨B, 0, none⟩), .pointer (some ⟨C, 0, none⟩)]) w
    unfold tup at hc
    have HC := Lib.hid hc
    clear hc
    go_enter Tryd.func37, Tryd.ntmps37
    go_wp2_with fail
    ((with_reducible refine HC.out.mono ?_); rintro e w' ⟨rfl, rfl⟩)
    go_wp2
    go_ret2
    exact ⟨rfl, rfl⟩
  · have hc := over5 B C x y w hB hC hx hy h0
    unfold tup at hc
    have HC := Lib.hid hc
    clear hc
    have HO := Lib.hid (show overP y (signedP (x.tmod y)) = signedP (x.tmod y) from by unfold overP; rw [if_neg h0])
    clear h0 hx hy
    go_enter Tryd.func37, Tryd.ntmps37
    go_wp2_with fail
    ((with_reducible refine HC.out.mono ?_); rintro e w' ⟨rfl, rfl⟩)
    go_wp2
    go_ret2
    exact ⟨by rw [HO.out]; rfl, rfl⟩

set_option maxHeartbeats 400000 in
theorem over11 (B C : Nat) (x y : Int) (w : World) (hB : w.cell? ⟨B, 0, none⟩ = some (.int .i64 x)) (hC : w.cell? ⟨C, 0, none⟩ = some (.int .i64 y)) (hx : x.natAbs ≤ 65536) (hy : y.natAbs ≤ 65536) (h0 : y ≠ 0) :
    Calls Tryd.prog 35 #[.int .i64 y, .func (.func 46) #[] #[.pointer (some ⟨B, 0, none⟩), .pointer (some ⟨C, 0, none⟩)]] w fun e w' => e = .returned (tup (bareP (x.tdiv y))) ∧ w = w' := by
  have hc := cl11_1 B C x y w hB hC hx hy h0
  unfold tup at hc
  have HC := Lib.hid hc
  clear hc
  have hz : (y == 0) = false := by simp [h0]
  clear h0 hx hy
  go_enter Tryd.func35, Tryd.ntmps35
  go_wp2_with fail
  ((with_reducible refine HC.out.mono ?_); rintro e w' ⟨rfl, rfl⟩)
  go_wp2
  go_ret2
  exact ⟨rfl, rfl⟩

set_option maxHeartbeats 400000 in
theorem cl11 (C B : Nat) (y x : Int) (w : World) (hC : w.cell? ⟨C, 0, none⟩ = some (.int .i64 y)) (hB : w.cell? ⟨B, 0, none⟩ = some (.int .i64 x)) (hy : y.natAbs ≤ 65536) (hx : x.natAbs ≤ 65536) :
    Calls Tryd.prog 45 #[.pointer (some ⟨C, 0, none⟩), .pointer (some ⟨B, 0, none⟩)] w fun e w' => e = .returned (tup (overP y (bareP (x.tdiv y)))) ∧ w = w' := by
  by_cases h0 : y = 0
  · subst h0
    have hc := over_zero (.func (.func 46) #[] #[.pointer (some ⟨B, 0, none⟩), .pointer (some ⟨C, 0, none⟩)]) w
    unfold tup at hc
    have HC := Lib.hid hc
    clear hc
    go_enter Tryd.func45, Tryd.ntmps45
    go_wp2_with fail
    ((with_reducible refine HC.out.mono ?_); rintro e w' ⟨rfl, rfl⟩)
    go_wp2
    go_ret2
    exact ⟨rfl, rfl⟩
  · have hc := over11 B C x y w hB hC hx hy h0
    unfold tup at hc
    have HC := Lib.hid hc
    clear hc
    have HO := Lib.hid (show overP y (bareP (x.tdiv y)) = bareP (x.tdiv y) from by unfold overP; rw [if_neg h0])
    clear h0 hx hy
    go_enter Tryd.func45, Tryd.ntmps45
    go_wp2_with fail
    ((with_reducible refine HC.out.mono ?_); rintro e w' ⟨rfl, rfl⟩)
    go_wp2
    go_ret2
    exact ⟨by rw [HO.out]; rfl, rfl⟩

set_option maxHeartbeats 400000 in
theorem over12 (B C : Nat) (x y : Int) (w : World) (hB : w.cell? ⟨B, 0, none⟩ = some (.int .i64 x)) (hC : w.cell? ⟨C, 0, none⟩ = some (.int .i64 y)) (hx : x.natAbs ≤ 65536) (hy : y.natAbs ≤ 65536) (h0 : y ≠ 0) :
    Calls Tryd.prog 35 #[.int .i64 y, .func (.func 48) #[] #[.pointer (some ⟨B, 0, none⟩), .pointer (some ⟨C, 0, none⟩)]] w fun e w' => e = .returned (tup (bareP (x.tmod y))) ∧ w = w' := by
  have hc := cl12_1 B C x y w hB hC hx hy h0
  unfold tup at hc
  have HC := Lib.hid hc
  clear hc
  have hz : (y == 0) = false := by simp [h0]
  clear h0 hx hy
  go_enter Tryd.func35, Tryd.ntmps35
  go_wp2_with fail
  ((with_reducible refine HC.out.mono ?_); rintro e w' ⟨rfl, rfl⟩)
  go_wp2
  go_ret2
  exact ⟨rfl, rfl⟩

set_option maxHeartbeats 400000 in
theorem cl12 (C B : Nat) (y x : Int) (w : World) (hC : w.cell? ⟨C, 0, none⟩ = some (.int .i64 y)) (hB : w.cell? ⟨B, 0, none⟩ = some (.int .i64 x)) (hy : y.natAbs ≤ 65536) (hx : x.natAbs ≤ 65536) :
    Calls Tryd.prog 47 #[.pointer (some ⟨C, 0, none⟩), .pointer (some ⟨B, 0, none⟩)] w fun e w' => e = .returned (tup (overP y (bareP (x.tmod y)))) ∧ w = w' := by
  by_cases h0 : y = 0
  · subst h0
    have hc := over_zero (.func (.func 48) #[] #[.pointer (some ⟨B, 0, none⟩), .pointer (some ⟨C, 0, none⟩)]) w
    unfold tup at hc
    have HC := Lib.hid hc
    clear hc
    go_enter Tryd.func47, Tryd.ntmps47
    go_wp2_with fail
    ((with_reducible refine HC.out.mono ?_); rintro e w' ⟨rfl, rfl⟩)
    go_wp2
    go_ret2
    exact ⟨rfl, rfl⟩
  · have hc := over12 B C x y w hB hC hx hy h0
    unfold tup at hc
    have HC := Lib.hid hc
    clear hc
    have HO := Lib.hid (show overP y (bareP (x.tmod y)) = bareP (x.tmod y) from by unfold overP; rw [if_neg h0])
    clear h0 hx hy
    go_enter Tryd.func47, Tryd.ntmps47
    go_wp2_with fail
    ((with_reducible refine HC.out.mono ?_); rintro e w' ⟨rfl, rfl⟩)
    go_wp2
    go_ret2
    exact ⟨by rw [HO.out]; rfl, rfl⟩

set_option maxHeartbeats 400000 in
theorem cl13 (B C : Nat) (a b : Nat) (w : World) (hB : w.cell? ⟨B, 0, none⟩ = some (.int .u16 a)) (hC : w.cell? ⟨C, 0, none⟩ = some (.int .u16 b)) (ha : a < 65536) (hb : b < 65536) :
    Calls Tryd.prog 49 #[.pointer (some ⟨B, 0, none⟩), .pointer (some ⟨C, 0, none⟩)] w fun e w' => e = .returned (tup (isP (a == b))) ∧ w = w' := by
  have hc := is_any (a == b) w
  unfold tup at hc
  have HC := Lib.hid hc
  clear hc
  have he : ((a : Int) == (b : Int)) = (a == b) := by rw [Bool.eq_iff_iff]; simp; omega
  go_enter Tryd.func49, Tryd.ntmps49
  go_wp2_with fail
  (first | (with_reducible refine HC.out.mono ?_) | (go_show; fail))
  rintro e w' ⟨rfl, rfl⟩
  go_wp2
  go_ret2
  exact ⟨rfl, rfl⟩

set_option maxHeartbeats 400000 in
theorem cl14 (B C : Nat) (a b : Nat) (w : World) (hB : w.cell? ⟨B, 0, none⟩ = some (.int .u16 a)) (hC : w.cell? ⟨C, 0, none⟩ = some (.int .u16 b)) (ha : a < 65536) (hb : b < 65536) :
    Calls Tryd.prog 51 #[.pointer (some ⟨B, 0, none⟩), .pointer (some ⟨C, 0, none⟩)] w fun e w' => e = .returned (tup (isP (a != b))) ∧ w = w' := by
  have hc := is_any (a != b) w
  unfold tup at hc
  have HC := Lib.hid hc
  clear hc
  have he : ((a : Int) != (b : Int)) = (a != b) := by rw [Bool.eq_iff_iff]; simp; omega
  go_enter Tryd.func51, Tryd.ntmps51
  go_wp2_with fail
  (first | (with_reducible refine HC.out.mono ?_) | (go_show; fail))
  rintro e w' ⟨rfl, rfl⟩
  go_wp2
  go_ret2
  exact ⟨rfl, rfl⟩

set_option maxHeartbeats 400000 in
theorem cl23 (B : Nat) (a b : Nat) (w : World) (hB : w.cell? ⟨B, 0, none⟩ = some (.int .u16 a)) (ha : a < 65536) (hb : b < 65536) :
    Calls Tryd.prog 62 #[.pointer (some ⟨B, 0, none⟩)] w fun e w' => e = .returned (tup (isP (a == 0))) ∧ w = w' := by
  have hc := is_any (a == 0) w
  unfold tup at hc
  have HC := Lib.hid hc
  clear hc
  have he : ((a : Int) == 0) = (a == 0) := by rw [Bool.eq_iff_iff]; simp
  go_enter Tryd.func62, Tryd.ntmps62
  go_wp2_with fail
  (first | (with_reducible refine HC.out.mono ?_) | (go_show; fail))
  rintro e w' ⟨rfl, rfl⟩
  go_wp2
  go_ret2
  exact ⟨rfl, rfl⟩

set_option maxHeartbeats 400000 in
theorem cl24 (B C : Nat) (a b : Nat) (w : World) (hB : w.cell? ⟨B, 0, none⟩ = some (.int .u16 a)) (hC : w.cell? ⟨C, 0, none⟩ = some (.int .u16 b)) (ha : a < 65536) (hb : b < 65536) :
    Calls Tryd.prog 63 #[.pointer (some ⟨B, 0, none⟩), .pointer (some ⟨C, 0, none⟩)] w fun e w' => e = .returned (tup (a ||| b, 0)) ∧ w = w' := by
  have hc := plain_any (((a ||| b : Nat)) : Int) w
  unfold tup at hc
  have HC := Lib.hid hc
  clear hc
  have he := u16_or_nat a b ha hb
  go_enter Tryd.func63, Tryd.ntmps63
  go_wp2_with fail
  (first | (with_reducible refine HC.out.mono ?_) | (go_show; fail))
  rintro e w' ⟨rfl, rfl⟩
  go_wp2
  go_ret2
  exact ⟨rfl, rfl⟩

set_option maxHeartbeats 400000 in
theorem cl25 (B C : Nat) (a b : Nat) (w : World) (hB : w.cell? ⟨B, 0, none⟩ = some (.int .u16 a)) (hC : w.cell? ⟨C, 0, none⟩ = some (.int .u16 b)) (ha : a < 65536) (hb : b < 65536) :
    Calls Tryd.prog 65 #[.pointer (some ⟨B, 0, none⟩), .pointer (some ⟨C, 0, none⟩)] w fun e w' => e = .returned (tup (a &&& (65535 - b), 0)) ∧ w = w' := by
  have hc := plain_any (((a &&& (65535 - b) : Nat)) : Int) w
  unfold tup at hc
  have HC := Lib.hid hc
  clear hc
  have he := u16_andNot_nat a b ha hb
  go_enter Tryd.func65, Tryd.ntmps65
  go_wp2_with fail
  (first | (with_reducible refine HC.out.mono ?_) | (go_show; fail))
  rintro e w' ⟨rfl, rfl⟩
  go_wp2
  go_ret2
  exact ⟨rfl, rfl⟩

set_option maxHeartbeats 400000 in
theorem cl26 (B C : Nat) (a b : Nat) (w : World) (hB : w.cell? ⟨B, 0, none⟩ = some (.int .u16 a)) (hC : w.cell? ⟨C, 0, none⟩ = some (.int .u16 b)) (ha : a < 65536) (hb : b < 65536) :
    Calls Tryd.prog 66 #[.pointer (some ⟨B, 0, none⟩), .pointer (some ⟨C, 0, none⟩)] w fun e w' => e = .returned (tup (a &&& b, 0)) ∧ w = w' := by
  have hc := plain_any (((a &&& b : Nat)) : Int) w
  unfold tup at hc
  have HC := Lib.hid hc
  clear hc
  have he := u16_and_nat a b ha hb
  go_enter Tryd.func66, Tryd.ntmps66
  go_wp2_with fail
  (first | (with_reducible refine HC.out.mono ?_) | (go_show; fail))
  rintro e w' ⟨rfl, rfl⟩
  go_wp2
  go_ret2
  exact ⟨rfl, rfl⟩

set_option maxHeartbeats 400000 in
theorem cl27 (B C : Nat) (a b : Nat) (w : World) (hB : w.cell? ⟨B, 0, none⟩ = some (.int .u16 a)) (hC : w.cell? ⟨C, 0, none⟩ = some (.int .u16 b)) (ha : a < 65536) (hb : b < 65536) :
    Calls Tryd.prog 67 #[.pointer (some ⟨B, 0, none⟩), .pointer (some ⟨C, 0, none⟩)] w fun e w' => e = .returned (tup (a ^^^ b, 0)) ∧ w = w' := by
  have hc := plain_any (((a ^^^ b : Nat)) : Int) w
  unfold tup at hc
  have HC := Lib.hid hc
  clear hc
  have he := u16_xor_nat a b ha hb
  go_enter Tryd.func67, Tryd.ntmps67
  go_wp2_with fail
  (first | (with_reducible refine HC.out.mono ?_) | (go_show; fail))
  rintro e w' ⟨rfl, rfl⟩
  go_wp2
  go_ret2
  exact ⟨rfl, rfl⟩

set_option maxHeartbeats 400000 in
theorem cl29 (B C : Nat) (a b : Nat) (w : World) (hB : w.cell? ⟨B, 0, none⟩ = some (.int .u16 a)) (hC : w.cell? ⟨C, 0, none⟩ = some (.int .u16 b)) (ha : a < 65536) (hb : b < 65536) :
    Calls Tryd.prog 69 #[.pointer (some ⟨B, 0, none⟩), .pointer (some ⟨C, 0, none⟩)] w fun e w' => e = .returned (tup (isP ((a &&& (65535 - b)) == 0))) ∧ w = w' := by
  have hc := is_any ((a &&& (65535 - b)) == 0) w
  unfold tup at hc
  have HC := Lib.hid hc
  clear hc
  have he := u16_andNot_nat a b ha hb
  have he2 : ((((a &&& (65535 - b) : Nat)) : Int) == 0) = ((a &&& (65535 - b)) == 0) := by rw [Bool.eq_iff_iff]; simp
  generalize (a &&& (65535 - b) : Nat) = z at *
  go_enter Tryd.func69, Tryd.ntmps69
  go_wp2_with fail
  (first | (with_reducible refine HC.out.mono ?_) | (go_show; fail))
  rintro e w' ⟨rfl, rfl⟩
  go_wp2
  go_ret2
  exact ⟨rfl, rfl⟩

set_option maxHeartbeats 400000 in
theorem cl30 (B : Nat) (a b : Nat) (w : World) (hB : w.cell? ⟨B, 0, none⟩ = some (.int .u16 a)) (ha : a < 65536) (hb : b < 65536) :
    Calls Tryd.prog 70 #[.pointer (some ⟨B, 0, none⟩)] w fun e w' => e = .returned (tup (rowP a a)) ∧ w = w' := by
  have hc := row_any a a w ha ha
  unfold tup at hc
  have HC := Lib.hid hc
  clear hc
  go_enter Tryd.func70, Tryd.ntmps70
  go_wp2_with fail
  (first | (with_reducible refine HC.out.mono ?_) | (go_show; fail))
  rintro e w' ⟨rfl, rfl⟩
  go_wp2
  go_ret2
  exact ⟨rfl, rfl⟩

set_option maxHeartbeats 400000 in
theorem cl31 (B C : Nat) (a b : Nat) (w : World) (hB : w.cell? ⟨B, 0, none⟩ = some (.int .u16 a)) (hC : w.cell? ⟨C, 0, none⟩ = some (.int .u16 b)) (ha : a < 65536) (hb : b < 65536) :
    Calls Tryd.prog 72 #[.pointer (some ⟨B, 0, none⟩), .pointer (some ⟨C, 0, none⟩)] w fun e w' => e = .returned (tup (rowP a b)) ∧ w = w' := by
  have hc := row_any a b w ha hb
  unfold tup at hc
  have HC := Lib.hid hc
  clear hc
  go_enter Tryd.func72, Tryd.ntmps72
  go_wp2_with fail
  (first | (with_reducible refine HC.out.mono ?_) | (go_show; fail))
  rintro e w' ⟨rfl, rfl⟩
  go_wp2
  go_ret2
  exact ⟨rfl, rfl⟩

set_option maxHeartbeats 400000 in
theorem cl28 (B C : Nat) (a b : Nat) (w : World) (hB : w.cell? ⟨B, 0, none⟩ = some (.int .u16 a)) (hC : w.cell? ⟨C, 0, none⟩ = some (.int .u16 b)) (ha : a < 65536) (hb : b < 65536) :
    Calls Tryd.prog 68 #[.pointer (some ⟨B, 0, none⟩), .pointer (some ⟨C, 0, none⟩)] w fun e w' => e = .returned (tup (isP (decide (a < 16) && b.testBit a))) ∧ w = w' := by
  by_cases hk : a < 16
  · have hk' : (a : Int) < 16 := by omega
    have hc := is_any (b.testBit a) w
    unfold tup at hc
    have HC := Lib.hid hc
    clear hc
    have HE := Lib.hid (show (decide (a < 16) && b.testBit a) = b.testBit a from by simp [hk])
    have he := in_eq b a hb hk
    generalize b.testBit a = z at *
    go_enter Tryd.func68, Tryd.ntmps68
    go_wp2_with fail
    ((with_reducible refine HC.out.mono ?_); rintro e w' ⟨rfl, rfl⟩)
    go_wp2
    go_ret2
    exact ⟨by rw [HE.out]; rfl, rfl⟩
  · have hk' : ¬ (a : Int) < 16 := by omega
    have hc := is_any false w
    unfold tup at hc
    have HC := Lib.hid hc
    clear hc
    have HE := Lib.hid (show (decide (a < 16) && b.testBit a) = false from by simp [hk])
    go_enter Tryd.func68, Tryd.ntmps68
    go_wp2_with fail
    ((with_reducible refine HC.out.mono ?_); rintro e w' ⟨rfl, rfl⟩)
    go_wp2
    go_ret2
    exact ⟨by rw [HE.out]; rfl, rfl⟩

end Go.Proofs.YtdodbbedlgglcaaDoor.Wd
