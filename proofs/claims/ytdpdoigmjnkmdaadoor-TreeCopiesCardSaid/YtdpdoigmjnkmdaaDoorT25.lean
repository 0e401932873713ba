/- The walk of a reader's head. -/
import Derived.Test.YtdpdoigmjnkmdaaDoorT24
import Derived.BigQuiet
import Derived.Outline
set_option linter.unusedSimpArgs false
set_option linter.unusedVariables false
namespace Go.Proofs.YtdpdoigmjnkmdaaDoor.Tr
open Go.RowKit
open Fl

/-- What head answers where there is none. -/
def NoHead (w : World) (b : Nat) (n : Int) (e : Ending) (w' : World) : Prop := e = .returned (.tuple #[.pointer none, .bool false]) ∧ ∃ l', RS w w' b l' n ∧ l'.length ≤ 1000000000
set_option maxRecDepth 100000 in
set_option maxHeartbeats 1600000 in
/-- The first number is none. -/
theorem head_f1 (b : Nat) (l : List UInt8) (n : Int) (w : World)
    (c : Hid (Calls Tryd.prog 41 #[.pointer (some ⟨b, 0, none⟩), .string ⟨#[32]⟩] w fun e w' => ∃ z l', e = .returned (.tuple #[.int .i64 z, .bool false]) ∧ RS w w' b l' n ∧ l'.length ≤ 1000000000)) :
    Calls Tryd.prog 32 #[.pointer (some ⟨b, 0, none⟩)] w (NoHead w b n) := by
  go_enter Tryd.func32, Tryd.ntmps32
  go_wp2_with fail
  ((with_reducible refine c.out.mono ?_); rintro e w1 ⟨z, l1, rfl, hs1, hl1⟩)
  have H1 := Lib.hid hs1
  clear hs1
  go_wp2_with fail
  ((with_reducible refine (cut_any 32 b l1 n w1 hl1 H1.out.rd H1.out.env).mono ?_); rintro e w2 ⟨a, ok, l2, rfl, hs2, hl2⟩)
  have H2 := Lib.hid (H1.out.trans hs2)
  clear hs2
  go_wp2_with fail
  ((with_reducible refine (num_any 58 b l2 n w2 hl2 H2.out.rd H2.out.env).mono ?_); rintro e w3 ⟨z2, ok2, l3, rfl, hs3, hl3⟩)
  have H3 := Lib.hid (H2.out.trans hs3)
  clear hs3
  go_wp2
  go_ret2
  exact ⟨rfl, l3, H3.out, hl3⟩
set_option maxRecDepth 100000 in
set_option maxHeartbeats 1600000 in
/-- The kind is out of bounds. -/
theorem head_f2 (b : Nat) (l : List UInt8) (n : Int) (w : World) (k : Int) (l1 : List UInt8) (hk : k < 0 ∨ 255 < k) (hl1 : l1.length ≤ 1000000000)
    (c : Hid (Calls Tryd.prog 41 #[.pointer (some ⟨b, 0, none⟩), .string ⟨#[32]⟩] w fun e w' => e = .returned (.tuple #[.int .i64 k, .bool true]) ∧ RS w w' b l1 n)) :
    Calls Tryd.prog 32 #[.pointer (some ⟨b, 0, none⟩)] w (NoHead w b n) := by
  rcases hk with hk | hk
  all_goals
    go_enter Tryd.func32, Tryd.ntmps32
    go_wp2_with fail
    ((with_reducible refine c.out.mono ?_); rintro e w1 ⟨rfl, hs1⟩)
    have H1 := Lib.hid hs1
    clear hs1
    go_wp2_with fail
    ((with_reducible refine (cut_any 32 b l1 n w1 hl1 H1.out.rd H1.out.env).mono ?_); rintro e w2 ⟨a, ok, l2, rfl, hs2, hl2⟩)
    have H2 := Lib.hid (H1.out.trans hs2)
    clear hs2
    go_wp2_with fail
    ((with_reducible refine (num_any 58 b l2 n w2 hl2 H2.out.rd H2.out.env).mono ?_); rintro e w3 ⟨z2, ok2, l3, rfl, hs3, hl3⟩)
    have H3 := Lib.hid (H2.out.trans hs3)
    clear hs3
    go_wp2
    go_ret2
    exact ⟨rfl, l3, H3.out, hl3⟩
set_option maxRecDepth 100000 in
set_option maxHeartbeats 1600000 in
/-- There is no place. -/
theorem head_f3 (b : Nat) (l : List UInt8) (n : Int) (w : World) (k : Int) (l1 : List UInt8) (hk : 0 ≤ k) (hk2 : k ≤ 255) (hl1 : l1.length ≤ 1000000000) (hc2 : cutAt 32 l1 = none)
    (c : Hid (Calls Tryd.prog 41 #[.pointer (some ⟨b, 0, none⟩), .string ⟨#[32]⟩] w fun e w' => e = .returned (.tuple #[.int .i64 k, .bool true]) ∧ RS w w' b l1 n)) :
    Calls Tryd.prog 32 #[.pointer (some ⟨b, 0, none⟩)] w (NoHead w b n) := by
  have HC2 := Lib.hid hc2
  clear hc2
  go_enter Tryd.func32, Tryd.ntmps32
  go_wp2_with fail
  ((with_reducible refine c.out.mono ?_); rintro e w1 ⟨rfl, hs1⟩)
  have H1 := Lib.hid hs1
  clear hs1
  go_wp2_with fail
  ((with_reducible refine (cut_n 32 b l1 n w1 hl1 H1.out.rd H1.out.env HC2.out).mono ?_); rintro e w2 ⟨rfl, hs2⟩)
  have H2 := Lib.hid (H1.out.trans hs2)
  clear hs2
  generalize (⟨l1.toArray⟩ : ByteArray) = lb at *
  go_wp2_with fail
  ((with_reducible refine (num_any 58 b l1 n w2 hl1 H2.out.rd H2.out.env).mono ?_); rintro e w3 ⟨z2, ok2, l3, rfl, hs3, hl3⟩)
  have H3 := Lib.hid (H2.out.trans hs3)
  clear hs3
  go_wp2
  go_ret2
  exact ⟨rfl, l3, H3.out, hl3⟩
set_option maxRecDepth 100000 in
set_option maxHeartbeats 1600000 in
/-- The second number is none. -/
theorem head_f4 (b : Nat) (l : List UInt8) (n : Int) (w : World) (k : Int) (l1 a2 l2 : List UInt8) (hk : 0 ≤ k) (hk2 : k ≤ 255) (hl1 : l1.length ≤ 1000000000) (hc2 : cutAt 32 l1 = some (a2, l2))
    (c : Hid (Calls Tryd.prog 41 #[.pointer (some ⟨b, 0, none⟩), .string ⟨#[32]⟩] w fun e w' => e = .returned (.tuple #[.int .i64 k, .bool true]) ∧ RS w w' b l1 n))
    (c3 : Hid (∀ w1, Rd w1 b l2 n → Env w1 b → Calls Tryd.prog 41 #[.pointer (some ⟨b, 0, none⟩), .string ⟨#[58]⟩] w1 fun e w' => ∃ z l', e = .returned (.tuple #[.int .i64 z, .bool false]) ∧ RS w1 w' b l' n ∧ l'.length ≤ 1000000000)) :
    Calls Tryd.prog 32 #[.pointer (some ⟨b, 0, none⟩)] w (NoHead w b n) := by
  have HC2 := Lib.hid hc2
  clear hc2
  go_enter Tryd.func32, Tryd.ntmps32
  go_wp2_with fail
  ((with_reducible refine c.out.mono ?_); rintro e w1 ⟨rfl, hs1⟩)
  have H1 := Lib.hid hs1
  clear hs1
  go_wp2_with fail
  ((with_reducible refine (cut_y 32 b l1 n w1 a2 l2 hl1 H1.out.rd H1.out.env HC2.out).mono ?_); rintro e w2 ⟨rfl, hs2⟩)
  have H2 := Lib.hid (H1.out.trans hs2)
  clear hs2
  generalize (⟨a2.toArray⟩ : ByteArray) = ab at *
  go_wp2_with fail
  ((with_reducible refine (c3.out w2 H2.out.rd H2.out.env).mono ?_); rintro e w3 ⟨z2, l3, rfl, hs3, hl3⟩)
  have H3 := Lib.hid (H2.out.trans hs3)
  clear hs3
  go_wp2
  go_ret2
  exact ⟨rfl, l3, H3.out, hl3⟩
set_option maxRecDepth 100000 in
set_option maxHeartbeats 1600000 in
/-- The second number is out of bounds. -/
theorem head_f5 (b : Nat) (l : List UInt8) (n : Int) (w : World) (k m : Int) (l1 a2 l2 l3 : List UInt8) (hk : 0 ≤ k) (hk2 : k ≤ 255) (hl1 : l1.length ≤ 1000000000) (hl3 : l3.length ≤ 1000000000) (hc2 : cutAt 32 l1 = some (a2, l2)) (hm : m < 0 ∨ 0 ≤ m ∧ (l3.length : Int) < m)
    (c : Hid (Calls Tryd.prog 41 #[.pointer (some ⟨b, 0, none⟩), .string ⟨#[32]⟩] w fun e w' => e = .returned (.tuple #[.int .i64 k, .bool true]) ∧ RS w w' b l1 n))
    (c3 : Hid (∀ w1, Rd w1 b l2 n → Env w1 b → Calls Tryd.prog 41 #[.pointer (some ⟨b, 0, none⟩), .string ⟨#[58]⟩] w1 fun e w' => e = .returned (.tuple #[.int .i64 m, .bool true]) ∧ RS w1 w' b l3 n)) :
    Calls Tryd.prog 32 #[.pointer (some ⟨b, 0, none⟩)] w (NoHead w b n) := by
  have HC2 := Lib.hid hc2
  clear hc2
  have hsz := bsize l3
  rcases hm with hm | ⟨hm0, hm⟩
  all_goals
    go_enter Tryd.func32, Tryd.ntmps32
    go_wp2_with fail
    ((with_reducible refine c.out.mono ?_); rintro e w1 ⟨rfl, hs1⟩)
    have H1 := Lib.hid hs1
    clear hs1
    go_wp2_with fail
    ((with_reducible refine (cut_y 32 b l1 n w1 a2 l2 hl1 H1.out.rd H1.out.env HC2.out).mono ?_); rintro e w2 ⟨rfl, hs2⟩)
    have H2 := Lib.hid (H1.out.trans hs2)
    clear hs2
    generalize (⟨a2.toArray⟩ : ByteArray) = ab at *
    go_wp2_with fail
    ((with_reducible refine (c3.out w2 H2.out.rd H2.out.env).mono ?_); rintro e w3 ⟨rfl, hs3⟩)
    have H3 := Lib.hid (H2.out.trans hs3)
    clear hs3
    have hc0 := Blk.cell H3.out.rd 0
    simp only [List.getElem?_toArray, List.getElem?_cons_zero] at hc0
    go_wp2
    go_ret2
    exact ⟨rfl, l3, H3.out, hl3⟩
end Go.Proofs.YtdpdoigmjnkmdaaDoor.Tr
