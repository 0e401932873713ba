/- The walk of a reader's number. -/
import Derived.Test.YtdpdoigmjnkmdaaDoorT23
import Derived.Shelf.Strconv.ErrVarParseInt
set_option linter.unusedSimpArgs false
set_option linter.unusedVariables false
namespace Go.Proofs.YtdpdoigmjnkmdaaDoor.Tr
open Go.RowKit
open Fl

theorem bytes_below {w w' : World} (hw : w' = w ∨ ∃ t, w' = Lib.bytesWorld w 5 t) : Below w.heap.size w w' := by
  rcases hw with rfl | ⟨t, rfl⟩
  · exact Below.refl _ _
  · exact Lib.bytesWorld_below _ _ _
theorem parse_good (s : ByteArray) (v : Int) (w : World) (hs : s.size ≤ 9223372036854775806) (h : Lib.atoiAll s.data.toList = .ok v) :
    Calls Tryd.prog 45 #[.string s, .int .i64 10, .int .i64 64] w fun e w' => e = .returned (.tuple #[.int .i64 v, .nilIface]) ∧ Below w.heap.size w w' :=
  (Tryd.strconv_ParseInt_10_at64_ok s hs v (by rw [Lib.parseIntB_64]; exact h) w).mono fun e w' ⟨he, hw⟩ => ⟨he, bytes_below hw⟩
theorem parse_bad (s : ByteArray) (w : World) (hs : s.size ≤ 281474976710656) (h : ∀ v, Lib.atoiAll s.data.toList ≠ .ok v) (ht : Pl.Tabs w) :
    Calls Tryd.prog 45 #[.string s, .int .i64 10, .int .i64 64] w fun e w' => ∃ (n : Int) (N : Nat), e = .returned (.tuple #[.int .i64 n, .iface 107 (.pointer (some ⟨N, 0, none⟩))]) ∧ Below w.heap.size w w' := by
  obtain ⟨h1, ⟨t, p, h2⟩, ⟨t', p', h3⟩⟩ := ht
  rw [← Lib.parseIntB_64] at h
  cases ha : Lib.parseIntB 64 s.data.toList
  · exact absurd ha (h _)
  · exact (Any.strconv_ParseInt_10_at64_syntax_var Tryd.laysC174 s hs ha t p w h2).mono fun e w' ⟨N, he, _, _, hb⟩ => ⟨_, N, he, hb⟩
  · exact (Tryd.strconv_ParseInt_10_at64_range_var s hs ha t' p' w h3).mono fun e w' ⟨N, he, _, _, hb⟩ => ⟨_, N, he, hb⟩
theorem parse_any (s : ByteArray) (w : World) (hs : s.size ≤ 281474976710656) (ht : Pl.Tabs w) :
    Calls Tryd.prog 45 #[.string s, .int .i64 10, .int .i64 64] w fun e w' => ∃ (n : Int) (E : Value), e = .returned (.tuple #[.int .i64 n, E]) ∧ Below w.heap.size w w' := by
  cases h : Lib.atoiAll s.data.toList
  · exact (parse_good s _ w (by omega) h).mono fun e w' ⟨he, hb⟩ => ⟨_, _, he, hb⟩
  all_goals exact (parse_bad s w hs (fun v => by rw [h]; simp) ht).mono fun e w' ⟨n, N, he, hb⟩ => ⟨_, _, he, hb⟩
theorem format_any (v : Int) (w : World) (h : inR v) (ht : Pl.Tabs w) :
    Calls Tryd.prog 36 #[.int .i64 v, .int .i64 10] w fun e w' => e = .returned (.string ⟨(Lib.itoa v).toArray⟩) ∧ Below w.heap.size w w' :=
  (Tryd.strconv_FormatInt_10 v h.1 h.2 w ht.1).mono fun e w' ⟨he, k, os, hw⟩ => ⟨he, by subst hw; exact Lib.below_grow _ _ (Nat.le_refl _) _ _⟩

/-- Between w and w' the reader in block b has come to l, n; nothing else of w has turned. -/
def RS (w w' : World) (b : Nat) (l : List UInt8) (n : Int) : Prop := Rd w' b l n ∧ w.grownBy w' (some b) ∧ Env w' b
theorem RS.env {w w' : World} {b : Nat} {l : List UInt8} {n : Int} (h : RS w w' b l n) : Env w' b := h.2.2
theorem RS.rd {w w' : World} {b : Nat} {l : List UInt8} {n : Int} (h : RS w w' b l n) : Rd w' b l n := h.1
theorem RS.on {w w' : World} {b : Nat} {l : List UInt8} {n : Int} (h : RS w w' b l n) : w.grownBy w' (some b) := h.2.1
theorem RS.refl {w : World} {b : Nat} {l : List UInt8} {n : Int} (h : Rd w b l n) (he : Env w b) : RS w w b l n := ⟨h, World.grownBy.refl w _, he⟩
theorem RS.below {w w1 w2 : World} {b : Nat} {l : List UInt8} {n : Int} (h : RS w w1 b l n) (hb : Below w1.heap.size w1 w2) : RS w w2 b l n :=
  ⟨h.1.below hb, on_trans h.2.1 (grown_below hb _), h.2.2.keep (grown_below hb _)⟩
theorem RS.trans {w w1 w2 : World} {b : Nat} {l l' : List UInt8} {n n' : Int} (h : RS w w1 b l n) (k : RS w1 w2 b l' n') : RS w w2 b l' n' := ⟨k.1, on_trans h.2.1 k.2.1, k.2.2⟩
theorem RS.set {w w1 : World} {b : Nat} {l : List UInt8} {n : Int} (h : RS w w1 b l n) (m : List UInt8) : RS w (w1.setCell ⟨b, 0, none⟩ (.string ⟨m.toArray⟩)) b m n :=
  ⟨h.1.set m, on_trans h.2.1 (on_set _ _ _ _), h.2.2.keep (on_set _ _ _ _)⟩
theorem RS.set_n {w w1 : World} {b : Nat} {l : List UInt8} {n : Int} (h : RS w w1 b l n) (k : Int) : RS w (w1.setCell ⟨b, 1, none⟩ (.int .i64 k)) b l k :=
  ⟨Blk.set_ h.1 1 _, on_trans h.2.1 (on_set _ _ _ _), h.2.2.keep (on_set _ _ _ _)⟩
theorem RS.drewN {w w1 : World} {b : Nat} {l : List UInt8} {n : Int} (h : RS w w1 b l n) (k : Nat) : RS w (w1.drewN k) b l n := h.below (below_drewN (Below.refl _ _) k)

theorem cut_n (s : UInt8) (b : Nat) (l : List UInt8) (n : Int) (w : World) (hl : l.length ≤ 1000000000) (h : Rd w b l n) (he : Env w b) (hc : cutAt s l = none) :
    Calls Tryd.prog 42 #[.pointer (some ⟨b, 0, none⟩), .string ⟨#[s]⟩] w fun e w' => e = .returned (.tuple #[.string ⟨l.toArray⟩, .bool false]) ∧ RS w w' b l n := by
  have hcut : Lib.cut l [s] = (l, [], false) := by rw [cut_one, hc]
  have c := cut_no b l n ⟨#[s]⟩ w (by omega) he.mx h (by show (Lib.cut l [s]).2.2 = false; rw [hcut])
  have e1 : (⟨#[s]⟩ : ByteArray).data.toList = [s] := rfl
  rw [e1, hcut] at c
  exact c.mono fun e w' ⟨h1, k, h2⟩ => ⟨h1, by subst h2; exact (RS.refl h he).drewN k⟩
theorem cut_y (s : UInt8) (b : Nat) (l : List UInt8) (n : Int) (w : World) (a r : List UInt8) (hl : l.length ≤ 1000000000) (h : Rd w b l n) (he : Env w b) (hc : cutAt s l = some (a, r)) :
    Calls Tryd.prog 42 #[.pointer (some ⟨b, 0, none⟩), .string ⟨#[s]⟩] w fun e w' => e = .returned (.tuple #[.string ⟨a.toArray⟩, .bool true]) ∧ RS w w' b r n := by
  have hcut : Lib.cut l [s] = (a, r, true) := by rw [cut_one, hc]
  have c := cut_yes b l n ⟨#[s]⟩ w (by omega) he.mx h (by show (Lib.cut l [s]).2.2 = true; rw [hcut])
  have e1 : (⟨#[s]⟩ : ByteArray).data.toList = [s] := rfl
  rw [e1, hcut] at c
  exact c.mono fun e w' ⟨h1, k, h2⟩ => ⟨h1, by subst h2; exact ((RS.refl h he).drewN k).set r⟩
theorem eat_n (b : Nat) (l : List UInt8) (n : Int) (s : UInt8) (w : World) (h : Rd w b l n) (hp : ∀ r, l ≠ s :: r) :
    Calls Tryd.prog 31 #[.pointer (some ⟨b, 0, none⟩), .string ⟨#[s]⟩] w fun e w' => e = .returned (.bool false) ∧ w = w' :=
  eat_no b l n ⟨#[s]⟩ w h (by
    show [s].isPrefixOf l = false
    cases l with
    | nil => rfl
    | cons c r => 
      have : s ≠ c := fun e => hp r (by rw [e])
      simp [List.isPrefixOf, this])
theorem eat_y (b : Nat) (r : List UInt8) (n : Int) (s : UInt8) (w : World) (h : Rd w b (s :: r) n) (he : Env w b) :
    Calls Tryd.prog 31 #[.pointer (some ⟨b, 0, none⟩), .string ⟨#[s]⟩] w fun e w' => e = .returned (.bool true) ∧ RS w w' b r n := by
  have hp : Lib.hasPrefix (s :: r) [s] = true := by simp [Lib.hasPrefix, List.isPrefixOf]
  have c := eat_yes b (s :: r) n ⟨#[s]⟩ w h hp
  have e2 : Lib.trimPrefix (s :: r) (⟨#[s]⟩ : ByteArray).data.toList = r := by
    show Lib.trimPrefix (s :: r) [s] = r
    unfold Lib.trimPrefix; rw [if_pos hp]; rfl
  rw [e2] at c
  exact c.mono fun e w' ⟨h1, h2⟩ => ⟨h1, by subst h2; exact (RS.refl h he).set r⟩

set_option maxRecDepth 100000 in
set_option maxHeartbeats 1600000 in
theorem number_no (s : UInt8) (b : Nat) (l : List UInt8) (n : Int) (w : World) (hl : l.length ≤ 1000000000) (h : Rd w b l n) (he : Env w b) (hc : cutAt s l = none) :
    Calls Tryd.prog 41 #[.pointer (some ⟨b, 0, none⟩), .string ⟨#[s]⟩] w fun e w' => ∃ z, e = .returned (.tuple #[.int .i64 z, .bool false]) ∧ RS w w' b l n := by
  have c1 := Lib.hid (cut_n s b l n w hl h he hc)
  have c2 := Lib.hid (fun w' => parse_any ⟨l.toArray⟩ w' (by rw [bsize]; omega))
  clear h he hc
  generalize (⟨l.toArray⟩ : ByteArray) = lb at *
  go_enter Tryd.func41, Tryd.ntmps41
  go_wp2_with fail
  ((with_reducible refine c1.out.mono ?_); rintro e w1 ⟨rfl, hs⟩)
  have HS := Lib.hid hs
  clear hs
  go_wp2_with fail
  ((with_reducible refine (c2.out w1 HS.out.env.tabs).mono ?_); rintro e w2 ⟨z, E, rfl, hb⟩)
  go_wp2
  go_ret2
  exact ⟨z, rfl, HS.out.below hb⟩
set_option maxRecDepth 100000 in
set_option maxHeartbeats 1600000 in
theorem number_bad (s : UInt8) (b : Nat) (l : List UInt8) (n : Int) (w : World) (a r : List UInt8) (hl : l.length ≤ 1000000000) (h : Rd w b l n) (he : Env w b) (hc : cutAt s l = some (a, r)) (hn : numOf a = none) :
    Calls Tryd.prog 41 #[.pointer (some ⟨b, 0, none⟩), .string ⟨#[s]⟩] w fun e w' => ∃ z, e = .returned (.tuple #[.int .i64 z, .bool false]) ∧ RS w w' b r n := by
  have hal : a.length ≤ 1000000000 := by
    have := congrArg List.length (cutAt_some hc).1
    simp at this; omega
  have c1 := Lib.hid (cut_y s b l n w a r hl h he hc)
  unfold numOf at hn
  split at hn
  · rename_i v hv
    have hne : Lib.itoa v ≠ a := by
      intro e; rw [if_pos e] at hn; cases hn
    have c2 := Lib.hid (fun w' => parse_good ⟨a.toArray⟩ v w' (by rw [bsize]; omega) (by simpa using hv))
    have c3 := Lib.hid (fun w' => format_any v w' (atoi_range hv))
    have HC := Lib.hid (show ¬ (⟨(Lib.itoa v).toArray⟩ : ByteArray).toList = (⟨a.toArray⟩ : ByteArray).toList by
      rw [ByteArray.toList_eq, ByteArray.toList_eq]
      simpa using hne)
    clear h he hc hn hv hne
    generalize (⟨(Lib.itoa v).toArray⟩ : ByteArray) = vb at *
    generalize (⟨a.toArray⟩ : ByteArray) = ab at *
    go_enter Tryd.func41, Tryd.ntmps41
    go_wp2_with fail
    ((with_reducible refine c1.out.mono ?_); rintro e w1 ⟨rfl, hs⟩)
    have HS := Lib.hid hs
    clear hs
    go_wp2_with fail
    ((with_reducible refine (c2.out w1).mono ?_); rintro e w2 ⟨rfl, hb⟩)
    have HS2 := Lib.hid (HS.out.below hb)
    clear hb
    go_wp2_with fail
    ((with_reducible refine (c3.out w2 HS2.out.env.tabs).mono ?_); rintro e w3 ⟨rfl, hb⟩)
    go_wp2
    go_ret2
    exact ⟨v, by simp; exact HC.out, HS2.out.below hb⟩
  · rename_i hv
    have c2 := Lib.hid (fun w' => parse_bad ⟨a.toArray⟩ w' (by rw [bsize]; omega) (by simpa using hv))
    clear h he hc hn hv
    generalize (⟨a.toArray⟩ : ByteArray) = ab at *
    go_enter Tryd.func41, Tryd.ntmps41
    go_wp2_with fail
    ((with_reducible refine c1.out.mono ?_); rintro e w1 ⟨rfl, hs⟩)
    have HS := Lib.hid hs
    clear hs
    go_wp2_with fail
    ((with_reducible refine (c2.out w1 HS.out.env.tabs).mono ?_); rintro e w2 ⟨z, N, rfl, hb⟩)
    have HS2 := Lib.hid (HS.out.below hb)
    clear hb
    go_wp2
    go_ret2
    exact ⟨z, rfl, HS2.out⟩
set_option maxRecDepth 100000 in
set_option maxHeartbeats 1600000 in
theorem number_ok (s : UInt8) (b : Nat) (l : List UInt8) (n : Int) (w : World) (a r : List UInt8) (v : Int) (hl : l.length ≤ 1000000000) (h : Rd w b l n) (he : Env w b) (hc : cutAt s l = some (a, r)) (hn : numOf a = some v) :
    Calls Tryd.prog 41 #[.pointer (some ⟨b, 0, none⟩), .string ⟨#[s]⟩] w fun e w' => e = .returned (.tuple #[.int .i64 v, .bool true]) ∧ RS w w' b r n := by
  have hal : a.length ≤ 1000000000 := by
    have := congrArg List.length (cutAt_some hc).1
    simp at this; omega
  have c1 := Lib.hid (cut_y s b l n w a r hl h he hc)
  obtain ⟨hr, hi, hv⟩ := numOf_some hn
  have c2 := Lib.hid (fun w' => parse_good ⟨a.toArray⟩ v w' (by rw [bsize]; omega) (by simpa using hv))
  have c3 := Lib.hid (fun w' => format_any v w' hr)
  rw [hi] at c3
  clear h he hc hn hv hi
  generalize (⟨a.toArray⟩ : ByteArray) = ab at *
  go_enter Tryd.func41, Tryd.ntmps41
  go_wp2_with fail
  ((with_reducible refine c1.out.mono ?_); rintro e w1 ⟨rfl, hs⟩)
  have HS := Lib.hid hs
  clear hs
  go_wp2_with fail
  ((with_reducible refine (c2.out w1).mono ?_); rintro e w2 ⟨rfl, hb⟩)
  have HS2 := Lib.hid (HS.out.below hb)
  clear hb
  go_wp2_with fail
  ((with_reducible refine (c3.out w2 HS2.out.env.tabs).mono ?_); rintro e w3 ⟨rfl, hb⟩)
  go_wp2
  go_ret2
  exact ⟨by simp, HS2.out.below hb⟩
/-- What a number is that was asked for: whatever becomes of it. -/
theorem num_any (s : UInt8) (b : Nat) (l : List UInt8) (n : Int) (w : World) (hl : l.length ≤ 1000000000) (h : Rd w b l n) (he : Env w b) :
    Calls Tryd.prog 41 #[.pointer (some ⟨b, 0, none⟩), .string ⟨#[s]⟩] w fun e w' => ∃ z ok l', e = .returned (.tuple #[.int .i64 z, .bool ok]) ∧ RS w w' b l' n ∧ l'.length ≤ 1000000000 := by
  cases hc : cutAt s l with
  | none => exact (number_no s b l n w hl h he hc).mono fun e w' ⟨z, h1, h2⟩ => ⟨z, _, _, h1, h2, hl⟩
  | some p =>
    obtain ⟨a, r⟩ := p
    have hr : r.length ≤ 1000000000 := by
      have := congrArg List.length (cutAt_some hc).1
      simp at this; omega
    cases hn : numOf a with
    | none => exact (number_bad s b l n w a r hl h he hc hn).mono fun e w' ⟨z, h1, h2⟩ => ⟨z, _, _, h1, h2, hr⟩
    | some v => exact (number_ok s b l n w a r v hl h he hc hn).mono fun e w' ⟨h1, h2⟩ => ⟨_, _, _, h1, h2, hr⟩
theorem cut_any (s : UInt8) (b : Nat) (l : List UInt8) (n : Int) (w : World) (hl : l.length ≤ 1000000000) (h : Rd w b l n) (he : Env w b) :
    Calls Tryd.prog 42 #[.pointer (some ⟨b, 0, none⟩), .string ⟨#[s]⟩] w fun e w' => ∃ a ok l', e = .returned (.tuple #[.string a, .bool ok]) ∧ RS w w' b l' n ∧ l'.length ≤ 1000000000 := by
  cases hc : cutAt s l with
  | none => exact (cut_n s b l n w hl h he hc).mono fun e w' ⟨h1, h2⟩ => ⟨_, _, _, h1, h2, hl⟩
  | some p =>
    obtain ⟨a, r⟩ := p
    have hr : r.length ≤ 1000000000 := by
      have := congrArg List.length (cutAt_some hc).1
      simp at this; omega
    exact (cut_y s b l n w a r hl h he hc).mono fun e w' ⟨h1, h2⟩ => ⟨_, _, _, h1, h2, hr⟩
end Go.Proofs.YtdpdoigmjnkmdaaDoor.Tr
