/- What a reader's head answers. -/
import Derived.Test.YtdpdoigmjnkmdaaDoorT26
set_option linter.unusedSimpArgs false
set_option linter.unusedVariables false
namespace Go.Proofs.YtdpdoigmjnkmdaaDoor.Tr
open Go.RowKit
open Fl

/-- Whether a head stands there or not. -/
def HeadAny (w : World) (b : Nat) (n : Int) (l : List UInt8) (e : Ending) (w' : World) : Prop :=
  (hd l = none ∧ NoHead w b n e w') ∨ ∃ d r, hd l = some (d, r) ∧ IsHead w b n d r e w'
theorem cutAt_len {s : UInt8} {l a r : List UInt8} (h : cutAt s l = some (a, r)) (hl : l.length ≤ 1000000000) : a.length ≤ 1000000000 ∧ r.length ≤ 1000000000 := by
  have := congrArg List.length (cutAt_some h).1
  simp at this; omega
theorem drop_not {α : Type} {x : List UInt8} (h : ∀ r, x ≠ 32 :: r) (f : List UInt8 → Option α) : (match x with | 32 :: l5 => f l5 | _ => none) = none := by
  split
  · exact absurd rfl (h _)
  · rfl
theorem head_any (b : Nat) (l : List UInt8) (n : Int) (w : World) (hl : l.length ≤ 1000000000) (h : Rd w b l n) (he : Env w b) :
    Calls Tryd.prog 32 #[.pointer (some ⟨b, 0, none⟩)] w (HeadAny w b n l) := by
  have hb0 : b < w.heap.size := Blk.lt h
  cases e1 : cutAt 32 l with
  | none =>
    exact (head_f1 b l n w (Lib.hid ((number_no 32 b l n w hl h he e1).mono fun e w' ⟨z, h1, h2⟩ => ⟨z, l, h1, h2, hl⟩))).mono fun e w' hn => .inl ⟨by unfold hd; rw [e1], hn⟩
  | some p1 =>
    obtain ⟨a1, l1⟩ := p1
    obtain ⟨ha1, hl1⟩ := cutAt_len e1 hl
    cases e2 : numOf a1 with
    | none =>
      exact (head_f1 b l n w (Lib.hid ((number_bad 32 b l n w a1 l1 hl h he e1 e2).mono fun e w' ⟨z, h1, h2⟩ => ⟨z, l1, h1, h2, hl1⟩))).mono fun e w' hn => .inl ⟨by unfold hd; rw [e1]; simp only; rw [e2], hn⟩
    | some kind =>
      have c := Lib.hid (number_ok 32 b l n w a1 l1 kind hl h he e1 e2)
      by_cases hk : kind < 0 ∨ 255 < kind
      · refine (head_f2 b l n w kind l1 hk hl1 c).mono fun e w' hn => .inl ⟨?_, hn⟩
        unfold hd; rw [e1]; simp only; rw [e2]; simp only
        cases cutAt 32 l1 with
        | none => rfl
        | some p =>
          simp only
          cases cutAt 58 p.2 with
          | none => rfl
          | some q =>
            simp only
            cases numOf q.1 with
            | none => rfl
            | some v => simp only; rw [if_neg (by omega)]
      · obtain ⟨k, rfl⟩ : ∃ k : Nat, kind = k := ⟨kind.toNat, by omega⟩
        cases e3 : cutAt 32 l1 with
        | none => exact (head_f3 b l n w k l1 (by omega) (by omega) hl1 e3 c).mono fun e w' hn => .inl ⟨by unfold hd; rw [e1]; simp only; rw [e2]; simp only; rw [e3], hn⟩
        | some p2 =>
          obtain ⟨a2, l2⟩ := p2
          obtain ⟨ha2, hl2⟩ := cutAt_len e3 hl1
          cases e4 : cutAt 58 l2 with
          | none =>
            exact (head_f4 b l n w k l1 a2 l2 (by omega) (by omega) hl1 e3 c (Lib.hid fun w1 h1 h2 => (number_no 58 b l2 n w1 hl2 h1 h2 e4).mono fun e w' ⟨z, h1, h2⟩ => ⟨z, l2, h1, h2, hl2⟩)).mono fun e w' hn => .inl ⟨by unfold hd; rw [e1]; simp only; rw [e2]; simp only; rw [e3]; simp only; rw [e4], hn⟩
          | some p3 =>
            obtain ⟨a3, l3⟩ := p3
            obtain ⟨ha3, hl3⟩ := cutAt_len e4 hl2
            cases e5 : numOf a3 with
            | none =>
              exact (head_f4 b l n w k l1 a2 l2 (by omega) (by omega) hl1 e3 c (Lib.hid fun w1 h1 h2 => (number_bad 58 b l2 n w1 a3 l3 hl2 h1 h2 e4 e5).mono fun e w' ⟨z, h1, h2⟩ => ⟨z, l3, h1, h2, hl3⟩)).mono fun e w' hn => .inl ⟨by unfold hd; rw [e1]; simp only; rw [e2]; simp only; rw [e3]; simp only; rw [e4]; simp only; rw [e5], hn⟩
            | some m =>
              have c3 := Lib.hid (fun w1 (h1 : Rd w1 b l2 n) (h2 : Env w1 b) => number_ok 58 b l2 n w1 a3 l3 m hl2 h1 h2 e4 e5)
              by_cases hm : m < 0 ∨ 0 ≤ m ∧ (l3.length : Int) < m
              · exact (head_f5 b l n w k m l1 a2 l2 l3 (by omega) (by omega) hl1 hl3 e3 hm c c3).mono fun e w' hn => .inl ⟨by unfold hd; rw [e1]; simp only; rw [e2]; simp only; rw [e3]; simp only; rw [e4]; simp only; rw [e5]; simp only; rw [if_neg (by omega)], hn⟩
              · obtain ⟨mm, rfl⟩ : ∃ mm : Nat, m = mm := ⟨m.toNat, by omega⟩
                have hh : hd l = match posOf a2 with
                  | none => none
                  | some p => match l3.drop mm with
                    | 32 :: l5 => match upTo l5 with
                      | none => none
                      | some (a6, l6) => match numOf a6 with
                        | none => none
                        | some v => some (⟨k, p, ⟨(l3.take mm).toArray⟩, v⟩, l6)
                    | _ => none := by
                  unfold hd; rw [e1]; simp only; rw [e2]; simp only; rw [e3]; simp only; rw [e4]; simp only; rw [e5]; simp only; rw [if_pos (by omega)]
                  rfl
                refine (head_try b l n w k mm l1 a2 l2 l3 (by omega) hl1 hl3 (Lib.hid hb0) e3 ha2 (by omega) c c3).mono fun e w' hr => ?_
                unfold HeadR at hr
                rcases hr with ⟨hn, hw⟩ | ⟨q, r, a, z, v, h1, h2, h3, h4, h5⟩
                · refine .inl ⟨?_, hn⟩
                  rw [hh]
                  rcases hw with hw | hw | ⟨r, hw, h2 | ⟨a, z, h2, h3⟩⟩
                  · rw [hw]
                  · cases posOf a2 with
                    | none => rfl
                    | some p => exact drop_not hw _
                  · cases posOf a2 with
                    | none => rfl
                    | some p => simp only; rw [hw]; simp only; rw [h2]
                  · cases posOf a2 with
                    | none => rfl
                    | some p => simp only; rw [hw]; simp only; rw [h2]; simp only; rw [h3]
                · refine .inr ⟨_, _, ?_, h5⟩
                  rw [hh, h1]; simp only; rw [h2]; simp only; rw [h3]; simp only; rw [h4]
end Go.Proofs.YtdpdoigmjnkmdaaDoor.Tr
