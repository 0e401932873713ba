/- The walks of the reference's Alike, Same, at rows that are alike, the same. -/
import Derived.Test.YtkiedbanobjmlaaDoorL11
import Derived.Test.YtkiedbanobjmlaaDoorP7
import Derived.BigQuiet
import Derived.Deep.QuietTactic
import Derived.Deep.LoopGhost
set_option linter.unusedSimpArgs false
set_option linter.unusedVariables false
namespace Go.Proofs.YtkiedbanobjmlaaDoor.Lx
open Go.RowKit
open Pl Fl

theorem flat_at (src : List UInt8) (l : List Tok) {i r : Nat} (hi : i < l.length) (hr : r < 5) : (flat src l)[i * 5 + r]? = (Tok.vals src l[i])[r]? := by
  induction l generalizing i with
  | nil => simp at hi
  | cons t l ih =>
    have e : flat src (t :: l) = Tok.vals src t ++ flat src l := by simp [flat]
    rw [e]
    rcases i with _ | i
    · rw [List.getElem?_append_left (by rw [tok_vals_len]; omega)]
      simp
    · rw [List.getElem?_append_right (by rw [tok_vals_len]; omega), tok_vals_len, show (i + 1) * 5 + r - 5 = i * 5 + r by omega, ih (by simpa using hi)]
      rfl
/-- A token of a row, where the walk stands. -/
theorem tok_spot {w : World} {src : List UInt8} {A : Option Addr} {l : List Tok} (h : Reads w w.heap.size 5 A l.length (flat src l)) {i : Nat} (hi : i < l.length) : ∃ b off, A = some ⟨b, off, none⟩ ∧ b < w.heap.size ∧
    w.cell? ⟨b, off + i * 5, none⟩ = some (.int .u8 l[i].1.kind) ∧ w.cell? ⟨b, off + i * 5 + 1, none⟩ = some (C (at_ src l[i].2.1)) ∧ w.cell? ⟨b, off + i * 5 + 2, none⟩ = some (C (at_ src l[i].2.2)) ∧
    w.cell? ⟨b, off + i * 5 + 3, none⟩ = some (.string l[i].1.text) ∧ w.cell? ⟨b, off + i * 5 + 4, none⟩ = some (.int .i64 l[i].1.n) := by
  obtain ⟨⟨b, off, sp⟩, e, hb, hc⟩ := h.2 (by omega)
  have hs : sp = none := by
    have h0 := hc (0 * 5 + 0) _ ((flat_at src l (i := 0) (by omega) (by omega)).trans rfl)
    have := World.cell?_spot h0
    simpa [Addr.add] using this
  subst hs
  have ad : ∀ r, (⟨b, off, none⟩ : Addr).add r = ⟨b, off + r, none⟩ := fun r => by unfold Addr.add; split <;> simp_all
  have cc : ∀ r v, r < 5 → (Tok.vals src l[i])[r]? = some v → w.cell? ⟨b, off + i * 5 + r, none⟩ = some v := fun r v hr hv => by
    have := hc (i * 5 + r) v ((flat_at src l hi hr).trans hv)
    rwa [ad, ← Nat.add_assoc] at this
  exact ⟨b, off, e, hb, cc 0 _ (by omega) rfl, cc 1 _ (by omega) rfl, cc 2 _ (by omega) rfl, cc 3 _ (by omega) rfl, cc 4 _ (by omega) rfl⟩
theorem Reads.rowBelow {w w' : World} {src : List UInt8} {A : Option Addr} {n : Nat} {xs : List Value} (h : Reads w w.heap.size 5 A n xs) (hb : Below w.heap.size w w') : Reads w' w'.heap.size 5 A n xs := (h.below hb).more hb.size
set_option maxRecDepth 100000 in
set_option maxHeartbeats 3200000 in
theorem Alike_any {s1 s2 : List UInt8} {l m : List Tok} (hlm : m.map (·.1) = l.map (·.1)) (hl : l.length ≤ 1000000) {A1 A2 : Option Addr} {c1 c2 : Nat} {w : World} (R1 : Reads w w.heap.size 5 A1 l.length (flat s1 l)) (R2 : Reads w w.heap.size 5 A2 m.length (flat s2 m)) :
    Calls Tryd.prog 19 #[.slice A1 l.length c1, .slice A2 m.length c2] w fun e w' => e = .returned (.bool true) ∧ Below w.heap.size w w' := by
  have hlen : m.length = l.length := by have := congrArg List.length hlm; simpa using this
  have H1 := Lib.hid R1
  have H2 := Lib.hid R2
  have HM := Lib.hid hlm
  have HLN := Lib.hid hlen
  clear R1 R2 hlm
  have q0 : ((l.length : Int) != (m.length : Int)) = false := by simp only [bne_eq_false_iff_eq]; omega
  go_enter Tryd.func19, Tryd.ntmps19
  go_wp2
  clear q0
  clear hlen
  go_loopg [5] l.length (fun gh si wr => ∃ i : Nat, si = .int .i64 (i : Nat) ∧ i ≤ l.length ∧ l.length - i ≤ gh ∧ Hid (Below w.heap.size w wr))
  case atStart => exact ⟨0, rfl, by omega, by omega, Lib.hid (Below.refl _ _)⟩
  case round =>
    obtain ⟨i, rfl, hi1, hi2, hb⟩ := hrel
    by_cases hi : i < l.length
    · have him : i < m.length := by have := HLN.out; omega
      have hx1 : (i : Int) < (m.length : Int) := by omega
      obtain ⟨b1, o1, e1, l1, p0, p1, p2, p3, p4⟩ := tok_spot (((H1.out.below hb.out).more hb.out.size)) hi
      obtain ⟨b2, o2, e2, l2, q0, q1, q2, q3, q4⟩ := tok_spot (((H2.out.below hb.out).more hb.out.size)) him
      have hee : m[i].1 = l[i].1 := by
        have h1 := congrArg (·[i]?) HM.out
        simpa [hi, him] using h1
      rw [hee] at q0 q3 q4
      clear p1 p2 q1 q2 hee
      subst e1
      subst e2
      generalize l[i].1 = t at *
      obtain ⟨tk, tt, tn⟩ := t
      dsimp only at p0 p3 p4 q0 q3 q4
      go_wp2
      go_big_quiet (fail)
      have HB2 := Lib.hid (below_drewN hb.out nq)
      go_wp2
      go_roundg (l.length - i - 1)
      case rel => exact ⟨i + 1, by rfl, by omega, by omega, HB2⟩
      case measure => omega
    · have hin : i = l.length := by omega
      go_wp2
      go_ret
      exact ⟨rfl, hb.out⟩

set_option maxRecDepth 100000 in
set_option maxHeartbeats 3200000 in
theorem Same_any {s1 : List UInt8} (hs1 : s1.length ≤ 16384) {l : List Tok} (hl : l.length ≤ 1000000) {A1 A2 : Option Addr} {c1 c2 : Nat} {w : World} (R1 : Reads w w.heap.size 5 A1 l.length (flat s1 l)) (R2 : Reads w w.heap.size 5 A2 l.length (flat s1 l)) :
    Calls Tryd.prog 12 #[.slice A1 l.length c1, .slice A2 l.length c2] w fun e w' => e = .returned (.bool true) ∧ Below w.heap.size w w' := by
  have HA := Lib.hid (Alike_any (c1 := c1) (c2 := c2) rfl hl R1 R2)
  have H1 := Lib.hid R1
  have H2 := Lib.hid R2
  have HAT := Lib.hid (at_is s1 hs1)
  clear R1 R2
  go_enter Tryd.func12, Tryd.ntmps12
  go_wp2_with fail
  refine HA.out.mono ?_
  rintro e w1 ⟨rfl, hb0⟩
  have HB0 := Lib.hid hb0
  clear hb0
  go_wp2
  go_loopg [5] l.length (fun gh si wr => ∃ i : Nat, si = .int .i64 (i : Nat) ∧ i ≤ l.length ∧ l.length - i ≤ gh ∧ Hid (Below w.heap.size w wr))
  case atStart => exact ⟨0, rfl, by omega, by omega, HB0⟩
  case round =>
    obtain ⟨i, rfl, hi1, hi2, hb⟩ := hrel
    by_cases hi : i < l.length
    · obtain ⟨b1, o1, e1, l1, p0, p1, p2, p3, p4⟩ := tok_spot (((H1.out.below hb.out).more hb.out.size)) hi
      obtain ⟨b2, o2, e2, l2, q0, q1, q2, q3, q4⟩ := tok_spot (((H2.out.below hb.out).more hb.out.size)) hi
      obtain ⟨u1, u2, u3⟩ := HAT.out l[i].2.1
      obtain ⟨v1, v2, v3⟩ := HAT.out l[i].2.2
      generalize at_ s1 l[i].2.1 = p at *
      generalize at_ s1 l[i].2.2 = q at *
      have sp := same_c p p (by omega) (by omega) (by omega) (by omega)
      have sq := same_c q q (by omega) (by omega) (by omega) (by omega)
      rw [show decide (p = p) = true by simp] at sp
      rw [show decide (q = q) = true by simp] at sq
      clear p0 p3 p4 q0 q3 q4 u1 u2 u3 v1 v2 v3
      subst e1
      subst e2
      unfold C at p1 p2 q1 q2
      go_wp2
      go_big_quiet (fail)
      have HB2 := Lib.hid (below_drewN hb.out nq)
      go_wp2
      go_roundg (l.length - i - 1)
      case rel => exact ⟨i + 1, by rfl, by omega, by omega, HB2⟩
      case measure => omega
    · have hin : i = l.length := by omega
      go_wp2
      go_ret
      exact ⟨rfl, hb.out⟩
end Go.Proofs.YtkiedbanobjmlaaDoor.Lx
