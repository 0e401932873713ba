/- The small loops: is a name in a row, where, two rows held together, too much. -/
import Derived.Test.YthonoobbpfgjhaaM3
import Derived.Test.YthonoobbpfgjhaaProg
import Derived.Deep.QuietTactic
import Derived.BigQuiet
import Derived.Outline
set_option linter.unusedSimpArgs false
set_option linter.unusedVariables false
namespace Go.Proofs.Ythonoobbpfgjhaa.Od
open Go.RowKit
theorem not_take_succ {l : List Nm} {m : Nm} {k : Nat} (hlt : k < l.length) (h : m ∉ l.take k) (hne : l[k] ≠ m) : m ∉ l.take (k + 1) := by
  rw [take_snoc' l k hlt, List.mem_append, not_or]
  exact ⟨h, by simpa using fun e => hne e.symm⟩
set_option maxHeartbeats 800000 in
theorem in_any {w : World} {A : Option Addr} {c : Nat} {l : List Nm} (h : NR w A c l) (m : Nm) :
    Calls Try.prog 23 #[.slice A l.length c, .string (S m)] w fun e w' => e = .returned (.bool (decide (m ∈ l))) ∧ w = w' := by
  have hc := h.cap
  have hg := h.big
  have H := Lib.hid h
  clear h
  go_enter Try.func23, Try.ntmps23
  go_wp2
  go_loop [5] (fun i => ∃ k : Nat, k ≤ l.length ∧ i = .int .i64 k ∧ Hid (m ∉ l.take k)) (fun i => l.length - (intOf i).toNat)
  case atStart => exact ⟨0, Nat.zero_le _, rfl, Lib.hid (by simp)⟩
  case round =>
    obtain ⟨k, hk, rfl, hn⟩ := hrel
    by_cases hlt : k < l.length
    · obtain ⟨g, off, rfl, hgl, hcell⟩ := H.out.at_ hlt
      by_cases he : l[k] = m
      · obtain ⟨e1, e2, e3, e4⟩ := S_yes he
        have hin : decide (m ∈ l) = true := by rw [← he]; simp
        have HI := Lib.hid hin
        clear hin he
        go_wp2
        go_ret
        rw [HI.out]
        exact ⟨rfl, rfl⟩
      · obtain ⟨e1, e2, e3, e4⟩ := S_no he
        have HN := Lib.hid (not_take_succ hlt hn.out he)
        clear he hn
        go_wp2
        go_round
        case rel => exact ⟨k + 1, by omega, by go_num, HN⟩
        case measure => simp [intOf]; omega
    · go_wp2
      go_ret
      have e : l.take k = l := List.take_of_length_le (by omega)
      have := hn.out
      rw [e] at this
      exact ⟨ret_bool (by simpa using this), rfl⟩
/-- Where a name stands first; -1: nowhere. -/
def posOf (l : List Nm) (m : Nm) : Int := if m ∈ l then (l.idxOf m : Int) else -1
theorem posOf_at {l : List Nm} {m : Nm} {k : Nat} (hlt : k < l.length) (h : m ∉ l.take k) (he : l[k] = m) : posOf l m = k := by
  have hm : m ∈ l := he ▸ List.getElem_mem hlt
  unfold posOf
  rw [if_pos hm]
  have e : l = l.take k ++ m :: l.drop (k + 1) := by
    rw [← he, List.getElem_cons_drop, List.take_append_drop]
  rw [e, List.idxOf_append, if_neg h]
  simp
  omega
theorem posOf_none {l : List Nm} {m : Nm} (h : m ∉ l) : posOf l m = -1 := by unfold posOf; rw [if_neg h]
theorem ret_i64 {a b : Int} (h : a = b) : Ending.returned (.int .i64 a) = .returned (.int .i64 b) := by rw [h]
set_option maxHeartbeats 800000 in
theorem at_any {w : World} {A : Option Addr} {c : Nat} {l : List Nm} (h : NR w A c l) (m : Nm) :
    Calls Try.prog 10 #[.slice A l.length c, .string (S m)] w fun e w' => e = .returned (.int .i64 (posOf l m)) ∧ w = w' := by
  have hc := h.cap
  have hg := h.big
  have H := Lib.hid h
  clear h
  go_enter Try.func10, Try.ntmps10
  go_wp2
  go_loop [5] (fun i => ∃ k : Nat, k ≤ l.length ∧ i = .int .i64 k ∧ Hid (m ∉ l.take k)) (fun i => l.length - (intOf i).toNat)
  case atStart => exact ⟨0, Nat.zero_le _, rfl, Lib.hid (by simp)⟩
  case round =>
    obtain ⟨k, hk, rfl, hn⟩ := hrel
    by_cases hlt : k < l.length
    · obtain ⟨g, off, rfl, hgl, hcell⟩ := H.out.at_ hlt
      by_cases he : l[k] = m
      · obtain ⟨e1, e2, e3, e4⟩ := S_yes he
        have HI := Lib.hid (posOf_at hlt hn.out he)
        clear he
        go_wp2
        go_ret
        exact ⟨ret_i64 HI.out.symm, rfl⟩
      · obtain ⟨e1, e2, e3, e4⟩ := S_no he
        have HN := Lib.hid (not_take_succ hlt hn.out he)
        clear he hn
        go_wp2
        go_round
        case rel => exact ⟨k + 1, by omega, by go_num, HN⟩
        case measure => simp [intOf]; omega
    · go_wp2
      go_ret
      have e : l.take k = l := List.take_of_length_le (by omega)
      have := hn.out
      rw [e] at this
      exact ⟨ret_i64 (posOf_none this).symm, rfl⟩
def names (q : List Md) : List Nm := q.map (·.1)
theorem names_at {q : List Md} {k : Nat} (h : k < q.length) : (names q)[k]'(by simpa [names] using h) = q[k].1 := by simp [names]
set_option maxHeartbeats 800000 in
theorem At_any {w : World} {A : Option Addr} {c : Nat} {q : List Md} (h : Mods w A c q) (m : Nm) :
    Calls Try.prog 20 #[.slice A q.length c, .string (S m)] w fun e w' => e = .returned (.int .i64 (posOf (names q) m)) ∧ w = w' := by
  have hc := h.cap
  have hg := h.big
  have H := Lib.hid h
  have hnl : (names q).length = q.length := by simp [names]
  have HL := Lib.hid hnl
  clear h hnl
  go_enter Try.func20, Try.ntmps20
  go_wp2
  go_loop [5] (fun i => ∃ k : Nat, k ≤ q.length ∧ i = .int .i64 k ∧ Hid (m ∉ (names q).take k)) (fun i => q.length - (intOf i).toNat)
  case atStart => exact ⟨0, Nat.zero_le _, rfl, Lib.hid (by simp)⟩
  case round =>
    obtain ⟨k, hk, rfl, hn⟩ := hrel
    by_cases hlt : k < q.length
    · obtain ⟨g, off, rfl, hgl, hcell, _⟩ := H.out.at_ hlt
      have hlt' : k < (names q).length := by rw [HL.out]; exact hlt
      have HE := Lib.hid (names_at hlt)
      by_cases he : q[k].1 = m
      · obtain ⟨e1, e2, e3, e4⟩ := S_yes he
        have HI := Lib.hid (posOf_at hlt' hn.out (HE.out.trans he))
        clear he
        go_wp2
        go_ret
        exact ⟨ret_i64 HI.out.symm, rfl⟩
      · obtain ⟨e1, e2, e3, e4⟩ := S_no he
        have HN := Lib.hid (not_take_succ hlt' hn.out (fun e => he (HE.out.symm.trans e)))
        clear he hn
        go_wp2
        go_round
        case rel => exact ⟨k + 1, by omega, by go_num, HN⟩
        case measure => simp [intOf]; omega
    · go_wp2
      go_ret
      have e : (names q).take k = names q := List.take_of_length_le (by rw [HL.out]; omega)
      have := hn.out
      rw [e] at this
      exact ⟨ret_i64 (posOf_none this).symm, rfl⟩
theorem take_succ_eq {a b : List Nm} {k : Nat} (h1 : k < a.length) (h2 : k < b.length) (h : a.take k = b.take k) (he : a[k] = b[k]) : a.take (k + 1) = b.take (k + 1) := by
  rw [take_snoc' a k h1, take_snoc' b k h2, h, he]
set_option maxHeartbeats 1600000 in
theorem texts_any {w : World} {A A' : Option Addr} {c c' : Nat} {a b : List Nm} (h : NR w A c a) (h' : NR w A' c' b) :
    Calls Try.prog 11 #[.slice A a.length c, .slice A' b.length c'] w fun e w' => e = .returned (.bool (decide (a = b))) ∧ ∃ n, w' = w.drewN n := by
  have hc := h.cap
  have hg := h.big
  have hc' := h'.cap
  have hg' := h'.big
  have H := Lib.hid h
  have H' := Lib.hid h'
  clear h h'
  by_cases hl : a.length = b.length
  · have x1 : ((a.length : Int) != (b.length : Int)) = false := by simp [hl]
    have x2 : (a.length != b.length) = false := by simpa using hl
    have HL := Lib.hid hl
    clear hl
    go_enter Try.func11, Try.ntmps11
    go_wp2
    go_loopw [5] (fun i wr => ∃ (k n : Nat), k ≤ a.length ∧ i = .int .i64 k ∧ Hid (a.take k = b.take k) ∧ wr = w.drewN n) (fun i _ => a.length - (intOf i).toNat)
    case atStart => exact ⟨0, 0, Nat.zero_le _, rfl, Lib.hid (by simp), rfl⟩
    case round =>
      obtain ⟨k, n, hk, rfl, hn, rfl⟩ := hrel
      by_cases hlt : k < a.length
      · have hlt' : k < b.length := by have := HL.out; omega
        obtain ⟨g, off, rfl, hgl, hcell⟩ := H.out.at_ hlt
        obtain ⟨g', off', rfl, hgl', hcell'⟩ := H'.out.at_ hlt'
        by_cases he : a[k] = b[k]
        · obtain ⟨e1, e2, e3, e4⟩ := S_yes he
          have HN := Lib.hid (take_succ_eq hlt hlt' hn.out he)
          clear he hn
          go_wp2
          go_quiet (fail)
          go_wp2
          go_roundw
          case rel => exact ⟨k + 1, n + nq, by omega, by go_num, HN, rfl⟩
          case measure => simp [intOf]; omega
        · obtain ⟨e1, e2, e3, e4⟩ := S_no he
          have HI := Lib.hid (show decide (a = b) = false from by
            simp only [decide_eq_false_iff_not]
            intro e
            subst e
            exact he rfl)
          clear he hn
          go_wp2
          go_quiet (fail)
          go_wp2
          go_ret
          rw [HI.out]
          exact ⟨rfl, n + nq, World.drewN_drewN ..⟩
      · go_wp2
        go_ret
        have e1 : a.take k = a := List.take_of_length_le (by omega)
        have e2 : b.take k = b := List.take_of_length_le (by have := HL.out; omega)
        have := hn.out
        rw [e1, e2] at this
        exact ⟨ret_bool (by simpa using this), n, rfl⟩
  · have x1 : ((a.length : Int) != (b.length : Int)) = true := by simp; omega
    have x2 : (a.length != b.length) = true := by simpa using hl
    have HI := Lib.hid (show decide (a = b) = false from by
      simp only [decide_eq_false_iff_not]
      intro e
      exact hl (by rw [e]))
    clear hl
    go_enter Try.func11, Try.ntmps11
    go_wp2
    go_ret
    rw [HI.out]
    exact ⟨rfl, 0, rfl⟩
/-- No more than a statement looks at. -/
structure Small (q : List Md) : Prop where
  len : q.length ≤ 60
  name : ∀ x ∈ q, x.1.length ≤ 300
  needs : ∀ x ∈ q, x.2.1.length ≤ 30
  each : ∀ x ∈ q, ∀ n ∈ x.2.1, n.length ≤ 300
def SmallTo (q : List Md) (k : Nat) : Prop := ∀ i (h : i < q.length), i < k → q[i].1.length ≤ 300 ∧ q[i].2.1.length ≤ 30 ∧ ∀ n ∈ q[i].2.1, n.length ≤ 300
theorem SmallTo.succ {q : List Md} {k : Nat} (h : SmallTo q k) (hk : k < q.length) (h1 : q[k].1.length ≤ 300) (h2 : q[k].2.1.length ≤ 30) (h3 : ∀ n ∈ q[k].2.1.take q[k].2.1.length, n.length ≤ 300) : SmallTo q (k + 1) := by
  rw [List.take_length] at h3
  intro i hi hik
  by_cases e : i = k
  · subst e; exact ⟨h1, h2, h3⟩
  · exact h i hi (by omega)
theorem SmallTo.all {q : List Md} (h : SmallTo q q.length) (hl : q.length ≤ 30) : Small q := by
  have : ∀ x ∈ q, x.1.length ≤ 300 ∧ x.2.1.length ≤ 30 ∧ ∀ n ∈ x.2.1, n.length ≤ 300 := by
    intro x hx
    obtain ⟨i, hi, e⟩ := List.mem_iff_getElem.1 hx
    exact e ▸ h i hi hi
  exact ⟨by omega, fun x hx => (this x hx).1, fun x hx => (this x hx).2.1, fun x hx => (this x hx).2.2⟩
def ManyR (q : List Md) (w : World) (e : Ending) (w' : World) : Prop := ∃ b : Bool, e = .returned (.bool b) ∧ (b = false → Small q ∧ q.length ≤ 30) ∧ w = w'
set_option maxHeartbeats 3200000 in
theorem many_any {w : World} {A : Option Addr} {c : Nat} {q : List Md} (h : Mods w A c q) :
    Calls Try.prog 6 #[.slice A q.length c] w (ManyR q w) := by
  have hc := h.cap
  have hg := h.big
  have H := Lib.hid h
  clear h
  by_cases h30 : 30 < q.length
  · have x1 : (30 : Int) < (q.length : Int) := by omega
    go_enter Try.func6, Try.ntmps6
    go_wp2
    go_ret
    exact ⟨true, rfl, by simp, rfl⟩
  have x1 : ¬ (30 : Int) < (q.length : Int) := by omega
  have HL := Lib.hid h30
  clear h30
  go_enter Try.func6, Try.ntmps6
  go_wp2
  go_loop [3] (fun i => ∃ k : Nat, k ≤ q.length ∧ i = .int .i64 k ∧ Hid (SmallTo q k)) (fun i => q.length - (intOf i).toNat)
  case atStart => exact ⟨0, Nat.zero_le _, rfl, Lib.hid (fun i _ h => absurd h (by omega))⟩
  case round =>
    obtain ⟨k, hk, rfl, hn⟩ := hrel
    by_cases hlt : k < q.length
    · obtain ⟨g, off, rfl, hgl, hcell, hcell2⟩ := H.out.at_ hlt
      obtain ⟨A', c', e2, hN⟩ := H.out.each q[k] (List.getElem_mem hlt)
      rw [e2] at hcell2
      have hc' := hN.cap
      have hg' := hN.big
      have HN := Lib.hid hN
      have hsz := S_size q[k].1
      have HS := Lib.hid hsz
      clear e2 hN hsz
      by_cases h1 : 30 < q[k].2.1.length
      · have y1 : decide ((30 : Int) < (q[k].2.1.length : Int)) = true := by simp; omega
        clear h1
        go_wp2
        go_ret
        exact ⟨true, rfl, by simp, rfl⟩
      have y1 : decide ((30 : Int) < (q[k].2.1.length : Int)) = false := by simp; omega
      by_cases h2 : 300 < q[k].1.length
      · have y2 : decide ((300 : Int) < ((S q[k].1).size : Int)) = true := by simp [HS.out]; omega
        clear h1 h2
        go_wp2
        go_ret
        exact ⟨true, rfl, by simp, rfl⟩
      have y2 : decide ((300 : Int) < ((S q[k].1).size : Int)) = false := by simp [HS.out]; omega
      have H1 := Lib.hid h1
      have H2 := Lib.hid h2
      clear h1 h2
      go_wp2
      go_loop [4] (fun i => ∃ j : Nat, j ≤ q[k].2.1.length ∧ i = .int .i64 j ∧ Hid (∀ n ∈ q[k].2.1.take j, n.length ≤ 300)) (fun i => q[k].2.1.length - (intOf i).toNat)
      case atStart => exact ⟨0, Nat.zero_le _, rfl, Lib.hid (by simp)⟩
      case round =>
        obtain ⟨j, hj, rfl, hm⟩ := hrel
        by_cases hjl : j < q[k].2.1.length
        · obtain ⟨g2, off2, rfl, hgl2, hcell3⟩ := HN.out.at_ hjl
          have HS2 := Lib.hid (S_size q[k].2.1[j])
          by_cases h3 : 300 < q[k].2.1[j].length
          · have y3 : (300 : Int) < ((S q[k].2.1[j]).size : Int) := by rw [HS2.out]; omega
            clear h3
            go_wp2
            go_ret
            exact ⟨true, rfl, by simp, rfl⟩
          · have y3 : ¬ (300 : Int) < ((S q[k].2.1[j]).size : Int) := by rw [HS2.out]; omega
            have HM := Lib.hid (show ∀ n ∈ q[k].2.1.take (j + 1), n.length ≤ 300 from by
              intro n hn
              rw [take_snoc' _ j hjl, List.mem_append] at hn
              rcases hn with hn | hn
              · exact hm.out n hn
              · rw [List.mem_singleton] at hn; subst hn; omega)
            clear h3 hm
            go_wp2
            go_round
            case rel => exact ⟨j + 1, by omega, by go_num, HM⟩
            case measure => simp [intOf]; omega
        · have hm' := hm.out
          rw [show j = q[k].2.1.length by omega] at hm'
          have HM := Lib.hid (show SmallTo q (k + 1) from hn.out.succ hlt (by have := H2.out; omega) (by have := H1.out; omega) hm')
          clear hm'
          clear hm hn
          go_wp2
          go_round
          case rel => exact ⟨k + 1, by omega, by go_num, HM⟩
          case measure => simp [intOf]; omega
    · go_wp2
      go_ret
      exact ⟨false, rfl, fun _ => ⟨SmallTo.all (by have h1 := hn.out; rw [show k = q.length by omega] at h1; exact h1) (by have := HL.out; omega), by have := HL.out; omega⟩, rfl⟩
end Go.Proofs.Ythonoobbpfgjhaa.Od
