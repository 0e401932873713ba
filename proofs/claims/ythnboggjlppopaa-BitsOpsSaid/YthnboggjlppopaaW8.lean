/- The walk of the law BitsAll: it returns true, whatever the input. -/
import Derived.Test.YthnboggjlppopaaW7
import Derived.Test.YthnboggjlppopaaPlain2
import Derived.Deep.DeepCutAuto
import Derived.Deep.RegionWith
set_option linter.unusedSimpArgs false
set_option linter.unusedVariables false
namespace Go.Proofs.Ythnboggjlppopaa
open Go.RowKit

theorem quiet_left {P : Program} {f : FuncId} {args : Array Value} {w : World} {n : Nat} {v : Value}
    (h : Calls P f args (w.drewN n) fun e w' => e = .returned v ∧ w.drewN n = w') : Calls P f args (w.drewN n) fun e w'' => e = .returned v ∧ ∃ m, w'' = w.drewN m :=
  h.mono fun _ _ ⟨he, hm⟩ => ⟨he, n, hm.symm⟩

theorem with_zero (s : Nat) (es : List Int) (A : Option Addr) (c : Nat) (w : World) (B : Nat) (he : Plain.with_ 0 es = s) (h : Ints w B A es.length es) (hn : es.length ≤ 9223372036854775807) :
    Calls Try.prog 10 #[.int .u16 0, .slice A es.length c] w fun e w' => e = .returned (.int .u16 s) ∧ w = w' := by
  have h := with_any 0 A es.length c es w B (by omega) h hn
  rw [he] at h
  exact h
theorem has_to (s : Nat) (i : Int) (x : Bool) (w : World) (hs : s < 65536) (h : Plain.has s i = x) :
    Calls Try.prog 8 #[.int .u16 s, .int .i64 i] w fun e w' => e = .returned (.bool x) ∧ w = w' := by
  have := has_any s i w hs
  rwa [h] at this

/-- What the first test of BitsAll asks, by cases. -/
theorem all_cases (s : Nat) (i k : Int) :
    ∃ x y : Bool, Plain.has (Plain.with_ s [i]) i = x ∧ Plain.has s k = y ∧
      ((0 ≤ i ∧ i < 16 ∧ x = true) ∨ (0 ≤ i ∧ ¬ i < 16 ∧ x = false) ∨ (¬ 0 ≤ i ∧ x = false)) ∧
      (i = k ∨ (i ≠ k ∧ Plain.has (Plain.with_ s [i]) k = y ∧ Plain.has (Plain.without s [i]) k = y)) := by
  refine ⟨_, _, rfl, rfl, ?_, ?_⟩
  · rw [Plain.has_with_self]
    unfold Plain.may
    by_cases h0 : 0 ≤ i <;> by_cases h1 : i < 16 <;> simp [h0, h1]
  · by_cases h : i = k
    · exact .inl h
    · exact .inr ⟨h, Plain.has_with_other s i k h, Plain.has_without_other s i k h⟩

set_option maxRecDepth 100000 in
set_option maxHeartbeats 4000000 in
theorem all_walk (a0 : Int) (a1 : Int) (a2 : Int) (a3 : Int) (w0 : (Lit.int .u16 a0).wf = true) (w1 : (Lit.int .u16 a1).wf = true) (_w2 : (Lit.int .i64 a2).wf = true) (_w3 : (Lit.int .i64 a3).wf = true) (w : World) :
    Calls Try.prog 5 #[.int .u16 a0, .int .u16 a1, .int .i64 a2, .int .i64 a3] w fun e w' => e = .returned (.bool true) ∧ Below w.heap.size w w' := by
  obtain ⟨s, rfl, hs⟩ := nat_u16 w0
  obtain ⟨t, rfl, ht⟩ := nat_u16 w1
  clear w0 w1 _w2 _w3
  have hA := Plain.with_lt hs [a2]
  have hB := Plain.without_lt hs [a2]
  have hall := Lib.hid (Plain.with_all hs)
  have hself := Lib.hid (Plain.has_without_self s a2)
  have hpb := Lib.hid (Plain.part_without hs a2)
  have hpa := Lib.hid (Plain.part_with hs a2)
  have hlen := Plain.elems_length_le s 16
  have hn : (Plain.elems s 16).length ≤ 9223372036854775807 := by omega
  have hget := Lib.hid (Plain.elems_get s)
  have hrise := Lib.hid (Plain.elems_rise s)
  have hboth := Lib.hid (Plain.part_both hs ht)
  have hcs := Lib.hid (all_cases s a2 a3)
  generalize hE : Plain.elems s 16 = es at *
  have HE := Lib.hid hE
  clear hE
  go_enter Try.func5, Try.ntmps5
  go_wp2_with fail
  ((with_reducible refine (with_any s _ _ _ [a2] _ _ hs (ints_new _ _) (by omega)).mono ?_); rintro e wx ⟨rfl, rfl⟩)
  go_wp2_with fail
  ((with_reducible refine (without_any s _ _ _ [a2] _ _ hs (ints_at _ _ _ ?hb2) (by omega)).mono ?_); (case hb2 => simp); rintro e wx ⟨rfl, rfl⟩)
  go_upto_region 2 with fail
  go_cut [65] (fun b wx => b = .bool false ∧ Below w.heap.size w wx)
  case first =>
    go_wp2_with fail
    ((with_reducible refine (all_any s _ hs).mono ?_); rintro e w2 ⟨v, rfl, hown, hb1⟩)
    rw [HE.out] at hown
    obtain ⟨A, c, rfl, r1⟩ := ints_of_own hown
    clear hown
    have b1 : Below w.heap.size w w2 := (((Below.refl _ _).alloc (Nat.le_refl _) _).alloc (by simp) _).trans (hb1.mono (by simp; omega))
    go_wp2_with fail
    ((with_reducible refine (with_zero s es _ _ _ _ hall.out r1 hn).mono ?_); rintro e wx ⟨rfl, rfl⟩)
    have hx := hcs.out
    clear hcs
    obtain ⟨x, y, hx1, hy1, hi, hk⟩ := hx
    have HX := Lib.hid hx1
    have HY := Lib.hid hy1
    clear hx1 hy1
    rcases hk with rfl | ⟨hne, hk1, hk2⟩
    · have hkk : (a2 != a2) = false := by simp
      rcases hi with ⟨i1, i2, rfl⟩ | ⟨i1, i2, rfl⟩ | ⟨i1, rfl⟩
      all_goals
        go_wp2_with fail
        ((with_reducible refine (has_to _ _ _ _ hA HX.out).mono ?_); rintro e wx ⟨rfl, rfl⟩)
        go_wp2_with fail
        ((with_reducible refine (has_to _ _ _ _ hB hself.out).mono ?_); rintro e wx ⟨rfl, rfl⟩)
        go_wp2_with fail
        go_meet
        exact ⟨by first | rfl | (simp; omega), b1⟩
    · have hkk : (a2 != a3) = true := by simp [hne]
      have HK1 := Lib.hid hk1
      have HK2 := Lib.hid hk2
      clear hk1 hk2 hne
      rcases hi with ⟨i1, i2, rfl⟩ | ⟨i1, i2, rfl⟩ | ⟨i1, rfl⟩
      all_goals
        go_wp2_with fail
        ((with_reducible refine (has_to _ _ _ _ hA HX.out).mono ?_); rintro e wx ⟨rfl, rfl⟩)
        go_wp2_with fail
        ((with_reducible refine (has_to _ _ _ _ hB hself.out).mono ?_); rintro e wx ⟨rfl, rfl⟩)
        go_wp2_with fail
        ((with_reducible refine (has_to _ _ _ _ hA HK1.out).mono ?_); rintro e wx ⟨rfl, rfl⟩)
        go_wp2_with fail
        ((with_reducible refine (has_to _ _ _ _ hs HY.out).mono ?_); rintro e wx ⟨rfl, rfl⟩)
        go_wp2_with fail
        ((with_reducible refine (has_to _ _ _ _ hB HK2.out).mono ?_); rintro e wx ⟨rfl, rfl⟩)
        go_wp2_with fail
        ((with_reducible refine (has_to _ _ _ _ hs HY.out).mono ?_); rintro e wx ⟨rfl, rfl⟩)
        go_wp2_with fail
        go_meet
        exact ⟨by first | rfl | (simp; omega), b1⟩
  case rest =>
    obtain ⟨rfl, b2⟩ := hcut
    clear hcs hself hall
    go_wp2_with fail
    ((with_reducible refine (all_any s _ hs).mono ?_); rintro e w3 ⟨v, rfl, hown, hb3⟩)
    rw [HE.out] at hown
    obtain ⟨A, c, rfl, r1⟩ := ints_of_own hown
    clear hown
    have b3 : Below w.heap.size w w3 := b2.trans (hb3.mono b2.size)
    generalize hnn : es.length = n at *
    have HN := Lib.hid hnn
    clear hnn
    go_wp2_with fail
    go_loopw [12] (fun i wr => ∃ k : Nat, k ≤ n ∧ i = .int .i64 k ∧ Ints wr w3.heap.size A n es ∧ Below w.heap.size w wr) (fun i _ => n - (intOf i).toNat)
    case atStart => exact ⟨0, Nat.zero_le _, rfl, r1, b3⟩
    case round =>
      obtain ⟨k, hk, rfl, hI, hbl⟩ := hrel
      by_cases hlt : k < n
      · obtain ⟨b, off, rfl, hb, hc⟩ := hI.at_ hlt
        have hg := hget.out k hlt
        have HG := Lib.hid hg
        clear hg
        cases k with
        | zero =>
          have hc0 : wr.cell? ⟨b, off, none⟩ = some (.int .i64 (es.getD 0 0)) := by simpa using hc
          clear hc
          generalize es.getD 0 0 = z at *
          go_wp2_with fail
          go_quiet ((go_at_call 8; exact quiet_left (has_to _ _ _ _ hs HG.out)))
          go_wp2_with fail
          go_roundw
          case rel => exact ⟨1, by omega, by go_num, hI, hbl.trans (below_drewN _ _ _)⟩
          case measure => simp [intOf]; omega
        | succ k =>
          obtain ⟨b', off', e', hb', hc'⟩ := hI.at_ (k := k) (by omega)
          simp only [Option.some.injEq, Addr.mk.injEq] at e'
          obtain ⟨rfl, rfl, _⟩ := e'
          have hr := hrise.out k hlt
          generalize es.getD k 0 = z' at *
          generalize es.getD (k + 1) 0 = z at *
          have hle : ¬ z ≤ z' := by omega
          have hi0 : (0 : Int) ≤ (k : Int) := by omega
          have hi1 : (k : Int) < (n : Int) := by omega
          have hi2 : (0 : Int) ≤ (k : Int) + 1 := by omega
          have hi3 : (k : Int) + 1 < (n : Int) := by omega
          have hi4 : (0 : Int) < (k : Int) + 1 := by omega
          have hi5 : (k : Int) + 1 - 1 = (k : Int) := by omega
          go_wp2_with fail
          go_quiet ((go_at_call 8; exact quiet_left (has_to _ _ _ _ hs HG.out)))
          go_wp2_with fail
          go_roundw
          case rel => exact ⟨k + 1 + 1, by omega, by go_num, hI, hbl.trans (below_drewN _ _ _)⟩
          case measure => simp [intOf]; omega
      · have e : k = n := by omega
        subst e
        have hX := hboth.out
        clear hboth
        generalize hx : Plain.part s t = x at *
        generalize hy : Plain.part t s = y at *
        have HX := Lib.hid hx
        have HY := Lib.hid hy
        clear hx hy
        have hst : ((s : Int) == (t : Int)) = (s == t) := by rw [Bool.eq_iff_iff]; simp; omega
        rw [← hX] at hst
        clear hX
        cases x <;> cases y
        all_goals
          simp only [Bool.and_true, Bool.and_false, Bool.and_self, Bool.true_and, Bool.false_and] at hst
          go_wp2_with (first
            | (go_at_call 14; (with_reducible refine (len_any s _ hs).mono ?_); rintro e wx ⟨rfl, m, rfl⟩; rw [HE.out, HN.out])
            | (go_at_call_of 18 (Value.int .u16 ((Plain.without s [a2] : Nat) : Int)); (with_reducible refine (part_any _ s _ hB hs).mono ?_); rintro e wx ⟨rfl, rfl⟩; rw [hpb.out])
            | (go_at_call_of 18 (Value.int .u16 ((Plain.with_ s [a2] : Nat) : Int)); (with_reducible refine (part_any s _ _ hs hA).mono ?_); rintro e wx ⟨rfl, rfl⟩; rw [hpa.out])
            | (go_at_call 18; (with_reducible refine (part_any s t _ hs ht).mono ?_); rintro e wx ⟨rfl, rfl⟩; rw [HX.out])
            | (go_at_call 18; (with_reducible refine (part_any t s _ ht hs).mono ?_); rintro e wx ⟨rfl, rfl⟩; rw [HY.out])
            | (go_at_call 7; (with_reducible refine (alive_any _).mono ?_); rintro e w9 ⟨rfl, hb9⟩))
          go_ret
          exact ⟨rfl, (hbl.trans (below_drewN _ _ _)).trans (hb9.mono (by have := hbl.size; simpa using this))⟩

end Go.Proofs.Ythnboggjlppopaa
