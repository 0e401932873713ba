/- Make of a heap. -/
import Derived.Test.YtfdpcjdghmdkkaaH10
set_option linter.unusedSimpArgs false
set_option linter.unusedVariables false
namespace Go.Proofs.Ytfdpcjdghmdkkaa.Hp
open Go.RowKit Go.Sort
def mkB (a m : Nat) : Bk := (⟨a % 131072, Nat.mod_lt _ (by decide)⟩, m)
theorem mkB_at {a m : Nat} (h : a ≤ 65536) : (mkB a m).1.val = a := Nat.mod_eq_of_lt (by omega)
theorem mkB_V {a m : Nat} (h : a ≤ 65536) : bkV (mkB a m) = .agg #[.int .i64 (a : Nat), .int .i64 (m : Nat)] := by
  unfold bkV blkV Bk.out
  rw [mkB_at h]
  rfl
theorem Keeps2.undrew {h b : Nat} {w w' : World} (hk : Keeps2 h b w.drew w') : Keeps2 h b w w' := ⟨hk.os, hk.tape, hk.output, hk.size, hk.block⟩
section
variable {w : World} {h b fr n last : Nat} {ks : List Nat} {g : Nat → Bk}
theorem HpAt.last_set {x : Nat} (H : HpAt w h b fr n last ks g) : HpAt (w.setCell ⟨h, 2, none⟩ (.int .i64 (x : Nat))) h b fr n x ks g := by
  refine ⟨?_, H.map.setCell (fun e => H.ne e.symm) _⟩
  unfold World.setCell
  simp only [Array.getElem?_modify, if_true, H.cells]
  rfl
set_option maxRecDepth 100000 in
set_option maxHeartbeats 3200000 in
theorem make_small (H : HpAt w h b fr n last ks g) {m : Int} (hm : m < 1) : Calls Try.prog 19 #[.pointer (some ⟨h, 0, none⟩), .int .i64 m] w fun e w' =>
    e = .returned (.tuple #[.int .u16 0, .int .i64 0, .int .i64 2]) ∧ w' = w := by
  have hn := none_any H
  clear H
  go_enter Try.func19, Try.ntmps19
  go_wp2_with (go_at_call 23; refine hn.mono ?_; rintro e w' ⟨rfl, rfl⟩)
  go_ret3
  exact ⟨rfl, rfl⟩
/-- What Make answers, and leaves. -/
def MadeR (w : World) (h b fr n last : Nat) (ks : List Nat) (g : Nat → Bk) (m : Nat) (e : Ending) (w' : World) : Prop :=
  ∃ (l : List Bk) (a : Nat), l.Perm (ks.map g) ∧ (l.Pairwise fun x y => x.1.val ≤ y.1.val) ∧ a = gapL m fr (l ++ [senB (fr + n)]) ∧ Keeps2 h b w w' ∧
    ((m + a ≤ fr + n ∧ last < 65535 ∧ e = .returned (.tuple #[.int .u16 ((last + 1 : Nat) : Int), .int .i64 (a : Nat), .int .i64 0]) ∧ HpAt w' h b fr n (last + 1) (ks ++ [last + 1]) (updB g (last + 1) (mkB a m))) ∨
      (¬ (m + a ≤ fr + n ∧ last < 65535) ∧ e = .returned (.tuple #[.int .u16 0, .int .i64 0, .int .i64 4]) ∧ HpAt w' h b fr n last ks g))
set_option maxRecDepth 100000 in
set_option maxHeartbeats 3200000 in
theorem make_any (H : HpAt w h b fr n last ks g) (hk : ks.length ≤ 70000) (hfr : fr + n ≤ 65536) (hsm : ∀ k ∈ ks, (g k).2 ≤ 70000) (hl : last ≤ 65535) (hnew : last + 1 ∉ ks) {m : Nat} (hm : 1 ≤ m) (hhi : (m : Int) ≤ 9223372036854775807) :
    Calls Try.prog 19 #[.pointer (some ⟨h, 0, none⟩), .int .i64 (m : Nat)] w (MadeR w h b fr n last ks g m) := by
  have hn := none_any H
  have hp := place_any H hk hfr hsm (m : Nat) (by omega) hhi
  have HH := Lib.hid H
  have HN := Lib.hid hnew
  have HPL := Lib.hid hp
  have HNO := Lib.hid hn
  have h1m : decide ((m : Int) < 1) = false := decide_eq_false (by omega)
  have HM := Lib.hid (And.intro hm hhi)
  have HF := Lib.hid (And.intro hfr hl)
  clear H hk hsm hnew hp hn hm hhi hfr hl
  go_enter Try.func19, Try.ntmps19
  go_wp2_with (first
    | (go_at_call 23; refine HNO.out.mono ?_; rintro e w' ⟨rfl, hw⟩; have hw2 := hw.symm; subst hw2; clear hw)
    | (go_at_call 26; fail))
  refine HPL.out.mono ?_
  rintro e w1 ⟨l, a, hpm, hpw, hga, he, hb⟩
  generalize hq : decide ((m : Int) ≤ ((fr + n : Nat) : Int) - (a : Int)) = q at he
  subst he
  have H1 := Lib.hid (HH.out.below hb HH.out.lt HH.out.map.lt)
  have HP := Lib.hid (And.intro hpm (And.intro hpw hga))
  have HB := Lib.hid hb
  have HQ := Lib.hid hq
  clear hpm hpw hga hb hq
  have d2 := H1.out.c2
  cases q
  · go_wp2
    go_ret3
    refine ⟨l, a, HP.out.1, HP.out.2.1, HP.out.2.2, Keeps2.of_below HB.out, .inr ⟨?_, rfl, H1.out⟩⟩
    have := of_decide_eq_false HQ.out
    omega
  · by_cases hlast : last < 65535
    · have hl1 : decide ((last : Int) ≥ 65535) = false := decide_eq_false (by omega)
      have hl2 : decide (65535 ≤ (last : Int)) = false := decide_eq_false (by omega)
      have HL := Lib.hid hlast
      have hwr : IntKind.u16.wrap ((last : Int) + 1) = (last : Int) + 1 := by simp [IntKind.wrap, IntKind.bits, IntKind.signed]; omega
      have hw64 : wrap64 ((last : Int) + 1) = (last : Int) + 1 := by unfold wrap64; omega
      have hfz := H1.out.fz 2
      clear hlast
      have d3 := H1.out.c3
      have H3 := Lib.hid (show HpAt (w1.setCell ⟨h, 2, none⟩ (.int .i64 ((last : Int) + 1))) h b fr n (last + 1) ks g from H1.out.last_set (x := last + 1))
      have e2 := H3.out.c2
      have e3 := H3.out.c3
      have HV := Lib.hid (show a ≤ 65536 from by have := of_decide_eq_true HQ.out; have := HF.out; have := HM.out; omega)
      have HV2 := Lib.hid (mkB_V (m := m) HV.out)
      obtain ⟨w4, hrun, hp4, hg4⟩ := H3.out.map.drew.put (P := Try.prog) Try.underlying54 Try.underlying23 (last + 1) (.agg #[.int .i64 (a : Nat), .int .i64 (m : Nat)])
      have hrun : (Instr.mapUpdate 54 (.map (some b)) (.int .u16 ((last : Int) + 1)) (.agg #[.int .i64 (a : Nat), .int .i64 (m : Nat)])).run Try.prog (w1.setCell ⟨h, 2, none⟩ (.int .i64 ((last : Int) + 1))).drew = .ok () w4 := hrun
      have H4 := Lib.hid (show HpAt w4 h b fr n (last + 1) (ks ++ [last + 1]) (updB g (last + 1) (mkB a m)) from by
        refine ⟨(hg4.block h H3.out.lt (fun e => H3.out.ne (by injection e))).trans H3.out.cells, ?_⟩
        rw [if_neg HN.out, ← HV2.out, updB_V] at hp4
        exact hp4)
      have HG := Lib.hid hg4
      have e4 : w4.cell? ⟨h, 2, none⟩ = some (.int .i64 ((last : Int) + 1)) := H4.out.c2
      clear hp4 hg4
      go_wp2
      go_region
      clear hrun
      go_wp2
      go_ret3
      have hk2 : Keeps2 h b w w4 := ((Keeps2.of_below HB.out).trans (Keeps2.set h b w1 2 (.int .i64 ((last : Int) + 1)))).trans (Keeps2.undrew (Keeps2.grown HG.out))
      refine ⟨l, a, HP.out.1, HP.out.2.1, HP.out.2.2, ⟨hk2.os, hk2.tape, hk2.output, hk2.size, hk2.block⟩, .inl ⟨?_, HL.out, rfl, ⟨H4.out.cells, H4.out.map⟩⟩⟩
      have := of_decide_eq_true HQ.out
      omega
    · have hl1 : decide ((last : Int) ≥ 65535) = true := decide_eq_true (by omega)
      have hl2 : decide (65535 ≤ (last : Int)) = true := decide_eq_true (by omega)
      have HL := Lib.hid hlast
      clear hlast
      go_wp2
      go_ret3
      exact ⟨l, a, HP.out.1, HP.out.2.1, HP.out.2.2, Keeps2.of_below HB.out, .inr ⟨fun hh => HL.out hh.2, rfl, H1.out⟩⟩
end
end Go.Proofs.Ytfdpcjdghmdkkaa.Hp
