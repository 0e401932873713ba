/- Make, At, Free, Room of a heap. -/
import Derived.Test.YtfdpcjdghmdkkaaH9
set_option linter.unusedSimpArgs false
set_option linter.unusedVariables false
namespace Go.Proofs.Ytfdpcjdghmdkkaa.Hp
open Go.RowKit Go.Sort
section
variable {w : World} {h b fr n last : Nat} {ks : List Nat} {g : Nat → Bk}
set_option maxRecDepth 100000 in
set_option maxHeartbeats 1000000 in
theorem at_in (H : HpAt w h b fr n last ks g) {m : Nat} (hm : m ∈ ks) : Calls Try.prog 14 #[.pointer (some ⟨h, 0, none⟩), .int .u16 (m : Nat)] w fun e w' =>
    e = .returned (.tuple #[.int .i64 ((g m).1.val : Nat), .int .i64 ((g m).2 : Nat), .int .i64 0]) ∧ Below w.heap.size w w' := by
  have c3 := H.c3
  have hlt := H.lt
  have hn := none_any H
  have hk : (Instr.lookup 54 (.map (some b)) (.int .u16 (m : Nat)) true).run Try.prog w = .ok (.tuple #[.agg #[.int .i64 ((g m).1.val : Nat), .int .i64 ((g m).2 : Nat)], .bool true]) w := by
    have := H.map.look_in Try.underlying54 Try.underlying23 hm true
    simpa [bkV, blkV, Bk.out] using this
  clear H hm
  go_enter Try.func14, Try.ntmps14
  go_wp2_with (go_at_call 23; refine hn.mono ?_; rintro e w' ⟨rfl, hw⟩; have hw2 := hw.symm; subst hw2; clear hw)
  go_quiet (fail)
  go_wp2
  go_ret3
  exact ⟨rfl, below_drewN ((Below.refl _ _).alloc (Nat.le_refl _) _) _⟩
set_option maxRecDepth 100000 in
set_option maxHeartbeats 1000000 in
theorem at_out (H : HpAt w h b fr n last ks g) {m : Nat} (hm : m ∉ ks) : Calls Try.prog 14 #[.pointer (some ⟨h, 0, none⟩), .int .u16 (m : Nat)] w fun e w' =>
    e = .returned (.tuple #[.int .i64 0, .int .i64 0, .int .i64 3]) ∧ Below w.heap.size w w' := by
  have c3 := H.c3
  have hlt := H.lt
  have hn := none_any H
  have hk : (Instr.lookup 54 (.map (some b)) (.int .u16 (m : Nat)) true).run Try.prog w = .ok (.tuple #[.agg #[.int .i64 0, .int .i64 0], .bool false]) w :=
    H.map.look_out Try.underlying54 Try.underlying23 hm (Try.zeroValue61 w) true
  clear H hm
  go_enter Try.func14, Try.ntmps14
  go_wp2_with (go_at_call 23; refine hn.mono ?_; rintro e w' ⟨rfl, hw⟩; have hw2 := hw.symm; subst hw2; clear hw)
  go_ret3
  exact ⟨rfl, (Below.refl _ _).alloc (Nat.le_refl _) _⟩
set_option maxRecDepth 100000 in
set_option maxHeartbeats 1000000 in
theorem free_any (H : HpAt w h b fr n last ks g) (m : Nat) : Calls Try.prog 20 #[.pointer (some ⟨h, 0, none⟩), .int .u16 (m : Nat)] w fun e w' =>
    e = .returned (.int .i64 (if m ∈ ks then 0 else 3)) ∧ HpAt w' h b fr n last (ks.filter fun k => !decide (k = m)) g ∧ Keeps2 h b w w' := by
  have hlt := H.lt
  have HH := Lib.hid H
  by_cases hm : m ∈ ks
  · rw [if_pos hm]
    have ha := at_in H hm
    clear H
    go_enter Try.func20, Try.ntmps20
    go_wp2_with (first
      | (go_at_call 14; refine ha.mono ?_; rintro e w1 ⟨rfl, hb⟩; have H1 := Lib.hid (HH.out.below hb HH.out.lt HH.out.map.lt); have HB := Lib.hid hb; have d3 := H1.out.c3; clear hb ha)
      | (at_delete; (refine wpList_del _ rfl _ _ _ _ rfl _ Try.underlying54 Try.underlying23 b ks (fun k => bkV (g k)) rfl H1.out.map m rfl ?_); intro w2 hp hg2; have H2 := Lib.hid (And.intro hp hg2); clear hp hg2))
    go_ret
    refine ⟨rfl, ⟨(H2.out.2.block h H1.out.lt (fun e => H1.out.ne (by injection e))).trans H1.out.cells, H2.out.1⟩, (Keeps2.of_below HB.out).trans (Keeps2.grown H2.out.2)⟩
  · rw [if_neg hm]
    have ha := at_out H hm
    have e : (ks.filter fun k => !decide (k = m)) = ks := by
      rw [List.filter_eq_self]
      intro x hx
      have : x ≠ m := fun e => hm (e ▸ hx)
      simp [this]
    rw [e]
    clear H e
    go_enter Try.func20, Try.ntmps20
    go_wp2_with (go_at_call 14; refine ha.mono ?_; rintro e w1 ⟨rfl, hb⟩; have H1 := Lib.hid (HH.out.below hb HH.out.lt HH.out.map.lt); have HB := Lib.hid hb; have d3 := H1.out.c3; clear hb ha)
    go_ret
    exact ⟨rfl, H1.out, Keeps2.of_below HB.out⟩
def sumB (g : Nat → Bk) (l : List Nat) : Nat := (l.map fun k => (g k).2).sum
theorem sumB_perm {g : Nat → Bk} {l l' : List Nat} (h : l.Perm l') : sumB g l = sumB g l' := by
  unfold sumB
  exact List.Perm.sum_nat (h.map _)
theorem sumB_add (g : Nat → Bk) (l l' : List Nat) : sumB g (l ++ l') = sumB g l + sumB g l' := by simp [sumB, List.sum_append]
set_option maxRecDepth 100000 in
set_option maxHeartbeats 1000000 in
theorem room_any (H : HpAt w h b fr n last ks g) (hs : sumB g ks ≤ n) (hn65 : n ≤ 65536) : Calls Try.prog 11 #[.pointer (some ⟨h, 0, none⟩)] w fun e w' =>
    e = .returned (.int .i64 ((n - sumB g ks : Nat) : Int)) ∧ Below w.heap.size w w' := by
  have c1 := H.c1
  have c3 := H.c3
  have hlt := H.lt
  have hn := none_any H
  have HM := Lib.hid H.map
  have HS := Lib.hid hs
  clear H hs
  go_enter Try.func11, Try.ntmps11
  go_wp2_with (first
    | (go_at_call 23; refine hn.mono ?_; rintro e w' ⟨rfl, hw⟩; have hw2 := hw.symm; subst hw2; clear hw)
    | (at_range; go_must (refine wpList_range _ rfl _ _ rfl _ _ Try.underlying54 b ks (fun k => bkV (g k)) rfl HM.out w.heap.size rfl ?_); intro w1 hi1 hg1 hs1; have HI := Lib.hid hi1; have HG := Lib.hid hg1; clear hi1 hg1))
  go_frame
  have HB := Lib.hid ((Below.refl w.heap.size w).grown HG.out (Nat.le_refl _) (fun k h => by cases h))
  clear HG
  go_loopg [3] ks.length (fun gh sv wr => ∃ (left acc : List Nat) (r : Nat), sv = .int .i64 (r : Nat) ∧ r ≤ n ∧ left.length ≤ gh ∧ Hid (r + sumB g acc = n) ∧ Hid (IterM wr w.heap.size b ks (fun k => bkV (g k)) left) ∧ Hid (AccR ks acc left) ∧ Hid (Below w.heap.size w wr))
  case atStart => exact ⟨ks, [], n, rfl, Nat.le_refl _, Nat.le_refl _, Lib.hid rfl, HI, Lib.hid (AccR.start ks), HB⟩
  case round =>
    obtain ⟨left, acc, r, rfl, hrn, hgh, hr, hi, ha, hb⟩ := hrel
    go_wp2_with (at_next; refine wpList_next _ rfl _ rfl w.heap.size b ks left (fun k => bkV (g k)) rfl hi.out ?_ ?_)
    · intro h0
      subst h0
      have hp := ha.out.perm
      rw [List.append_nil] at hp
      have hse := Lib.hid (sumB_perm (g := g) hp)
      clear hp
      go_wp2
      go_ret
      refine ⟨ret_int ?_, hb.out⟩
      have := hr.out
      rw [hse.out]
      omega
    · intro k w2 hk hks hi2 hg2 hs2 hen
      have HI2 := Lib.hid (hi2.alloc (.cells #[.int .i64 ((g k).1.val : Nat), .int .i64 ((g k).2 : Nat)] 61))
      have HB2 := Lib.hid (hb.out.grown hg2 hb.out.size (fun k hk => by injection hk with hk; omega))
      have HA2 := Lib.hid (ha.out.step HM.out.nodup hk)
      have HF := Lib.hid (ha.out.less HM.out.nodup hk)
      have hadd := sumB_add g acc [k]
      have h1 : sumB g [k] = (g k).2 := by simp [sumB]
      have hle : (g k).2 ≤ r := by
        have hs := HS.out
        have hr' := hr.out
        have := sumB_perm (g := g) ((ha.out.step HM.out.nodup hk).perm)
        rw [sumB_add, hadd, h1] at this
        omega
      have hr2 := Lib.hid (show (r - (g k).2) + sumB g (acc ++ [k]) = n by have := hr.out; rw [hadd, h1]; omega)
      have hx := (g k).1.isLt
      unfold bkV blkV Bk.out at hen
      generalize (g k).1.val = x1 at *
      generalize (g k).2 = x2 at *
      clear hi2 hg2 hk hks hadd h1
      go_wp2
      go_roundg (left.length - 1)
      case rel => exact ⟨_, acc ++ [k], r - x2, by go_num, by omega, by have := HF.out; omega, hr2, HI2, HA2, Lib.hid (HB2.out.alloc (by have := HB2.out.size; omega) _)⟩
      case measure => have := HF.out; omega
end
end Go.Proofs.Ytfdpcjdghmdkkaa.Hp
