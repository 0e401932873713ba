/- The walks of bits.Len, bits.Row, All (both), numbers. -/
import Derived.Test.YthnboggjlppopaaW3
import Derived.Maps.AppendAt
namespace Go.Proofs.Ythnboggjlppopaa
open Go.RowKit

theorem int_info : (Try.prog.info? 3).map (fun i => (i.zero, i.size, i.bytes)) = some (some (.int .i64 0), 1, 8) := by kernel_rfl

set_option maxHeartbeats 400000 in
theorem numbers_any (A : Option Addr) (n c : Nat) (zs : List Int) (A' : Option Addr) (n' c' : Nat) (zs' : List Int) (w : World) (B B' : Nat)
    (h : Ints w B A n zs) (h' : Ints w B' A' n' zs') (hn : n ≤ 9223372036854775807) :
    Calls Try.prog 16 #[.slice A n c, .slice A' n' c'] w fun e w' => e = .returned (.bool (decide (zs = zs'))) ∧ ∃ m, w' = w.drewN m := by
  have hlen := h.len
  have hlen' := h'.len
  by_cases hne : n = n'
  · subst hne
    have hq : ((n : Int) != (n : Int)) = false := by simp
    go_enter Try.func16, Try.ntmps16
    go_wp2
    go_loopw [5] (fun i wr => ∃ k m : Nat, k ≤ n ∧ i = .int .i64 k ∧ zs.take k = zs'.take k ∧ wr = w.drewN m) (fun i _ => n - (intOf i).toNat)
    case atStart => exact ⟨0, 0, Nat.zero_le _, rfl, rfl, rfl⟩
    case round =>
      obtain ⟨k, m, hk, rfl, hE, rfl⟩ := hrel
      have HE := Lib.hid hE
      clear hE
      by_cases hlt : k < n
      · obtain ⟨b, off, rfl, hb, hc⟩ := h.at_ hlt
        obtain ⟨b', off', rfl, hb', hc'⟩ := h'.at_ hlt
        have hT := Lib.hid (take_snoc zs k (by omega))
        have hT' := Lib.hid (take_snoc zs' k (by omega))
        have hD : Hid (zs.getD k 0 ≠ zs'.getD k 0 → decide (zs = zs') = false) := by
          unfold Hid
          intro hd
          rw [decide_eq_false_iff_not]
          intro e
          exact hd (by rw [e])
        have hi0 : (0 : Int) ≤ (k : Int) := by omega
        have hi1 : (k : Int) < (n : Int) := by omega
        generalize zs.getD k 0 = z at *
        generalize zs'.getD k 0 = z' at *
        by_cases hz : z = z'
        · subst hz
          have hzz : (z != z) = false := by simp
          go_wp2
          go_quiet (fail)
          go_wp2
          go_roundw
          case rel => exact ⟨k + 1, _, by omega, by go_num, by rw [hT.out, hT'.out, HE.out], rfl⟩
          case measure => simp [intOf]; omega
        · have hzz : (z != z') = true := by simp [hz]
          have HZ := Lib.hid hz
          clear hz
          go_wp2
          go_quiet (fail)
          go_wp2
          go_ret
          exact ⟨ret_bool (hD.out HZ.out).symm, _, World.drewN_drewN _ _ _⟩
      · have e : k = n := by omega
        subst e
        go_wp2
        go_ret
        refine ⟨ret_bool ?_, _, rfl⟩
        have := HE.out
        rw [List.take_of_length_le (by omega), List.take_of_length_le (by omega)] at this
        simp [this]
  · have hq : ((n : Int) != (n' : Int)) = true := by simp; omega
    have hz : ¬ zs = zs' := by
      intro e
      subst e
      omega
    have HZ := Lib.hid hz
    clear hz
    go_enter Try.func16, Try.ntmps16
    go_wp2
    go_ret
    exact ⟨ret_bool (by simp [HZ.out]), 0, rfl⟩


theorem elems_snoc (s k : Nat) (x : Bool) (h : Plain.has s (k : Int) = x) : Plain.elems s (k + 1) = if x then Plain.elems s k ++ [(k : Int)] else Plain.elems s k := by
  rw [Plain.elems, h]

set_option maxHeartbeats 1000000 in
theorem all_any (s : Nat) (w : World) (hs : s < 65536) :
    Calls Try.prog 17 #[.int .u16 s] w fun e w' => ∃ v, e = .returned v ∧ w'.ownsRow w.heap.size 3 1 v (Plain.elems s 16).length ((Plain.elems s 16).map (Value.int .i64)) ∧ Below w.heap.size w w' := by
  obtain ⟨i0, hi, hz0, hz1, hz2⟩ := info_parts int_info
  go_enter Try.func17, Try.ntmps17
  go_wp2
  go_loopw [2, 3, 4] (fun v _ i wr => ∃ k : Nat, k ≤ 16 ∧ i = .int .i64 k ∧ wr.ownsRow w.heap.size 3 1 v (Plain.elems s k).length ((Plain.elems s k).map (Value.int .i64)) ∧ Below w.heap.size w wr) (fun _ _ i _ => 16 - (intOf i).toNat)
  case atStart => exact ⟨0, Nat.zero_le _, rfl, World.ownsRow_nil _ _ _ _, Below.refl _ _⟩
  case round =>
    obtain ⟨k, hk, rfl, hown, hbl⟩ := hrel
    by_cases hlt : k < 16
    · cases hX : Plain.has s (k : Int)
      · have HX := Lib.hid hX
        have HS := Lib.hid (elems_snoc s k _ hX)
        clear hX
        go_wp2_with (go_at_call 8; refine (has_any s _ _ hs).mono ?_; rintro e w' ⟨rfl, rfl⟩; rw [HX.out])
        go_roundw
        case rel => exact ⟨k + 1, by omega, by go_num, by rw [HS.out]; exact hown, hbl⟩
        case measure => simp [intOf]; omega
      · have HX := Lib.hid hX
        have HS := Lib.hid (elems_snoc s k _ hX)
        have hle := Plain.elems_length_le s k
        clear hX
        go_wp2_with (first
          | (go_at_call 8; refine (has_any s _ _ hs).mono ?_; rintro e w' ⟨rfl, rfl⟩; rw [HX.out])
          | (at_builtin; refine wpList_append_own _ rfl _ _ 23 rfl w.heap.size 3 i0 (.int .i64 0) 1 8 Try.underlying23 hi hz0 hz1 hz2 rfl (by decide) _ _ _ rfl (hown.alloc _) ⟨_, 0, none⟩ 1 1 [.int .i64 k] rfl rfl ?c1 ?c2 ?c3 ?c4 ?c5 ?_))
        case c1 =>
          intro j u hj
          match j, hj with
          | 0, hj => simp at hj; subst hj; simp [Addr.add]
        case c2 => intro u hu; simp at hu; subst hu; rfl
        case c3 => unfold maxLen; omega
        case c4 => omega
        case c5 => have := hbl.size; simp; omega
        · intro v' w1 hown' hgrow _
          have hs1 := hbl.size
          have hlt1 := hown.lt
          have hbl' : Below w.heap.size w w1 := (hbl.alloc hbl.size _).grown hgrow (by simp; omega) (fun g hg => (hlt1 g hg).1)
          clear hgrow hlt1
          go_wp2
          go_roundw
          case rel => exact ⟨k + 1, by omega, by go_num, by rw [HS.out]; simpa using hown', hbl'⟩
          case measure => simp [intOf]; omega
    · have e : k = 16 := by omega
      subst e
      go_wp2
      go_ret
      exact ⟨_, rfl, hown, hbl⟩

set_option maxHeartbeats 1000000 in
theorem rall_any (s : Nat) (w : World) (hs : s < 65536) :
    Calls Try.prog 15 #[.int .u16 s] w fun e w' => ∃ v, e = .returned v ∧ w'.ownsRow w.heap.size 3 1 v (Plain.elems s 16).length ((Plain.elems s 16).map (Value.int .i64)) ∧ Below w.heap.size w w' := by
  obtain ⟨i0, hi, hz0, hz1, hz2⟩ := info_parts int_info
  go_enter Try.func15, Try.ntmps15
  go_wp2
  go_loopw [3, 4] (fun v i wr => ∃ k : Nat, k ≤ 16 ∧ i = .int .i64 k ∧ wr.ownsRow w.heap.size 3 1 v (Plain.elems s k).length ((Plain.elems s k).map (Value.int .i64)) ∧ Below w.heap.size w wr) (fun _ i _ => 16 - (intOf i).toNat)
  case atStart => exact ⟨0, Nat.zero_le _, rfl, World.ownsRow_nil _ _ _ _, Below.refl _ _⟩
  case round =>
    obtain ⟨k, hk, rfl, hown, hbl⟩ := hrel
    by_cases hlt : k < 16
    · cases hX : Plain.has s (k : Int)
      · have HX := Lib.hid hX
        have HS := Lib.hid (elems_snoc s k _ hX)
        clear hX
        go_wp2_with (go_at_call 9; refine (rhas_any s _ _ hs).mono ?_; rintro e w' ⟨rfl, rfl⟩; rw [HX.out])
        go_roundw
        case rel => exact ⟨k + 1, by omega, by go_num, by rw [HS.out]; exact hown, hbl⟩
        case measure => simp [intOf]; omega
      · have HX := Lib.hid hX
        have HS := Lib.hid (elems_snoc s k _ hX)
        have hle := Plain.elems_length_le s k
        clear hX
        go_wp2_with (first
          | (go_at_call 9; refine (rhas_any s _ _ hs).mono ?_; rintro e w' ⟨rfl, rfl⟩; rw [HX.out])
          | (at_builtin; refine wpList_append_own _ rfl _ _ 23 rfl w.heap.size 3 i0 (.int .i64 0) 1 8 Try.underlying23 hi hz0 hz1 hz2 rfl (by decide) _ _ _ rfl (hown.alloc _) ⟨_, 0, none⟩ 1 1 [.int .i64 k] rfl rfl ?c1 ?c2 ?c3 ?c4 ?c5 ?_))
        case c1 =>
          intro j u hj
          match j, hj with
          | 0, hj => simp at hj; subst hj; simp [Addr.add]
        case c2 => intro u hu; simp at hu; subst hu; rfl
        case c3 => unfold maxLen; omega
        case c4 => omega
        case c5 => have := hbl.size; simp; omega
        · intro v' w1 hown' hgrow _
          have hs1 := hbl.size
          have hlt1 := hown.lt
          have hbl' : Below w.heap.size w w1 := (hbl.alloc hbl.size _).grown hgrow (by simp; omega) (fun g hg => (hlt1 g hg).1)
          clear hgrow hlt1
          go_wp2
          go_roundw
          case rel => exact ⟨k + 1, by omega, by go_num, by rw [HS.out]; simpa using hown', hbl'⟩
          case measure => simp [intOf]; omega
    · have e : k = 16 := by omega
      subst e
      go_wp2
      go_ret
      exact ⟨_, rfl, hown, hbl⟩


theorem ints_new (w : World) (k : Int) : Ints (w.alloc (.cells #[.int .i64 k] 3)) (w.heap.size + 1) (some ⟨w.heap.size, 0, none⟩) 1 [k] := by
  refine ⟨by simp, fun _ => ⟨_, rfl, by simp, ?_⟩⟩
  intro j u hj
  match j, hj with
  | 0, hj => simp at hj; subst hj; simp [Addr.add]

set_option maxHeartbeats 1000000 in
theorem row_any (low high : Int) (w : World) :
    Calls Try.prog 20 #[.int .i64 low, .int .i64 high] w fun e w' => e = .returned (.int .u16 (Plain.row low high)) ∧ Below w.heap.size w w' := by
  go_enter Try.func20, Try.ntmps20
  go_wp2
  go_loopw [4, 5, 6] (fun t _ i wr => ∃ k T : Nat, k ≤ 16 ∧ i = .int .i64 k ∧ t = .int .u16 T ∧ T = Plain.rowTo low high k ∧ Below w.heap.size w wr) (fun _ _ i _ => 16 - (intOf i).toNat)
  case atStart => exact ⟨0, 0, Nat.zero_le _, rfl, rfl, rfl, Below.refl _ _⟩
  case round =>
    obtain ⟨k, T, hk, rfl, rfl, hT, hbl⟩ := hrel
    have hTl : T < 65536 := by rw [hT]; exact Plain.rowTo_lt _ _ _
    by_cases hlt : k < 16
    · have hS : Hid (Plain.rowTo low high (k + 1) = if decide (low ≤ (k : Int)) && decide ((k : Int) ≤ high) then Plain.with_ T [(k : Int)] else T) := by
        unfold Hid; rw [hT]; rfl
      clear hT
      by_cases hx : low ≤ (k : Int)
      · by_cases hy : (k : Int) ≤ high
        · go_wp2_with (go_at_call 10; refine (with_any T _ _ _ [(k : Int)] _ _ hTl (ints_new _ _) (by omega)).mono ?_; rintro e w' ⟨rfl, rfl⟩)
          go_roundw
          case rel => exact ⟨k + 1, _, by omega, by go_num, rfl, by rw [hS.out]; simp [hx, hy], hbl.alloc hbl.size _⟩
          case measure => simp [intOf]; omega
        · go_wp2
          go_roundw
          case rel => exact ⟨k + 1, T, by omega, by go_num, rfl, by rw [hS.out]; simp [hx, hy], hbl⟩
          case measure => simp [intOf]; omega
      · go_wp2
        go_roundw
        case rel => exact ⟨k + 1, T, by omega, by go_num, rfl, by rw [hS.out]; simp [hx], hbl⟩
        case measure => simp [intOf]; omega
    · have e : k = 16 := by omega
      subst e
      have HT := Lib.hid hT
      clear hT
      go_wp2
      go_ret
      exact ⟨ret_int (by rw [HT.out, Plain.row_eq]), hbl⟩

end Go.Proofs.Ythnboggjlppopaa
