/- The walks of the reference's Digits and of place.In. -/
import Derived.Test.YtkiedbanobjmlaaDoorP6
set_option linter.unusedSimpArgs false
set_option linter.unusedVariables false
namespace Go.Proofs.YtkiedbanobjmlaaDoor.Pl
open Go.RowKit
open Fl

theorem dec_big (n : Nat) (h : 9 < n) : Lib.decDigits n = Lib.decDigits (n / 10) ++ [UInt8.ofNat (48 + n % 10)] := by
  rw [Lib.decDigits, dif_neg (by omega)]
theorem dec_small (n : Nat) (h : ¬ 9 < n) : Lib.decDigits n = [UInt8.ofNat (48 + n)] := by
  rw [Lib.decDigits, dif_pos (by omega)]
theorem ofNat48 (n : Nat) : UInt8.ofNat (48 + n) = 48 + UInt8.ofNat n := UInt8.ofNat_add 48 n
/-- A number's digits; of 0 none. -/
def digN (n : Nat) : List UInt8 := if n = 0 then [] else Lib.decDigits n
theorem digN_step (m : Nat) (h : 0 < m) (l : List UInt8) : digN m ++ l = digN (m / 10) ++ (48 + UInt8.ofNat (m % 10)) :: l := by
  unfold digN
  rw [if_neg (by omega)]
  by_cases h9 : 9 < m
  · rw [if_neg (by omega), dec_big m h9, ofNat48]; simp
  · rw [if_pos (by omega), dec_small m h9, ofNat48, show m % 10 = m by omega]; rfl
theorem conv_one (W : World) (z : Int) (h0 : 0 ≤ z) (h1 : z < 256) : (convert 32 9 (.slice (some ⟨W.heap.size, 0, none⟩) 1 1)).run Tryd.prog (W.alloc (.cells #[.int .u8 z] 5)) = .ok (.string ⟨#[UInt8.ofNat z.toNat]⟩) (W.alloc (.cells #[.int .u8 z] 5)) := by
  rw [run_convert_bytes_string _ _ _ _ _ _ _ Tryd.underlying32 Tryd.underlying5 Tryd.underlying9]
  rw [run_bytesToString _ _ _ _ [z] (by simp [loadCells, loadCellsFrom, go_sem, Addr.add])]
  rfl
theorem str_cons (d : UInt8) (l : List UInt8) : (ByteArray.mk #[d] ++ ByteArray.mk l.toArray) = ByteArray.mk (d :: l).toArray := ByteArray.mk_append_mk [d] l

set_option maxHeartbeats 1600000 in
theorem rDigits_any (N : Nat) (w : World) (hN : N < 4294967296) : Calls Tryd.prog 40 #[.int .i64 N] w fun e w' => e = .returned (.string ⟨(digN N).toArray⟩) ∧ Below w.heap.size w w' := by
  go_enter Tryd.func40, Tryd.ntmps40
  go_wp2
  go_loopw [0, 3] (fun n s wr => ∃ (m : Nat) (l : List UInt8), m ≤ N ∧ n = .int .i64 m ∧ s = .string ⟨l.toArray⟩ ∧ l.length + m ≤ N ∧ Hid (digN N = digN m ++ l) ∧ Below w.heap.size w wr) (fun n _ _ => (intOf n).toNat)
  case atStart => exact ⟨N, [], Nat.le_refl _, rfl, rfl, by simp, Lib.hid (by simp), Below.refl _ _⟩
  case round =>
    obtain ⟨m, l, hm, rfl, rfl, hlen, hl, hb⟩ := hrel
    by_cases h9 : 0 < m
    · have hc := conv_one wr (48 + (m : Int) % 10) (by omega) (by omega)
      go_wp2
      refine ⟨⟨m / 10, (48 + UInt8.ofNat (m % 10)) :: l, by omega, by simp, by rw [str_cons], by simp; omega, Lib.hid (by rw [hl.out, digN_step m h9]), below_alloc hb _⟩, ?_⟩
      simp [intOf]; omega
    · have HE := Lib.hid (show digN N = l from by rw [hl.out, show m = 0 by omega]; rfl)
      clear hl
      go_wp2
      go_ret
      exact ⟨by rw [HE.out]; rfl, hb⟩

/-- Where a place is in a text: behind how many bytes. -/
def idx (q : Nat × Nat) : Nat × Nat → List UInt8 → Nat → Option Nat
  | a, [], k => if a = q then some k else none
  | a, c :: l, k => if a = q then some k else idx q (stepN a c) l (k + 1)
theorem idx_here (q : Nat × Nat) (l : List UInt8) (k : Nat) : idx q q l k = some k := by cases l <;> simp [idx]
theorem idx_next {q a : Nat × Nat} (h : a ≠ q) (c : UInt8) (l : List UInt8) (k : Nat) : idx q a (c :: l) k = idx q (stepN a c) l (k + 1) := by simp [idx, h]
theorem idx_end {q a : Nat × Nat} (h : a ≠ q) (k : Nat) : idx q a [] k = none := by simp [idx, h]
theorem stepN_le (a : Nat × Nat) (c : UInt8) (k : Nat) (h1 : a.1 ≤ k + 1) (h2 : a.2 ≤ k + 1) : (stepN a c).1 ≤ k + 2 ∧ (stepN a c).2 ≤ k + 2 := by
  unfold stepN; split <;> simp <;> omega
theorem same_c (a q : Nat × Nat) (h1 : a.1 < 4294967296) (h2 : a.2 < 4294967296) (h3 : q.1 < 4294967296) (h4 : q.2 < 4294967296) :
    ((FloatKind.f64.format.order (fl a.1) (fl q.1) == some .eq) && (FloatKind.f64.format.order (fl a.2) (fl q.2) == some .eq)) = decide (a = q) := by
  rw [fl_order _ _ (by omega) (by omega), fl_order _ _ (by omega) (by omega), Bool.eq_iff_iff]
  simp only [Bool.and_eq_true, beq_iff_eq, Option.some.injEq, Nat.compare_eq_eq, decide_eq_true_eq]
  exact ⟨fun h => Prod.ext h.1 h.2, fun h => by rw [h]; exact ⟨rfl, rfl⟩⟩
/-- What In answers. -/
def inTup (o : Option Nat) : Value := match o with
  | some k => .tuple #[.int .i64 k, .bool true]
  | none => .tuple #[.int .i64 0, .bool false]

set_option maxHeartbeats 3200000 in
theorem In_any (s : ByteArray) (q : Nat × Nat) (w : World) (h1 : q.1 < 4294967296) (h2 : q.2 < 4294967296) (hs : s.size ≤ 2147483648) : Calls Tryd.prog 22 #[.string s, C q] w fun e w' => e = .returned (inTup (idx q (1, 1) s.data.toList 0)) ∧ w = w' := by
  unfold C
  go_enter Tryd.func22, Tryd.ntmps22
  go_wp2_with fail
  ((with_reducible refine (Begin_any _).mono ?_); rintro e w' ⟨rfl, rfl⟩)
  go_wp2
  go_loop [6, 7] (fun v i => ∃ (a : Nat × Nat) (k : Nat), k ≤ s.size ∧ i = .int .i64 k ∧ v = C a ∧ a.1 ≤ k + 1 ∧ a.2 ≤ k + 1 ∧ Hid (idx q (1, 1) s.data.toList 0 = idx q a (s.data.toList.drop k) k)) (fun _ i => s.size - (intOf i).toNat)
  case atStart => exact ⟨(1, 1), 0, Nat.zero_le _, rfl, rfl, by simp, by simp, Lib.hid rfl⟩
  case round =>
    obtain ⟨a, k, hk, rfl, rfl, a1, a2, HB⟩ := hrel
    have hsm := same_c a q (by omega) (by omega) h1 h2
    by_cases hlt : k < s.size
    · have HD := Lib.hid (drop_cons s k hlt)
      by_cases haq : a = q
      · have HR := Lib.hid (show idx q (1, 1) s.data.toList 0 = some k from by rw [HB.out, haq, idx_here])
        rw [show decide (a = q) = true by simp [haq]] at hsm
        clear HB HD haq
        unfold C
        go_wp2
        go_ret2
        exact ⟨by rw [HR.out]; rfl, rfl⟩
      · have HS := Lib.hid (step_any a s[k] w (by omega) (by omega))
        have HN := Lib.hid (show idx q (1, 1) s.data.toList 0 = idx q (stepN a s[k]) (s.data.toList.drop (k + 1)) (k + 1) from by rw [HB.out, HD.out, idx_next haq])
        have bd := stepN_le a s[k] k a1 a2
        rw [show decide (a = q) = false by simp [haq]] at hsm
        clear HB HD haq
        generalize stepN a s[k] = a' at *
        unfold C at HS ⊢
        go_wp2_with fail
        ((with_reducible refine HS.out.mono ?_); rintro e w' ⟨rfl, rfl⟩)
        go_wp2
        go_round
        case rel => exact ⟨a', k + 1, by omega, by go_num, rfl, by omega, by omega, HN⟩
        case measure => simp [intOf]; omega
    · have hkS : k = s.size := by omega
      subst hkS
      have HE := Lib.hid (show idx q (1, 1) s.data.toList 0 = idx q a [] s.size from by rw [HB.out, List.drop_of_length_le (by simp)])
      by_cases haq : a = q
      · have HR := Lib.hid (show idx q (1, 1) s.data.toList 0 = some s.size from by rw [HE.out, haq, idx_here])
        rw [show decide (a = q) = true by simp [haq]] at hsm
        clear HB HE haq
        unfold C
        go_wp2
        go_ret2
        exact ⟨by rw [HR.out]; rfl, rfl⟩
      · have HR := Lib.hid (show idx q (1, 1) s.data.toList 0 = none from by rw [HE.out, idx_end haq])
        rw [show decide (a = q) = false by simp [haq]] at hsm
        clear HB HE haq
        unfold C
        go_wp2
        go_ret2
        exact ⟨by rw [HR.out]; rfl, rfl⟩

end Go.Proofs.YtkiedbanobjmlaaDoor.Pl
