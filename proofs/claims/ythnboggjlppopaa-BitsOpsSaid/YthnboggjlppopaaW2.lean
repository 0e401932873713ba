/- The walks of the functions of bits and separatumref02 that read a list of numbers. -/
import Derived.Test.YthnboggjlppopaaW1
namespace Go.Proofs.Ythnboggjlppopaa
open Go.RowKit

/-- A slice of integers that reads as zs. -/
def Ints (w : World) (B : Nat) (A : Option Addr) (n : Nat) (zs : List Int) : Prop := Reads w B 1 A n (zs.map (Value.int .i64))

theorem Ints.len {w : World} {B : Nat} {A : Option Addr} {n : Nat} {zs : List Int} (h : Ints w B A n zs) : zs.length = n := by
  have := h.1; simpa using this
theorem Ints.at_ {w : World} {B : Nat} {A : Option Addr} {n : Nat} {zs : List Int} (h : Ints w B A n zs) {k : Nat} (hk : k < n) :
    ∃ b off, A = some ⟨b, off, none⟩ ∧ b < B ∧ w.cell? ⟨b, off + k, none⟩ = some (.int .i64 (zs.getD k 0)) := by
  obtain ⟨b, off, u, e, hb, hx, hc⟩ := Reads.spot h hk
  refine ⟨b, off, e, hb, ?_⟩
  rw [hc]
  have hl : k < zs.length := by have := h.len; omega
  simp [hl] at hx
  simp [List.getD, hl, hx]

theorem take_snoc (zs : List Int) (k : Nat) (h : k < zs.length) : zs.take (k + 1) = zs.take k ++ [zs.getD k 0] := by
  rw [List.take_succ_eq_append_getElem h]; simp [List.getD, h]

theorem shl_eq (i : Int) (h : Plain.may i = true) : IntKind.u16.wrap (2 ^ i.toNat) = ((2 ^ i.toNat : Nat) : Int) := by
  have hi := Plain.may_yes h
  have hl := Plain.two_pow_lt (k := i.toNat) (by omega)
  rw [IntKind.wrap_u16, show (2 : Int) ^ i.toNat = ((2 ^ i.toNat : Nat) : Int) by simp]
  generalize 2 ^ i.toNat = d at *
  omega

set_option maxHeartbeats 800000 in
theorem mask_any (A : Option Addr) (n c : Nat) (zs : List Int) (w : World) (B : Nat) (h : Ints w B A n zs) (hn : n ≤ 9223372036854775807) :
    Calls Try.prog 25 #[.slice A n c] w fun e w' => e = .returned (.int .u16 (Plain.mask zs 0)) ∧ w = w' := by
  have hlen := h.len
  go_enter Try.func25, Try.ntmps25
  go_wp2
  go_loop [2, 4, 7] (fun s _ i => ∃ k : Nat, k ≤ n ∧ i = .int .i64 k ∧ s = .int .u16 (Plain.mask (zs.take k) 0)) (fun _ _ i => n - (intOf i).toNat)
  case atStart => exact ⟨0, Nat.zero_le _, rfl, rfl⟩
  case round =>
    obtain ⟨k, hk, rfl, rfl⟩ := hrel
    by_cases hlt : k < n
    · obtain ⟨b, off, rfl, hb, hc⟩ := h.at_ hlt
      have hS := Lib.hid (Plain.mask_snoc (zs.take k) (zs.getD k 0) 0)
      have hT := Lib.hid (take_snoc zs k (by omega))
      have hM := Plain.mask_lt (zs.take k) 0 (by omega)
      generalize Plain.mask (zs.take k) 0 = M at *
      generalize zs.getD k 0 = z at *
      cases hm : Plain.may z
      · have hm' := Lib.hid hm
        clear hm
        go_wp2_with (go_at_call 23; refine (may_any _ _).mono ?_; rintro e w' ⟨rfl, rfl⟩; rw [hm'.out])
        go_round
        case rel => exact ⟨k + 1, by omega, by go_num, by rw [hT.out, hS.out, hm'.out]; rfl⟩
        case measure => simp [intOf]; omega
      · have hi := Plain.may_yes hm
        have h0 : (0 : Int) ≤ z := hi.1
        have he := Lib.hid (shl_eq z hm)
        have hP := Plain.two_pow_lt (k := z.toNat) (by omega)
        have hm' := Lib.hid hm
        clear hm
        go_wp2_with (go_at_call 23; refine (may_any _ _).mono ?_; rintro e w' ⟨rfl, rfl⟩; rw [hm'.out])
        go_round
        case rel => exact ⟨k + 1, by omega, by go_num, by rw [hT.out, hS.out, hm'.out, he.out, u16_or_nat _ _ hM hP]; rfl⟩
        case measure => simp [intOf]; omega
    · have e : k = n := by omega
      subst e
      go_wp2
      go_ret
      exact ⟨ret_int (by rw [List.take_of_length_le (by omega)]), rfl⟩

set_option maxHeartbeats 400000 in
theorem with_any (s : Nat) (A : Option Addr) (n c : Nat) (zs : List Int) (w : World) (B : Nat) (hs : s < 65536) (h : Ints w B A n zs) (hn : n ≤ 9223372036854775807) :
    Calls Try.prog 10 #[.int .u16 s, .slice A n c] w fun e w' => e = .returned (.int .u16 (Plain.with_ s zs)) ∧ w = w' := by
  go_enter Try.func10, Try.ntmps10
  go_wp2_with (go_at_call 25; refine (mask_any _ _ _ zs _ B h hn).mono ?_; rintro e w' ⟨rfl, rfl⟩)
  go_ret
  exact ⟨ret_int (by rw [u16_or_nat _ _ hs (Plain.mask_lt _ _ (by omega))]; rfl), rfl⟩

set_option maxHeartbeats 400000 in
theorem without_any (s : Nat) (A : Option Addr) (n c : Nat) (zs : List Int) (w : World) (B : Nat) (hs : s < 65536) (h : Ints w B A n zs) (hn : n ≤ 9223372036854775807) :
    Calls Try.prog 12 #[.int .u16 s, .slice A n c] w fun e w' => e = .returned (.int .u16 (Plain.without s zs)) ∧ w = w' := by
  go_enter Try.func12, Try.ntmps12
  go_wp2_with (go_at_call 25; refine (mask_any _ _ _ zs _ B h hn).mono ?_; rintro e w' ⟨rfl, rfl⟩)
  go_ret
  exact ⟨ret_int (by rw [u16_andNot_nat _ _ hs (Plain.mask_lt _ _ (by omega))]; rfl), rfl⟩

set_option maxHeartbeats 400000 in
theorem in_any (A : Option Addr) (n c : Nat) (zs : List Int) (i : Int) (w : World) (B : Nat) (h : Ints w B A n zs) (hn : n ≤ 9223372036854775807) :
    Calls Try.prog 26 #[.slice A n c, .int .i64 i] w fun e w' => e = .returned (.bool (Plain.isIn zs i)) ∧ w = w' := by
  have hlen := h.len
  go_enter Try.func26, Try.ntmps26
  go_wp2
  go_loop [5] (fun i' => ∃ k : Nat, k ≤ n ∧ i' = .int .i64 k ∧ Plain.isIn (zs.take k) i = false) (fun i => n - (intOf i).toNat)
  case atStart => exact ⟨0, Nat.zero_le _, rfl, rfl⟩
  case round =>
    obtain ⟨k, hk, rfl, hno⟩ := hrel
    have hNo := Lib.hid hno
    clear hno
    by_cases hlt : k < n
    · obtain ⟨b, off, rfl, hb, hc⟩ := h.at_ hlt
      have hT := Lib.hid (take_snoc zs k (by omega))
      have hIn : zs.getD k 0 = i → Plain.isIn zs i = true := by
        intro e; subst e; exact Plain.isIn_get zs k (by omega)
      have HIn := Lib.hid hIn
      clear hIn
      generalize zs.getD k 0 = z at *
      cases he : (z == i)
      · go_wp2
        go_round
        case rel => exact ⟨k + 1, by omega, by go_num, by rw [hT.out, Plain.isIn_snoc, hNo.out]; simp at he ⊢; exact fun e => he e.symm⟩
        case measure => simp [intOf]; omega
      · go_wp2
        go_ret
        exact ⟨ret_bool (HIn.out (by simpa using he)).symm, rfl⟩
    · have e : k = n := by omega
      subst e
      go_wp2
      go_ret
      exact ⟨ret_bool (by rw [← hNo.out, List.take_of_length_le (by omega)]), rfl⟩

end Go.Proofs.Ythnboggjlppopaa
