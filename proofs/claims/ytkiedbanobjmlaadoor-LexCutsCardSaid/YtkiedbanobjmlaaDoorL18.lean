/- The walks of the reference's octal, Text; of the law's digits. -/
import Derived.Test.YtkiedbanobjmlaaDoorL17
set_option linter.unusedSimpArgs false
set_option linter.unusedVariables false
namespace Go.Proofs.YtkiedbanobjmlaaDoor.Lx
open Go.RowKit
open Pl Fl
attribute [local go_sem] run_store_complexL

def digT (B m : Nat) : List UInt8 := if m = 0 then [] else digs B m
theorem digT_step {B : Nat} (hB : 2 ≤ B) (m : Nat) : digs B m = digT B (m / B) ++ [chD (m % B)] := by
  unfold digT
  by_cases h : m < B
  · rw [digs_small h, Nat.div_eq_of_lt h, if_pos rfl, Nat.mod_eq_of_lt h]; rfl
  · have : m / B ≠ 0 := by
      have := Nat.div_pos (show B ≤ m by omega) (by omega)
      omega
    rw [digs_big (by omega) hB, if_neg this]
/-- Where the digits stand: so many are gathered. -/
def DigR (B N m : Nat) (l : List UInt8) : Prop := (l = [] ∧ m = N) ∨ (l ≠ [] ∧ digs B N = digT B m ++ l)
theorem DigR.step {B N m : Nat} {l : List UInt8} (hB : 2 ≤ B) (h : DigR B N m l) (hm : 0 < m ∨ l = []) : DigR B N (m / B) (chD (m % B) :: l) := by
  refine .inr ⟨by simp, ?_⟩
  rcases h with ⟨rfl, rfl⟩ | ⟨hl, h⟩
  · exact digT_step hB m
  · have h0 : 0 < m := hm.resolve_right hl
    have e : digT B m = digT B (m / B) ++ [chD (m % B)] := by
      rw [digT, if_neg (by omega)]
      exact digT_step hB m
    rw [h, e]
    simp
theorem DigR.done {B N : Nat} {l : List UInt8} (h : DigR B N 0 l) (hl : l ≠ []) : digs B N = l := by
  rcases h with ⟨h, _⟩ | ⟨_, h⟩
  · exact absurd h hl
  · exact h
def emptyV : Value → Nat
  | .string s => if s.size = 0 then 1 else 0
  | _ => 0
theorem emptyV_no {s : ByteArray} (h : s.size ≠ 0) : emptyV (.string s) = 0 := if_neg h
theorem emptyV_yes {s : ByteArray} (h : s.size = 0) : emptyV (.string s) = 1 := if_pos h
theorem chD_small {d : Nat} (h : d < 10) : chD d = UInt8.ofNat (48 + d) := by unfold chD; rw [if_pos h]
theorem bt_cons (d : UInt8) (l : List UInt8) : (⟨#[d]⟩ : ByteArray) ++ bt l = bt (d :: l) := by apply bytes_ext; simp [bt]
theorem bt_list (l : List UInt8) : (bt l).toList = l := by rw [ByteArray.toList_eq]; simp [bt]
theorem bt_size (l : List UInt8) : (bt l).size = l.length := by
  show l.toArray.size = _
  simp
set_option maxRecDepth 100000 in
set_option maxHeartbeats 1600000 in
theorem octal_any (N : Nat) (hN : N ≤ 70000) (w : World) : Calls Tryd.prog 41 #[.int .i64 N] w fun e w' => e = .returned (.string (bt (digs 8 N))) ∧ Below w.heap.size w w' := by
  go_enter Tryd.func41, Tryd.ntmps41
  go_wp2
  go_loopw [0, 3] (fun n s wr => ∃ (m : Nat) (l : List UInt8) (sb : ByteArray), m ≤ N ∧ n = .int .i64 m ∧ s = .string sb ∧ sb.size + m ≤ N + 1 ∧ Hid (sb = bt l ∧ DigR 8 N m l) ∧ Hid (Below w.heap.size w wr)) (fun n s _ => (intOf n).toNat + emptyV s)
  case atStart => exact ⟨N, [], ⟨#[]⟩, Nat.le_refl _, rfl, rfl, by show 0 + N ≤ N + 1; omega, Lib.hid ⟨rfl, .inl ⟨rfl, rfl⟩⟩, Lib.hid (Below.refl _ _)⟩
  case round =>
    obtain ⟨m, l, sb, hm, rfl, rfl, hlen, hl, hb⟩ := hrel
    have hsl : sb.toList = l := by rw [hl.out.1, bt_list]
    have hsz : sb.size = l.length := by rw [hl.out.1, bt_size]
    by_cases hcont : 0 < m ∨ l = []
    · have HN := Lib.hid (hl.out.2.step (by omega) hcont)
      have hc := conv_one wr (48 + (m : Int) % 8) (by omega) (by omega)
      have hch : UInt8.ofNat (48 + (m : Int) % 8).toNat = chD (m % 8) := by
        rw [chD_small (by omega)]
        congr 1 <;> omega
      rw [hch] at hc
      have HS := Lib.hid (show (⟨#[chD (m % 8)]⟩ : ByteArray) ++ sb = bt (chD (m % 8) :: l) by rw [hl.out.1, bt_cons])
      have hz : ¬ 9223372036854775807 < 1 + sb.size := by omega
      clear hch
      rcases Nat.eq_zero_or_pos m with h0 | h0
      · have hle : l = [] := hcont.resolve_left (by omega)
        have hs2 : sb.toList.isEmpty = true := by rw [hsl, hle]; rfl
        have hs3 : sb.toList = [] := by rw [hsl, hle]
        subst h0
        have hl0 : l.length = 0 := by rw [hle]; rfl
        have hc0 := conv_one wr 48 (by omega) (by omega)
        rw [show UInt8.ofNat (48 : Int).toNat = chD 0 from rfl] at hc0
        clear hcont hsl hc
        go_wp2
        refine ⟨⟨0, chD 0 :: l, _, by omega, rfl, rfl, ?_, Lib.hid ⟨HS.out, HN.out⟩, Lib.hid (hb.out.alloc hb.out.size _)⟩, ?_⟩
        · rw [HS.out, bt_size]; simp; omega
        · have e1 : emptyV (.string ((⟨#[chD 0]⟩ : ByteArray) ++ sb)) = 0 := emptyV_no (by rw [HS.out, bt_size]; simp)
          have e2 : emptyV (.string sb) = 1 := emptyV_yes (by rw [hsz, hle]; rfl)
          rw [e1, e2]
          simp [intOf]
      · have h00 : (0 : Int) < (m : Int) := by omega
        clear hcont hsl
        go_wp2
        refine ⟨⟨m / 8, chD (m % 8) :: l, _, by omega, by simp, rfl, ?_, Lib.hid ⟨HS.out, HN.out⟩, Lib.hid (hb.out.alloc hb.out.size _)⟩, ?_⟩
        · rw [HS.out, bt_size]; simp; omega
        · have e1 : emptyV (.string ((⟨#[chD (m % 8)]⟩ : ByteArray) ++ sb)) = 0 := emptyV_no (by rw [HS.out, bt_size]; simp)
          rw [e1]
          have : (intOf (.int .i64 ((m : Int) / 8))).toNat < (intOf (.int .i64 (m : Nat))).toNat := by simp [intOf]; omega
          omega
    · have h0 : m = 0 := by omega
      have hne : ¬ l = [] := fun e => hcont (.inr e)
      have hs2 : sb.toList.isEmpty = false := by rw [hsl]; simpa using hne
      have hs3 : ¬ sb.toList = [] := by rw [hsl]; exact hne
      subst h0
      have HD := Lib.hid (show sb = bt (digs 8 N) by rw [hl.out.1, hl.out.2.done hne])
      clear hcont hsl hl
      go_wp2
      go_ret
      exact ⟨by rw [← HD.out]; rfl, hb.out⟩
end Go.Proofs.YtkiedbanobjmlaaDoor.Lx
