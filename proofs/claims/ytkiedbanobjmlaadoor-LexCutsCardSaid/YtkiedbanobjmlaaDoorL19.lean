/- The walks of the law's digits, of the reference's Text. -/
import Derived.Test.YtkiedbanobjmlaaDoorL18
set_option linter.unusedSimpArgs false
set_option linter.unusedVariables false
namespace Go.Proofs.YtkiedbanobjmlaaDoor.Lx
open Go.RowKit
open Pl Fl
attribute [local go_sem] run_store_complexL

def hexB : ByteArray := ⟨#[48, 49, 50, 51, 52, 53, 54, 55, 56, 57, 65, 66, 67, 68, 69, 70]⟩
theorem hexB_at : ∀ k, k < 16 → hexB.data[k]? = some (chD k) := by decide

set_option maxRecDepth 100000 in
set_option maxHeartbeats 1600000 in
theorem digits8 (N : Nat) (hN : N ≤ 70000) (w : World) : Calls Tryd.prog 21 #[.int .i64 N, .int .i64 8] w fun e w' => e = .returned (.string (bt (digs 8 N))) ∧ Below w.heap.size w w' := by
  go_enter Tryd.func21, Tryd.ntmps21
  go_wp2
  go_loopw [0, 5] (fun n s wr => ∃ (m : Nat) (l : List UInt8) (sb : ByteArray), m ≤ N ∧ n = .int .i64 m ∧ s = .string sb ∧ sb.size + m ≤ N + 1 ∧ Hid (sb = bt l ∧ DigR 8 N m l) ∧ Hid (Below w.heap.size w wr)) (fun n s _ => (intOf n).toNat + emptyV s)
  case atStart => exact ⟨N, [], ⟨#[]⟩, Nat.le_refl _, rfl, rfl, by show 0 + N ≤ N + 1; omega, Lib.hid ⟨rfl, .inl ⟨rfl, rfl⟩⟩, Lib.hid (Below.refl _ _)⟩
  case round =>
    obtain ⟨m, l, sb, hm, rfl, rfl, hlen, hl, hb⟩ := hrel
    have hsl : sb.toList = l := by rw [hl.out.1, bt_list]
    have hsz : sb.size = l.length := by rw [hl.out.1, bt_size]
    by_cases hcont : 0 < m ∨ l = []
    · have HN := Lib.hid (hl.out.2.step (by omega) hcont)
      obtain ⟨k, hk⟩ : ∃ k, k = m % 8 := ⟨_, rfl⟩
      have hkB : k < 8 := by rw [hk]; exact Nat.mod_lt _ (by omega)
      rw [← hk] at HN
      have hmk : (m : Int) % 8 = (k : Nat) := by omega
      have hmk2 : (m : Int).tmod 8 = (k : Nat) := by rw [hk]; rfl
      have hob : Hid (hexB.size = 16 ∧ ∀ k, k < 16 → hexB.data[k]? = some (chD k)) := Lib.hid ⟨rfl, hexB_at⟩
      have HS := Lib.hid (show (⟨#[chD k]⟩ : ByteArray) ++ sb = bt (chD k :: l) by rw [hl.out.1, bt_cons])
      have hz : ¬ 9223372036854775807 < 1 + sb.size := by omega
      have HK := Lib.hid hk
      have HC := Lib.hid hcont
      have hk0 : (0 : Int) ≤ (k : Int) := by omega
      have hk1 : (k : Int) < 16 := by omega
      unfold hexB at hob
      generalize hO : (⟨#[48, 49, 50, 51, 52, 53, 54, 55, 56, 57, 65, 66, 67, 68, 69, 70]⟩ : ByteArray) = ob at *
      have hsz16 := hob.out.1
      have hkl : k < ob.size := by omega
      have hat : ob[k] = chD k := by
        obtain ⟨h1, h2⟩ := Array.getElem?_eq_some_iff.1 (hob.out.2 k (by omega))
        exact h2
      have hc := conv_one wr ((chD k).toNat : Nat) (by omega) (by have := (chD k).toNat_lt; omega)
      rw [show UInt8.ofNat (((chD k).toNat : Nat) : Int).toNat = chD k by rw [Int.toNat_natCast]; exact UInt8.ofNat_toNat] at hc
      clear hk hO
      have hk2 : (k : Int) < (ob.size : Int) := by omega
      rcases Nat.eq_zero_or_pos m with h0 | h0
      · have hle : l = [] := HC.out.resolve_left (by omega)
        have hs2 : sb.toList.isEmpty = true := by rw [hsl, hle]; rfl
        have hs3 : sb.toList = [] := by rw [hsl, hle]
        have hl0 : l.length = 0 := by rw [hle]; rfl
        have hm0 : ¬ (0 : Int) < (m : Int) := by omega
        have hk0e : k = 0 := by rw [HK.out, h0]
        subst hk0e
        subst h0
        have HLE := Lib.hid hle
        clear hcont hsl hle hk0 hk1 hk2 hkB hmk hmk2
        go_wp2
        refine ⟨⟨0, chD 0 :: l, _, by omega, rfl, rfl, ?_, Lib.hid ⟨HS.out, HN.out⟩, Lib.hid (hb.out.alloc hb.out.size _)⟩, ?_⟩
        · rw [HS.out, bt_size]; simp <;> omega
        · have e1 : emptyV (.string ((⟨#[chD 0]⟩ : ByteArray) ++ sb)) = 0 := emptyV_no (by rw [HS.out, bt_size]; simp)
          have e2 : emptyV (.string sb) = 1 := emptyV_yes (by rw [hsz, hl0])
          rw [e1, e2]
          simp [intOf]
      · have h00 : (0 : Int) < (m : Int) := by omega
        clear hcont hsl
        go_wp2
        refine ⟨⟨m / 8, chD k :: l, _, by omega, by simp, rfl, ?_, Lib.hid ⟨HS.out, HN.out⟩, Lib.hid (hb.out.alloc hb.out.size _)⟩, ?_⟩
        · rw [HS.out, bt_size]; simp <;> omega
        · have e1 : emptyV (.string ((⟨#[chD k]⟩ : ByteArray) ++ sb)) = 0 := emptyV_no (by rw [HS.out, bt_size]; simp)
          rw [e1]
          have : (intOf (.int .i64 ((m : Int) / 8))).toNat < (intOf (.int .i64 (m : Nat))).toNat := by simp [intOf]; omega
          omega
    · have h0 : m = 0 := by omega
      have hne : ¬ l = [] := fun e => hcont (.inr e)
      have hs2 : sb.toList.isEmpty = false := by rw [hsl]; simpa using hne
      have hs3 : ¬ sb.toList = [] := by rw [hsl]; exact hne
      subst h0
      have HD := Lib.hid (show sb = bt (digs 8 N) by rw [hl.out.1, hl.out.2.done hne])
      clear hcont hsl hl
      go_wp2
      go_ret
      exact ⟨by rw [← HD.out]; rfl, hb.out⟩

set_option maxRecDepth 100000 in
set_option maxHeartbeats 1600000 in
theorem digits10 (N : Nat) (hN : N ≤ 70000) (w : World) : Calls Tryd.prog 21 #[.int .i64 N, .int .i64 10] w fun e w' => e = .returned (.string (bt (digs 10 N))) ∧ Below w.heap.size w w' := by
  go_enter Tryd.func21, Tryd.ntmps21
  go_wp2
  go_loopw [0, 5] (fun n s wr => ∃ (m : Nat) (l : List UInt8) (sb : ByteArray), m ≤ N ∧ n = .int .i64 m ∧ s = .string sb ∧ sb.size + m ≤ N + 1 ∧ Hid (sb = bt l ∧ DigR 10 N m l) ∧ Hid (Below w.heap.size w wr)) (fun n s _ => (intOf n).toNat + emptyV s)
  case atStart => exact ⟨N, [], ⟨#[]⟩, Nat.le_refl _, rfl, rfl, by show 0 + N ≤ N + 1; omega, Lib.hid ⟨rfl, .inl ⟨rfl, rfl⟩⟩, Lib.hid (Below.refl _ _)⟩
  case round =>
    obtain ⟨m, l, sb, hm, rfl, rfl, hlen, hl, hb⟩ := hrel
    have hsl : sb.toList = l := by rw [hl.out.1, bt_list]
    have hsz : sb.size = l.length := by rw [hl.out.1, bt_size]
    by_cases hcont : 0 < m ∨ l = []
    · have HN := Lib.hid (hl.out.2.step (by omega) hcont)
      obtain ⟨k, hk⟩ : ∃ k, k = m % 10 := ⟨_, rfl⟩
      have hkB : k < 10 := by rw [hk]; exact Nat.mod_lt _ (by omega)
      rw [← hk] at HN
      have hmk : (m : Int) % 10 = (k : Nat) := by omega
      have hmk2 : (m : Int).tmod 10 = (k : Nat) := by rw [hk]; rfl
      have hob : Hid (hexB.size = 16 ∧ ∀ k, k < 16 → hexB.data[k]? = some (chD k)) := Lib.hid ⟨rfl, hexB_at⟩
      have HS := Lib.hid (show (⟨#[chD k]⟩ : ByteArray) ++ sb = bt (chD k :: l) by rw [hl.out.1, bt_cons])
      have hz : ¬ 9223372036854775807 < 1 + sb.size := by omega
      have HK := Lib.hid hk
      have HC := Lib.hid hcont
      have hk0 : (0 : Int) ≤ (k : Int) := by omega
      have hk1 : (k : Int) < 16 := by omega
      unfold hexB at hob
      generalize hO : (⟨#[48, 49, 50, 51, 52, 53, 54, 55, 56, 57, 65, 66, 67, 68, 69, 70]⟩ : ByteArray) = ob at *
      have hsz16 := hob.out.1
      have hkl : k < ob.size := by omega
      have hat : ob[k] = chD k := by
        obtain ⟨h1, h2⟩ := Array.getElem?_eq_some_iff.1 (hob.out.2 k (by omega))
        exact h2
      have hc := conv_one wr ((chD k).toNat : Nat) (by omega) (by have := (chD k).toNat_lt; omega)
      rw [show UInt8.ofNat (((chD k).toNat : Nat) : Int).toNat = chD k by rw [Int.toNat_natCast]; exact UInt8.ofNat_toNat] at hc
      clear hk hO
      have hk2 : (k : Int) < (ob.size : Int) := by omega
      rcases Nat.eq_zero_or_pos m with h0 | h0
      · have hle : l = [] := HC.out.resolve_left (by omega)
        have hs2 : sb.toList.isEmpty = true := by rw [hsl, hle]; rfl
        have hs3 : sb.toList = [] := by rw [hsl, hle]
        have hl0 : l.length = 0 := by rw [hle]; rfl
        have hm0 : ¬ (0 : Int) < (m : Int) := by omega
        have hk0e : k = 0 := by rw [HK.out, h0]
        subst hk0e
        subst h0
        have HLE := Lib.hid hle
        clear hcont hsl hle hk0 hk1 hk2 hkB hmk hmk2
        go_wp2
        refine ⟨⟨0, chD 0 :: l, _, by omega, rfl, rfl, ?_, Lib.hid ⟨HS.out, HN.out⟩, Lib.hid (hb.out.alloc hb.out.size _)⟩, ?_⟩
        · rw [HS.out, bt_size]; simp <;> omega
        · have e1 : emptyV (.string ((⟨#[chD 0]⟩ : ByteArray) ++ sb)) = 0 := emptyV_no (by rw [HS.out, bt_size]; simp)
          have e2 : emptyV (.string sb) = 1 := emptyV_yes (by rw [hsz, hl0])
          rw [e1, e2]
          simp [intOf]
      · have h00 : (0 : Int) < (m : Int) := by omega
        clear hcont hsl
        go_wp2
        refine ⟨⟨m / 10, chD k :: l, _, by omega, by simp, rfl, ?_, Lib.hid ⟨HS.out, HN.out⟩, Lib.hid (hb.out.alloc hb.out.size _)⟩, ?_⟩
        · rw [HS.out, bt_size]; simp <;> omega
        · have e1 : emptyV (.string ((⟨#[chD k]⟩ : ByteArray) ++ sb)) = 0 := emptyV_no (by rw [HS.out, bt_size]; simp)
          rw [e1]
          have : (intOf (.int .i64 ((m : Int) / 10))).toNat < (intOf (.int .i64 (m : Nat))).toNat := by simp [intOf]; omega
          omega
    · have h0 : m = 0 := by omega
      have hne : ¬ l = [] := fun e => hcont (.inr e)
      have hs2 : sb.toList.isEmpty = false := by rw [hsl]; simpa using hne
      have hs3 : ¬ sb.toList = [] := by rw [hsl]; exact hne
      subst h0
      have HD := Lib.hid (show sb = bt (digs 10 N) by rw [hl.out.1, hl.out.2.done hne])
      clear hcont hsl hl
      go_wp2
      go_ret
      exact ⟨by rw [← HD.out]; rfl, hb.out⟩

set_option maxRecDepth 100000 in
set_option maxHeartbeats 1600000 in
theorem digits16 (N : Nat) (hN : N ≤ 70000) (w : World) : Calls Tryd.prog 21 #[.int .i64 N, .int .i64 16] w fun e w' => e = .returned (.string (bt (digs 16 N))) ∧ Below w.heap.size w w' := by
  go_enter Tryd.func21, Tryd.ntmps21
  go_wp2
  go_loopw [0, 5] (fun n s wr => ∃ (m : Nat) (l : List UInt8) (sb : ByteArray), m ≤ N ∧ n = .int .i64 m ∧ s = .string sb ∧ sb.size + m ≤ N + 1 ∧ Hid (sb = bt l ∧ DigR 16 N m l) ∧ Hid (Below w.heap.size w wr)) (fun n s _ => (intOf n).toNat + emptyV s)
  case atStart => exact ⟨N, [], ⟨#[]⟩, Nat.le_refl _, rfl, rfl, by show 0 + N ≤ N + 1; omega, Lib.hid ⟨rfl, .inl ⟨rfl, rfl⟩⟩, Lib.hid (Below.refl _ _)⟩
  case round =>
    obtain ⟨m, l, sb, hm, rfl, rfl, hlen, hl, hb⟩ := hrel
    have hsl : sb.toList = l := by rw [hl.out.1, bt_list]
    have hsz : sb.size = l.length := by rw [hl.out.1, bt_size]
    by_cases hcont : 0 < m ∨ l = []
    · have HN := Lib.hid (hl.out.2.step (by omega) hcont)
      obtain ⟨k, hk⟩ : ∃ k, k = m % 16 := ⟨_, rfl⟩
      have hkB : k < 16 := by rw [hk]; exact Nat.mod_lt _ (by omega)
      rw [← hk] at HN
      have hmk : (m : Int) % 16 = (k : Nat) := by omega
      have hmk2 : (m : Int).tmod 16 = (k : Nat) := by rw [hk]; rfl
      have hob : Hid (hexB.size = 16 ∧ ∀ k, k < 16 → hexB.data[k]? = some (chD k)) := Lib.hid ⟨rfl, hexB_at⟩
      have HS := Lib.hid (show (⟨#[chD k]⟩ : ByteArray) ++ sb = bt (chD k :: l) by rw [hl.out.1, bt_cons])
      have hz : ¬ 9223372036854775807 < 1 + sb.size := by omega
      have HK := Lib.hid hk
      have HC := Lib.hid hcont
      have hk0 : (0 : Int) ≤ (k : Int) := by omega
      have hk1 : (k : Int) < 16 := by omega
      unfold hexB at hob
      generalize hO : (⟨#[48, 49, 50, 51, 52, 53, 54, 55, 56, 57, 65, 66, 67, 68, 69, 70]⟩ : ByteArray) = ob at *
      have hsz16 := hob.out.1
      have hkl : k < ob.size := by omega
      have hat : ob[k] = chD k := by
        obtain ⟨h1, h2⟩ := Array.getElem?_eq_some_iff.1 (hob.out.2 k (by omega))
        exact h2
      have hc := conv_one wr ((chD k).toNat : Nat) (by omega) (by have := (chD k).toNat_lt; omega)
      rw [show UInt8.ofNat (((chD k).toNat : Nat) : Int).toNat = chD k by rw [Int.toNat_natCast]; exact UInt8.ofNat_toNat] at hc
      clear hk hO
      have hk2 : (k : Int) < (ob.size : Int) := by omega
      rcases Nat.eq_zero_or_pos m with h0 | h0
      · have hle : l = [] := HC.out.resolve_left (by omega)
        have hs2 : sb.toList.isEmpty = true := by rw [hsl, hle]; rfl
        have hs3 : sb.toList = [] := by rw [hsl, hle]
        have hl0 : l.length = 0 := by rw [hle]; rfl
        have hm0 : ¬ (0 : Int) < (m : Int) := by omega
        have hk0e : k = 0 := by rw [HK.out, h0]
        subst hk0e
        subst h0
        have HLE := Lib.hid hle
        clear hcont hsl hle hk0 hk1 hk2 hkB hmk hmk2
        go_wp2
        refine ⟨⟨0, chD 0 :: l, _, by omega, rfl, rfl, ?_, Lib.hid ⟨HS.out, HN.out⟩, Lib.hid (hb.out.alloc hb.out.size _)⟩, ?_⟩
        · rw [HS.out, bt_size]; simp <;> omega
        · have e1 : emptyV (.string ((⟨#[chD 0]⟩ : ByteArray) ++ sb)) = 0 := emptyV_no (by rw [HS.out, bt_size]; simp)
          have e2 : emptyV (.string sb) = 1 := emptyV_yes (by rw [hsz, hl0])
          rw [e1, e2]
          simp [intOf]
      · have h00 : (0 : Int) < (m : Int) := by omega
        clear hcont hsl
        go_wp2
        refine ⟨⟨m / 16, chD k :: l, _, by omega, by simp, rfl, ?_, Lib.hid ⟨HS.out, HN.out⟩, Lib.hid (hb.out.alloc hb.out.size _)⟩, ?_⟩
        · rw [HS.out, bt_size]; simp <;> omega
        · have e1 : emptyV (.string ((⟨#[chD k]⟩ : ByteArray) ++ sb)) = 0 := emptyV_no (by rw [HS.out, bt_size]; simp)
          rw [e1]
          have : (intOf (.int .i64 ((m : Int) / 16))).toNat < (intOf (.int .i64 (m : Nat))).toNat := by simp [intOf]; omega
          omega
    · have h0 : m = 0 := by omega
      have hne : ¬ l = [] := fun e => hcont (.inr e)
      have hs2 : sb.toList.isEmpty = false := by rw [hsl]; simpa using hne
      have hs3 : ¬ sb.toList = [] := by rw [hsl]; exact hne
      subst h0
      have HD := Lib.hid (show sb = bt (digs 16 N) by rw [hl.out.1, hl.out.2.done hne])
      clear hcont hsl hl
      go_wp2
      go_ret
      exact ⟨by rw [← HD.out]; rfl, hb.out⟩

/-- What is asked of a token that is written. -/
structure TkR (t : Tk) : Prop where
  txt : t.text.size ≤ 1073741824
  num : t.kind = 2 ∨ t.kind = 3 → 0 ≤ t.n ∧ t.n ≤ 65535
  kind : t.kind < 256
def RtOK (t : Tk) : Prop := ∀ (p q : Nat × Nat) (w : World), Calls Tryd.prog 20 #[t.val p q] w fun e w' => e = .returned (.string (bt (txt t))) ∧ Below w.heap.size w w'
set_option maxRecDepth 100000 in
set_option maxHeartbeats 3200000 in
theorem rText_ok {t : Tk} (h : TkR t) : RtOK t := by
  intro p q w
  obtain ⟨tk, tt, tn⟩ := t
  have hb := fun (o : Obj) => (Below.refl w.heap.size w).alloc (Nat.le_refl _) o
  have HB := Lib.hid hb
  have z1 : ¬ 9223372036854775807 < 1 + tt.size := by have := h.txt; dsimp only at this; omega
  have z2 : ¬ 9223372036854775807 < 1 + tt.size + 1 := by have := h.txt; dsimp only at this; omega
  have HT := Lib.hid h
  simp only [Tk.val, Tk.vals, C]
  clear hb h
  by_cases h2 : tk = 2
  · subst h2
    obtain ⟨n, rfl⟩ : ∃ n : Nat, tn = n := ⟨tn.toNat, by have := HT.out.num (.inl rfl); dsimp only at this; omega⟩
    have hn : n ≤ 65535 := by have := HT.out.num (.inl rfl); dsimp only at this; omega
    have HR := Lib.hid (show txt ⟨2, tt, n⟩ = Lib.decDigits n from Lib.itoa_nonneg n)
    go_enter Tryd.func20, Tryd.ntmps20
    by_cases h0 : n = 0
    · subst h0
      have HD := Lib.hid (show Lib.decDigits 0 = [48] by rw [dec_small 0 (by omega)]; rfl)
      go_wp2
      go_ret
      exact ⟨by rw [HR.out, HD.out]; rfl, HB.out _⟩
    · have n0 : ((n : Int) == 0) = false := by simp only [beq_eq_false_iff_ne, ne_eq]; omega
      have HD := Lib.hid (fun (W : World) => rDigits_any n W (by omega))
      have HG := Lib.hid (show digN n = Lib.decDigits n from if_neg h0)
      clear h0
      go_wp2_with fail
      refine (HD.out _).mono ?_
      rintro e w1 ⟨rfl, hb1⟩
      have HB1 := Lib.hid ((HB.out _).trans (hb1.mono (by simp)))
      clear hb1
      go_wp2
      go_ret
      exact ⟨by rw [HR.out, ← HG.out]; rfl, HB1.out⟩
  have k2 : ((tk : Int) == 2) = false := by simp only [beq_eq_false_iff_ne, ne_eq]; omega
  by_cases h3 : tk = 3
  · have k3 : ((tk : Int) == 3) = true := by simp [h3]
    obtain ⟨n, rfl⟩ : ∃ n : Nat, tn = n := ⟨tn.toNat, by have := HT.out.num (.inr h3); dsimp only at this; omega⟩
    have hn : n ≤ 65535 := by have := HT.out.num (.inr h3); dsimp only at this; omega
    have HR := Lib.hid (show txt ⟨tk, tt, n⟩ = digs 8 n ++ [67] by
      unfold txt
      rw [if_neg h2, if_pos h3]
      show octN (n : Int).toNat ++ _ = _
      rw [Int.toNat_natCast, oct_digs])
    have HO := Lib.hid (fun (W : World) => octal_any n (by omega) W)
    have hsz : (bt (digs 8 n)).size ≤ 6 := by
      rw [bt_size]
      exact digs_len (B := 8) (by omega) 5 n (by omega)
    have z3 : ¬ 9223372036854775807 < (bt (digs 8 n)).size + 1 := by omega
    have HC := Lib.hid (show bt (digs 8 n) ++ ⟨#[67]⟩ = bt (digs 8 n ++ [67]) by apply bytes_ext; simp [bt])
    clear h2 h3 hsz
    go_enter Tryd.func20, Tryd.ntmps20
    go_wp2_with fail
    refine (HO.out _).mono ?_
    rintro e w1 ⟨rfl, hb1⟩
    have HB1 := Lib.hid ((HB.out _).trans (hb1.mono (by simp)))
    clear hb1
    go_wp2
    go_ret
    exact ⟨by rw [HR.out, ← HC.out]; rfl, HB1.out⟩
  have k3 : ((tk : Int) == 3) = false := by simp only [beq_eq_false_iff_ne, ne_eq]; omega
  by_cases h4 : tk = 4
  · have k4 : ((tk : Int) == 4) = true := by simp [h4]
    have HR := Lib.hid (show txt ⟨tk, tt, tn⟩ = if tt.data.toList.contains 34 then 39 :: (tt.data.toList ++ [39]) else 34 :: (tt.data.toList ++ [34]) by unfold txt; rw [if_neg h2, if_neg h3, if_pos h4])
    clear h2 h3 h4
    go_enter Tryd.func20, Tryd.ntmps20
    go_wp2
    go_loop [3] (fun i => ∃ k : Nat, k ≤ tt.size ∧ i = .int .i64 k ∧ Hid (34 ∉ tt.data.toList.take k)) (fun i => tt.size - (intOf i).toNat)
    case atStart => exact ⟨0, Nat.zero_le _, rfl, Lib.hid (by simp)⟩
    case round =>
      obtain ⟨k, hk, rfl, HN⟩ := hrel
      have x0 : (0 : Int) ≤ (k : Int) := by omega
      by_cases hlt : k < tt.size
      · have x1 : (k : Int) < (tt.size : Int) := by omega
        have HD := Lib.hid (drop_cons tt k hlt)
        by_cases h34 : tt[k] = 34
        · have t1 : ((tt[k].toNat : Int) == 34) = true := by rw [h34]; rfl
          have hc : tt.data.toList.contains 34 = true := by
            rw [← List.take_append_drop k tt.data.toList, HD.out, h34]
            simp
          have HR2 := Lib.hid (show txt ⟨tk, tt, tn⟩ = 39 :: (tt.data.toList ++ [39]) by rw [HR.out, if_pos hc])
          clear HR hc HD HN h34
          go_wp2
          go_ret
          refine ⟨by rw [HR2.out, ← quoted]; rfl, HB.out _⟩
        · have t1 : ((tt[k].toNat : Int) == 34) = false := ne_u8 34 (by omega) h34
          have HN2 := Lib.hid (show 34 ∉ tt.data.toList.take (k + 1) by
            rw [List.take_add_one]
            have hg : tt.data.toList[k]? = some tt[k] := by have := congrArg List.head? HD.out; rw [List.head?_drop] at this; rw [this]; rfl
            rw [hg]
            intro hm
            rcases List.mem_append.1 hm with hm | hm
            · exact HN.out hm
            · have := List.mem_singleton.1 hm; exact h34 this.symm)
          clear HN HD h34
          go_wp2
          go_round
          case rel => exact ⟨k + 1, by omega, by go_num, HN2⟩
          case measure => simp [intOf]; omega
      · have hks : k = tt.size := by omega
        have hc : ¬ tt.data.toList.contains 34 = true := by
          have h1 := HN.out
          rw [List.take_of_length_le (by simp; omega)] at h1
          simpa using h1
        have HR2 := Lib.hid (show txt ⟨tk, tt, tn⟩ = 34 :: (tt.data.toList ++ [34]) by rw [HR.out, if_neg hc])
        clear HR hc HN
        go_wp2
        go_ret
        refine ⟨by rw [HR2.out, ← quoted]; rfl, HB.out _⟩
  · have k4 : ((tk : Int) == 4) = false := by simp only [beq_eq_false_iff_ne, ne_eq]; omega
    have HR := Lib.hid (show txt ⟨tk, tt, tn⟩ = tt.data.toList by unfold txt; rw [if_neg h2, if_neg h3, if_neg h4])
    clear h2 h3 h4
    go_enter Tryd.func20, Tryd.ntmps20
    go_wp2
    go_ret
    refine ⟨by rw [HR.out, bt_data]; rfl, HB.out _⟩
end Go.Proofs.YtkiedbanobjmlaaDoor.Lx
