/- The walk of the program's token. -/
import Derived.Test.YtkiedbanobjmlaaDoorL7
set_option linter.unusedSimpArgs false
set_option linter.unusedVariables false
namespace Go.Proofs.YtkiedbanobjmlaaDoor.Lx
open Go.RowKit
open Pl Fl
attribute [local go_sem] run_store_complexL

theorem tokEnd.form {l : List UInt8} {r : Except Nat (Tk × Nat)} {e : Ending} (h : tokEnd l r e) : ∃ (a : Nat) (b : ByteArray) (c n k : Int), e = .returned (.tuple #[.agg #[.int .u8 a, .complex .f64 0 0, .complex .f64 0 0, .string b, .int .i64 c], .int .i64 n, .int .i64 k]) := by
  cases r with
  | ok x =>
    obtain ⟨⟨a, b, c⟩, n⟩ := x
    have h : e = _ := h
    rw [tok_vals0] at h
    exact ⟨a, b, c, n, 0, h⟩
  | error k =>
    obtain ⟨⟨a, b, c⟩, n, _, h⟩ := h
    rw [tok_vals0] at h
    exact ⟨a, b, c, n, k, h⟩
set_option maxRecDepth 100000 in
set_option maxHeartbeats 6400000 in
theorem token_any (s : ByteArray) (h0 : 0 < s.size) (hs : s.size ≤ 281474976710656) {w : World} (E : EnvS w) :
    Calls Tryd.prog 46 #[.string s] w fun e w' => tokEnd s.data.toList (oneN s.data.toList) e ∧ Below w.heap.size w w' := by
  have i0 : (0 : Int) < (s.size : Int) := by omega
  have RL := Lib.hid (fun c w => letter_any c w)
  have RD := Lib.hid (fun c w => digit_any c w)
  have q34 : s[0] = 34 → ((s[0].toNat : Int) == 34) = true := fun h => by rw [h]; rfl
  have q34' : s[0] ≠ 34 → ((s[0].toNat : Int) == 34) = false := fun h => ne_u8 34 (by omega) h
  have q39 : s[0] = 39 → ((s[0].toNat : Int) == 39) = true := fun h => by rw [h]; rfl
  have q39' : s[0] ≠ 39 → ((s[0].toNat : Int) == 39) = false := fun h => ne_u8 39 (by omega) h
  have HN := Lib.hid (fun (hc : isL s[0] = true) (w' : World) (E' : EnvS w') => name_any s h0 (by omega) hc E')
  have HM := Lib.hid (fun (hc : isD s[0] = true) (w' : World) (E' : EnvS w') => number_anyP s h0 hs hc E')
  have HT := Lib.hid (fun hl hd hq (w' : World) => text_any s h0 (by omega) hl hd hq w')
  have HS := Lib.hid (fun hl hd hq (w' : World) => symbol_anyP s h0 (by omega) hl hd hq w')
  have hal := (Below.refl w.heap.size w).alloc (Nat.le_refl _) (.cells #[.int .u8 0, .complex .f64 0 0, .complex .f64 0 0, .string ⟨#[]⟩, .int .i64 0] 35)
  have HEn := Lib.hid (E.below (Nat.le_refl _) hal)
  have HAL := Lib.hid hal
  clear E hal
  go_enter Tryd.func46, Tryd.ntmps46
  go_wp2_with fail
  ((with_reducible refine (RL.out _ _).mono ?_); rintro e w1 ⟨rfl, rfl⟩)
  cases hl : isL s[0]
  case' true =>
    go_wp2_with fail
    (refine (HN.out hl _ HEn.out).mono ?_)
    rintro e w3 ⟨ht, hb⟩
    obtain ⟨ka, kb, kc, kn, kk, rfl⟩ := ht.form
    have HTK := Lib.hid ht
    have hz := hb.size
    rw [World.size_alloc] at hz
    have hlt1 : w.heap.size < w3.heap.size := by omega
    have hB0 := (Blk.new w 35 #[.int .u8 0, .complex .f64 0 0, .complex .f64 0 0, .string ⟨#[]⟩, .int .i64 0]).below hb (by simp)
    have hBl : Hid (Below w.heap.size w w3) := Lib.hid (HAL.out.trans (hb.mono (by simp)))
    obtain ⟨m0, m1, m2, m3, m4, f0, f1, f2, f3, f4⟩ := hB0.tok
    have HB0 := Lib.hid hB0
    clear hB0 hb hz ht
    go_wp2
    (try simp only [Exit.inBlock, Exit.then])
    refine bodyPost_ret (tok_ret3 rfl _ _ w.heap.size _ _ _ _ _ rfl (tok_stored HB0.out _ _ _ _ _)) rfl ?_
    exact ⟨HTK.out, below_stored hBl.out (Nat.le_refl _) _ _ _ _ _⟩
  go_wp2_with fail
  ((with_reducible refine (RD.out _ _).mono ?_); rintro e w1 ⟨rfl, rfl⟩)
  cases hd : isD s[0]
  case' true =>
    go_wp2_with fail
    (refine (HM.out hd _ HEn.out).mono ?_)
    rintro e w3 ⟨ht, hb⟩
    obtain ⟨ka, kb, kc, kn, kk, rfl⟩ := ht.form
    have HTK := Lib.hid ht
    have hz := hb.size
    rw [World.size_alloc] at hz
    have hlt1 : w.heap.size < w3.heap.size := by omega
    have hB0 := (Blk.new w 35 #[.int .u8 0, .complex .f64 0 0, .complex .f64 0 0, .string ⟨#[]⟩, .int .i64 0]).below hb (by simp)
    have hBl : Hid (Below w.heap.size w w3) := Lib.hid (HAL.out.trans (hb.mono (by simp)))
    obtain ⟨m0, m1, m2, m3, m4, f0, f1, f2, f3, f4⟩ := hB0.tok
    have HB0 := Lib.hid hB0
    clear hB0 hb hz ht
    go_wp2
    (try simp only [Exit.inBlock, Exit.then])
    refine bodyPost_ret (tok_ret3 rfl _ _ w.heap.size _ _ _ _ _ rfl (tok_stored HB0.out _ _ _ _ _)) rfl ?_
    exact ⟨HTK.out, below_stored hBl.out (Nat.le_refl _) _ _ _ _ _⟩
  by_cases h34 : s[0] = 34
  case' pos =>
    have t1 := q34 h34
    have HQ := Lib.hid (HT.out hl hd (.inl h34))
    clear q34 q34' q39 q39' h34
    go_wp2_with fail
    (refine (HQ.out _).mono ?_)
    rintro e w3 ⟨ht, hb⟩
    obtain ⟨ka, kb, kc, kn, kk, rfl⟩ := ht.form
    have HTK := Lib.hid ht
    have hz := hb.size
    rw [World.size_alloc] at hz
    have hlt1 : w.heap.size < w3.heap.size := by omega
    have hB0 := (Blk.new w 35 #[.int .u8 0, .complex .f64 0 0, .complex .f64 0 0, .string ⟨#[]⟩, .int .i64 0]).below hb (by simp)
    have hBl : Hid (Below w.heap.size w w3) := Lib.hid (HAL.out.trans (hb.mono (by simp)))
    obtain ⟨m0, m1, m2, m3, m4, f0, f1, f2, f3, f4⟩ := hB0.tok
    have HB0 := Lib.hid hB0
    clear hB0 hb hz ht
    go_wp2
    (try simp only [Exit.inBlock, Exit.then])
    refine bodyPost_ret (tok_ret3 rfl _ _ w.heap.size _ _ _ _ _ rfl (tok_stored HB0.out _ _ _ _ _)) rfl ?_
    exact ⟨HTK.out, below_stored hBl.out (Nat.le_refl _) _ _ _ _ _⟩
  have t1 := q34' h34
  by_cases h39 : s[0] = 39
  case' pos =>
    have t2 := q39 h39
    have HQ := Lib.hid (HT.out hl hd (.inr h39))
    clear q34 q34' q39 q39' h39 h34
    go_wp2_with fail
    (refine (HQ.out _).mono ?_)
    rintro e w3 ⟨ht, hb⟩
    obtain ⟨ka, kb, kc, kn, kk, rfl⟩ := ht.form
    have HTK := Lib.hid ht
    have hz := hb.size
    rw [World.size_alloc] at hz
    have hlt1 : w.heap.size < w3.heap.size := by omega
    have hB0 := (Blk.new w 35 #[.int .u8 0, .complex .f64 0 0, .complex .f64 0 0, .string ⟨#[]⟩, .int .i64 0]).below hb (by simp)
    have hBl : Hid (Below w.heap.size w w3) := Lib.hid (HAL.out.trans (hb.mono (by simp)))
    obtain ⟨m0, m1, m2, m3, m4, f0, f1, f2, f3, f4⟩ := hB0.tok
    have HB0 := Lib.hid hB0
    clear hB0 hb hz ht
    go_wp2
    (try simp only [Exit.inBlock, Exit.then])
    refine bodyPost_ret (tok_ret3 rfl _ _ w.heap.size _ _ _ _ _ rfl (tok_stored HB0.out _ _ _ _ _)) rfl ?_
    exact ⟨HTK.out, below_stored hBl.out (Nat.le_refl _) _ _ _ _ _⟩
  have t2 := q39' h39
  have HQ := Lib.hid (HS.out hl hd (fun h => h.elim h34 h39))
  clear q34 q34' q39 q39' h39 h34
  go_wp2_with fail
  (refine (HQ.out _).mono ?_)
  rintro e w3 ⟨ht, hb⟩
  obtain ⟨ka, kb, kc, kn, kk, rfl⟩ := ht.form
  have HTK := Lib.hid ht
  have hz := hb.size
  rw [World.size_alloc] at hz
  have hlt1 : w.heap.size < w3.heap.size := by omega
  have hB0 := (Blk.new w 35 #[.int .u8 0, .complex .f64 0 0, .complex .f64 0 0, .string ⟨#[]⟩, .int .i64 0]).below hb (by simp)
  have hBl : Hid (Below w.heap.size w w3) := Lib.hid (HAL.out.trans (hb.mono (by simp)))
  obtain ⟨m0, m1, m2, m3, m4, f0, f1, f2, f3, f4⟩ := hB0.tok
  have HB0 := Lib.hid hB0
  clear hB0 hb hz ht
  go_wp2
  (try simp only [Exit.inBlock, Exit.then])
  refine bodyPost_ret (tok_ret3 rfl _ _ w.heap.size _ _ _ _ _ rfl (tok_stored HB0.out _ _ _ _ _)) rfl ?_
  exact ⟨HTK.out, below_stored hBl.out (Nat.le_refl _) _ _ _ _ _⟩
end Go.Proofs.YtkiedbanobjmlaaDoor.Lx
