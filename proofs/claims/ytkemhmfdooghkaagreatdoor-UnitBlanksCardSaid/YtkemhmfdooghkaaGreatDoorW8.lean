/- A part of the proof: L8, R9, L9, R10, Base. -/
import Derived.Test.YtkemhmfdooghkaaGreatDoorW1
import Derived.Test.YtkemhmfdooghkaaGreatDoorW7
import Derived.Test.YtkemhmfdooghkaaGreatDoorW3
import Derived.Deep.RegionLaw
import Derived.Deep.AppendLies
import Derived.Deep.DrawnRows
import Derived.WalkKit
import Derived.WalkSpells
import Derived.WalkLawsBesides
import Derived.Lib.Hide
import Derived.Laws.OwnMore
import Derived.Deep.Draws
set_option linter.unusedSimpArgs false
set_option linter.unusedVariables false
set_option maxRecDepth 100000
set_option maxHeartbeats 6400000
namespace Go.Proofs.YtkemhmfdooghkaaGreatDoor.Lx
open Go.RowKit
open Pl Fl
attribute [local go_sem] run_store_complexL
theorem tokEnd.form {l : List UInt8} {r : Except Nat (Tk × Nat)} {e : Ending} (h : tokEnd l r e) : ∃ (a : Nat) (b : ByteArray) (c n k : Int), e = .returned (.tuple #[.agg #[.int .u8 a, .complex .f64 0 0, .complex .f64 0 0, .string b, .int .i64 c], .int .i64 n, .int .i64 k]) := by
 cases r with
 | ok x =>
   obtain ⟨⟨a, b, c⟩, n⟩ := x
   have h : e = _ := h
   rw [tok_vals0] at h
   exact ⟨a, b, c, n, 0, h⟩
 | error k =>
   obtain ⟨⟨a, b, c⟩, n, _, h⟩ := h
   rw [tok_vals0] at h
   exact ⟨a, b, c, n, k, h⟩
theorem token_any (s : ByteArray) (h0 : 0 < s.size) (hs : s.size ≤ 281474976710656) {w : World} (E : EnvS w) :
 Calls Tryz.prog 56 #[.string s] w fun e w' => tokEnd s.data.toList (oneN s.data.toList) e ∧ Below w.heap.size w w' := by
 have i0 : (0 : Int) < (s.size : Int) := by omega
 have RL := qh (fun c w => letter_any c w)
 have RD := qh (fun c w => digit_any c w)
 have q34 : s[0] = 34 → ((s[0].toNat : Int) == 34) = true := fun h => by rw [h]; rfl
 have q34' : s[0] ≠ 34 → ((s[0].toNat : Int) == 34) = false := fun h => ne_u8 34 (by omega) h
 have q39 : s[0] = 39 → ((s[0].toNat : Int) == 39) = true := fun h => by rw [h]; rfl
 have q39' : s[0] ≠ 39 → ((s[0].toNat : Int) == 39) = false := fun h => ne_u8 39 (by omega) h
 have HN := qh (fun (hc : isL s[0] = true) (w' : World) (E' : EnvS w') => name_any s h0 (by omega) hc E')
 have HM := qh (fun (hc : isD s[0] = true) (w' : World) (E' : EnvS w') => number_anyP s h0 hs hc E')
 have HT := qh (fun hl hd hq (w' : World) => text_any s h0 (by omega) hl hd hq w')
 have HS := qh (fun hl hd hq (w' : World) => symbol_anyP s h0 (by omega) hl hd hq w')
 have hal := (Below.refl w.heap.size w).alloc (Nat.le_refl _) (.cells #[.int .u8 0, .complex .f64 0 0, .complex .f64 0 0, .string ⟨#[]⟩, .int .i64 0] 40)
 have HEn := qh (E.below (Nat.le_refl _) hal)
 have HAL := qh hal
 clear E hal
 go_enter Tryz.func56, Tryz.ntmps56
 go_wp2_with fail
 ((with_reducible refine (RL.out _ _).mono ?_); rintro e w1 ⟨rfl, rfl⟩)
 cases hl : isL s[0]
 case' true =>
  go_wp2_with fail
  (refine (HN.out hl _ HEn.out).mono ?_)
  rintro e w3 ⟨ht, hb⟩
  obtain ⟨ka, kb, kc, kn, kk, rfl⟩ := ht.form
  have HTK := qh ht
  have hz := hb.size
  rw [World.size_alloc] at hz
  have hlt1 : w.heap.size < w3.heap.size := by omega
  have hB0 := (Blk.new w 40 #[.int .u8 0, .complex .f64 0 0, .complex .f64 0 0, .string ⟨#[]⟩, .int .i64 0]).below hb (by simp)
  have hBl : Hid (Below w.heap.size w w3) := qh (HAL.out.trans (hb.mono (by simp)))
  obtain ⟨m0, m1, m2, m3, m4, f0, f1, f2, f3, f4⟩ := hB0.tok
  have HB0 := qh hB0
  clear hB0 hb hz ht
  go_wp2
  (try simp only [Exit.inBlock, Exit.then])
  refine bodyPost_ret (tok_ret3 rfl _ _ w.heap.size _ _ _ _ _ rfl (tok_stored HB0.out _ _ _ _ _)) rfl ?_
  exact ⟨HTK.out, below_stored hBl.out (Nat.le_refl _) _ _ _ _ _⟩
 go_wp2_with fail
 ((with_reducible refine (RD.out _ _).mono ?_); rintro e w1 ⟨rfl, rfl⟩)
 cases hd : isD s[0]
 case' true =>
  go_wp2_with fail
  (refine (HM.out hd _ HEn.out).mono ?_)
  rintro e w3 ⟨ht, hb⟩
  obtain ⟨ka, kb, kc, kn, kk, rfl⟩ := ht.form
  have HTK := qh ht
  have hz := hb.size
  rw [World.size_alloc] at hz
  have hlt1 : w.heap.size < w3.heap.size := by omega
  have hB0 := (Blk.new w 40 #[.int .u8 0, .complex .f64 0 0, .complex .f64 0 0, .string ⟨#[]⟩, .int .i64 0]).below hb (by simp)
  have hBl : Hid (Below w.heap.size w w3) := qh (HAL.out.trans (hb.mono (by simp)))
  obtain ⟨m0, m1, m2, m3, m4, f0, f1, f2, f3, f4⟩ := hB0.tok
  have HB0 := qh hB0
  clear hB0 hb hz ht
  go_wp2
  (try simp only [Exit.inBlock, Exit.then])
  refine bodyPost_ret (tok_ret3 rfl _ _ w.heap.size _ _ _ _ _ rfl (tok_stored HB0.out _ _ _ _ _)) rfl ?_
  exact ⟨HTK.out, below_stored hBl.out (Nat.le_refl _) _ _ _ _ _⟩
 by_cases h34 : s[0] = 34
 case' pos =>
  have t1 := q34 h34
  have HQ := qh (HT.out hl hd (.inl h34))
  clear q34 q34' q39 q39' h34
  go_wp2_with fail
  (refine (HQ.out _).mono ?_)
  rintro e w3 ⟨ht, hb⟩
  obtain ⟨ka, kb, kc, kn, kk, rfl⟩ := ht.form
  have HTK := qh ht
  have hz := hb.size
  rw [World.size_alloc] at hz
  have hlt1 : w.heap.size < w3.heap.size := by omega
  have hB0 := (Blk.new w 40 #[.int .u8 0, .complex .f64 0 0, .complex .f64 0 0, .string ⟨#[]⟩, .int .i64 0]).below hb (by simp)
  have hBl : Hid (Below w.heap.size w w3) := qh (HAL.out.trans (hb.mono (by simp)))
  obtain ⟨m0, m1, m2, m3, m4, f0, f1, f2, f3, f4⟩ := hB0.tok
  have HB0 := qh hB0
  clear hB0 hb hz ht
  go_wp2
  (try simp only [Exit.inBlock, Exit.then])
  refine bodyPost_ret (tok_ret3 rfl _ _ w.heap.size _ _ _ _ _ rfl (tok_stored HB0.out _ _ _ _ _)) rfl ?_
  exact ⟨HTK.out, below_stored hBl.out (Nat.le_refl _) _ _ _ _ _⟩
 have t1 := q34' h34
 by_cases h39 : s[0] = 39
 case' pos =>
  have t2 := q39 h39
  have HQ := qh (HT.out hl hd (.inr h39))
  clear q34 q34' q39 q39' h39 h34
  go_wp2_with fail
  (refine (HQ.out _).mono ?_)
  rintro e w3 ⟨ht, hb⟩
  obtain ⟨ka, kb, kc, kn, kk, rfl⟩ := ht.form
  have HTK := qh ht
  have hz := hb.size
  rw [World.size_alloc] at hz
  have hlt1 : w.heap.size < w3.heap.size := by omega
  have hB0 := (Blk.new w 40 #[.int .u8 0, .complex .f64 0 0, .complex .f64 0 0, .string ⟨#[]⟩, .int .i64 0]).below hb (by simp)
  have hBl : Hid (Below w.heap.size w w3) := qh (HAL.out.trans (hb.mono (by simp)))
  obtain ⟨m0, m1, m2, m3, m4, f0, f1, f2, f3, f4⟩ := hB0.tok
  have HB0 := qh hB0
  clear hB0 hb hz ht
  go_wp2
  (try simp only [Exit.inBlock, Exit.then])
  refine bodyPost_ret (tok_ret3 rfl _ _ w.heap.size _ _ _ _ _ rfl (tok_stored HB0.out _ _ _ _ _)) rfl ?_
  exact ⟨HTK.out, below_stored hBl.out (Nat.le_refl _) _ _ _ _ _⟩
 have t2 := q39' h39
 have HQ := qh (HS.out hl hd (fun h => h.elim h34 h39))
 clear q34 q34' q39 q39' h39 h34
 go_wp2_with fail
 (refine (HQ.out _).mono ?_)
 rintro e w3 ⟨ht, hb⟩
 obtain ⟨ka, kb, kc, kn, kk, rfl⟩ := ht.form
 have HTK := qh ht
 have hz := hb.size
 rw [World.size_alloc] at hz
 have hlt1 : w.heap.size < w3.heap.size := by omega
 have hB0 := (Blk.new w 40 #[.int .u8 0, .complex .f64 0 0, .complex .f64 0 0, .string ⟨#[]⟩, .int .i64 0]).below hb (by simp)
 have hBl : Hid (Below w.heap.size w w3) := qh (HAL.out.trans (hb.mono (by simp)))
 obtain ⟨m0, m1, m2, m3, m4, f0, f1, f2, f3, f4⟩ := hB0.tok
 have HB0 := qh hB0
 clear hB0 hb hz ht
 go_wp2
 (try simp only [Exit.inBlock, Exit.then])
 refine bodyPost_ret (tok_ret3 rfl _ _ w.heap.size _ _ _ _ _ rfl (tok_stored HB0.out _ _ _ _ _)) rfl ?_
 exact ⟨HTK.out, below_stored hBl.out (Nat.le_refl _) _ _ _ _ _⟩
end Go.Proofs.YtkemhmfdooghkaaGreatDoor.Lx
namespace Go.Proofs.YtkemhmfdooghkaaGreatDoor.Lx
open Go.RowKit
open Pl Fl
def isB (c : UInt8) : Bool := c == 9 || c == 10 || c == 13 || c == 32
inductive Item where
 | blank (n : Nat)
 | tok (t : Tk) (n : Nat)
 | bad (e : Nat)
def item (s : List UInt8) : Item :=
 if isB (s.head?.getD 0) then .blank 1
 else if s.take 2 = [40, 42] then (if cmt 0 0 s = 0 then .bad 43 else .blank (cmt 0 0 s))
 else match oneN s with
  | .error e => .bad e
  | .ok (t, n) => .tok t n
abbrev Tok := Tk × Nat × Nat
def scanF : Nat → Nat → List UInt8 → Except (Nat × Nat) (List Tok)
 | 0, i, _ => .error (i, 0)
 | f + 1, i, s => if s = [] then .ok [(noTk, i, i)] else match item s with
   | .bad e => .error (i, e)
   | .blank n => scanF f (i + n) (s.drop n)
   | .tok t n => (scanF f (i + n) (s.drop n)).map ((t, i, i + n) :: ·)
def scanL (s : List UInt8) : Except (Nat × Nat) (List Tok) := if 16384 < s.length then .error (0, 5) else scanF (s.length + 1) 0 s
def at_ (s : List UInt8) (i : Nat) : Nat × Nat := behN (1, 1) (s.take i)
def Tok.vals (s : List UInt8) (t : Tok) : List Value := t.1.vals (at_ s t.2.1) (at_ s t.2.2)
def flat (s : List UInt8) (l : List Tok) : List Value := l.flatMap (Tok.vals s)
theorem tok_vals_len (s : List UInt8) (t : Tok) : (Tok.vals s t).length = 5 := rfl
theorem flat_len (s : List UInt8) (l : List Tok) : (flat s l).length = l.length * 5 := by
 induction l with
 | nil => rfl
 | cons t l ih => simp only [flat, List.flatMap_cons, List.length_append, tok_vals_len, List.length_cons] at ih ⊢; omega
theorem flat_snoc (s : List UInt8) (l : List Tok) (t : Tok) : flat s (l ++ [t]) = flat s l ++ Tok.vals s t := by simp [flat]
theorem behN_app (p : Nat × Nat) (a b : List UInt8) : behN p (a ++ b) = behN (behN p a) b := by
 induction a generalizing p with
 | nil =>
   cases hp : isN p
   ·rw [behN_out hp, behN_out (l := []) hp, behN_out (p := (0, 0)) rfl]
   ·simp [behN, hp]
 | cons c a ih =>
   cases hp : isN p
   ·rw [behN_out hp, behN_out hp, behN_out (p := (0, 0)) rfl]
   ·rw [List.cons_append, behN_cons hp, behN_cons hp, ih]
theorem at_add (s : List UInt8) (i n : Nat) : behN (at_ s i) ((s.drop i).take n) = at_ s (i + n) := by
 unfold at_; rw [← behN_app, ← List.take_add]
theorem behN_bd (l : List UInt8) : ∀ (p : Nat × Nat) (m : Nat), isN p = true → p.1 + l.length ≤ m → p.2 + l.length ≤ m → m ≤ 1073741824 → isN (behN p l) = true ∧ (behN p l).1 ≤ m ∧ (behN p l).2 ≤ m := by
 induction l with
 | nil => intro p m hp h1 h2 hm; simp [behN, hp] at h1 h2 ⊢; omega
 | cons c l ih =>
   intro p m hp h1 h2 hm
   simp only [List.length_cons] at h1 h2
   obtain ⟨⟨q1, q2⟩, q3, q4⟩ := isN_bd hp
   rw [behN_cons hp]
   have hs : isN (stepN p c) = true ∧ (stepN p c).1 ≤ p.1 + 1 ∧ (stepN p c).2 ≤ p.2 + 1 := by
    unfold stepN
    split
    ·exact ⟨by simp [isN, inN]; omega, by omega, by simp⟩
    ·exact ⟨by simp [isN, inN]; omega, by simp, by simp⟩
   exact ih _ m hs.1 (by omega) (by omega) hm
theorem at_is (s : List UInt8) (hs : s.length ≤ 16384) (i : Nat) : isN (at_ s i) = true ∧ (at_ s i).1 ≤ 16385 ∧ (at_ s i).2 ≤ 16385 := by
 have hl : (s.take i).length ≤ 16384 := by rw [List.length_take]; omega
 exact behN_bd (s.take i) (1, 1) 16385 rfl (by simp only; omega) (by simp only; omega) (by omega)
theorem cmt_bd : ∀ (m : Nat) (d : Int) (i : Nat) (s : List UInt8), s.length ≤ m → cmt d i s = 0 ∨ (i + 2 ≤ cmt d i s ∧ cmt d i s ≤ i + s.length) := by
 intro m
 induction m with
 | zero => intro d i s h; have : s = [] := List.length_eq_zero_iff.1 (by omega); subst this; exact .inl rfl
 | succ m ih =>
   intro d i s h
   rcases s with _ | ⟨a, _ | ⟨b, r⟩⟩
   ·exact .inl rfl
   ·exact .inl rfl
   ·simp only [List.length_cons] at h
    have e1 := ih (d + 1) (i + 2) r (by omega)
    have e2 := ih (d - 1) (i + 2) r (by omega)
    have e3 := ih d (i + 1) (b :: r) (by simp only [List.length_cons]; omega)
    unfold cmt
    simp only [List.length_cons] at e3 ⊢
    split
    ·omega
    ·split
     ·split <;> omega
     ·omega
theorem runN_pos {p : UInt8 → Bool} {s : List UInt8} (h : p (s.head?.getD 0) = true) (hs : s ≠ []) : 1 ≤ runN p s := by
 rcases s with _ | ⟨a, r⟩
 ·exact absurd rfl hs
 ·rw [runN_yes (by simpa using h)]; omega
theorem oneN_bd (s : List UInt8) (hs : s ≠ []) (t : Tk) (n : Nat) (h : oneN s = .ok (t, n)) : 1 ≤ n ∧ n ≤ s.length := by
 have hl : 1 ≤ s.length := by
  rcases s with _ | ⟨a, r⟩
  ·exact absurd rfl hs
  ·simp
 unfold oneN at h
 dsimp only at h
 split at h
 ·rename_i hc
  have h1 := runN_pos (p := isP) (s := s) (by unfold isP; rw [hc]; rfl) hs
  have h2 := runN_le isP s
  split at h
  ·cases h
  ·injection h with h; injection h with h3 h4; omega
 ·split at h
  ·rename_i hc
   have h1 := runN_pos (p := isX) (s := s) (isX_of_isD hc) hs
   have h2 := runN_le isX s
   split at h
   ·cases h
   ·injection h with h; injection h with h3 h4
    split at h4
    ·rename_i h72
     obtain ⟨h5, _⟩ := List.getElem?_eq_some_iff.1 h72
     omega
    ·omega
  ·split at h
   ·split at h
    ·cases h
    ·rename_i hn
     injection h with h; injection h with h3 h4
     have : s[1 + runN (fun x => x != s.head?.getD 0 && x != 10) s.tail]? ≠ none := fun e => hn (.inl e)
     rw [ne_eq, List.getElem?_eq_none_iff] at this
     omega
   ·have h1 := symN_le s hs
    split at h
    ·cases h
    ·injection h with h; injection h with h3 h4
     omega
theorem item_bd (s : List UInt8) (hs : s ≠ []) : (∀ n, item s = .blank n → 1 ≤ n ∧ n ≤ s.length) ∧ (∀ t n, item s = .tok t n → 1 ≤ n ∧ n ≤ s.length) := by
 have hl : 1 ≤ s.length := by
  rcases s with _ | ⟨a, r⟩
  ·exact absurd rfl hs
  ·simp
 have hb := cmt_bd s.length 0 0 s (Nat.le_refl _)
 constructor
 ·intro n h
  unfold item at h
  split at h
  ·injection h with h; omega
  ·split at h
   ·split at h
    ·cases h
    ·injection h with h; omega
   ·split at h
    ·cases h
    ·cases h
 ·intro t n h
  unfold item at h
  split at h
  ·cases h
  ·split at h
   ·split at h
    ·cases h
    ·cases h
   ·split at h
    ·cases h
    ·rename_i t' n' e
     injection h with h1 h2
     subst h1 h2
     exact oneN_bd s hs _ _ e
theorem map_map_e {α β γ ε : Type} (f : α → β) (g : β → γ) (x : Except ε α) : (x.map f).map g = x.map (g ∘ f) := by cases x <;> rfl
theorem scanF_fuel : ∀ (m : Nat) (s : List UInt8) (f g i : Nat), s.length ≤ m → s.length < f → s.length < g → scanF f i s = scanF g i s := by
 intro m
 induction m with
 | zero =>
   intro s f g i hm hf hg
   have : s = [] := List.length_eq_zero_iff.1 (by omega)
   subst this
   rcases f with _ | f
   ·simp at hf
   rcases g with _ | g
   ·simp at hg
   rfl
 | succ m ih =>
   intro s f g i hm hf hg
   rcases f with _ | f
   ·omega
   rcases g with _ | g
   ·omega
   unfold scanF
   by_cases hs : s = []
   ·rw [if_pos hs, if_pos hs]
   ·rw [if_neg hs, if_neg hs]
    obtain ⟨h1, h2⟩ := item_bd s hs
    cases h : item s with
    | bad k => rfl
    | blank n =>
      have := h1 n h
      exact ih _ _ _ _ (by rw [List.length_drop]; omega) (by rw [List.length_drop]; omega) (by rw [List.length_drop]; omega)
    | tok t n =>
      have := h2 t n h
      dsimp only
      rw [ih (s.drop n) f g _ (by rw [List.length_drop]; omega) (by rw [List.length_drop]; omega) (by rw [List.length_drop]; omega)]
def scanAt (src : List UInt8) (i : Nat) : Except (Nat × Nat) (List Tok) := scanF ((src.drop i).length + 1) i (src.drop i)
section
variable {src : List UInt8} {i : Nat}
theorem scanAt_end (h : src.length ≤ i) : scanAt src i = .ok [(noTk, i, i)] := by
 unfold scanAt; rw [List.drop_of_length_le h]; rfl
theorem drop_ne (h : i < src.length) : src.drop i ≠ [] := by
 intro e; have := congrArg List.length e; rw [List.length_drop] at this; simp at this; omega
theorem scanAt_step (h : i < src.length) : scanAt src i = match item (src.drop i) with
 | .bad e => .error (i, e)
 | .blank n => scanAt src (i + n)
 | .tok t n => (scanAt src (i + n)).map ((t, i, i + n) :: ·) := by
 have hs := drop_ne h
 obtain ⟨h1, h2⟩ := item_bd _ hs
 unfold scanAt
 rw [scanF, if_neg hs]
 cases hc : item (src.drop i) with
 | bad k => rfl
 | blank n =>
   have := h1 n hc
   simp only [List.drop_drop]
   refine scanF_fuel _ _ _ _ _ (Nat.le_refl _) ?_ (by omega)
   rw [List.length_drop] at this ⊢
   rw [List.length_drop]; omega
 | tok t n =>
   have := h2 t n hc
   simp only [List.drop_drop]
   rw [scanF_fuel _ _ (src.drop i).length ((src.drop (i + n)).length + 1) _ (Nat.le_refl _) ?_ (by omega)]
   rw [List.length_drop] at this ⊢
   rw [List.length_drop]; omega
theorem scanAt_bad (h : i < src.length) {k : Nat} (hc : item (src.drop i) = .bad k) : scanAt src i = .error (i, k) := by rw [scanAt_step h, hc]
theorem scanAt_blank (h : i < src.length) {n : Nat} (hc : item (src.drop i) = .blank n) : scanAt src i = scanAt src (i + n) := by rw [scanAt_step h, hc]
theorem scanAt_tok (h : i < src.length) {t : Tk} {n : Nat} (hc : item (src.drop i) = .tok t n) : scanAt src i = (scanAt src (i + n)).map ((t, i, i + n) :: ·) := by rw [scanAt_step h, hc]
theorem scanL_eq : scanL src = if 16384 < src.length then .error (0, 5) else scanAt src 0 := rfl
theorem item_in (h : i < src.length) : (∀ n, item (src.drop i) = .blank n → 1 ≤ n ∧ i + n ≤ src.length) ∧ (∀ t n, item (src.drop i) = .tok t n → 1 ≤ n ∧ i + n ≤ src.length) := by
 obtain ⟨h1, h2⟩ := item_bd _ (drop_ne h)
 rw [List.length_drop] at h1 h2
 exact ⟨fun n hn => by have := h1 n hn; omega, fun t n hn => by have := h2 t n hn; omega⟩
end
theorem oneN_err (s : List UInt8) (k : Nat) (h : oneN s = .error k) : k = 5 ∨ k = 40 ∨ k = 41 ∨ k = 42 := by
 unfold oneN at h
 dsimp only at h
 split at h
 ·split at h
  ·injection h with h; omega
  ·cases h
 ·split at h
  ·split at h
   ·injection h with h; omega
   ·cases h
  ·split at h
   ·split at h
    ·injection h with h; omega
    ·cases h
   ·split at h
    ·injection h with h; omega
    ·cases h
theorem isBl_isB : isBl = isB := isBl_eq
theorem item_isB {s : List UInt8} (h : isB (s.head?.getD 0) = true) : item s = .blank 1 := by unfold item; rw [if_pos h]
theorem scan_run {src : List UInt8} : ∀ (m i : Nat), runN isB (src.drop i) = m → scanAt src i = scanAt src (i + m) := by
 intro m
 induction m with
 | zero => intro i _; rfl
 | succ m ih =>
   intro i h
   rcases Nat.lt_or_ge i src.length with hlt | hge
   ·rw [List.drop_eq_getElem_cons hlt] at h
    cases hb : isB src[i]
    ·rw [runN_no hb] at h; cases h
    ·rw [runN_yes hb] at h
     have h2 : item (src.drop i) = .blank 1 := item_isB (by rw [List.drop_eq_getElem_cons hlt]; exact hb)
     rw [scanAt_blank hlt h2, ih (i + 1) (by omega)]
     congr 1
     omega
   ·rw [List.drop_of_length_le hge, runN_nil] at h; cases h
theorem pre_take (s : List UInt8) : preB s [40, 42] = true ↔ s.take 2 = [40, 42] := by
 unfold preB
 rw [beq_iff_eq]
 rfl
theorem blank_cases {src : List UInt8} {i : Nat} (h : i < src.length) :
 (∃ n, 1 ≤ n ∧ i + n ≤ src.length ∧ blankP (src.drop i) = (n, 0) ∧ scanAt src i = scanAt src (i + n)) ∨
 (blankP (src.drop i) = (0, 43) ∧ scanAt src i = .error (i, 43)) ∨
 (blankP (src.drop i) = (0, 0) ∧ scanAt src i = match oneN (src.drop i) with
   | .error k => .error (i, k)
   | .ok (t, n) => (scanAt src (i + n)).map ((t, i, i + n) :: ·)) := by
 have hle := runN_le isBl (src.drop i)
 rw [List.length_drop] at hle
 by_cases h0 : 0 < runN isBl (src.drop i)
 ·refine .inl ⟨runN isBl (src.drop i), h0, by omega, by unfold blankP; rw [if_pos h0], ?_⟩
  rw [isBl_isB]
  exact scan_run _ i rfl
 ·have hb0 : isB ((src.drop i).head?.getD 0) = false := by
   have hd := List.drop_eq_getElem_cons h
   cases hb : isB src[i]
   ·rw [hd]; exact hb
   ·rw [isBl_isB, hd, runN_yes hb] at h0
    omega
  by_cases hp : (src.drop i).take 2 = [40, 42]
  ·have hpb := (pre_take _).2 hp
   by_cases hc : cmt 0 0 (src.drop i) = 0
   ·refine .inr (.inl ⟨by unfold blankP; rw [if_neg h0, if_pos hpb, if_pos hc], ?_⟩)
    exact scanAt_bad h (by unfold item; rw [if_neg (by rw [hb0]; simp), if_pos hp, if_pos hc])
   ·have hi : item (src.drop i) = .blank (cmt 0 0 (src.drop i)) := by unfold item; rw [if_neg (by rw [hb0]; simp), if_pos hp, if_neg hc]
    have hbd := (item_in h).1 _ hi
    refine .inl ⟨cmt 0 0 (src.drop i), hbd.1, hbd.2, by unfold blankP; rw [if_neg h0, if_pos hpb, if_neg hc], ?_⟩
    exact scanAt_blank h hi
  ·have hpb : ¬ preB (src.drop i) [40, 42] = true := fun e => hp ((pre_take _).1 e)
   refine .inr (.inr ⟨by unfold blankP; rw [if_neg h0, if_neg hpb], ?_⟩)
   have hi : item (src.drop i) = match oneN (src.drop i) with | .error e => .bad e | .ok (t, n) => .tok t n := by
    rw [item, if_neg (by rw [hb0]; simp), if_neg hp] <;> (cases oneN (src.drop i) <;> rfl)
   cases ho : oneN (src.drop i) with
   | error k => rw [ho] at hi; exact scanAt_bad h hi
   | ok x =>
     obtain ⟨t, n⟩ := x
     rw [ho] at hi
     exact scanAt_tok h hi
end Go.Proofs.YtkemhmfdooghkaaGreatDoor.Lx
namespace Go.Proofs.YtkemhmfdooghkaaGreatDoor.Lx
open Go.RowKit
open Pl Fl
attribute [local go_sem] run_store_complexL
theorem ofN_nat {p : Nat × Nat} (h : isN p = true) : ofN (p.1 : Nat) (p.2 : Nat) = p := by
 have := isN_bd h
 rw [ofN_in (isR_mk (by omega) (by omega) (by omega) (by omega))]
 rfl
theorem beh_at {p q : Nat × Nat} (x : ByteArray) (hp : isN p = true) (hx : behN p x.data.toList = q) (hs : x.size ≤ 9223372036854775806) (w : World) :
 Calls Tryz.prog 24 #[.agg #[.int .i64 p.1, .int .i64 p.2], .string x] w fun e w' => e = .returned (.agg #[.int .i64 q.1, .int .i64 q.2]) ∧ Below w.heap.size w w' := by
 refine (rBehind_any (p.1 : Nat) (p.2 : Nat) x w hs).mono fun e w' ⟨h1, h2⟩ => ⟨?_, h2⟩
 rw [h1, ofN_nat hp, hx]
 rfl
theorem pos_at {q : Nat × Nat} (hq : isN q = true) (w : World) :
 Calls Tryz.prog 16 #[.agg #[.int .i64 q.1, .int .i64 q.2]] w fun e w' => e = .returned (.complex .f64 (fl q.1) (fl q.2)) ∧ Below w.heap.size w w' := by
 refine (rPos_any (q.1 : Nat) (q.2 : Nat) w).mono fun e w' ⟨h1, h2⟩ => ⟨?_, h2⟩
 rw [h1, ofN_nat hq]
 rfl
def scanEnd (W : World) (src : List UInt8) (r : Except (Nat × Nat) (List Tok)) (e : Ending) (w' : World) : Prop := match r with
 | .error (i, k) => e = .returned (.tuple #[.slice none 0 0, .complex .f64 (fl (at_ src i).1) (fl (at_ src i).2), .int .i64 k]) ∧ Below W.heap.size W w'
 | .ok l => ∃ g cap, e = .returned (.tuple #[.slice (some ⟨g, 0, none⟩) l.length cap, .complex .f64 0 0, .int .i64 0]) ∧ w'.ownsRow W.heap.size 40 5 (.slice (some ⟨g, 0, none⟩) l.length cap) l.length (flat src l) ∧ Below W.heap.size W w'
def strLen : Value → Nat
 | .string s => s.size
 | _ => 0
theorem own_mono {w : World} {b b' : Nat} {e : TypeId} {size : Nat} {v : Value} {n : Nat} {xs : List Value} (h : w.ownsRow b e size v n xs) (hb : b' ≤ b) : w.ownsRow b' e size v n xs := by
 obtain ⟨h1, h2⟩ := h
 refine ⟨h1, ?_⟩
 rcases h2 with ⟨rfl, rfl⟩ | ⟨g, cap, cur, e1, h3, h4⟩
 ·exact .inl ⟨rfl, rfl⟩
 ·exact .inr ⟨g, cap, cur, e1, by omega, h4⟩
theorem info40 : (Tryz.prog.info? 40).map (fun i => (i.zero, i.size, i.bytes)) = some (some (.agg #[.int .u8 0, .complex .f64 0 0, .complex .f64 0 0, .string ⟨#[]⟩, .int .i64 0]), 5, 64) := by kernel_rfl
theorem pos_one (w : World) : Calls Tryz.prog 16 #[.agg #[.int .i64 1, .int .i64 1]] w fun e w' => e = .returned (.complex .f64 (fl 1) (fl 1)) ∧ Below w.heap.size w w' := pos_at (q := (1, 1)) rfl w
section
variable {w wx wy : World} {b pl pc : Nat} {v0 v1 v2 v3 v4 lv : Value} {n base : Nat} {xs : List Value}
theorem own_below {e : TypeId} {size : Nat} (h : wx.ownsRow base e size lv n xs) (hb : Below wx.heap.size wx wy) : wy.ownsRow base e size lv n xs :=
 h.kept (row := none) ⟨hb.os, hb.tape, hb.output, hb.size, fun k hk _ => hb.block k hk⟩ (by cases lv.ownBlock <;> simp)
theorem below_grown {B : Nat} {row : Option Nat} (h : Below B w wx) (hg : wx.grownBy wy row) (hr : ∀ k, row = some k → B ≤ k) (hB : B ≤ wx.heap.size) : Below B w wy :=
 ⟨hg.os.trans h.os, hg.tape.trans h.tape, hg.output.trans h.output, Nat.le_trans h.size hg.size, fun k hk => (hg.block k (by omega) (fun e => by have := hr k e.symm; omega)).trans (h.block k hk)⟩
structure PS (w wx : World) (pl pc : Nat) (lv : Value) (n : Nat) (xs : List Value) : Prop where
 pos : Blk wx w.heap.size 56 #[.int .i64 pl, .int .i64 pc]
 own : wx.ownsRow (w.heap.size + 1) 40 5 lv n xs
 bel : Below w.heap.size w wx
structure RS (w wx : World) (b : Nat) (pl pc : Nat) (v0 v1 v2 v3 v4 lv : Value) (n : Nat) (xs : List Value) : Prop extends PS w wx pl pc lv n xs where
 tok : Blk wx b 40 #[v0, v1, v2, v3, v4]
 far : w.heap.size < b
 sep : lv.ownBlock ≠ some b
theorem PS.below (h : PS w wx pl pc lv n xs) (hb : Below wx.heap.size wx wy) : PS w wy pl pc lv n xs :=
 ⟨h.pos.below hb h.pos.lt, own_below h.own hb, h.bel.trans (hb.mono h.bel.size)⟩
theorem PS.drew (h : PS w wx pl pc lv n xs) : PS w wx.drew pl pc lv n xs := h.below (below_drewN (Below.refl _ _) 1)
theorem PS.lt (h : PS w wx pl pc lv n xs) : w.heap.size < wx.heap.size := h.pos.lt
theorem RS.below (h : RS w wx b pl pc v0 v1 v2 v3 v4 lv n xs) (hb : Below wx.heap.size wx wy) : RS w wy b pl pc v0 v1 v2 v3 v4 lv n xs :=
 ⟨h.toPS.below hb, h.tok.below hb h.tok.lt, h.far, h.sep⟩
theorem RS.drew (h : RS w wx b pl pc v0 v1 v2 v3 v4 lv n xs) : RS w wx.drew b pl pc v0 v1 v2 v3 v4 lv n xs := h.below (below_drewN (Below.refl _ _) 1)
theorem PS.tok (h : PS w wx pl pc lv n xs) (v0 v1 v2 v3 v4 : Value) : RS w (wx.alloc (.cells #[v0, v1, v2, v3, v4] 40)) wx.heap.size pl pc v0 v1 v2 v3 v4 lv n xs :=
 ⟨h.below ((Below.refl _ _).alloc (Nat.le_refl _) _), Blk.new _ _ _, h.lt, fun e => by have := (h.own.lt _ e).2; omega⟩
theorem grown_set (wx : World) (b i : Nat) (u : Value) : wx.grownBy (wx.setCell ⟨b, i, none⟩ u) (some b) :=
 ⟨rfl, rfl, rfl, by rw [World.size_setCell]; exact Nat.le_refl _, fun k _ hk => Below.heap_setCell wx _ u k (fun e => hk (by rw [e]))⟩
theorem RS.set_ (h : RS w wx b pl pc v0 v1 v2 v3 v4 lv n xs) (i : Nat) (u : Value) :
 PS w (wx.setCell ⟨b, i, none⟩ u) pl pc lv n xs :=
 ⟨h.pos.far (Nat.ne_of_lt h.far) u, h.own.kept (grown_set wx b i u) (.inr h.sep), h.bel.setCell (Nat.le_of_lt h.far) u⟩
theorem RS.set1 (h : RS w wx b pl pc v0 v1 v2 v3 v4 lv n xs) (u : Value) : RS w (wx.setCell ⟨b, 1, none⟩ u) b pl pc v0 u v2 v3 v4 lv n xs :=
 ⟨h.set_ 1 u, by have := h.tok.set_ 1 u; simpa using this, h.far, h.sep⟩
theorem RS.set2 (h : RS w wx b pl pc v0 v1 v2 v3 v4 lv n xs) (u : Value) : RS w (wx.setCell ⟨b, 2, none⟩ u) b pl pc v0 v1 u v3 v4 lv n xs :=
 ⟨h.set_ 2 u, by have := h.tok.set_ 2 u; simpa using this, h.far, h.sep⟩
theorem PS.setPos (h : PS w wx pl pc lv n xs) (ql qc : Nat) : PS w ((wx.setCell ⟨w.heap.size, 0, none⟩ (.int .i64 ql)).setCell ⟨w.heap.size, 1, none⟩ (.int .i64 qc)) ql qc lv n xs := by
 have hs : lv.ownBlock ≠ some w.heap.size := fun e => by have := (h.own.lt _ e).1; omega
 refine ⟨?_, ?_, (h.bel.setCell (Nat.le_refl _) _).setCell (Nat.le_refl _) _⟩
 ·have := (h.pos.set_ 0 (.int .i64 ql)).set_ 1 (.int .i64 qc)
  simpa using this
 ·exact (h.own.kept (grown_set _ _ _ _) (.inr hs)).kept (grown_set _ _ _ _) (.inr hs)
theorem app_facts {k : Nat} {a1 b1 a2 b2 : Nat} {t : ByteArray} {m : Int} (h : PS w wx pl pc lv n xs) (hn : n ≤ 1000000) (cs : Array Value) (hcs : cs = #[.int .u8 k, .complex .f64 a1 b1, .complex .f64 a2 b2, .string t, .int .i64 m]) :
 Hid ((∀ i v, cs.toList[i]? = some v → (wx.alloc (.cells cs 40)).cell? ((⟨wx.heap.size, 0, none⟩ : Addr).add i) = some v) ∧ (∀ v ∈ cs.toList, v.oneCell' = true) ∧ n + 1 ≤ maxLen ∧ w.heap.size + 1 ≤ (wx.alloc (.cells cs 40)).heap.size ∧ (wx.alloc (.cells cs 40)).ownsRow (w.heap.size + 1) 40 5 lv n xs) := by
 refine qh ⟨World.news_of_block (heap_alloc_new wx _), fun v hv => ?_, by unfold maxLen; omega, ?_, h.own.alloc _⟩
 ·subst hcs
  simp only [List.mem_cons, List.not_mem_nil, or_false] at hv
  rcases hv with rfl | rfl | rfl | rfl | rfl <;> rfl
 ·have := h.lt; rw [World.size_alloc]; omega
theorem PS.appended {cs : Array Value} {w1 : World} {v' : Value} {m : Nat} {ys : List Value} (h : PS w wx pl pc lv n xs) (hown : w1.ownsRow (w.heap.size + 1) 40 5 v' m ys) (hg : (wx.alloc (.cells cs 40)).grownBy w1 lv.ownBlock) : PS w w1 pl pc v' m ys := by
 have hr : ∀ k, lv.ownBlock = some k → w.heap.size + 1 ≤ k := fun k e => (h.own.lt _ e).1
 refine ⟨(h.pos.alloc _).grown hg (fun e => ?_), hown, below_grown (h.bel.alloc h.bel.size _) hg (fun k e => ?_) ?_⟩
 ·have := hr _ e.symm; omega
 ·have := hr k e; omega
 ·have := h.lt; rw [World.size_alloc]; omega
theorem PS.facts (h : PS w wx pl pc lv n xs) : wx.cell? ⟨w.heap.size, 0, none⟩ = some (.int .i64 pl) ∧ wx.cell? ⟨w.heap.size, 1, none⟩ = some (.int .i64 pc) ∧ wx.frozen? ⟨w.heap.size, 0, none⟩ = false ∧ wx.frozen? ⟨w.heap.size, 1, none⟩ = false :=
 ⟨h.pos.cell 0, h.pos.cell 1, h.pos.frozen 0, h.pos.frozen 1⟩
end
theorem u8_eq (c : UInt8) (k : Nat) (h : k < 256) : ((c.toNat : Int) == (k : Int)) = (c == UInt8.ofNat k) := by
 rw [Bool.eq_iff_iff, beq_iff_eq, beq_iff_eq]
 constructor
 ·intro e; apply UInt8.toNat_inj.1; rw [UInt8.toNat_ofNat']; omega
 ·intro e; rw [e, UInt8.toNat_ofNat']; omega
end Go.Proofs.YtkemhmfdooghkaaGreatDoor.Lx
namespace Go.Proofs.YtkemhmfdooghkaaGreatDoor
open Go.RowKit
theorem ret_int {k : IntKind} {a b : Int} (h : a = b) : Ending.returned (.int k a) = .returned (.int k b) := by rw [h]
theorem ret_bool {a b : Bool} (h : a = b) : Ending.returned (.bool a) = .returned (.bool b) := by rw [h]
theorem block_of_add (a : Addr) (n : Nat) : (a.add n).block = a.block := by unfold Addr.add; split <;> rfl
def Reads (w : World) (B size : Nat) (A : Option Addr) (n : Nat) (xs : List Value) : Prop :=
 xs.length = n * size ∧ (0 < n → ∃ ad, A = some ad ∧ ad.block < B ∧ ∀ j u, xs[j]? = some u → w.cell? (ad.add j) = some u)
section
variable {w w' : World} {B B' size n : Nat} {A : Option Addr} {xs : List Value}
theorem Reads.none_ : Reads w B size A 0 [] := ⟨by simp, fun h => absurd h (by omega)⟩
theorem Reads.at_ {k : Nat} (h : Reads w B 1 A n xs) (hk : k < n) : ∃ ad u, A = some ad ∧ ad.block < B ∧ xs[k]? = some u ∧ w.cell? (ad.add k) = some u := by
 obtain ⟨ad, e, hb, hc⟩ := h.2 (by omega)
 have hl : k < xs.length := by have := h.1; omega
 exact ⟨ad, xs[k], e, hb, List.getElem?_eq_getElem hl, hc k _ (List.getElem?_eq_getElem hl)⟩
theorem Reads.spot {k : Nat} (h : Reads w B 1 A n xs) (hk : k < n) : ∃ b off u, A = some ⟨b, off, none⟩ ∧ b < B ∧ xs[k]? = some u ∧ w.cell? ⟨b, off + k, none⟩ = some u := by
 obtain ⟨⟨b, off, sp⟩, u, e, hb, hx, hc⟩ := h.at_ hk
 have hs : sp = none := by
  obtain ⟨ad, u0, e0, _, _, hc0⟩ := h.at_ (k := 0) (by omega)
  rw [e] at e0
  injection e0 with e0
  subst e0
  have := World.cell?_spot hc0
  simpa [Addr.add] using this
 subst hs
 refine ⟨b, off, u, e, hb, hx, ?_⟩
 have : (⟨b, off, none⟩ : Addr).add k = ⟨b, off + k, none⟩ := by unfold Addr.add; split <;> simp_all
 rwa [this] at hc
theorem Reads.keep (h : Reads w B size A n xs) (hk : ∀ p : Addr, p.block < B → w'.cell? p = w.cell? p) : Reads w' B size A n xs :=
 ⟨h.1, fun hn => by
   obtain ⟨ad, e, hb, hc⟩ := h.2 hn
   exact ⟨ad, e, hb, fun j u hu => (hk _ (by rw [block_of_add]; exact hb)).trans (hc j u hu)⟩⟩
theorem Reads.more (h : Reads w B size A n xs) (hB : B ≤ B') : Reads w B' size A n xs :=
 ⟨h.1, fun hn => by
   obtain ⟨ad, e, hb, hc⟩ := h.2 hn
   exact ⟨ad, e, by omega, hc⟩⟩
theorem Reads.below (h : Reads w B size A n xs) (hb : Below B w w') : Reads w' B size A n xs := h.keep fun _ hp => hb.cell hp
theorem Reads.drew (h : Reads w B size A n xs) : Reads w.drew B size A n xs := h
theorem Reads.drewN (h : Reads w B size A n xs) (k : Nat) : Reads (w.drewN k) B size A n xs := h
theorem Reads.alloc (h : Reads w B size A n xs) (hB : B ≤ w.heap.size) (o : Obj) : Reads (w.alloc o) B size A n xs := h.keep fun p hp => World.cell?_alloc_lt w o p (by omega)
theorem Reads.setCell (h : Reads w B size A n xs) {p : Addr} (hB : B ≤ p.block) (u : Value) : Reads (w.setCell p u) B size A n xs :=
 h.keep fun q hq => World.cell?_setCell_other w p q u (fun e => by subst e; omega)
theorem Reads.grown (h : Reads w B size A n xs) {row : Option Nat} (hg : w.grownBy w' row) (hB : B ≤ w.heap.size) (hr : ∀ g, row = some g → B ≤ g) : Reads w' B size A n xs :=
 h.keep fun p hp => World.cell?_of_block (hg.block p.block (by omega) (fun e => by have := hr _ e.symm; omega))
theorem Reads.of_own {base : Nat} {e : TypeId} {c : Nat} (h : w.ownsRow base e size (.slice A n c) n xs) : Reads w w.heap.size size A n xs := by
 refine ⟨h.1, fun hn => ?_⟩
 obtain ⟨g, cap, hv, _, hlt⟩ := h.form hn
 have hA : A = some ⟨g, 0, none⟩ := by injection hv
 subst hA
 exact ⟨_, rfl, hlt, h.cells (g := g) rfl⟩
end
theorem own_form {w : World} {base : Nat} {e : TypeId} {size : Nat} {v : Value} {n : Nat} {xs : List Value} (h : w.ownsRow base e size v n xs) : ∃ A c, v = .slice A n c ∧ Reads w w.heap.size size A n xs := by
 have h0 := h
 rcases h.2 with ⟨rfl, rfl⟩ | ⟨g, cap, cur, rfl, _⟩
 ·exact ⟨none, 0, rfl, h0.1, fun h => absurd h (by omega)⟩
 ·exact ⟨_, _, rfl, Reads.of_own h0⟩
end Go.Proofs.YtkemhmfdooghkaaGreatDoor
