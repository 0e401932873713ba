/- A part of the proof: R9, R10, Base, T1, T2, T3, T4, T5. -/
import Derived.Test.YtkemhmfdooghkaaGreatDoorZ3
import Derived.Deep.RegionLaw
import Derived.Deep.AppendLies
import Derived.Deep.DrawnRows
import Derived.WalkKit
import Derived.WalkSpells
import Derived.WalkLawsBesides
import Derived.Lib.Hide
import Derived.Laws.OwnMore
import Derived.Deep.Draws
import Derived.Test.YtkemhmfdooghkaaGreatDoorZ1
import Derived.Test.YtkemhmfdooghkaaGreatDoorProg
import Derived.Deep.QuietTactic
import Derived.BigQuiet
import Derived.Laws.Rows
set_option linter.unusedSimpArgs false
set_option linter.unusedVariables false

section
namespace Go.Proofs.YtkemhmfdooghkaaGreatDoor.Lx
open Go.RowKit
open Pl Fl
def isB (c : UInt8) : Bool := c == 9 || c == 10 || c == 13 || c == 32
inductive Item where
 | blank (n : Nat)
 | tok (t : Tk) (n : Nat)
 | bad (e : Nat)
def item (s : List UInt8) : Item :=
 if isB (s.head?.getD 0) then .blank 1
 else if s.take 2 = [40, 42] then (if cmt 0 0 s = 0 then .bad 43 else .blank (cmt 0 0 s))
 else match oneN s with
  | .error e => .bad e
  | .ok (t, n) => .tok t n
abbrev Tok := Tk × Nat × Nat
def scanF : Nat → Nat → List UInt8 → Except (Nat × Nat) (List Tok)
 | 0, i, _ => .error (i, 0)
 | f + 1, i, s => if s = [] then .ok [(noTk, i, i)] else match item s with
   | .bad e => .error (i, e)
   | .blank n => scanF f (i + n) (s.drop n)
   | .tok t n => (scanF f (i + n) (s.drop n)).map ((t, i, i + n) :: ·)
def scanL (s : List UInt8) : Except (Nat × Nat) (List Tok) := if 16384 < s.length then .error (0, 5) else scanF (s.length + 1) 0 s
def at_ (s : List UInt8) (i : Nat) : Nat × Nat := behN (1, 1) (s.take i)
def Tok.vals (s : List UInt8) (t : Tok) : List Value := t.1.vals (at_ s t.2.1) (at_ s t.2.2)
def flat (s : List UInt8) (l : List Tok) : List Value := l.flatMap (Tok.vals s)
theorem tok_vals_len (s : List UInt8) (t : Tok) : (Tok.vals s t).length = 5 := rfl
theorem flat_len (s : List UInt8) (l : List Tok) : (flat s l).length = l.length * 5 := by
 induction l with
 | nil => rfl
 | cons t l ih => simp only [flat, List.flatMap_cons, List.length_append, tok_vals_len, List.length_cons] at ih ⊢; omega
theorem flat_snoc (s : List UInt8) (l : List Tok) (t : Tok) : flat s (l ++ [t]) = flat s l ++ Tok.vals s t := by simp [flat]
theorem behN_app (p : Nat × Nat) (a b : List UInt8) : behN p (a ++ b) = behN (behN p a) b := by
 induction a generalizing p with
 | nil =>
   cases hp : isN p
   ·rw [behN_out hp, behN_out (l := []) hp, behN_out (p := (0, 0)) rfl]
   ·simp [behN, hp]
 | cons c a ih =>
   cases hp : isN p
   ·rw [behN_out hp, behN_out hp, behN_out (p := (0, 0)) rfl]
   ·rw [List.cons_append, behN_cons hp, behN_cons hp, ih]
theorem at_add (s : List UInt8) (i n : Nat) : behN (at_ s i) ((s.drop i).take n) = at_ s (i + n) := by
 unfold at_; rw [← behN_app, ← List.take_add]
theorem behN_bd (l : List UInt8) : ∀ (p : Nat × Nat) (m : Nat), isN p = true → p.1 + l.length ≤ m → p.2 + l.length ≤ m → m ≤ 1073741824 → isN (behN p l) = true ∧ (behN p l).1 ≤ m ∧ (behN p l).2 ≤ m := by
 induction l with
 | nil => intro p m hp h1 h2 hm; simp [behN, hp] at h1 h2 ⊢; omega
 | cons c l ih =>
   intro p m hp h1 h2 hm
   simp only [List.length_cons] at h1 h2
   obtain ⟨⟨q1, q2⟩, q3, q4⟩ := isN_bd hp
   rw [behN_cons hp]
   have hs : isN (stepN p c) = true ∧ (stepN p c).1 ≤ p.1 + 1 ∧ (stepN p c).2 ≤ p.2 + 1 := by
    unfold stepN
    split
    ·exact ⟨by simp [isN, inN]; omega, by omega, by simp⟩
    ·exact ⟨by simp [isN, inN]; omega, by simp, by simp⟩
   exact ih _ m hs.1 (by omega) (by omega) hm
theorem at_is (s : List UInt8) (hs : s.length ≤ 16384) (i : Nat) : isN (at_ s i) = true ∧ (at_ s i).1 ≤ 16385 ∧ (at_ s i).2 ≤ 16385 := by
 have hl : (s.take i).length ≤ 16384 := by rw [List.length_take]; omega
 exact behN_bd (s.take i) (1, 1) 16385 rfl (by simp only; omega) (by simp only; omega) (by omega)
theorem cmt_bd : ∀ (m : Nat) (d : Int) (i : Nat) (s : List UInt8), s.length ≤ m → cmt d i s = 0 ∨ (i + 2 ≤ cmt d i s ∧ cmt d i s ≤ i + s.length) := by
 intro m
 induction m with
 | zero => intro d i s h; have : s = [] := List.length_eq_zero_iff.1 (by omega); subst this; exact .inl rfl
 | succ m ih =>
   intro d i s h
   rcases s with _ | ⟨a, _ | ⟨b, r⟩⟩
   ·exact .inl rfl
   ·exact .inl rfl
   ·simp only [List.length_cons] at h
    have e1 := ih (d + 1) (i + 2) r (by omega)
    have e2 := ih (d - 1) (i + 2) r (by omega)
    have e3 := ih d (i + 1) (b :: r) (by simp only [List.length_cons]; omega)
    unfold cmt
    simp only [List.length_cons] at e3 ⊢
    split
    ·omega
    ·split
     ·split <;> omega
     ·omega
theorem runN_pos {p : UInt8 → Bool} {s : List UInt8} (h : p (s.head?.getD 0) = true) (hs : s ≠ []) : 1 ≤ runN p s := by
 rcases s with _ | ⟨a, r⟩
 ·exact absurd rfl hs
 ·rw [runN_yes (by simpa using h)]; omega
theorem oneN_bd (s : List UInt8) (hs : s ≠ []) (t : Tk) (n : Nat) (h : oneN s = .ok (t, n)) : 1 ≤ n ∧ n ≤ s.length := by
 have hl : 1 ≤ s.length := by
  rcases s with _ | ⟨a, r⟩
  ·exact absurd rfl hs
  ·simp
 unfold oneN at h
 dsimp only at h
 split at h
 ·rename_i hc
  have h1 := runN_pos (p := isP) (s := s) (by unfold isP; rw [hc]; rfl) hs
  have h2 := runN_le isP s
  split at h
  ·cases h
  ·injection h with h; injection h with h3 h4; omega
 ·split at h
  ·rename_i hc
   have h1 := runN_pos (p := isX) (s := s) (isX_of_isD hc) hs
   have h2 := runN_le isX s
   split at h
   ·cases h
   ·injection h with h; injection h with h3 h4
    split at h4
    ·rename_i h72
     obtain ⟨h5, _⟩ := List.getElem?_eq_some_iff.1 h72
     omega
    ·omega
  ·split at h
   ·split at h
    ·cases h
    ·rename_i hn
     injection h with h; injection h with h3 h4
     have : s[1 + runN (fun x => x != s.head?.getD 0 && x != 10) s.tail]? ≠ none := fun e => hn (.inl e)
     rw [ne_eq, List.getElem?_eq_none_iff] at this
     omega
   ·have h1 := symN_le s hs
    split at h
    ·cases h
    ·injection h with h; injection h with h3 h4
     omega
theorem item_bd (s : List UInt8) (hs : s ≠ []) : (∀ n, item s = .blank n → 1 ≤ n ∧ n ≤ s.length) ∧ (∀ t n, item s = .tok t n → 1 ≤ n ∧ n ≤ s.length) := by
 have hl : 1 ≤ s.length := by
  rcases s with _ | ⟨a, r⟩
  ·exact absurd rfl hs
  ·simp
 have hb := cmt_bd s.length 0 0 s (Nat.le_refl _)
 constructor
 ·intro n h
  unfold item at h
  split at h
  ·injection h with h; omega
  ·split at h
   ·split at h
    ·cases h
    ·injection h with h; omega
   ·split at h
    ·cases h
    ·cases h
 ·intro t n h
  unfold item at h
  split at h
  ·cases h
  ·split at h
   ·split at h
    ·cases h
    ·cases h
   ·split at h
    ·cases h
    ·rename_i t' n' e
     injection h with h1 h2
     subst h1 h2
     exact oneN_bd s hs _ _ e
theorem map_map_e {α β γ ε : Type} (f : α → β) (g : β → γ) (x : Except ε α) : (x.map f).map g = x.map (g ∘ f) := by cases x <;> rfl
theorem scanF_fuel : ∀ (m : Nat) (s : List UInt8) (f g i : Nat), s.length ≤ m → s.length < f → s.length < g → scanF f i s = scanF g i s := by
 intro m
 induction m with
 | zero =>
   intro s f g i hm hf hg
   have : s = [] := List.length_eq_zero_iff.1 (by omega)
   subst this
   rcases f with _ | f
   ·simp at hf
   rcases g with _ | g
   ·simp at hg
   rfl
 | succ m ih =>
   intro s f g i hm hf hg
   rcases f with _ | f
   ·omega
   rcases g with _ | g
   ·omega
   unfold scanF
   by_cases hs : s = []
   ·rw [if_pos hs, if_pos hs]
   ·rw [if_neg hs, if_neg hs]
    obtain ⟨h1, h2⟩ := item_bd s hs
    cases h : item s with
    | bad k => rfl
    | blank n =>
      have := h1 n h
      exact ih _ _ _ _ (by rw [List.length_drop]; omega) (by rw [List.length_drop]; omega) (by rw [List.length_drop]; omega)
    | tok t n =>
      have := h2 t n h
      dsimp only
      rw [ih (s.drop n) f g _ (by rw [List.length_drop]; omega) (by rw [List.length_drop]; omega) (by rw [List.length_drop]; omega)]
def scanAt (src : List UInt8) (i : Nat) : Except (Nat × Nat) (List Tok) := scanF ((src.drop i).length + 1) i (src.drop i)
section
variable {src : List UInt8} {i : Nat}
theorem scanAt_end (h : src.length ≤ i) : scanAt src i = .ok [(noTk, i, i)] := by
 unfold scanAt; rw [List.drop_of_length_le h]; rfl
theorem drop_ne (h : i < src.length) : src.drop i ≠ [] := by
 intro e; have := congrArg List.length e; rw [List.length_drop] at this; simp at this; omega
theorem scanAt_step (h : i < src.length) : scanAt src i = match item (src.drop i) with
 | .bad e => .error (i, e)
 | .blank n => scanAt src (i + n)
 | .tok t n => (scanAt src (i + n)).map ((t, i, i + n) :: ·) := by
 have hs := drop_ne h
 obtain ⟨h1, h2⟩ := item_bd _ hs
 unfold scanAt
 rw [scanF, if_neg hs]
 cases hc : item (src.drop i) with
 | bad k => rfl
 | blank n =>
   have := h1 n hc
   simp only [List.drop_drop]
   refine scanF_fuel _ _ _ _ _ (Nat.le_refl _) ?_ (by omega)
   rw [List.length_drop] at this ⊢
   rw [List.length_drop]; omega
 | tok t n =>
   have := h2 t n hc
   simp only [List.drop_drop]
   rw [scanF_fuel _ _ (src.drop i).length ((src.drop (i + n)).length + 1) _ (Nat.le_refl _) ?_ (by omega)]
   rw [List.length_drop] at this ⊢
   rw [List.length_drop]; omega
theorem scanAt_bad (h : i < src.length) {k : Nat} (hc : item (src.drop i) = .bad k) : scanAt src i = .error (i, k) := by rw [scanAt_step h, hc]
theorem scanAt_blank (h : i < src.length) {n : Nat} (hc : item (src.drop i) = .blank n) : scanAt src i = scanAt src (i + n) := by rw [scanAt_step h, hc]
theorem scanAt_tok (h : i < src.length) {t : Tk} {n : Nat} (hc : item (src.drop i) = .tok t n) : scanAt src i = (scanAt src (i + n)).map ((t, i, i + n) :: ·) := by rw [scanAt_step h, hc]
theorem scanL_eq : scanL src = if 16384 < src.length then .error (0, 5) else scanAt src 0 := rfl
theorem item_in (h : i < src.length) : (∀ n, item (src.drop i) = .blank n → 1 ≤ n ∧ i + n ≤ src.length) ∧ (∀ t n, item (src.drop i) = .tok t n → 1 ≤ n ∧ i + n ≤ src.length) := by
 obtain ⟨h1, h2⟩ := item_bd _ (drop_ne h)
 rw [List.length_drop] at h1 h2
 exact ⟨fun n hn => by have := h1 n hn; omega, fun t n hn => by have := h2 t n hn; omega⟩
end
theorem oneN_err (s : List UInt8) (k : Nat) (h : oneN s = .error k) : k = 5 ∨ k = 40 ∨ k = 41 ∨ k = 42 := by
 unfold oneN at h
 dsimp only at h
 split at h
 ·split at h
  ·injection h with h; omega
  ·cases h
 ·split at h
  ·split at h
   ·injection h with h; omega
   ·cases h
  ·split at h
   ·split at h
    ·injection h with h; omega
    ·cases h
   ·split at h
    ·injection h with h; omega
    ·cases h
end Go.Proofs.YtkemhmfdooghkaaGreatDoor.Lx
end

section
namespace Go.Proofs.YtkemhmfdooghkaaGreatDoor.Lx
open Go.RowKit
open Pl Fl
attribute [local go_sem] run_store_complexL
theorem ofN_nat {p : Nat × Nat} (h : isN p = true) : ofN (p.1 : Nat) (p.2 : Nat) = p := by
 have := isN_bd h
 rw [ofN_in (isR_mk (by omega) (by omega) (by omega) (by omega))]
 rfl
theorem beh_at {p q : Nat × Nat} (x : ByteArray) (hp : isN p = true) (hx : behN p x.data.toList = q) (hs : x.size ≤ 9223372036854775806) (w : World) :
 Calls Tryz.prog 24 #[.agg #[.int .i64 p.1, .int .i64 p.2], .string x] w fun e w' => e = .returned (.agg #[.int .i64 q.1, .int .i64 q.2]) ∧ Below w.heap.size w w' := by
 refine (rBehind_any (p.1 : Nat) (p.2 : Nat) x w hs).mono fun e w' ⟨h1, h2⟩ => ⟨?_, h2⟩
 rw [h1, ofN_nat hp, hx]
 rfl
theorem pos_at {q : Nat × Nat} (hq : isN q = true) (w : World) :
 Calls Tryz.prog 16 #[.agg #[.int .i64 q.1, .int .i64 q.2]] w fun e w' => e = .returned (.complex .f64 (fl q.1) (fl q.2)) ∧ Below w.heap.size w w' := by
 refine (rPos_any (q.1 : Nat) (q.2 : Nat) w).mono fun e w' ⟨h1, h2⟩ => ⟨?_, h2⟩
 rw [h1, ofN_nat hq]
 rfl
def scanEnd (W : World) (src : List UInt8) (r : Except (Nat × Nat) (List Tok)) (e : Ending) (w' : World) : Prop := match r with
 | .error (i, k) => e = .returned (.tuple #[.slice none 0 0, .complex .f64 (fl (at_ src i).1) (fl (at_ src i).2), .int .i64 k]) ∧ Below W.heap.size W w'
 | .ok l => ∃ g cap, e = .returned (.tuple #[.slice (some ⟨g, 0, none⟩) l.length cap, .complex .f64 0 0, .int .i64 0]) ∧ w'.ownsRow W.heap.size 40 5 (.slice (some ⟨g, 0, none⟩) l.length cap) l.length (flat src l) ∧ Below W.heap.size W w'
def strLen : Value → Nat
 | .string s => s.size
 | _ => 0
theorem own_mono {w : World} {b b' : Nat} {e : TypeId} {size : Nat} {v : Value} {n : Nat} {xs : List Value} (h : w.ownsRow b e size v n xs) (hb : b' ≤ b) : w.ownsRow b' e size v n xs := by
 obtain ⟨h1, h2⟩ := h
 refine ⟨h1, ?_⟩
 rcases h2 with ⟨rfl, rfl⟩ | ⟨g, cap, cur, e1, h3, h4⟩
 ·exact .inl ⟨rfl, rfl⟩
 ·exact .inr ⟨g, cap, cur, e1, by omega, h4⟩
theorem info40 : (Tryz.prog.info? 40).map (fun i => (i.zero, i.size, i.bytes)) = some (some (.agg #[.int .u8 0, .complex .f64 0 0, .complex .f64 0 0, .string ⟨#[]⟩, .int .i64 0]), 5, 64) := by kernel_rfl
theorem pos_one (w : World) : Calls Tryz.prog 16 #[.agg #[.int .i64 1, .int .i64 1]] w fun e w' => e = .returned (.complex .f64 (fl 1) (fl 1)) ∧ Below w.heap.size w w' := pos_at (q := (1, 1)) rfl w
section
variable {w wx wy : World} {b pl pc : Nat} {v0 v1 v2 v3 v4 lv : Value} {n base : Nat} {xs : List Value}
theorem own_below {e : TypeId} {size : Nat} (h : wx.ownsRow base e size lv n xs) (hb : Below wx.heap.size wx wy) : wy.ownsRow base e size lv n xs :=
 h.kept (row := none) ⟨hb.os, hb.tape, hb.output, hb.size, fun k hk _ => hb.block k hk⟩ (by cases lv.ownBlock <;> simp)
theorem below_grown {B : Nat} {row : Option Nat} (h : Below B w wx) (hg : wx.grownBy wy row) (hr : ∀ k, row = some k → B ≤ k) (hB : B ≤ wx.heap.size) : Below B w wy :=
 ⟨hg.os.trans h.os, hg.tape.trans h.tape, hg.output.trans h.output, Nat.le_trans h.size hg.size, fun k hk => (hg.block k (by omega) (fun e => by have := hr k e.symm; omega)).trans (h.block k hk)⟩
structure PS (w wx : World) (pl pc : Nat) (lv : Value) (n : Nat) (xs : List Value) : Prop where
 pos : Blk wx w.heap.size 56 #[.int .i64 pl, .int .i64 pc]
 own : wx.ownsRow (w.heap.size + 1) 40 5 lv n xs
 bel : Below w.heap.size w wx
structure RS (w wx : World) (b : Nat) (pl pc : Nat) (v0 v1 v2 v3 v4 lv : Value) (n : Nat) (xs : List Value) : Prop extends PS w wx pl pc lv n xs where
 tok : Blk wx b 40 #[v0, v1, v2, v3, v4]
 far : w.heap.size < b
 sep : lv.ownBlock ≠ some b
theorem PS.below (h : PS w wx pl pc lv n xs) (hb : Below wx.heap.size wx wy) : PS w wy pl pc lv n xs :=
 ⟨h.pos.below hb h.pos.lt, own_below h.own hb, h.bel.trans (hb.mono h.bel.size)⟩
theorem PS.drew (h : PS w wx pl pc lv n xs) : PS w wx.drew pl pc lv n xs := h.below (below_drewN (Below.refl _ _) 1)
theorem PS.lt (h : PS w wx pl pc lv n xs) : w.heap.size < wx.heap.size := h.pos.lt
theorem RS.below (h : RS w wx b pl pc v0 v1 v2 v3 v4 lv n xs) (hb : Below wx.heap.size wx wy) : RS w wy b pl pc v0 v1 v2 v3 v4 lv n xs :=
 ⟨h.toPS.below hb, h.tok.below hb h.tok.lt, h.far, h.sep⟩
theorem RS.drew (h : RS w wx b pl pc v0 v1 v2 v3 v4 lv n xs) : RS w wx.drew b pl pc v0 v1 v2 v3 v4 lv n xs := h.below (below_drewN (Below.refl _ _) 1)
theorem PS.tok (h : PS w wx pl pc lv n xs) (v0 v1 v2 v3 v4 : Value) : RS w (wx.alloc (.cells #[v0, v1, v2, v3, v4] 40)) wx.heap.size pl pc v0 v1 v2 v3 v4 lv n xs :=
 ⟨h.below ((Below.refl _ _).alloc (Nat.le_refl _) _), Blk.new _ _ _, h.lt, fun e => by have := (h.own.lt _ e).2; omega⟩
theorem grown_set (wx : World) (b i : Nat) (u : Value) : wx.grownBy (wx.setCell ⟨b, i, none⟩ u) (some b) :=
 ⟨rfl, rfl, rfl, by rw [World.size_setCell]; exact Nat.le_refl _, fun k _ hk => Below.heap_setCell wx _ u k (fun e => hk (by rw [e]))⟩
theorem RS.set_ (h : RS w wx b pl pc v0 v1 v2 v3 v4 lv n xs) (i : Nat) (u : Value) :
 PS w (wx.setCell ⟨b, i, none⟩ u) pl pc lv n xs :=
 ⟨h.pos.far (Nat.ne_of_lt h.far) u, h.own.kept (grown_set wx b i u) (.inr h.sep), h.bel.setCell (Nat.le_of_lt h.far) u⟩
theorem RS.set1 (h : RS w wx b pl pc v0 v1 v2 v3 v4 lv n xs) (u : Value) : RS w (wx.setCell ⟨b, 1, none⟩ u) b pl pc v0 u v2 v3 v4 lv n xs :=
 ⟨h.set_ 1 u, by have := h.tok.set_ 1 u; simpa using this, h.far, h.sep⟩
theorem RS.set2 (h : RS w wx b pl pc v0 v1 v2 v3 v4 lv n xs) (u : Value) : RS w (wx.setCell ⟨b, 2, none⟩ u) b pl pc v0 v1 u v3 v4 lv n xs :=
 ⟨h.set_ 2 u, by have := h.tok.set_ 2 u; simpa using this, h.far, h.sep⟩
theorem PS.setPos (h : PS w wx pl pc lv n xs) (ql qc : Nat) : PS w ((wx.setCell ⟨w.heap.size, 0, none⟩ (.int .i64 ql)).setCell ⟨w.heap.size, 1, none⟩ (.int .i64 qc)) ql qc lv n xs := by
 have hs : lv.ownBlock ≠ some w.heap.size := fun e => by have := (h.own.lt _ e).1; omega
 refine ⟨?_, ?_, (h.bel.setCell (Nat.le_refl _) _).setCell (Nat.le_refl _) _⟩
 ·have := (h.pos.set_ 0 (.int .i64 ql)).set_ 1 (.int .i64 qc)
  simpa using this
 ·exact (h.own.kept (grown_set _ _ _ _) (.inr hs)).kept (grown_set _ _ _ _) (.inr hs)
theorem app_facts {k : Nat} {a1 b1 a2 b2 : Nat} {t : ByteArray} {m : Int} (h : PS w wx pl pc lv n xs) (hn : n ≤ 1000000) (cs : Array Value) (hcs : cs = #[.int .u8 k, .complex .f64 a1 b1, .complex .f64 a2 b2, .string t, .int .i64 m]) :
 Hid ((∀ i v, cs.toList[i]? = some v → (wx.alloc (.cells cs 40)).cell? ((⟨wx.heap.size, 0, none⟩ : Addr).add i) = some v) ∧ (∀ v ∈ cs.toList, v.oneCell' = true) ∧ n + 1 ≤ maxLen ∧ w.heap.size + 1 ≤ (wx.alloc (.cells cs 40)).heap.size ∧ (wx.alloc (.cells cs 40)).ownsRow (w.heap.size + 1) 40 5 lv n xs) := by
 refine qh ⟨World.news_of_block (heap_alloc_new wx _), fun v hv => ?_, by unfold maxLen; omega, ?_, h.own.alloc _⟩
 ·subst hcs
  simp only [List.mem_cons, List.not_mem_nil, or_false] at hv
  rcases hv with rfl | rfl | rfl | rfl | rfl <;> rfl
 ·have := h.lt; rw [World.size_alloc]; omega
theorem PS.appended {cs : Array Value} {w1 : World} {v' : Value} {m : Nat} {ys : List Value} (h : PS w wx pl pc lv n xs) (hown : w1.ownsRow (w.heap.size + 1) 40 5 v' m ys) (hg : (wx.alloc (.cells cs 40)).grownBy w1 lv.ownBlock) : PS w w1 pl pc v' m ys := by
 have hr : ∀ k, lv.ownBlock = some k → w.heap.size + 1 ≤ k := fun k e => (h.own.lt _ e).1
 refine ⟨(h.pos.alloc _).grown hg (fun e => ?_), hown, below_grown (h.bel.alloc h.bel.size _) hg (fun k e => ?_) ?_⟩
 ·have := hr _ e.symm; omega
 ·have := hr k e; omega
 ·have := h.lt; rw [World.size_alloc]; omega
theorem PS.facts (h : PS w wx pl pc lv n xs) : wx.cell? ⟨w.heap.size, 0, none⟩ = some (.int .i64 pl) ∧ wx.cell? ⟨w.heap.size, 1, none⟩ = some (.int .i64 pc) ∧ wx.frozen? ⟨w.heap.size, 0, none⟩ = false ∧ wx.frozen? ⟨w.heap.size, 1, none⟩ = false :=
 ⟨h.pos.cell 0, h.pos.cell 1, h.pos.frozen 0, h.pos.frozen 1⟩
end
theorem u8_eq (c : UInt8) (k : Nat) (h : k < 256) : ((c.toNat : Int) == (k : Int)) = (c == UInt8.ofNat k) := by
 rw [Bool.eq_iff_iff, beq_iff_eq, beq_iff_eq]
 constructor
 ·intro e; apply UInt8.toNat_inj.1; rw [UInt8.toNat_ofNat']; omega
 ·intro e; rw [e, UInt8.toNat_ofNat']; omega
end Go.Proofs.YtkemhmfdooghkaaGreatDoor.Lx
end

section
namespace Go.Proofs.YtkemhmfdooghkaaGreatDoor
open Go.RowKit
theorem ret_int {k : IntKind} {a b : Int} (h : a = b) : Ending.returned (.int k a) = .returned (.int k b) := by rw [h]
theorem ret_bool {a b : Bool} (h : a = b) : Ending.returned (.bool a) = .returned (.bool b) := by rw [h]
theorem block_of_add (a : Addr) (n : Nat) : (a.add n).block = a.block := by unfold Addr.add; split <;> rfl
def Reads (w : World) (B size : Nat) (A : Option Addr) (n : Nat) (xs : List Value) : Prop :=
 xs.length = n * size ∧ (0 < n → ∃ ad, A = some ad ∧ ad.block < B ∧ ∀ j u, xs[j]? = some u → w.cell? (ad.add j) = some u)
section
variable {w w' : World} {B B' size n : Nat} {A : Option Addr} {xs : List Value}
theorem Reads.none_ : Reads w B size A 0 [] := ⟨by simp, fun h => absurd h (by omega)⟩
theorem Reads.at_ {k : Nat} (h : Reads w B 1 A n xs) (hk : k < n) : ∃ ad u, A = some ad ∧ ad.block < B ∧ xs[k]? = some u ∧ w.cell? (ad.add k) = some u := by
 obtain ⟨ad, e, hb, hc⟩ := h.2 (by omega)
 have hl : k < xs.length := by have := h.1; omega
 exact ⟨ad, xs[k], e, hb, List.getElem?_eq_getElem hl, hc k _ (List.getElem?_eq_getElem hl)⟩
theorem Reads.spot {k : Nat} (h : Reads w B 1 A n xs) (hk : k < n) : ∃ b off u, A = some ⟨b, off, none⟩ ∧ b < B ∧ xs[k]? = some u ∧ w.cell? ⟨b, off + k, none⟩ = some u := by
 obtain ⟨⟨b, off, sp⟩, u, e, hb, hx, hc⟩ := h.at_ hk
 have hs : sp = none := by
  obtain ⟨ad, u0, e0, _, _, hc0⟩ := h.at_ (k := 0) (by omega)
  rw [e] at e0
  injection e0 with e0
  subst e0
  have := World.cell?_spot hc0
  simpa [Addr.add] using this
 subst hs
 refine ⟨b, off, u, e, hb, hx, ?_⟩
 have : (⟨b, off, none⟩ : Addr).add k = ⟨b, off + k, none⟩ := by unfold Addr.add; split <;> simp_all
 rwa [this] at hc
theorem Reads.keep (h : Reads w B size A n xs) (hk : ∀ p : Addr, p.block < B → w'.cell? p = w.cell? p) : Reads w' B size A n xs :=
 ⟨h.1, fun hn => by
   obtain ⟨ad, e, hb, hc⟩ := h.2 hn
   exact ⟨ad, e, hb, fun j u hu => (hk _ (by rw [block_of_add]; exact hb)).trans (hc j u hu)⟩⟩
theorem Reads.more (h : Reads w B size A n xs) (hB : B ≤ B') : Reads w B' size A n xs :=
 ⟨h.1, fun hn => by
   obtain ⟨ad, e, hb, hc⟩ := h.2 hn
   exact ⟨ad, e, by omega, hc⟩⟩
theorem Reads.below (h : Reads w B size A n xs) (hb : Below B w w') : Reads w' B size A n xs := h.keep fun _ hp => hb.cell hp
theorem Reads.drew (h : Reads w B size A n xs) : Reads w.drew B size A n xs := h
theorem Reads.drewN (h : Reads w B size A n xs) (k : Nat) : Reads (w.drewN k) B size A n xs := h
theorem Reads.alloc (h : Reads w B size A n xs) (hB : B ≤ w.heap.size) (o : Obj) : Reads (w.alloc o) B size A n xs := h.keep fun p hp => World.cell?_alloc_lt w o p (by omega)
theorem Reads.setCell (h : Reads w B size A n xs) {p : Addr} (hB : B ≤ p.block) (u : Value) : Reads (w.setCell p u) B size A n xs :=
 h.keep fun q hq => World.cell?_setCell_other w p q u (fun e => by subst e; omega)
theorem Reads.grown (h : Reads w B size A n xs) {row : Option Nat} (hg : w.grownBy w' row) (hB : B ≤ w.heap.size) (hr : ∀ g, row = some g → B ≤ g) : Reads w' B size A n xs :=
 h.keep fun p hp => World.cell?_of_block (hg.block p.block (by omega) (fun e => by have := hr _ e.symm; omega))
theorem Reads.of_own {base : Nat} {e : TypeId} {c : Nat} (h : w.ownsRow base e size (.slice A n c) n xs) : Reads w w.heap.size size A n xs := by
 refine ⟨h.1, fun hn => ?_⟩
 obtain ⟨g, cap, hv, _, hlt⟩ := h.form hn
 have hA : A = some ⟨g, 0, none⟩ := by injection hv
 subst hA
 exact ⟨_, rfl, hlt, h.cells (g := g) rfl⟩
end
theorem own_form {w : World} {base : Nat} {e : TypeId} {size : Nat} {v : Value} {n : Nat} {xs : List Value} (h : w.ownsRow base e size v n xs) : ∃ A c, v = .slice A n c ∧ Reads w w.heap.size size A n xs := by
 have h0 := h
 rcases h.2 with ⟨rfl, rfl⟩ | ⟨g, cap, cur, rfl, _⟩
 ·exact ⟨none, 0, rfl, h0.1, fun h => absurd h (by omega)⟩
 ·exact ⟨_, _, rfl, Reads.of_own h0⟩
end Go.Proofs.YtkemhmfdooghkaaGreatDoor
end

section
namespace Go.Proofs.YtkemhmfdooghkaaGreatDoor.Tr
open Go.RowKit
open Fl
structure Nd where
 kind : Nat
 pos : Nat × Nat
 name : ByteArray
 n : Int
inductive Fo where
 | no : Fo
 | node (d : Nd) (kids rest : Fo) : Fo
def Fo.len : Fo → Nat
 | .no => 0
 | .node _ _ r => r.len + 1
def Fo.count : Fo → Nat
 | .no => 0
 | .node _ k r => 1 + k.count + r.count
def Fo.same : Fo → Fo → Bool
 | .no, .no => true
 | .node d k r, .node d' k' r' => decide (d.kind = d'.kind) && decide (d.name = d'.name) && decide (d.n = d'.n) && k.same k' && r.same r'
 | _, _ => false
def Fo.exact : Fo → Fo → Bool
 | .no, .no => true
 | .node d k r, .node d' k' r' => decide (d.kind = d'.kind) && decide (d.name = d'.name) && decide (d.n = d'.n) && decide (d.pos = d'.pos) && k.exact k' && r.exact r'
 | _, _ => false
theorem Fo.same_refl : ∀ f : Fo, f.same f = true
 | .no => rfl
 | .node d k r => by simp [Fo.same, Fo.same_refl k, Fo.same_refl r]
def C (p : Nat × Nat) : Value := .complex .f64 (fl p.1) (fl p.2)
def At (w : World) (b : Nat) (d : Nd) (s : Value) : Prop :=
 w.cell? ⟨b, 0, none⟩ = some (.int .u8 d.kind) ∧ w.cell? ⟨b, 1, none⟩ = some (C d.pos) ∧ w.cell? ⟨b, 2, none⟩ = some (.string d.name) ∧ w.cell? ⟨b, 3, none⟩ = some (.int .i64 d.n) ∧ w.cell? ⟨b, 4, none⟩ = some s
def Rep (w : World) : Fo → List Value → Prop
 | .no, vs => vs = []
 | .node d k r, vs => ∃ b A c ks vs', vs = .pointer (some ⟨b, 0, none⟩) :: vs' ∧ At w b d (.slice A ks.length c) ∧ Reads w w.heap.size 1 A ks.length ks ∧ Rep w k ks ∧ Rep w r vs'
theorem cell_lt {w : World} {b o : Nat} {v : Value} (h : w.cell? ⟨b, o, none⟩ = some v) : b < w.heap.size := by
 rcases Nat.lt_or_ge b w.heap.size with h1 | h1
 ·exact h1
 ·unfold World.cell? at h
  simp [Array.getElem?_eq_none h1] at h
theorem At.lt {w : World} {b : Nat} {d : Nd} {s : Value} (h : At w b d s) : b < w.heap.size := cell_lt h.1
theorem At.below {w w' : World} {b : Nat} {d : Nd} {s : Value} (h : At w b d s) (hb : Below w.heap.size w w') : At w' b d s := by
 have hl := h.lt
 obtain ⟨h0, h1, h2, h3, h4⟩ := h
 exact ⟨(hb.cell (p := ⟨b, 0, none⟩) hl).trans h0, (hb.cell (p := ⟨b, 1, none⟩) hl).trans h1, (hb.cell (p := ⟨b, 2, none⟩) hl).trans h2, (hb.cell (p := ⟨b, 3, none⟩) hl).trans h3, (hb.cell (p := ⟨b, 4, none⟩) hl).trans h4⟩
theorem Rep.len {w : World} : ∀ {f : Fo} {vs : List Value}, Rep w f vs → vs.length = f.len
 | .no, vs, h => by unfold Rep at h; subst h; rfl
 | .node d k r, vs, h => by
   unfold Rep at h
   obtain ⟨b, A, c, ks, vs', rfl, _, _, _, h5⟩ := h
   simp [Fo.len, Rep.len h5]
theorem Rep.below {w w' : World} (hb : Below w.heap.size w w') : ∀ {f : Fo} {vs : List Value}, Rep w f vs → Rep w' f vs
 | .no, vs, h => by unfold Rep at h ⊢; exact h
 | .node d k r, vs, h => by
   unfold Rep at h ⊢
   obtain ⟨b, A, c, ks, vs', h1, h2, h3, h4, h5⟩ := h
   exact ⟨b, A, c, ks, vs', h1, h2.below hb, (h3.below hb).more hb.size, Rep.below hb h4, Rep.below hb h5⟩
theorem Rep.drewN {w : World} (n : Nat) {f : Fo} {vs : List Value} (h : Rep w f vs) : Rep (w.drewN n) f vs := h.below (below_drewN (Below.refl _ _) n)
end Go.Proofs.YtkemhmfdooghkaaGreatDoor.Tr
end

section
namespace Go.Proofs.YtkemhmfdooghkaaGreatDoor.Tr
open Go.RowKit
open Fl
theorem Rep.head {w : World} {d : Nd} {k r : Fo} {vs : List Value} (h : Rep w (.node d k r) vs) : ∃ v vs', vs = v :: vs' ∧ Rep w (.node d k .no) [v] ∧ Rep w r vs' := by
 unfold Rep at h
 obtain ⟨b, A, c, ks, vs', rfl, h2, h3, h4, h5⟩ := h
 exact ⟨_, _, rfl, ⟨b, A, c, ks, [], rfl, h2, h3, h4, rfl⟩, h5⟩
theorem Rep.one {w : World} {d : Nd} {k : Fo} {v : Value} (h : Rep w (.node d k .no) [v]) : ∃ b A c ks, v = .pointer (some ⟨b, 0, none⟩) ∧ At w b d (.slice A ks.length c) ∧ Reads w w.heap.size 1 A ks.length ks ∧ Rep w k ks := by
 unfold Rep at h
 obtain ⟨b, A, c, ks, vs', h1, h2, h3, h4, h5⟩ := h
 simp only [List.cons.injEq] at h1
 exact ⟨b, A, c, ks, h1.1, h2, h3, h4⟩
theorem Rep.at_ {w : World} {f : Fo} {vs : List Value} {i : Nat} (h : Rep w f (vs.drop i)) (hi : i < vs.length) : ∃ d k r, f = .node d k r ∧ Rep w (.node d k .no) [vs[i]] ∧ Rep w r (vs.drop (i + 1)) := by
 cases f with
 | no => unfold Rep at h; simp at h; omega
 | node d k r =>
   obtain ⟨v, vs', e, h1, h2⟩ := h.head
   rw [List.drop_eq_getElem_cons hi] at e
   simp only [List.cons.injEq] at e
   obtain ⟨rfl, rfl⟩ := e
   exact ⟨d, k, r, rfl, h1, h2⟩
theorem Rep.end_ {w : World} {f : Fo} {vs : List Value} {i : Nat} (h : Rep w f (vs.drop i)) (hi : ¬ i < vs.length) : f = .no := by
 cases f with
 | no => rfl
 | node d k r =>
   obtain ⟨v, vs', e, h1, h2⟩ := h.head
   rw [List.drop_eq_nil_of_le (by omega)] at e
   cases e
theorem Reads.nth {w : World} {B : Nat} {A : Option Addr} {vs : List Value} {i : Nat} (h : Reads w B 1 A vs.length vs) (hi : i < vs.length) : ∃ b off, A = some ⟨b, off, none⟩ ∧ w.cell? ⟨b, off + i, none⟩ = some vs[i] := by
 obtain ⟨b, off, u, e, _, hx, hc⟩ := h.spot hi
 rw [List.getElem?_eq_getElem hi] at hx
 injection hx with hx
 subst hx
 exact ⟨b, off, e, hc⟩
end Go.Proofs.YtkemhmfdooghkaaGreatDoor.Tr
end

section
namespace Go.Proofs.YtkemhmfdooghkaaGreatDoor.Tr
open Go.RowKit
open Fl
theorem At.drewN {w : World} {b : Nat} {d : Nd} {s : Value} (n : Nat) (h : At w b d s) : At (w.drewN n) b d s := h
end Go.Proofs.YtkemhmfdooghkaaGreatDoor.Tr
end

section
namespace Go.Proofs.YtkemhmfdooghkaaGreatDoor.Tr
open Go.RowKit
open Fl
end Go.Proofs.YtkemhmfdooghkaaGreatDoor.Tr
end

section
namespace Go.Proofs.YtkemhmfdooghkaaGreatDoor.Tr
open Go.RowKit
open Fl
def Blk (w : World) (g : Nat) (t : TypeId) (cs : Array Value) : Prop := w.heap[g]? = some (.cells cs t (0, 0))
section
variable {w w' : World} {g : Nat} {t : TypeId} {cs : Array Value}
theorem Blk.lt (h : Blk w g t cs) : g < w.heap.size := by
 rcases Nat.lt_or_ge g w.heap.size with hlt | hge
 ·exact hlt
 ·unfold Blk at h; rw [Array.getElem?_eq_none hge] at h; cases h
theorem Blk.cell (h : Blk w g t cs) (i : Nat) : w.cell? ⟨g, i, none⟩ = cs[i]? := cell_of_row w g i cs t (0, 0) h
theorem Blk.frozen (h : Blk w g t cs) (i : Nat) : w.frozen? ⟨g, i, none⟩ = false := by
 unfold Blk at h
 simp [World.frozen?, h]
theorem Blk.new (w : World) (t : TypeId) (cs : Array Value) : Blk (w.alloc (.cells cs t)) w.heap.size t cs := heap_alloc_new w _
theorem Blk.drew (h : Blk w g t cs) : Blk w.drew g t cs := h
theorem Blk.drewN (h : Blk w g t cs) (n : Nat) : Blk (w.drewN n) g t cs := h
theorem Blk.alloc (h : Blk w g t cs) (o : Obj) : Blk (w.alloc o) g t cs := (Below.heap_alloc w o g h.lt).trans h
theorem Blk.set_ (h : Blk w g t cs) (i : Nat) (u : Value) : Blk (w.setCell ⟨g, i, none⟩ u) g t (cs.setIfInBounds i u) := by
 unfold Blk at h ⊢
 simp [World.setCell, Array.getElem?_modify, h]
theorem Blk.far (h : Blk w g t cs) {p : Addr} (hp : g ≠ p.block) (u : Value) : Blk (w.setCell p u) g t cs := (Below.heap_setCell w p u g hp).trans h
theorem Blk.below {B : Nat} (h : Blk w g t cs) (hb : Below B w w') (hg : g < B) : Blk w' g t cs := (hb.block g hg).trans h
theorem Blk.grown {row : Option Nat} (h : Blk w g t cs) (hb : w.grownBy w' row) (hg : some g ≠ row) : Blk w' g t cs := (hb.block g h.lt hg).trans h
theorem Blk.ne_ {g' : Nat} {t' : TypeId} {cs' : Array Value} (h : Blk w g t cs) (h' : Blk w g' t' cs') (hne : t ≠ t') : g ≠ g' := by
 rintro rfl
 unfold Blk at h h'
 rw [h] at h'
 injection h' with h'
 injection h' with _ ht
 exact hne ht
theorem own_blk_ne {base : Nat} {e : TypeId} {size n : Nat} {v : Value} {xs : List Value} (h : w.ownsRow base e size v n xs) (hg : Blk w g t cs) (hne : e ≠ t) : v.ownBlock ≠ some g := by
 rcases h.2 with ⟨rfl, _⟩ | ⟨g', cap, cur, rfl, _, hh, _⟩
 ·simp [Value.ownBlock]
 ·intro he
  have : g' = g := by simpa [Value.ownBlock] using he
  subst this
  exact Blk.ne_ (t := e) hh hg hne rfl
end
def cellsN (d : Nd) (s : Value) : Array Value := #[.int .u8 d.kind, C d.pos, .string d.name, .int .i64 d.n, s]
theorem Blk.at_ {w : World} {b : Nat} {d : Nd} {s : Value} (h : Blk w b 38 (cellsN d s)) : At w b d s :=
 ⟨h.cell 0, h.cell 1, h.cell 2, h.cell 3, h.cell 4⟩
def RepS (S : Nat → Prop) (w : World) : Fo → List Value → Prop
 | .no, vs => vs = []
 | .node d k r, vs => ∃ b A c ks vs', vs = .pointer (some ⟨b, 0, none⟩) :: vs' ∧ S b ∧ At w b d (.slice A ks.length c) ∧ (0 < ks.length → ∃ g off, A = some ⟨g, off, none⟩ ∧ S g ∧ g < w.heap.size) ∧ Reads w w.heap.size 1 A ks.length ks ∧ RepS S w k ks ∧ RepS S w r vs'
theorem RepS.rep {S : Nat → Prop} {w : World} : ∀ {f : Fo} {vs : List Value}, RepS S w f vs → Rep w f vs
 | .no, vs, h => by unfold RepS at h; unfold Rep; exact h
 | .node d k r, vs, h => by
   unfold RepS at h; unfold Rep
   obtain ⟨b, A, c, ks, vs', h1, h2, h3, h4, h5, h6, h7⟩ := h
   exact ⟨b, A, c, ks, vs', h1, h3, h5, RepS.rep h6, RepS.rep h7⟩
theorem RepS.keep {S S' : Nat → Prop} {w w' : World} (hsz : w.heap.size ≤ w'.heap.size) (hk : ∀ x, S x → x < w.heap.size → w'.heap[x]? = w.heap[x]?) (hS : ∀ x, S x → x < w.heap.size → S' x) : ∀ {f : Fo} {vs : List Value}, RepS S w f vs → RepS S' w' f vs
 | .no, vs, h => by unfold RepS at h ⊢; exact h
 | .node d k r, vs, h => by
   unfold RepS at h ⊢
   obtain ⟨b, A, c, ks, vs', h1, h2, h3, h4, h5, h6, h7⟩ := h
   have hb := hk b h2 h3.lt
   have hc : ∀ o, w'.cell? ⟨b, o, none⟩ = w.cell? ⟨b, o, none⟩ := fun o => World.cell?_of_block hb
   refine ⟨b, A, c, ks, vs', h1, hS b h2 h3.lt, ?_, fun h0 => ?_, ⟨h5.1, fun h0 => ?_⟩, RepS.keep hsz hk hS h6, RepS.keep hsz hk hS h7⟩
   ·obtain ⟨a0, a1, a2, a3, a4⟩ := h3
    exact ⟨(hc 0).trans a0, (hc 1).trans a1, (hc 2).trans a2, (hc 3).trans a3, (hc 4).trans a4⟩
   ·obtain ⟨g, off, e, hg, hl⟩ := h4 h0
    exact ⟨g, off, e, hS g hg hl, by omega⟩
   ·obtain ⟨g, off, e, hg, hl⟩ := h4 h0
    obtain ⟨ad, e2, hlt, hcl⟩ := h5.2 h0
    rw [e] at e2
    injection e2 with e2
    subst e2
    refine ⟨_, e, by simp; omega, fun j u hu => ?_⟩
    rw [← hcl j u hu]
    refine World.cell?_of_block ?_
    rw [block_of_add]
    exact hk g hg hl
theorem RepS.below {S : Nat → Prop} {w w' : World} (hb : Below w.heap.size w w') {f : Fo} {vs : List Value} (h : RepS S w f vs) : RepS S w' f vs :=
 h.keep hb.size (fun x _ hx => hb.block x hx) (fun x hx _ => hx)
theorem RepS.more {S S' : Nat → Prop} {w : World} {f : Fo} {vs : List Value} (h : RepS S w f vs) (hS : ∀ x, S x → x < w.heap.size → S' x) : RepS S' w f vs :=
 h.keep (Nat.le_refl _) (fun _ _ _ => rfl) hS
def Fo.snoc : Fo → Nd → Fo → Fo
 | .no, d, k => .node d k .no
 | .node d' k' r, d, k => .node d' k' (r.snoc d k)
theorem RepS.snoc {S : Nat → Prop} {w : World} {d : Nd} {k : Fo} {v : Value} (h2 : RepS S w (.node d k .no) [v]) : ∀ {f : Fo} {vs : List Value}, RepS S w f vs → RepS S w (f.snoc d k) (vs ++ [v])
 | .no, vs, h => by unfold RepS at h; subst h; exact h2
 | .node d' k' r, vs, h => by
   unfold RepS at h
   obtain ⟨b, A, c, ks, vs', rfl, g2, g3, g4, g5, g6, g7⟩ := h
   show RepS S w (.node d' k' (r.snoc d k)) _
   unfold RepS
   exact ⟨b, A, c, ks, vs' ++ [v], rfl, g2, g3, g4, g5, g6, RepS.snoc h2 g7⟩
theorem RepS.mk {S : Nat → Prop} {w : World} {b base : Nat} {d : Nd} {s : Value} {f : Fo} {xs : List Value} (hb : Blk w b 38 (cellsN d s)) (hown : w.ownsRow base 31 1 s xs.length xs) (hk : RepS S w f xs) (hSb : S b) (hSr : ∀ g, s.ownBlock = some g → S g) :
 RepS S w (.node d f .no) [.pointer (some ⟨b, 0, none⟩)] := by
 obtain ⟨A, c, rfl, hR⟩ := own_form hown
 unfold RepS
 refine ⟨b, A, c, xs, [], rfl, hSb, hb.at_, fun h0 => ?_, hR, hk, rfl⟩
 obtain ⟨g, cap, hv, _, hlt⟩ := hown.form h0
 have hA : A = some ⟨g, 0, none⟩ := by injection hv
 subst hA
 exact ⟨g, 0, rfl, hSr g rfl, hlt⟩
end Go.Proofs.YtkemhmfdooghkaaGreatDoor.Tr
end
