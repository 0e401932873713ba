import Derived.Test.YtkemhmfdooghkaaGreatDoorV42
import Derived.Test.YtkemhmfdooghkaaGreatDoorV4
import Derived.RangeFuncFrom
import Derived.RangeFuncBox
import Derived.RangeFuncCalls
import Derived.RangeFuncLeaves
set_option linter.unusedSimpArgs false
set_option linter.unusedVariables false
set_option maxRecDepth 100000
set_option maxHeartbeats 6400000
namespace Go.Proofs.YtkemhmfdooghkaaGreatDoor
namespace Lx
open Go.RowKit
open Pl Fl
attribute [local go_sem] run_store_complexL
theorem tokEnd.form {l : List UInt8} {r : Except Nat (Tk × Nat)} {e : Ending} (h : tokEnd l r e) : ∃ (a : Nat) (b : ByteArray) (c n k : Int), e = .returned (.tuple #[.agg #[.int .u8 a, .complex .f64 0 0, .complex .f64 0 0, .string b, .int .i64 c], .int .i64 n, .int .i64 k]) := by
 cases r with
 | ok x =>
   obtain ⟨⟨a, b, c⟩, n⟩ := x
   have h : e = _ := h
   rw [tok_vals0] at h
   exact ⟨a, b, c, n, 0, h⟩
 | error k =>
   obtain ⟨⟨a, b, c⟩, n, _, h⟩ := h
   rw [tok_vals0] at h
   exact ⟨a, b, c, n, k, h⟩
theorem token_any (s : ByteArray) (h0 : 0 < s.size) (hs : s.size ≤ 281474976710656) {w : World} (E : EnvS w) :
 Calls Tryz.prog 56 #[.string s] w fun e w' => tokEnd s.data.toList (oneN s.data.toList) e ∧ Below w.heap.size w w' := by
 have i0 : (0 : Int) < (s.size : Int) := by omega
 have RL := qh (fun c w => letter_any c w)
 have RD := qh (fun c w => digit_any c w)
 have q34 : s[0] = 34 → ((s[0].toNat : Int) == 34) = true := fun h => by rw [h]; rfl
 have q34' : s[0] ≠ 34 → ((s[0].toNat : Int) == 34) = false := fun h => ne_u8 34 (by omega) h
 have q39 : s[0] = 39 → ((s[0].toNat : Int) == 39) = true := fun h => by rw [h]; rfl
 have q39' : s[0] ≠ 39 → ((s[0].toNat : Int) == 39) = false := fun h => ne_u8 39 (by omega) h
 have HN := qh (fun (hc : isL s[0] = true) (w' : World) (E' : EnvS w') => name_any s h0 (by omega) hc E')
 have HM := qh (fun (hc : isD s[0] = true) (w' : World) (E' : EnvS w') => number_anyP s h0 hs hc E')
 have HT := qh (fun hl hd hq (w' : World) => text_any s h0 (by omega) hl hd hq w')
 have HS := qh (fun hl hd hq (w' : World) => symbol_anyP s h0 (by omega) hl hd hq w')
 have hal := (Below.refl w.heap.size w).alloc nl (.cells #[.int .u8 0, .complex .f64 0 0, .complex .f64 0 0, .string ⟨#[]⟩, .int .i64 0] 40)
 have HEn := qh (E.below nl hal)
 have HAL := qh hal
 clear E hal
 go_enter Tryz.func56, Tryz.ntmps56
 go_wp2_with fail
 ((with_reducible refine (RL.out _ _).mono ?_); rintro e w1 ⟨rfl, rfl⟩)
 cases hl : isL s[0]
 case' true =>
  go_wp2_with fail
  (refine (HN.out hl _ HEn.out).mono ?_)
  rintro e w3 ⟨ht, hb⟩
  obtain ⟨ka, kb, kc, kn, kk, rfl⟩ := ht.form
  have HTK := qh ht
  have hz := hb.size
  rw [World.size_alloc] at hz
  have hlt1 : w.heap.size < w3.heap.size := by omega
  have hB0 := (Blk.new w 40 #[.int .u8 0, .complex .f64 0 0, .complex .f64 0 0, .string ⟨#[]⟩, .int .i64 0]).below hb (by simp)
  have hBl : Hid (Below w.heap.size w w3) := qh (HAL.out.trans (hb.mono (by simp)))
  obtain ⟨m0, m1, m2, m3, m4, f0, f1, f2, f3, f4⟩ := hB0.tok
  have HB0 := qh hB0
  clear hB0 hb hz ht
  go_wp2
  (try simp only [Exit.inBlock, Exit.then])
  refine bodyPost_ret (tok_ret3 rfl _ _ w.heap.size _ _ _ _ _ rfl (tok_stored HB0.out _ _ _ _ _)) rfl ?_
  exact ⟨HTK.out, below_stored hBl.out nl _ _ _ _ _⟩
 go_wp2_with fail
 ((with_reducible refine (RD.out _ _).mono ?_); rintro e w1 ⟨rfl, rfl⟩)
 cases hd : isD s[0]
 case' true =>
  go_wp2_with fail
  (refine (HM.out hd _ HEn.out).mono ?_)
  rintro e w3 ⟨ht, hb⟩
  obtain ⟨ka, kb, kc, kn, kk, rfl⟩ := ht.form
  have HTK := qh ht
  have hz := hb.size
  rw [World.size_alloc] at hz
  have hlt1 : w.heap.size < w3.heap.size := by omega
  have hB0 := (Blk.new w 40 #[.int .u8 0, .complex .f64 0 0, .complex .f64 0 0, .string ⟨#[]⟩, .int .i64 0]).below hb (by simp)
  have hBl : Hid (Below w.heap.size w w3) := qh (HAL.out.trans (hb.mono (by simp)))
  obtain ⟨m0, m1, m2, m3, m4, f0, f1, f2, f3, f4⟩ := hB0.tok
  have HB0 := qh hB0
  clear hB0 hb hz ht
  go_wp2
  (try simp only [Exit.inBlock, Exit.then])
  refine bodyPost_ret (tok_ret3 rfl _ _ w.heap.size _ _ _ _ _ rfl (tok_stored HB0.out _ _ _ _ _)) rfl ?_
  exact ⟨HTK.out, below_stored hBl.out nl _ _ _ _ _⟩
 by_cases h34 : s[0] = 34
 case' pos =>
  have t1 := q34 h34
  have HQ := qh (HT.out hl hd (.inl h34))
  clear q34 q34' q39 q39' h34
  go_wp2_with fail
  (refine (HQ.out _).mono ?_)
  rintro e w3 ⟨ht, hb⟩
  obtain ⟨ka, kb, kc, kn, kk, rfl⟩ := ht.form
  have HTK := qh ht
  have hz := hb.size
  rw [World.size_alloc] at hz
  have hlt1 : w.heap.size < w3.heap.size := by omega
  have hB0 := (Blk.new w 40 #[.int .u8 0, .complex .f64 0 0, .complex .f64 0 0, .string ⟨#[]⟩, .int .i64 0]).below hb (by simp)
  have hBl : Hid (Below w.heap.size w w3) := qh (HAL.out.trans (hb.mono (by simp)))
  obtain ⟨m0, m1, m2, m3, m4, f0, f1, f2, f3, f4⟩ := hB0.tok
  have HB0 := qh hB0
  clear hB0 hb hz ht
  go_wp2
  (try simp only [Exit.inBlock, Exit.then])
  refine bodyPost_ret (tok_ret3 rfl _ _ w.heap.size _ _ _ _ _ rfl (tok_stored HB0.out _ _ _ _ _)) rfl ?_
  exact ⟨HTK.out, below_stored hBl.out nl _ _ _ _ _⟩
 have t1 := q34' h34
 by_cases h39 : s[0] = 39
 case' pos =>
  have t2 := q39 h39
  have HQ := qh (HT.out hl hd (.inr h39))
  clear q34 q34' q39 q39' h39 h34
  go_wp2_with fail
  (refine (HQ.out _).mono ?_)
  rintro e w3 ⟨ht, hb⟩
  obtain ⟨ka, kb, kc, kn, kk, rfl⟩ := ht.form
  have HTK := qh ht
  have hz := hb.size
  rw [World.size_alloc] at hz
  have hlt1 : w.heap.size < w3.heap.size := by omega
  have hB0 := (Blk.new w 40 #[.int .u8 0, .complex .f64 0 0, .complex .f64 0 0, .string ⟨#[]⟩, .int .i64 0]).below hb (by simp)
  have hBl : Hid (Below w.heap.size w w3) := qh (HAL.out.trans (hb.mono (by simp)))
  obtain ⟨m0, m1, m2, m3, m4, f0, f1, f2, f3, f4⟩ := hB0.tok
  have HB0 := qh hB0
  clear hB0 hb hz ht
  go_wp2
  (try simp only [Exit.inBlock, Exit.then])
  refine bodyPost_ret (tok_ret3 rfl _ _ w.heap.size _ _ _ _ _ rfl (tok_stored HB0.out _ _ _ _ _)) rfl ?_
  exact ⟨HTK.out, below_stored hBl.out nl _ _ _ _ _⟩
 have t2 := q39' h39
 have HQ := qh (HS.out hl hd (fun h => h.elim h34 h39))
 clear q34 q34' q39 q39' h39 h34
 go_wp2_with fail
 (refine (HQ.out _).mono ?_)
 rintro e w3 ⟨ht, hb⟩
 obtain ⟨ka, kb, kc, kn, kk, rfl⟩ := ht.form
 have HTK := qh ht
 have hz := hb.size
 rw [World.size_alloc] at hz
 have hlt1 : w.heap.size < w3.heap.size := by omega
 have hB0 := (Blk.new w 40 #[.int .u8 0, .complex .f64 0 0, .complex .f64 0 0, .string ⟨#[]⟩, .int .i64 0]).below hb (by simp)
 have hBl : Hid (Below w.heap.size w w3) := qh (HAL.out.trans (hb.mono (by simp)))
 obtain ⟨m0, m1, m2, m3, m4, f0, f1, f2, f3, f4⟩ := hB0.tok
 have HB0 := qh hB0
 clear hB0 hb hz ht
 go_wp2
 (try simp only [Exit.inBlock, Exit.then])
 refine bodyPost_ret (tok_ret3 rfl _ _ w.heap.size _ _ _ _ _ rfl (tok_stored HB0.out _ _ _ _ _)) rfl ?_
 exact ⟨HTK.out, below_stored hBl.out nl _ _ _ _ _⟩
end Lx
namespace Lx
open Go.RowKit
open Pl Fl
theorem isBl_isB : isBl = isB := isBl_eq
theorem item_isB {s : List UInt8} (h : isB (s.head?.getD 0) = true) : item s = .blank 1 := by unfold item; rw [if_pos h]
theorem scan_run {src : List UInt8} : ∀ (m i : Nat), runN isB (src.drop i) = m → scanAt src i = scanAt src (i + m) := by
 intro m
 induction m with
 | zero => intro i _; rfl
 | succ m ih =>
   intro i h
   rcases Nat.lt_or_ge i src.length with hlt | hge
   ·rw [List.drop_eq_getElem_cons hlt] at h
    cases hb : isB src[i]
    ·rw [runN_no hb] at h; cases h
    ·rw [runN_yes hb] at h
     have h2 : item (src.drop i) = .blank 1 := item_isB (by rw [List.drop_eq_getElem_cons hlt]; exact hb)
     rw [scanAt_blank hlt h2, ih (i + 1) (by omega)]
     congr 1
     omega
   ·rw [List.drop_of_length_le hge, runN_nil] at h; cases h
theorem pre_take (s : List UInt8) : preB s [40, 42] = true ↔ s.take 2 = [40, 42] := by
 unfold preB
 rw [beq_iff_eq]
 rfl
theorem blank_cases {src : List UInt8} {i : Nat} (h : i < src.length) :
 (∃ n, 1 ≤ n ∧ i + n ≤ src.length ∧ blankP (src.drop i) = (n, 0) ∧ scanAt src i = scanAt src (i + n)) ∨
 (blankP (src.drop i) = (0, 43) ∧ scanAt src i = .error (i, 43)) ∨
 (blankP (src.drop i) = (0, 0) ∧ scanAt src i = match oneN (src.drop i) with
   | .error k => .error (i, k)
   | .ok (t, n) => (scanAt src (i + n)).map ((t, i, i + n) :: ·)) := by
 have hle := runN_le isBl (src.drop i)
 rw [List.length_drop] at hle
 by_cases h0 : 0 < runN isBl (src.drop i)
 ·refine .inl ⟨runN isBl (src.drop i), h0, by omega, by unfold blankP; rw [if_pos h0], ?_⟩
  rw [isBl_isB]
  exact scan_run _ i rfl
 ·have hb0 : isB ((src.drop i).head?.getD 0) = false := by
   have hd := List.drop_eq_getElem_cons h
   cases hb : isB src[i]
   ·rw [hd]; exact hb
   ·rw [isBl_isB, hd, runN_yes hb] at h0
    omega
  by_cases hp : (src.drop i).take 2 = [40, 42]
  ·have hpb := (pre_take _).2 hp
   by_cases hc : cmt 0 0 (src.drop i) = 0
   ·refine .inr (.inl ⟨by unfold blankP; rw [if_neg h0, if_pos hpb, if_pos hc], ?_⟩)
    exact scanAt_bad h (by unfold item; rw [if_neg (by rw [hb0]; simp), if_pos hp, if_pos hc])
   ·have hi : item (src.drop i) = .blank (cmt 0 0 (src.drop i)) := by unfold item; rw [if_neg (by rw [hb0]; simp), if_pos hp, if_neg hc]
    have hbd := (item_in h).1 _ hi
    refine .inl ⟨cmt 0 0 (src.drop i), hbd.1, hbd.2, by unfold blankP; rw [if_neg h0, if_pos hpb, if_neg hc], ?_⟩
    exact scanAt_blank h hi
  ·have hpb : ¬ preB (src.drop i) [40, 42] = true := fun e => hp ((pre_take _).1 e)
   refine .inr (.inr ⟨by unfold blankP; rw [if_neg h0, if_neg hpb], ?_⟩)
   have hi : item (src.drop i) = match oneN (src.drop i) with | .error e => .bad e | .ok (t, n) => .tok t n := by
    rw [item, if_neg (by rw [hb0]; simp), if_neg hp] <;> (cases oneN (src.drop i) <;> rfl)
   cases ho : oneN (src.drop i) with
   | error k => rw [ho] at hi; exact scanAt_bad h hi
   | ok x =>
     obtain ⟨t, n⟩ := x
     rw [ho] at hi
     exact scanAt_tok h hi
end Lx
end Go.Proofs.YtkemhmfdooghkaaGreatDoor
namespace Go.Proofs.YtkemhmfdooghkaaGreatDoor
open Go.RowKit
def AbT {β : Type} (T : Nat → Obj → Prop) (J : β → World → Prop) : Prop :=
 ∀ s W W' row, J s W → W.grownBy W' row → (∀ r, row = some r → ∃ o : Obj, W.heap[r]? = some o ∧ T r o) → J s W'
theorem AbT.and {β : Type} {T : Nat → Obj → Prop} {J K : β → World → Prop} (h : AbT T J) (k : AbT T K) : AbT T (fun s W => J s W ∧ K s W) :=
 fun s W W' row hs hg hr => ⟨h s W W' row hs.1 hg hr, k s W W' row hs.2 hg hr⟩
theorem AbT.sub {β : Type} {T T' : Nat → Obj → Prop} {J : β → World → Prop} (h : AbT T J) (hT : ∀ r o, T' r o → T r o) : AbT T' J :=
 fun s W W' row hs hg hr => h s W W' row hs hg fun r e => by obtain ⟨o, h1, h2⟩ := hr r e; exact ⟨o, h1, hT r o h2⟩
theorem AbT.alloc {β : Type} {T : Nat → Obj → Prop} {J : β → World → Prop} (h : AbT T J) {s : β} {W : World} (hs : J s W) (o : Obj) : J s (W.alloc o) :=
 h s W _ none hs (World.grownBy_alloc W o none) (fun r e => by cases e)
theorem AbT.put {β : Type} {T : Nat → Obj → Prop} {J : β → World → Prop} (h : AbT T J) {s : β} {W : World} (hs : J s W) {r : Nat} {o : Obj} (hr : W.heap[r]? = some o) (ho : T r o) (o' : Obj) : J s (W.putObj r o') :=
 h s W _ (some r) hs (grownBy_putObj' W r o') (fun q e => by cases e; exact ⟨o, hr, ho⟩)
theorem AbT.below {β : Type} {T : Nat → Obj → Prop} {n₀ : Nat} {w₀ : World} (hn : n₀ ≤ w₀.heap.size) (hT : ∀ r o, T r o → n₀ ≤ r) : AbT T (fun (_ : β) W => Below n₀ w₀ W) :=
 fun _ _ _ _ hs hg hr => hs.grown hg (Nat.le_trans hn hs.size) (fun k e => by obtain ⟨o, _, h⟩ := hr k e; exact hT k o h)
def SeqT {α : Type} (T : Nat → Nat → Obj → Prop) (P : Program) (n g : Nat) (lb : Array Value) (encs : α → Array Value) (Kp : World → World → Prop) (S Sp : List α → Prop) (Ok : List α → α → Prop) (w : World) : Prop :=
 ∀ (l : Nat) (J Jx : List α → World → Prop) (W : World), Below w.heap.size w W → AbT (T W.heap.size) J → AbT (T W.heap.size) Jx →
  (∀ pre x W1, J pre W1 → Ok pre x → YieldAt Fence.wide (n - 1) P l (encs x) W1 fun e W' =>
    (e = .returned (.bool true) ∧ J (pre ++ [x]) W' ∧ Kp W1 W') ∨ (e = .returned (.bool false) ∧ Jx (pre ++ [x]) W')) →
  J [] W →
  CallsIn Fence.wide n P g (#[.func (.yield l) #[] #[]] ++ lb) W fun e W' => (∃ v, e = .returned v) ∧ ((∃ xs, S xs ∧ J xs W') ∨ (∃ pre, Sp pre ∧ Jx pre W'))
def LoopT (T : Nat → Obj → Prop) (B : Nat) (r : Nat) (o : Obj) : Prop := T r o ∨ (B ≤ r ∧ ((∃ L, o = .loop L) ∨ ∃ d, o = .deferred d))
theorem other_kept {T : Nat → Obj → Prop} (hT : ∀ r o, T r o → (∀ L, o ≠ .loop L) ∧ ∀ d, o ≠ .deferred d) {W W' : World} {row : Option Nat} (hg : W.grownBy W' row) (hr : ∀ r, row = some r → ∃ o : Obj, W.heap[r]? = some o ∧ T r o)
 {k : Nat} {o : Obj} (hk : W.heap[k]? = some o) (ho : (∃ L, o = .loop L) ∨ ∃ d, o = .deferred d) : W'.heap[k]? = some o := by
 refine (hg.block k (Array.getElem?_eq_some_iff.1 hk).1 ?_).trans hk
 intro e
 obtain ⟨q, hq, ht⟩ := hr k e.symm
 rw [hk] at hq
 injection hq with hq
 subst hq
 rcases ho with ⟨L, rfl⟩ | ⟨d, rfl⟩
 ·exact (hT _ _ ht).1 L rfl
 ·exact (hT _ _ ht).2 d rfl
section
variable {P : Program} {n : Nat}
theorem range_T {α : Type} {g : Operand} {ps : Array Tmp} {assign body : Code} {Q : Exit → Act → World → Prop} {a : Act} {w : World} (h1 : 1 ≤ n) {gf : Nat} {lb : Array Value} (hg : a.eval g = .func (.func gf) #[] lb)
 (eg : ∀ args w, (callFunc gf args).run P w = .ok (.enter gf args) w) {T : Nat → Nat → Obj → Prop} {encs : α → Array Value} {Kp : World → World → Prop} {S Sp : List α → Prop} {Ok : List α → α → Prop} {w0 : World}
 (hseq : SeqT T P (n - 1) gf lb encs Kp S Sp Ok w0) (hT : ∀ B r o, T B r o → (∀ L, o ≠ .loop L) ∧ ∀ d, o ≠ .deferred d)
 (hKt : ∀ {A B C : World}, Kp A B → Kp B C → Kp A C) (hKb : ∀ (W : World) (l : Nat) (L L' : Loop), w.heap.size ≤ l → W.heap[l]? = some (.loop L) → Kp W (W.putObj l (.loop L')))
 (hb0 : Below w0.heap.size w0 w) (hps : ∀ x, (encs x).size = ps.size)
 (I : List α → World → Prop) (I1 : List α → α → Act → World → Prop) (Ix : Code → List α → World → Prop)
 (hI : AbT (LoopT (T (w.heap.size + 2)) w.heap.size) I) (hI1 : ∀ a1 x, AbT (LoopT (T (w.heap.size + 2)) w.heap.size) (fun pre W => I1 pre x a1 W)) (hIx : ∀ c, AbT (LoopT (T (w.heap.size + 2)) w.heap.size) (Ix c)) (h0 : I [] w)
 (hassign : ∀ (l : Nat) (pre : List α) (x : α) (W : World), I pre W → Ok pre x → w.heap.size + 2 ≤ W.heap.size →
   assign.wpIn (Fence.wide.inRound l) (n - 1 - 1) P (Exit.then (fun a1 W1 => KeepsOthers W W1 ∧ Kp W W1 ∧ I1 pre x a1 W1) (fun _ _ _ => False)) { tmps := (ps.zip (encs x)).foldl (fun t (p, v) => t.setIfInBounds p v) a.tmps, defers := [] } W)
 (hbody : ∀ (l : Nat) (pre : List α) (x : α) (a1 : Act) (W : World), I1 pre x a1 W → Ok pre x → body.wpIn (Fence.wide.inRound l) (n - 1 - 1) P (ownPostK Kp I Ix (pre ++ [x]) W) a1 W)
 (hdone : ∀ (D : Nat) (xs : List α) (W : World), w.heap.size ≤ D → S xs → I xs W → W.heap[D]? = some (.deferred (some [])) → Q .normal { a with defers := { target := .collected D, args := #[] } :: a.defers } W)
 (hstop : ∀ (D : Nat) (c : Code) (pre : List α) (W : World), w.heap.size ≤ D → Sp pre → Ix c pre W → W.heap[D]? = some (.deferred (some [])) → c.wpIn Fence.wide n P Q { a with defers := { target := .collected D, args := #[] } :: a.defers } W) :
 (Code.rangeFunc g ps assign body).wpIn Fence.wide n P Q a w := by
 refine wpIn_rangeFunc fun fn hfn => ?_
 obtain ⟨B, hB⟩ : ∃ B, w.heap.size = B := ⟨_, rfl⟩
 obtain ⟨rec, hrec⟩ : ∃ rec : LoopState → Option Code → Loop, rec = fun st pe => { state := st, pending := pe, fn, tmps := a.tmps, params := ps, assign, body, defers := B } := ⟨_, rfl⟩
 obtain ⟨W1, hW1⟩ : ∃ W1, (w.alloc (.deferred (some []))).alloc (.loop (rec .ready none)) = W1 := ⟨_, rfl⟩
 have hsz : W1.heap.size = B + 2 := by rw [← hW1]; simp [hB]
 have hD1 : W1.heap[B]? = some (.deferred (some [])) := by
  rw [← hW1, ← hB]; exact (Below.heap_alloc _ _ _ (by simp)).trans (World.alloc_heap_new w _)
 have hL1 : W1.heap[B + 1]? = some (.loop (rec .ready none)) := by
  rw [← hW1, ← hB]
  have := World.alloc_heap_new (w.alloc (.deferred (some []))) (.loop (rec .ready none))
  rwa [World.size_alloc] at this
 have hI0 : I [] W1 := by rw [← hW1]; exact hI.alloc (hI.alloc h0 _) _
 have hb1 : Below w0.heap.size w0 W1 := by
  rw [← hW1]; exact hb0.trans ((((Below.refl _ w).alloc nl _).alloc (by simp) _).mono hb0.size)
 rw [hB] at hI hI1 hIx hassign hdone hstop hKb
 refine ⟨B + 1, [{ target := .collected B, args := #[] }], W1, { target := .fn (.func gf) lb, args := #[.func (.yield (B + 1)) #[] #[]] }, W1, gf, #[.func (.yield (B + 1)) #[] #[]] ++ lb, W1, ?_, ?_, ?_, ?_, fun _ => h1, ?_⟩
 ·rw [← hW1, ← hB, hrec, ← hB]; exact run_enterLoop_outer _ _ _ _ _
 ·simp only [resolve, hg]; simp [go_sem]
 ·intro f' _; trivial
 ·simp [invoke, go_sem, eg]
 have bk : ∀ {β : Type} {J : β → World → Prop}, AbT (LoopT (T (B + 2)) B) J → AbT (T W1.heap.size) J := fun h => by rw [hsz]; exact h.sub fun _ _ ht => .inl ht
 have bl : ∀ {o : Obj} {k : Nat}, ((∃ L, o = .loop L) ∨ ∃ d, o = .deferred d) → AbT (T W1.heap.size) (fun (_ : List α) W => W.heap[k]? = some o) :=
  fun ho s W W' row hs hg hr => other_kept (hT W1.heap.size) hg hr hs ho
 refine (hseq (B + 1) (fun pre W => I pre W ∧ W.heap[B + 1]? = some (.loop (rec .ready none)) ∧ W.heap[B]? = some (.deferred (some [])) ∧ B + 2 ≤ W.heap.size)
  (fun pre W => ∃ c, Ix c pre W ∧ W.heap[B + 1]? = some (.loop (rec .done (some c))) ∧ W.heap[B]? = some (.deferred (some []))) W1 hb1
  ((bk hI).and ((bl (.inl ⟨_, rfl⟩)).and ((bl (.inr ⟨_, rfl⟩)).and fun s W W' row hs hg hr => Nat.le_trans hs hg.size)))
  (fun s W W' row hs hg hr => by
    obtain ⟨c, h1, h2, h3⟩ := hs
    exact ⟨c, bk (hIx c) s W W' row h1 hg hr, bl (.inl ⟨_, rfl⟩) s W W' row h2 hg hr, bl (.inr ⟨_, rfl⟩) s W W' row h3 hg hr⟩)
  ?_ ⟨hI0, hL1, hD1, by omega⟩).mono ?_
 ·-- a round
  rintro pre x W ⟨hi, hl, hd, hsW⟩ hok
  have hy := run_yield (P := P) (args := encs x) hl (by rw [hrec]; exact hps x)
  rw [hrec] at hy
  refine ⟨fn, _, assign, body, hy, roundIn_of_wpIn hfn (wpIn_mono (hassign (B + 1) pre x W hi hok hsW) ?_)⟩
  intro e a1 W2 he
  cases e with
  | normal =>
    obtain ⟨hk, hkp, hi1⟩ := he
    have hl2 := hk.same _ _ hl rfl
    have hd2 := hk.same _ _ hd rfl
    refine ⟨_, run_beginRound hl2 (by rw [hrec]), ?_⟩
    have hlt : B + 1 < W2.heap.size := (Array.getElem?_eq_some_iff.1 hl2).1
    obtain ⟨W3, hW3⟩ : ∃ W3, W2.putObj (B + 1) (.loop { rec .ready none with state := .busy }) = W3 := ⟨_, rfl⟩
    have hl3 : W3.heap[B + 1]? = some (.loop { rec .ready none with state := .busy }) := by rw [← hW3]; exact World.putObj_heap_same hlt
    have hd3 : W3.heap[B]? = some (.deferred (some [])) := by rw [← hW3]; exact (World.putObj_heap_other (by omega)).trans hd2
    have hi3 : I1 pre x a1 W3 := by rw [← hW3]; exact (hI1 a1 x).put hi1 hl2 (.inr ⟨by omega, .inl ⟨_, rfl⟩⟩) _
    have hkp3 : Kp W2 W3 := by rw [← hW3]; exact hKb _ _ _ _ (by omega) hl2
    have hs3 : W3.heap.size = W2.heap.size := by rw [← hW3]; simp
    rw [hW3]
    have hsz3 : B + 2 ≤ W3.heap.size := by rw [hs3]; exact Nat.le_trans hsW hk.size
    clear hW3
    refine wpIn_mono (hbody (B + 1) pre x a1 W3 hi3 hok) ?_
    have fin : ∀ (jump : Option Code) (W4 : World), KeepsOthers W3 W4 →
     (Instr.endRound (B + 1) jump).run P W4 = .ok (.bool jump.isNone) (W4.putObj (B + 1) (.loop (rec (if jump.isNone then .ready else .done) jump))) ∧
     W4.heap[B + 1]? = some (.loop { rec .ready none with state := .busy }) ∧
     (W4.putObj (B + 1) (.loop (rec (if jump.isNone then .ready else .done) jump))).heap[B + 1]? = some (.loop (rec (if jump.isNone then .ready else .done) jump)) ∧
     (W4.putObj (B + 1) (.loop (rec (if jump.isNone then .ready else .done) jump))).heap[B]? = some (.deferred (some [])) := fun jump W4 hk4 => by
     have hl4 := hk4.same _ _ hl3 rfl
     refine ⟨?_, hl4, World.putObj_heap_same (Array.getElem?_eq_some_iff.1 hl4).1, (World.putObj_heap_other (by omega)).trans (hk4.same _ _ hd3 rfl)⟩
     have := run_endRound (P := P) jump hl4
     rw [hrec] at this ⊢
     exact this
    rintro e a4 W4 hp
    cases e with
    | normal =>
      obtain ⟨hk4, hkp4, hi4⟩ := hp
      obtain ⟨hr, hl4, hl5, hd5⟩ := fin none W4 hk4
      exact ⟨_, _, hr, .inl ⟨rfl, ⟨hI.put hi4 hl4 (.inr ⟨by omega, .inl ⟨_, rfl⟩⟩) _, hl5, hd5, by simpa using Nat.le_trans hsz3 hk4.size⟩, hKt (hKt (hKt hkp hkp3) hkp4) (hKb _ _ _ _ (by omega) hl4)⟩⟩
    | ret =>
      obtain ⟨hk4, hi4⟩ := hp
      obtain ⟨hr, hl4, hl5, hd5⟩ := fin (some .ret) W4 hk4
      exact ⟨_, _, hr, .inr ⟨rfl, .ret, (hIx _).put hi4 hl4 (.inr ⟨by omega, .inl ⟨_, rfl⟩⟩) _, hl5, hd5⟩⟩
    | exit id =>
      obtain ⟨hk4, hi4⟩ := hp
      obtain ⟨hr, hl4, hl5, hd5⟩ := fin (some (.exit id)) W4 hk4
      exact ⟨_, _, hr, .inr ⟨rfl, .exit id, (hIx _).put hi4 hl4 (.inr ⟨by omega, .inl ⟨_, rfl⟩⟩) _, hl5, hd5⟩⟩
    | goto t =>
      obtain ⟨hk4, hi4⟩ := hp
      obtain ⟨hr, hl4, hl5, hd5⟩ := fin (some (.goto t)) W4 hk4
      exact ⟨_, _, hr, .inr ⟨rfl, .goto t, (hIx _).put hi4 hl4 (.inr ⟨by omega, .inl ⟨_, rfl⟩⟩) _, hl5, hd5⟩⟩
    | panic ch => exact hp.elim
    | outgrown => exact hp.elim
  | ret => exact he.elim
  | exit id => exact he.elim
  | goto t => exact he.elim
  | panic ch => exact he.elim
  | outgrown => exact he.elim
 ·-- behind the iterator
  rintro e W2 ⟨⟨v, rfl⟩, (⟨xs, hS, hi, hl, hd, _⟩ | ⟨pre, hSp, c, hi, hl, hd⟩)⟩
  ·refine ⟨none, _, by have := run_endLoop (P := P) hl (by rw [hrec]; simp); rw [hrec] at this; exact this, ?_⟩
   exact hdone _ xs _ nl hS (hI.put hi hl (.inr ⟨by omega, .inl ⟨_, rfl⟩⟩) _) ((World.putObj_heap_other (by omega)).trans hd)
  ·refine ⟨some c, _, by have := run_endLoop (P := P) hl (by rw [hrec]; simp); rw [hrec] at this; exact this, ?_⟩
   exact hstop _ c pre _ nl hSp ((hIx c).put hi hl (.inr ⟨by omega, .inl ⟨_, rfl⟩⟩) _) ((World.putObj_heap_other (by omega)).trans hd)
end
end Go.Proofs.YtkemhmfdooghkaaGreatDoor
