import Derived.Test.YtkemhmfdooghkaaGreatDoorX42
import Derived.Test.YtkemhmfdooghkaaGreatDoorX4
import Derived.RangeFuncFrom
import Derived.RangeFuncBox
import Derived.RangeFuncCalls
import Derived.RangeFuncLeaves
import Derived.OwnWalkIn
import Derived.TacticsInMore
import Derived.RegionIn
import Derived.Stop.RegionWithIn
import Derived.LoopNIn
import Derived.LoopIn
import Derived.Sort.LoopGhostIn
set_option linter.unusedSimpArgs false
set_option linter.unusedVariables false
set_option maxRecDepth 100000
set_option maxHeartbeats 6400000
namespace Go.Proofs.YtkemhmfdooghkaaGreatDoor
namespace Lx
open Go.RowKit
open Pl Fl
attribute [local go_sem] run_store_complexL
theorem tokEnd.form {l : List UInt8} {r : Except Nat (Tk × Nat)} {e : Ending} (h : tokEnd l r e) : ∃ (a : Nat) (b : ByteArray) (c n k : Int), e = .returned (.tuple #[.agg #[.int .u8 a, .complex .f64 0 0, .complex .f64 0 0, .string b, .int .i64 c], .int .i64 n, .int .i64 k]) := by
 cases r with
 | ok x =>
   obtain ⟨⟨a, b, c⟩, n⟩ := x
   have h : e = _ := h
   rw [tok_vals0] at h
   exact ⟨a, b, c, n, 0, h⟩
 | error k =>
   obtain ⟨⟨a, b, c⟩, n, _, h⟩ := h
   rw [tok_vals0] at h
   exact ⟨a, b, c, n, k, h⟩
theorem token_any (s : ByteArray) (h0 : 0 < s.size) (hs : s.size ≤ 281474976710656) {w : World} (E : EnvS w) :
 Calls Tryz.prog 56 #[.string s] w fun e w' => tokEnd s.data.toList (oneN s.data.toList) e ∧ Below w.heap.size w w' := by
 have i0 : (0 : Int) < (s.size : Int) := by omega
 have RL := qh (fun c w => letter_any c w)
 have RD := qh (fun c w => digit_any c w)
 have q34 : s[0] = 34 → ((s[0].toNat : Int) == 34) = true := fun h => by rw [h]; rfl
 have q34' : s[0] ≠ 34 → ((s[0].toNat : Int) == 34) = false := fun h => ne_u8 34 (by omega) h
 have q39 : s[0] = 39 → ((s[0].toNat : Int) == 39) = true := fun h => by rw [h]; rfl
 have q39' : s[0] ≠ 39 → ((s[0].toNat : Int) == 39) = false := fun h => ne_u8 39 (by omega) h
 have HN := qh (fun (hc : isL s[0] = true) (w' : World) (E' : EnvS w') => name_any s h0 (by omega) hc E')
 have HM := qh (fun (hc : isD s[0] = true) (w' : World) (E' : EnvS w') => number_anyP s h0 hs hc E')
 have HT := qh (fun hl hd hq (w' : World) => text_any s h0 (by omega) hl hd hq w')
 have HS := qh (fun hl hd hq (w' : World) => symbol_anyP s h0 (by omega) hl hd hq w')
 have hal := (Below.refl w.heap.size w).alloc nl (.cells #[.int .u8 0, .complex .f64 0 0, .complex .f64 0 0, .string ⟨#[]⟩, .int .i64 0] 40)
 have HEn := qh (E.below nl hal)
 have HAL := qh hal
 clear E hal
 go_enter Tryz.func56, Tryz.ntmps56
 go_wp2_with fail
 ((with_reducible refine (RL.out _ _).mono ?_); rintro e w1 ⟨rfl, rfl⟩)
 cases hl : isL s[0]
 case' true =>
  go_wp2_with fail
  (refine (HN.out hl _ HEn.out).mono ?_)
  rintro e w3 ⟨ht, hb⟩
  obtain ⟨ka, kb, kc, kn, kk, rfl⟩ := ht.form
  have HTK := qh ht
  have hz := hb.size
  rw [World.size_alloc] at hz
  have hlt1 : w.heap.size < w3.heap.size := by omega
  have hB0 := (Blk.new w 40 #[.int .u8 0, .complex .f64 0 0, .complex .f64 0 0, .string ⟨#[]⟩, .int .i64 0]).below hb (by simp)
  have hBl : Hid (Below w.heap.size w w3) := qh (HAL.out.trans (hb.mono (by simp)))
  obtain ⟨m0, m1, m2, m3, m4, f0, f1, f2, f3, f4⟩ := hB0.tok
  have HB0 := qh hB0
  clear hB0 hb hz ht
  go_wp2
  (try simp only [Exit.inBlock, Exit.then])
  refine bodyPost_ret (tok_ret3 rfl _ _ w.heap.size _ _ _ _ _ rfl (tok_stored HB0.out _ _ _ _ _)) rfl ?_
  exact ⟨HTK.out, below_stored hBl.out nl _ _ _ _ _⟩
 go_wp2_with fail
 ((with_reducible refine (RD.out _ _).mono ?_); rintro e w1 ⟨rfl, rfl⟩)
 cases hd : isD s[0]
 case' true =>
  go_wp2_with fail
  (refine (HM.out hd _ HEn.out).mono ?_)
  rintro e w3 ⟨ht, hb⟩
  obtain ⟨ka, kb, kc, kn, kk, rfl⟩ := ht.form
  have HTK := qh ht
  have hz := hb.size
  rw [World.size_alloc] at hz
  have hlt1 : w.heap.size < w3.heap.size := by omega
  have hB0 := (Blk.new w 40 #[.int .u8 0, .complex .f64 0 0, .complex .f64 0 0, .string ⟨#[]⟩, .int .i64 0]).below hb (by simp)
  have hBl : Hid (Below w.heap.size w w3) := qh (HAL.out.trans (hb.mono (by simp)))
  obtain ⟨m0, m1, m2, m3, m4, f0, f1, f2, f3, f4⟩ := hB0.tok
  have HB0 := qh hB0
  clear hB0 hb hz ht
  go_wp2
  (try simp only [Exit.inBlock, Exit.then])
  refine bodyPost_ret (tok_ret3 rfl _ _ w.heap.size _ _ _ _ _ rfl (tok_stored HB0.out _ _ _ _ _)) rfl ?_
  exact ⟨HTK.out, below_stored hBl.out nl _ _ _ _ _⟩
 by_cases h34 : s[0] = 34
 case' pos =>
  have t1 := q34 h34
  have HQ := qh (HT.out hl hd (.inl h34))
  clear q34 q34' q39 q39' h34
  go_wp2_with fail
  (refine (HQ.out _).mono ?_)
  rintro e w3 ⟨ht, hb⟩
  obtain ⟨ka, kb, kc, kn, kk, rfl⟩ := ht.form
  have HTK := qh ht
  have hz := hb.size
  rw [World.size_alloc] at hz
  have hlt1 : w.heap.size < w3.heap.size := by omega
  have hB0 := (Blk.new w 40 #[.int .u8 0, .complex .f64 0 0, .complex .f64 0 0, .string ⟨#[]⟩, .int .i64 0]).below hb (by simp)
  have hBl : Hid (Below w.heap.size w w3) := qh (HAL.out.trans (hb.mono (by simp)))
  obtain ⟨m0, m1, m2, m3, m4, f0, f1, f2, f3, f4⟩ := hB0.tok
  have HB0 := qh hB0
  clear hB0 hb hz ht
  go_wp2
  (try simp only [Exit.inBlock, Exit.then])
  refine bodyPost_ret (tok_ret3 rfl _ _ w.heap.size _ _ _ _ _ rfl (tok_stored HB0.out _ _ _ _ _)) rfl ?_
  exact ⟨HTK.out, below_stored hBl.out nl _ _ _ _ _⟩
 have t1 := q34' h34
 by_cases h39 : s[0] = 39
 case' pos =>
  have t2 := q39 h39
  have HQ := qh (HT.out hl hd (.inr h39))
  clear q34 q34' q39 q39' h39 h34
  go_wp2_with fail
  (refine (HQ.out _).mono ?_)
  rintro e w3 ⟨ht, hb⟩
  obtain ⟨ka, kb, kc, kn, kk, rfl⟩ := ht.form
  have HTK := qh ht
  have hz := hb.size
  rw [World.size_alloc] at hz
  have hlt1 : w.heap.size < w3.heap.size := by omega
  have hB0 := (Blk.new w 40 #[.int .u8 0, .complex .f64 0 0, .complex .f64 0 0, .string ⟨#[]⟩, .int .i64 0]).below hb (by simp)
  have hBl : Hid (Below w.heap.size w w3) := qh (HAL.out.trans (hb.mono (by simp)))
  obtain ⟨m0, m1, m2, m3, m4, f0, f1, f2, f3, f4⟩ := hB0.tok
  have HB0 := qh hB0
  clear hB0 hb hz ht
  go_wp2
  (try simp only [Exit.inBlock, Exit.then])
  refine bodyPost_ret (tok_ret3 rfl _ _ w.heap.size _ _ _ _ _ rfl (tok_stored HB0.out _ _ _ _ _)) rfl ?_
  exact ⟨HTK.out, below_stored hBl.out nl _ _ _ _ _⟩
 have t2 := q39' h39
 have HQ := qh (HS.out hl hd (fun h => h.elim h34 h39))
 clear q34 q34' q39 q39' h39 h34
 go_wp2_with fail
 (refine (HQ.out _).mono ?_)
 rintro e w3 ⟨ht, hb⟩
 obtain ⟨ka, kb, kc, kn, kk, rfl⟩ := ht.form
 have HTK := qh ht
 have hz := hb.size
 rw [World.size_alloc] at hz
 have hlt1 : w.heap.size < w3.heap.size := by omega
 have hB0 := (Blk.new w 40 #[.int .u8 0, .complex .f64 0 0, .complex .f64 0 0, .string ⟨#[]⟩, .int .i64 0]).below hb (by simp)
 have hBl : Hid (Below w.heap.size w w3) := qh (HAL.out.trans (hb.mono (by simp)))
 obtain ⟨m0, m1, m2, m3, m4, f0, f1, f2, f3, f4⟩ := hB0.tok
 have HB0 := qh hB0
 clear hB0 hb hz ht
 go_wp2
 (try simp only [Exit.inBlock, Exit.then])
 refine bodyPost_ret (tok_ret3 rfl _ _ w.heap.size _ _ _ _ _ rfl (tok_stored HB0.out _ _ _ _ _)) rfl ?_
 exact ⟨HTK.out, below_stored hBl.out nl _ _ _ _ _⟩
end Lx
namespace Lx
open Go.RowKit
open Pl Fl
theorem isBl_isB : isBl = isB := isBl_eq
theorem item_isB {s : List UInt8} (h : isB (s.head?.getD 0) = true) : item s = .blank 1 := by unfold item; rw [if_pos h]
theorem scan_run {src : List UInt8} : ∀ (m i : Nat), runN isB (src.drop i) = m → scanAt src i = scanAt src (i + m) := by
 intro m
 induction m with
 | zero => intro i _; rfl
 | succ m ih =>
   intro i h
   rcases Nat.lt_or_ge i src.length with hlt | hge
   ·rw [List.drop_eq_getElem_cons hlt] at h
    cases hb : isB src[i]
    ·rw [runN_no hb] at h; cases h
    ·rw [runN_yes hb] at h
     have h2 : item (src.drop i) = .blank 1 := item_isB (by rw [List.drop_eq_getElem_cons hlt]; exact hb)
     rw [scanAt_blank hlt h2, ih (i + 1) (by omega)]
     congr 1
     omega
   ·rw [List.drop_of_length_le hge, runN_nil] at h; cases h
theorem pre_take (s : List UInt8) : preB s [40, 42] = true ↔ s.take 2 = [40, 42] := by
 unfold preB
 rw [beq_iff_eq]
 rfl
theorem blank_cases {src : List UInt8} {i : Nat} (h : i < src.length) :
 (∃ n, 1 ≤ n ∧ i + n ≤ src.length ∧ blankP (src.drop i) = (n, 0) ∧ scanAt src i = scanAt src (i + n)) ∨
 (blankP (src.drop i) = (0, 43) ∧ scanAt src i = .error (i, 43)) ∨
 (blankP (src.drop i) = (0, 0) ∧ scanAt src i = match oneN (src.drop i) with
   | .error k => .error (i, k)
   | .ok (t, n) => (scanAt src (i + n)).map ((t, i, i + n) :: ·)) := by
 have hle := runN_le isBl (src.drop i)
 rw [List.length_drop] at hle
 by_cases h0 : 0 < runN isBl (src.drop i)
 ·refine .inl ⟨runN isBl (src.drop i), h0, by omega, by unfold blankP; rw [if_pos h0], ?_⟩
  rw [isBl_isB]
  exact scan_run _ i rfl
 ·have hb0 : isB ((src.drop i).head?.getD 0) = false := by
   have hd := List.drop_eq_getElem_cons h
   cases hb : isB src[i]
   ·rw [hd]; exact hb
   ·rw [isBl_isB, hd, runN_yes hb] at h0
    omega
  by_cases hp : (src.drop i).take 2 = [40, 42]
  ·have hpb := (pre_take _).2 hp
   by_cases hc : cmt 0 0 (src.drop i) = 0
   ·refine .inr (.inl ⟨by unfold blankP; rw [if_neg h0, if_pos hpb, if_pos hc], ?_⟩)
    exact scanAt_bad h (by unfold item; rw [if_neg (by rw [hb0]; simp), if_pos hp, if_pos hc])
   ·have hi : item (src.drop i) = .blank (cmt 0 0 (src.drop i)) := by unfold item; rw [if_neg (by rw [hb0]; simp), if_pos hp, if_neg hc]
    have hbd := (item_in h).1 _ hi
    refine .inl ⟨cmt 0 0 (src.drop i), hbd.1, hbd.2, by unfold blankP; rw [if_neg h0, if_pos hpb, if_neg hc], ?_⟩
    exact scanAt_blank h hi
  ·have hpb : ¬ preB (src.drop i) [40, 42] = true := fun e => hp ((pre_take _).1 e)
   refine .inr (.inr ⟨by unfold blankP; rw [if_neg h0, if_neg hpb], ?_⟩)
   have hi : item (src.drop i) = match oneN (src.drop i) with | .error e => .bad e | .ok (t, n) => .tok t n := by
    rw [item, if_neg (by rw [hb0]; simp), if_neg hp] <;> (cases oneN (src.drop i) <;> rfl)
   cases ho : oneN (src.drop i) with
   | error k => rw [ho] at hi; exact scanAt_bad h hi
   | ok x =>
     obtain ⟨t, n⟩ := x
     rw [ho] at hi
     exact scanAt_tok h hi
end Lx
end Go.Proofs.YtkemhmfdooghkaaGreatDoor
namespace Go.Proofs.YtkemhmfdooghkaaGreatDoor
open Go.RowKit
def AbT {β : Type} (T : Nat → Obj → Prop) (J : β → World → Prop) : Prop :=
 ∀ s W W' row, J s W → W.grownBy W' row → (∀ r, row = some r → ∃ o : Obj, W.heap[r]? = some o ∧ T r o) → J s W'
theorem AbT.and {β : Type} {T : Nat → Obj → Prop} {J K : β → World → Prop} (h : AbT T J) (k : AbT T K) : AbT T (fun s W => J s W ∧ K s W) :=
 fun s W W' row hs hg hr => ⟨h s W W' row hs.1 hg hr, k s W W' row hs.2 hg hr⟩
theorem AbT.sub {β : Type} {T T' : Nat → Obj → Prop} {J : β → World → Prop} (h : AbT T J) (hT : ∀ r o, T' r o → T r o) : AbT T' J :=
 fun s W W' row hs hg hr => h s W W' row hs hg fun r e => by obtain ⟨o, h1, h2⟩ := hr r e; exact ⟨o, h1, hT r o h2⟩
theorem AbT.alloc {β : Type} {T : Nat → Obj → Prop} {J : β → World → Prop} (h : AbT T J) {s : β} {W : World} (hs : J s W) (o : Obj) : J s (W.alloc o) :=
 h s W _ none hs (World.grownBy_alloc W o none) (fun r e => by cases e)
theorem AbT.put {β : Type} {T : Nat → Obj → Prop} {J : β → World → Prop} (h : AbT T J) {s : β} {W : World} (hs : J s W) {r : Nat} {o : Obj} (hr : W.heap[r]? = some o) (ho : T r o) (o' : Obj) : J s (W.putObj r o') :=
 h s W _ (some r) hs (grownBy_putObj' W r o') (fun q e => by cases e; exact ⟨o, hr, ho⟩)
def SeqT {α : Type} (T : Nat → Nat → Obj → Prop) (P : Program) (n g : Nat) (lb : Array Value) (encs : α → Array Value) (Kp : World → World → Prop) (S Sp : List α → Prop) (Ok : List α → α → Prop) (w : World) : Prop :=
 ∀ (l : Nat) (J Jx : List α → World → Prop) (W : World), Below w.heap.size w W → AbT (T W.heap.size) J → AbT (T W.heap.size) Jx →
  (∀ pre x W1, J pre W1 → Ok pre x → YieldAt Fence.wide (n - 1) P l (encs x) W1 fun e W' =>
    (e = .returned (.bool true) ∧ J (pre ++ [x]) W' ∧ Kp W1 W') ∨ (e = .returned (.bool false) ∧ Jx (pre ++ [x]) W')) →
  J [] W →
  CallsIn Fence.wide n P g (#[.func (.yield l) #[] #[]] ++ lb) W fun e W' => (∃ v, e = .returned v) ∧ ((∃ xs, S xs ∧ J xs W') ∨ (∃ pre, Sp pre ∧ Jx pre W'))
def LoopT (T : Nat → Obj → Prop) (B : Nat) (r : Nat) (o : Obj) : Prop := T r o ∨ (B ≤ r ∧ ((∃ L, o = .loop L) ∨ ∃ d, o = .deferred d))
theorem other_kept {T : Nat → Obj → Prop} (hT : ∀ r o, T r o → (∀ L, o ≠ .loop L) ∧ ∀ d, o ≠ .deferred d) {W W' : World} {row : Option Nat} (hg : W.grownBy W' row) (hr : ∀ r, row = some r → ∃ o : Obj, W.heap[r]? = some o ∧ T r o)
 {k : Nat} {o : Obj} (hk : W.heap[k]? = some o) (ho : (∃ L, o = .loop L) ∨ ∃ d, o = .deferred d) : W'.heap[k]? = some o := by
 refine (hg.block k (Array.getElem?_eq_some_iff.1 hk).1 ?_).trans hk
 intro e
 obtain ⟨q, hq, ht⟩ := hr k e.symm
 rw [hk] at hq
 injection hq with hq
 subst hq
 rcases ho with ⟨L, rfl⟩ | ⟨d, rfl⟩
 ·exact (hT _ _ ht).1 L rfl
 ·exact (hT _ _ ht).2 d rfl
section
variable {P : Program} {n : Nat}
theorem range_T {α : Type} {g : Operand} {ps : Array Tmp} {assign body : Code} {Q : Exit → Act → World → Prop} {a : Act} {w : World} (h1 : 1 ≤ n) {gf : Nat} {lb : Array Value} (hg : a.eval g = .func (.func gf) #[] lb)
 (eg : ∀ args w, (callFunc gf args).run P w = .ok (.enter gf args) w) {T : Nat → Nat → Obj → Prop} {encs : α → Array Value} {Kp : World → World → Prop} {S Sp : List α → Prop} {Ok : List α → α → Prop} {w0 : World}
 (hseq : SeqT T P (n - 1) gf lb encs Kp S Sp Ok w0) (hT : ∀ B r o, T B r o → (∀ L, o ≠ .loop L) ∧ ∀ d, o ≠ .deferred d)
 (hKt : ∀ {A B C : World}, Kp A B → Kp B C → Kp A C) (hKb : ∀ (W : World) (l : Nat) (L L' : Loop), w.heap.size ≤ l → W.heap[l]? = some (.loop L) → Kp W (W.putObj l (.loop L')))
 (hb0 : Below w0.heap.size w0 w) (hps : ∀ x, (encs x).size = ps.size)
 (I : List α → World → Prop) (I1 : List α → α → Act → World → Prop) (Ix : Code → List α → World → Prop)
 (hI : AbT (LoopT (T (w.heap.size + 2)) w.heap.size) I) (hI1 : ∀ a1 x, AbT (LoopT (T (w.heap.size + 2)) w.heap.size) (fun pre W => I1 pre x a1 W)) (hIx : ∀ c, AbT (LoopT (T (w.heap.size + 2)) w.heap.size) (Ix c)) (h0 : I [] w)
 (hassign : ∀ (l : Nat) (pre : List α) (x : α) (W : World), I pre W → Ok pre x → w.heap.size + 2 ≤ W.heap.size →
   assign.wpIn (Fence.wide.inRound l) (n - 1 - 1) P (Exit.then (fun a1 W1 => KeepsOthers W W1 ∧ Kp W W1 ∧ I1 pre x a1 W1) (fun _ _ _ => False)) { tmps := (ps.zip (encs x)).foldl (fun t (p, v) => t.setIfInBounds p v) a.tmps, defers := [] } W)
 (hbody : ∀ (l : Nat) (pre : List α) (x : α) (a1 : Act) (W : World), I1 pre x a1 W → Ok pre x → body.wpIn (Fence.wide.inRound l) (n - 1 - 1) P (ownPostK Kp I Ix (pre ++ [x]) W) a1 W)
 (hdone : ∀ (D : Nat) (xs : List α) (W : World), w.heap.size ≤ D → S xs → I xs W → W.heap[D]? = some (.deferred (some [])) → Q .normal { a with defers := { target := .collected D, args := #[] } :: a.defers } W)
 (hstop : ∀ (D : Nat) (c : Code) (pre : List α) (W : World), w.heap.size ≤ D → Sp pre → Ix c pre W → W.heap[D]? = some (.deferred (some [])) → c.wpIn Fence.wide n P Q { a with defers := { target := .collected D, args := #[] } :: a.defers } W) :
 (Code.rangeFunc g ps assign body).wpIn Fence.wide n P Q a w := by
 refine wpIn_rangeFunc fun fn hfn => ?_
 obtain ⟨B, hB⟩ : ∃ B, w.heap.size = B := ⟨_, rfl⟩
 obtain ⟨rec, hrec⟩ : ∃ rec : LoopState → Option Code → Loop, rec = fun st pe => { state := st, pending := pe, fn, tmps := a.tmps, params := ps, assign, body, defers := B } := ⟨_, rfl⟩
 obtain ⟨W1, hW1⟩ : ∃ W1, (w.alloc (.deferred (some []))).alloc (.loop (rec .ready none)) = W1 := ⟨_, rfl⟩
 have hsz : W1.heap.size = B + 2 := by rw [← hW1]; simp [hB]
 have hD1 : W1.heap[B]? = some (.deferred (some [])) := by
  rw [← hW1, ← hB]; exact (Below.heap_alloc _ _ _ (by simp)).trans (World.alloc_heap_new w _)
 have hL1 : W1.heap[B + 1]? = some (.loop (rec .ready none)) := by
  rw [← hW1, ← hB]
  have := World.alloc_heap_new (w.alloc (.deferred (some []))) (.loop (rec .ready none))
  rwa [World.size_alloc] at this
 have hI0 : I [] W1 := by rw [← hW1]; exact hI.alloc (hI.alloc h0 _) _
 have hb1 : Below w0.heap.size w0 W1 := by
  rw [← hW1]; exact hb0.trans ((((Below.refl _ w).alloc nl _).alloc (by simp) _).mono hb0.size)
 rw [hB] at hI hI1 hIx hassign hdone hstop hKb
 refine ⟨B + 1, [{ target := .collected B, args := #[] }], W1, { target := .fn (.func gf) lb, args := #[.func (.yield (B + 1)) #[] #[]] }, W1, gf, #[.func (.yield (B + 1)) #[] #[]] ++ lb, W1, ?_, ?_, ?_, ?_, fun _ => h1, ?_⟩
 ·rw [← hW1, ← hB, hrec, ← hB]; exact run_enterLoop_outer _ _ _ _ _
 ·simp only [resolve, hg]; simp [go_sem]
 ·intro f' _; trivial
 ·simp [invoke, go_sem, eg]
 have bk : ∀ {β : Type} {J : β → World → Prop}, AbT (LoopT (T (B + 2)) B) J → AbT (T W1.heap.size) J := fun h => by rw [hsz]; exact h.sub fun _ _ ht => .inl ht
 have bl : ∀ {o : Obj} {k : Nat}, ((∃ L, o = .loop L) ∨ ∃ d, o = .deferred d) → AbT (T W1.heap.size) (fun (_ : List α) W => W.heap[k]? = some o) :=
  fun ho s W W' row hs hg hr => other_kept (hT W1.heap.size) hg hr hs ho
 refine (hseq (B + 1) (fun pre W => I pre W ∧ W.heap[B + 1]? = some (.loop (rec .ready none)) ∧ W.heap[B]? = some (.deferred (some [])) ∧ B + 2 ≤ W.heap.size)
  (fun pre W => ∃ c, Ix c pre W ∧ W.heap[B + 1]? = some (.loop (rec .done (some c))) ∧ W.heap[B]? = some (.deferred (some []))) W1 hb1
  ((bk hI).and ((bl (.inl ⟨_, rfl⟩)).and ((bl (.inr ⟨_, rfl⟩)).and fun s W W' row hs hg hr => Nat.le_trans hs hg.size)))
  (fun s W W' row hs hg hr => by
    obtain ⟨c, h1, h2, h3⟩ := hs
    exact ⟨c, bk (hIx c) s W W' row h1 hg hr, bl (.inl ⟨_, rfl⟩) s W W' row h2 hg hr, bl (.inr ⟨_, rfl⟩) s W W' row h3 hg hr⟩)
  ?_ ⟨hI0, hL1, hD1, by omega⟩).mono ?_
 ·-- a round
  rintro pre x W ⟨hi, hl, hd, hsW⟩ hok
  have hy := run_yield (P := P) (args := encs x) hl (by rw [hrec]; exact hps x)
  rw [hrec] at hy
  refine ⟨fn, _, assign, body, hy, roundIn_of_wpIn hfn (wpIn_mono (hassign (B + 1) pre x W hi hok hsW) ?_)⟩
  intro e a1 W2 he
  cases e with
  | normal =>
    obtain ⟨hk, hkp, hi1⟩ := he
    have hl2 := hk.same _ _ hl rfl
    have hd2 := hk.same _ _ hd rfl
    refine ⟨_, run_beginRound hl2 (by rw [hrec]), ?_⟩
    have hlt : B + 1 < W2.heap.size := (Array.getElem?_eq_some_iff.1 hl2).1
    obtain ⟨W3, hW3⟩ : ∃ W3, W2.putObj (B + 1) (.loop { rec .ready none with state := .busy }) = W3 := ⟨_, rfl⟩
    have hl3 : W3.heap[B + 1]? = some (.loop { rec .ready none with state := .busy }) := by rw [← hW3]; exact World.putObj_heap_same hlt
    have hd3 : W3.heap[B]? = some (.deferred (some [])) := by rw [← hW3]; exact (World.putObj_heap_other (by omega)).trans hd2
    have hi3 : I1 pre x a1 W3 := by rw [← hW3]; exact (hI1 a1 x).put hi1 hl2 (.inr ⟨by omega, .inl ⟨_, rfl⟩⟩) _
    have hkp3 : Kp W2 W3 := by rw [← hW3]; exact hKb _ _ _ _ (by omega) hl2
    have hs3 : W3.heap.size = W2.heap.size := by rw [← hW3]; simp
    rw [hW3]
    have hsz3 : B + 2 ≤ W3.heap.size := by rw [hs3]; exact Nat.le_trans hsW hk.size
    clear hW3
    refine wpIn_mono (hbody (B + 1) pre x a1 W3 hi3 hok) ?_
    have fin : ∀ (jump : Option Code) (W4 : World), KeepsOthers W3 W4 →
     (Instr.endRound (B + 1) jump).run P W4 = .ok (.bool jump.isNone) (W4.putObj (B + 1) (.loop (rec (if jump.isNone then .ready else .done) jump))) ∧
     W4.heap[B + 1]? = some (.loop { rec .ready none with state := .busy }) ∧
     (W4.putObj (B + 1) (.loop (rec (if jump.isNone then .ready else .done) jump))).heap[B + 1]? = some (.loop (rec (if jump.isNone then .ready else .done) jump)) ∧
     (W4.putObj (B + 1) (.loop (rec (if jump.isNone then .ready else .done) jump))).heap[B]? = some (.deferred (some [])) := fun jump W4 hk4 => by
     have hl4 := hk4.same _ _ hl3 rfl
     refine ⟨?_, hl4, World.putObj_heap_same (Array.getElem?_eq_some_iff.1 hl4).1, (World.putObj_heap_other (by omega)).trans (hk4.same _ _ hd3 rfl)⟩
     have := run_endRound (P := P) jump hl4
     rw [hrec] at this ⊢
     exact this
    rintro e a4 W4 hp
    cases e with
    | normal =>
      obtain ⟨hk4, hkp4, hi4⟩ := hp
      obtain ⟨hr, hl4, hl5, hd5⟩ := fin none W4 hk4
      exact ⟨_, _, hr, .inl ⟨rfl, ⟨hI.put hi4 hl4 (.inr ⟨by omega, .inl ⟨_, rfl⟩⟩) _, hl5, hd5, by simpa using Nat.le_trans hsz3 hk4.size⟩, hKt (hKt (hKt hkp hkp3) hkp4) (hKb _ _ _ _ (by omega) hl4)⟩⟩
    | ret =>
      obtain ⟨hk4, hi4⟩ := hp
      obtain ⟨hr, hl4, hl5, hd5⟩ := fin (some .ret) W4 hk4
      exact ⟨_, _, hr, .inr ⟨rfl, .ret, (hIx _).put hi4 hl4 (.inr ⟨by omega, .inl ⟨_, rfl⟩⟩) _, hl5, hd5⟩⟩
    | exit id =>
      obtain ⟨hk4, hi4⟩ := hp
      obtain ⟨hr, hl4, hl5, hd5⟩ := fin (some (.exit id)) W4 hk4
      exact ⟨_, _, hr, .inr ⟨rfl, .exit id, (hIx _).put hi4 hl4 (.inr ⟨by omega, .inl ⟨_, rfl⟩⟩) _, hl5, hd5⟩⟩
    | goto t =>
      obtain ⟨hk4, hi4⟩ := hp
      obtain ⟨hr, hl4, hl5, hd5⟩ := fin (some (.goto t)) W4 hk4
      exact ⟨_, _, hr, .inr ⟨rfl, .goto t, (hIx _).put hi4 hl4 (.inr ⟨by omega, .inl ⟨_, rfl⟩⟩) _, hl5, hd5⟩⟩
    | panic ch => exact hp.elim
    | outgrown => exact hp.elim
  | ret => exact he.elim
  | exit id => exact he.elim
  | goto t => exact he.elim
  | panic ch => exact he.elim
  | outgrown => exact he.elim
 ·-- behind the iterator
  rintro e W2 ⟨⟨v, rfl⟩, (⟨xs, hS, hi, hl, hd, _⟩ | ⟨pre, hSp, c, hi, hl, hd⟩)⟩
  ·refine ⟨none, _, by have := run_endLoop (P := P) hl (by rw [hrec]; simp); rw [hrec] at this; exact this, ?_⟩
   exact hdone _ xs _ nl hS (hI.put hi hl (.inr ⟨by omega, .inl ⟨_, rfl⟩⟩) _) ((World.putObj_heap_other (by omega)).trans hd)
  ·refine ⟨some c, _, by have := run_endLoop (P := P) hl (by rw [hrec]; simp); rw [hrec] at this; exact this, ?_⟩
   exact hstop _ c pre _ nl hSp ((hIx c).put hi hl (.inr ⟨by omega, .inl ⟨_, rfl⟩⟩) _) ((World.putObj_heap_other (by omega)).trans hd)
end
end Go.Proofs.YtkemhmfdooghkaaGreatDoor
namespace Go.Proofs.YtkemhmfdooghkaaGreatDoor
namespace Lx
open Go.RowKit
open Pl Fl
attribute [local go_sem] run_store_complexL
abbrev Yi := Tok × Nat
def Yi.enc (src : List UInt8) (x : Yi) : Array Value := #[x.1.1.val (at_ src x.1.2.1) (at_ src x.1.2.2), .int .i64 x.2]
def okY (src : List UInt8) (pre : List Yi) (x : Yi) : Prop := pre.length ≤ src.length ∧ (x.2 ≠ 0 → scanL src = .error (x.1.2.1, x.2))
def endY (src : List UInt8) (xs : List Yi) : Prop := (∀ x ∈ xs, x.2 = 0) → scanL src = .ok (xs.map (·.1))
def boxT (g : Nat) (_ r : Nat) (o : Obj) : Prop := r = g ∧ ∃ cs f, o = .cells cs 9 f
def KpS (n g : Nat) (A C : World) : Prop := Below n A C ∧ C.heap[g]? = A.heap[g]?
structure ItS (src : List UInt8) (w0 : World) (g : Nat) (J : List Yi → World → Prop) (B : Nat) (i : Nat) (pre : List Yi) (s : ByteArray) (wr : World) : Prop where
 txt : s.data.toList = src.drop i
 box : Blk wr g 9 #[.string s]
 bel : Below w0.heap.size w0 wr
 j : J pre wr
 len : pre.length ≤ i
 ok : ∀ x ∈ pre, x.2 = 0
 scan : scanL src = (scanAt src i).map (pre.map (·.1) ++ ·)
 big : B ≤ wr.heap.size
section
variable {src : List UInt8} {w0 wr : World} {g B i : Nat} {J Jx : List Yi → World → Prop} {pre : List Yi} {s : ByteArray}
theorem ItS.grown {w' : World} (h : ItS src w0 g J B i pre s wr) (hJ : AbT (boxT g B) J) (hw : w0.heap.size ≤ wr.heap.size) (hg : wr.grownBy w' none) : ItS src w0 g J B i pre s w' :=
 ⟨h.txt, h.box.grown hg (by simp), h.bel.grown hg (by omega) (fun k e => by cases e), hJ _ _ _ none h.j hg (fun r e => by cases e), h.len, h.ok, h.scan, Nat.le_trans h.big hg.size⟩
theorem ItS.step (h : ItS src w0 g J B i pre s wr) (hJ : AbT (boxT g B) J) (hg : w0.heap.size ≤ g) {n : Nat} (hn : n ≤ s.size) (hsc : scanL src = (scanAt src (i + n)).map (pre.map (·.1) ++ ·)) : ItS src w0 g J B (i + n) pre (s.extract n s.size) (wr.setCell ⟨g, 0, none⟩ (.string (s.extract n s.size))).drew := by
 have hg2 : wr.grownBy (wr.setCell ⟨g, 0, none⟩ (.string (s.extract n s.size))).drew (some g) :=
  ⟨rfl, rfl, rfl, by show wr.heap.size ≤ (wr.setCell _ _).heap.size; rw [World.size_setCell]; exact Nat.le_refl _, fun k _ hk => Below.heap_setCell wr _ _ k (fun e => hk (by rw [e]))⟩
 refine ⟨by rw [ext_drop, h.txt, List.drop_drop], ?_, (h.bel.setCell hg _).drew, hJ _ _ _ (some g) h.j hg2 (fun r e => ?_), Nat.le_trans h.len (Nat.le_add_right _ _), h.ok, hsc, Nat.le_trans h.big hg2.size⟩
 ·have := h.box.set_ 0 (.string (s.extract n s.size))
  exact this
 ·cases e
  exact ⟨_, h.box, rfl, _, _, rfl⟩
theorem ItS.next {w' : World} {x : Yi} (h : ItS src w0 g J B i pre s wr) (hJ : AbT (boxT g B) J) (hg : w0.heap.size ≤ g) (hk : KpS w0.heap.size g wr w') (hj : J (pre ++ [x]) w') (hx : x.2 = 0) {n : Nat} (hn1 : 1 ≤ n) (hn : n ≤ s.size) (hsc : scanL src = (scanAt src (i + n)).map ((pre ++ [x]).map (·.1) ++ ·)) : ItS src w0 g J B (i + n) (pre ++ [x]) (s.extract n s.size) (w'.setCell ⟨g, 0, none⟩ (.string (s.extract n s.size))).drew := by
 have hg2 : w'.grownBy (w'.setCell ⟨g, 0, none⟩ (.string (s.extract n s.size))).drew (some g) :=
  ⟨rfl, rfl, rfl, by show w'.heap.size ≤ (w'.setCell _ _).heap.size; rw [World.size_setCell]; exact Nat.le_refl _, fun k _ hk => Below.heap_setCell w' _ _ k (fun e => hk (by rw [e]))⟩
 have hb : Blk w' g 9 #[.string s] := hk.2.trans h.box
 refine ⟨by rw [ext_drop, h.txt, List.drop_drop], ?_, ((h.bel.trans hk.1).setCell hg _).drew, hJ _ _ _ (some g) hj hg2 (fun r e => ?_), ?_, ?_, hsc, Nat.le_trans (Nat.le_trans h.big hk.1.size) hg2.size⟩
 ·have := hb.set_ 0 (.string (s.extract n s.size))
  exact this
 ·cases e
  exact ⟨_, hb, rfl, _, _, rfl⟩
 ·have := h.len
  rw [List.length_append, List.length_singleton]
  omega
 ·intro y hy
  rcases List.mem_append.1 hy with hy | hy
  ·exact h.ok y hy
  ·rw [List.mem_singleton.1 hy]; exact hx
theorem _root_.Go.World.grownBy.setNew {w w' : World} {row : Option Nat} (h : w.grownBy w' row) (p : Addr) (hp : w.heap.size ≤ p.block) (v : Value) : w.grownBy (w'.setCell p v) row :=
 ⟨h.os, h.tape, h.output, by rw [World.size_setCell]; exact h.size, fun k hk hne => (Below.heap_setCell w' p v k (by omega)).trans (h.block k hk hne)⟩
end
theorem tokens_seq {w0 w : World} (E : EnvS w0) (src : ByteArray) (hsrc : src.size ≤ 16384) (g : Nat) (hg0 : w0.heap.size ≤ g) (hg : Blk w g 9 #[.string src]) (hb0 : Below w0.heap.size w0 w) :
 SeqT (boxT g) Tryz.prog 1 54 #[.pointer (some ⟨g, 0, none⟩)] (Yi.enc src.data.toList) (KpS w0.heap.size g) (endY src.data.toList) (fun _ => True) (okY src.data.toList) w := by
 intro l J Jx W hW hJ hJx hY h0
 have HAT := qh (at_is src.data.toList (by simpa using hsrc))
 have hsl : src.data.toList.length = src.size := by simp
 have HSL := qh (show scanL src.data.toList = scanAt src.data.toList 0 by rw [scanL_eq, if_neg (by omega)])
 have HS0 := qh (show ItS src.data.toList w0 g J W.heap.size 0 [] src W from ⟨rfl, hg.below hW hg.lt, hb0.trans (hW.mono hb0.size), h0, Nat.le_refl _, (by simp), (by rw [HSL.out] <;> (cases scanAt src.data.toList 0 <;> rfl)), Nat.le_refl _⟩)
 have HJ := qh hJ
 have HY := qh hY
 have HBG := qh (fun (w : World) => Begin_any w)
 generalize src.data.toList = tx at *
 clear hg hJ hJx hY h0
 refine callsIn_of_wp Tryz.func54 rfl trivial ?_ rfl
 simp only [Tryz.ntmps54, List.size_toArray, List.length_cons, List.length_nil, Nat.reduceAdd, Nat.reduceSub, Array.replicate_succ, Array.replicate_zero, List.push_toArray, List.append_toArray, List.nil_append, List.cons_append]
 gi_wp2_with fail
 refine ⟨trivial, (callsIn_wide.2 (HBG.out _)).mono ?_⟩
 rintro e w1 ⟨rfl, rfl⟩
 gi_wp2
 gi_loopg [3] (tx.length + 1) (fun gh av wr => ∃ (i : Nat) (pre : List Yi) (s : ByteArray), av = C (at_ tx i) ∧ i + s.size = tx.length ∧ s.size < gh ∧ Hid (ItS tx w0 g J W.heap.size i pre s wr))
 case atStart => exact ⟨0, [], src, rfl, by omega, by omega, HS0⟩
 case round =>
  obtain ⟨i, pre, s, rfl, hi, hgh, HS⟩ := hrel
  obtain ⟨pl, pc, hp⟩ : ∃ a b, at_ tx i = (a, b) := ⟨_, _, rfl⟩
  have hc := HS.out.box.cell 0
  have hfz := HS.out.box.frozen 0
  have hc : wr.cell? ⟨g, 0, none⟩ = some (.string s) := hc
  have hglt := HS.out.box.lt
  rw [hp]
  simp only [C]
  rcases Nat.eq_zero_or_pos s.size with h0 | h0
  ·have hre : s.toList.isEmpty = true := by rw [ByteArray.toList_eq, List.isEmpty_iff, empty_iff]; exact h0
   have hre2 : s.toList = [] := by rw [ByteArray.toList_eq, empty_iff]; exact h0
   have hii : tx.length ≤ i := by omega
   have hj := HS.out.j
   obtain ⟨fn, tmps, assign, body, hy, hR⟩ := HY.out pre ((noTk, i, i), 0) wr hj ⟨by have := HS.out.len; omega, fun h => absurd rfl h⟩
   have hE := qh (show endY tx (pre ++ [((noTk, i, i), 0)]) from fun _ => by rw [HS.out.scan, scanAt_end hii]; simp [Except.map])
   unfold Yi.enc at hy
   simp only [hp, Tk.val, Tk.vals, C, noTk, Int.cast_ofNat_Int] at hy
   clear HS HY HJ HSL HAT
   gi_wp2
   refine hR.mono ?_
   rintro e W3 (⟨rfl, hJ3, hk3⟩ | ⟨rfl, hJx3⟩)
   ·gi_wp2
    go_end0
    exact ⟨⟨_, rfl⟩, .inl ⟨_, hE.out, hJ3⟩⟩
   ·gi_wp2
    go_end0
    exact ⟨⟨_, rfl⟩, .inr ⟨_, trivial, hJx3⟩⟩
  ·have hne : s.toList.isEmpty = false := by rw [ByteArray.toList_eq, List.isEmpty_eq_false_iff, ne_eq, empty_iff]; omega
   have hne2 : ¬ s.toList = [] := by rw [ByteArray.toList_eq, empty_iff]; omega
   have hil : i < tx.length := by omega
   have HBC := qh (blank_cases hil)
   have HBL := qh (blank_any s (by omega) wr)
   rw [HS.out.txt] at HBL
   have hpn := (HAT.out i).1
   have hpb := (HAT.out i).2
   rw [hp] at hpn hpb
   have HBE := qh (fun (n : Nat) (ql qc : Nat) (hq : at_ tx (i + n) = (ql, qc)) (W : World) => (show Calls Tryz.prog 57 #[.complex .f64 (fl pl) (fl pc), .string (s.extract 0 n)] W fun e w' => e = .returned (.complex .f64 (fl ql) (fl qc)) ∧ W = w' by
    have := Behind_any (pl, pc) (s.extract 0 n) W (by show pl < _; have := hpb.1; dsimp only at this; omega) (by show pc < _; have := hpb.2; dsimp only at this; omega) (by rw [ByteArray.size_extract]; omega)
    rw [take_data, HS.out.txt, ← hp, at_add, hq] at this
    rw [hp] at this
    exact this))
   clear hpn hpb
   gi_wp2_with fail
   refine ⟨trivial, (callsIn_wide.2 HBL.out).mono ?_⟩
   rintro e w1 ⟨rfl, rfl⟩
   rcases HBC.out with ⟨n, hn1, hn2, hbe, hsc⟩ | ⟨hbe, hsc⟩ | ⟨hbe, hsc⟩
   ·rw [hbe]
    have n0 : ((n : Int) == 0) = false := by simp only [beq_eq_false_iff_ne, ne_eq]; omega
    clear HBC HBL hbe
    obtain ⟨ql, qc, hq⟩ : ∃ a b, at_ tx (i + n) = (a, b) := ⟨_, _, rfl⟩
    have HB := qh (HBE.out n ql qc hq)
    have y0 : (0 : Int) ≤ (n : Int) := by omega
    have y1 : (n : Int) ≤ (s.size : Int) := by omega
    clear HBE
    gi_wp2
    gi_region_with (refine ⟨trivial, ?_⟩; gi_at_call 57; refine (callsIn_wide.2 (HB.out _)).mono ?_; rintro e w2 ⟨rfl, rfl⟩)
    all_goals
     gi_wp2
     have HN := qh (HS.out.step HJ.out hg0 (n := n) (by omega) (by rw [HS.out.scan, hsc]) )
     gi_roundg (s.size - n + 1)
     case rel => exact ⟨i + n, pre, s.extract n s.size, by rw [hq]; rfl, by rw [ByteArray.size_extract]; omega, by rw [ByteArray.size_extract]; omega, HN⟩
     case measure => omega
   ·rw [hbe]
    obtain ⟨ql, qc, hq⟩ : ∃ a b, at_ tx (i + 0) = (a, b) := ⟨_, _, rfl⟩
    have hb0' := HBE.out 0 ql qc hq
    rw [show s.extract 0 0 = ByteArray.empty from by simp] at hb0'
    have HB := qh hb0'
    have y1 : (0 : Int) ≤ (s.size : Int) := by omega
    clear HBE HBC HBL hbe hb0'
    have HS2 := qh (HS.out.grown HJ.out (Nat.le_trans HS.out.bel.size nl) (World.grownBy_alloc wr (.cells #[.int .u8 0, .complex .f64 (fl pl) (fl pc), .complex .f64 (fl ql) (fl qc), .string ⟨#[]⟩, .int .i64 0] 40) none))
    have hj := HS2.out.j
    obtain ⟨fn, tmps, assign, body, hy, hR⟩ := HY.out pre ((noTk, i, i + 0), 43) _ hj ⟨by have := HS.out.len; omega, fun h => by rw [HS.out.scan, hsc]; rfl⟩
    have hE := qh (show endY tx (pre ++ [((noTk, i, i + 0), 43)]) from fun h => absurd (h _ (List.mem_append_right _ (List.mem_singleton.2 rfl))) (by simp))
    unfold Yi.enc at hy
    simp only [hp, hq, Tk.val, Tk.vals, C, noTk, Int.cast_ofNat_Int] at hy
    clear HS HY HJ HSL HAT hj
    gi_wp2_with fail
    refine ⟨trivial, ?_⟩
    with_reducible refine (callsIn_wide.2 (HB.out _)).mono ?_
    rintro e w2 ⟨rfl, rfl⟩
    gi_wp2
    refine hR.mono ?_
    rintro e W3 (⟨rfl, hJ3, hk3⟩ | ⟨rfl, hJx3⟩)
    ·gi_wp2
     refine bodyPost_ret (results_none rfl _ _ _) rfl ?_
     exact ⟨⟨_, rfl⟩, .inl ⟨_, hE.out, hJ3⟩⟩
    ·gi_wp2
     refine bodyPost_ret (results_none rfl _ _ _) rfl ?_
     exact ⟨⟨_, rfl⟩, .inr ⟨_, trivial, hJx3⟩⟩
   ·rw [hbe]
    have HTK := qh (fun (W : World) (E' : EnvS W) => token_any s h0 (by omega) E')
    have hal := World.grownBy_alloc wr (.cells #[.int .u8 0, .complex .f64 0 0, .complex .f64 0 0, .string ⟨#[]⟩, .int .i64 0] 40) none
    have HEN := qh (E.below nl ((HS.out.grown HJ.out HS.out.bel.size hal).bel))
    have HSC := qh hsc
    clear HBC HBL hbe hal hsc
    gi_wp2_with fail
    refine ⟨trivial, ?_⟩
    with_reducible refine (callsIn_wide.2 (HTK.out _ HEN.out)).mono ?_
    rintro e w3 ⟨ht, hb⟩
    rw [HS.out.txt] at ht
    obtain ⟨ka, kb, kc, n, k, he, hn, hk0, hk1⟩ : ∃ (ka : Nat) (kb : ByteArray) (kc : Int) (n k : Nat), e = .returned (.tuple #[.agg #[.int .u8 ka, .complex .f64 0 0, .complex .f64 0 0, .string kb, .int .i64 kc], .int .i64 n, .int .i64 k]) ∧ n ≤ s.size ∧
     (k ≠ 0 → scanAt tx i = .error (i, k)) ∧ (k = 0 → 1 ≤ n ∧ scanAt tx i = (scanAt tx (i + n)).map ((⟨ka, kb, kc⟩, i, i + n) :: ·)) := by
     have hln : (tx.drop i).length = s.size := by rw [← HS.out.txt]; simp
     have hdn := drop_ne hil
     have hsc := HSC.out
     cases ho : oneN (tx.drop i) with
     | error k =>
       rw [ho] at ht hsc
       obtain ⟨⟨a, b, c⟩, n, h1, h2⟩ := ht
       rw [tok_vals0] at h2
       refine ⟨a, b, c, n, k, h2, by omega, fun _ => hsc, fun h => ?_⟩
       have := oneN_err _ _ ho
       omega
     | ok x =>
       obtain ⟨⟨a, b, c⟩, n⟩ := x
       rw [ho] at ht hsc
       have h2 : e = _ := ht
       rw [tok_vals0] at h2
       have hbd := oneN_bd _ hdn _ _ ho
       exact ⟨a, b, c, n, 0, h2, by omega, fun h => absurd rfl h, fun _ => ⟨hbd.1, hsc⟩⟩
    subst he
    have hsz := hb.size
    rw [World.size_alloc] at hsz
    have hlt3 : wr.heap.size < w3.heap.size := by omega
    have hg3 : g < w3.heap.size := by omega
    have hne3 : ¬ g = wr.heap.size := by omega
    have hB0 := (Blk.new wr 40 #[.int .u8 0, .complex .f64 0 0, .complex .f64 0 0, .string ⟨#[]⟩, .int .i64 0]).below hb (by simp)
    have hgr : wr.grownBy w3 none := (World.grownBy_alloc wr _ none).trans ⟨hb.os, hb.tape, hb.output, hb.size, fun k hk _ => hb.block k hk⟩
    have HS3 := qh (HS.out.grown HJ.out HS.out.bel.size hgr)
    obtain ⟨m0, m1, m2, m3, m4, f0, f1, f2, f3, f4⟩ := hB0.tok
    have hc3 := HS3.out.box.cell 0
    have hc3 : w3.cell? ⟨g, 0, none⟩ = some (.string s) := hc3
    have hfz3 := HS3.out.box.frozen 0
    have HB0 := qh hB0
    have HK0 := qh hk0
    have HK1 := qh hk1
    have HGR := qh hgr
    obtain ⟨ql, qc, hq⟩ : ∃ a b, at_ tx (i + n) = (a, b) := ⟨_, _, rfl⟩
    have HB := qh (HBE.out n ql qc hq)
    have y0 : (0 : Int) ≤ (n : Int) := by omega
    have y1 : (n : Int) ≤ (s.size : Int) := by omega
    clear HBE HTK HEN ht hb hsz hB0 hgr hk0 hk1
    gi_wp2_with fail
    refine ⟨trivial, ?_⟩
    with_reducible refine (callsIn_wide.2 (HB.out _)).mono ?_
    rintro e w4 ⟨rfl, hw⟩
    have hB4 := tok_stored HB0.out (.int .u8 ka) (.complex .f64 0 0) (.complex .f64 0 0) (.string kb) (.int .i64 kc)
    have hg4 : wr.grownBy w4 none := by
     rw [← hw]
     exact ((((HGR.out.setNew _ nl _).setNew _ nl _).setNew _ nl _).setNew _ nl _).setNew _ nl _
    rw [hw] at hB4
    have hlt4 := hB4.lt
    obtain ⟨m0, m1, m2, m3, m4, f0, f1, f2, f3, f4⟩ := hB4.tok
    have HS5 := qh (HS.out.grown HJ.out HS.out.bel.size ((hg4.setNew ⟨wr.heap.size, 1, none⟩ nl (.complex .f64 (fl pl) (fl pc))).setNew ⟨wr.heap.size, 2, none⟩ nl (.complex .f64 (fl ql) (fl qc))))
    have hj := HS5.out.j
    obtain ⟨fn, tmps, assign, body, hy, hR⟩ := HY.out pre ((⟨ka, kb, kc⟩, i, i + n), k) _ hj ⟨by have := HS.out.len; omega, fun h => by rw [HS.out.scan, HK0.out h]; rfl⟩
    have HE1 := qh (show k ≠ 0 → endY tx (pre ++ [((⟨ka, kb, kc⟩, i, i + n), k)]) from fun hk h => absurd (h _ (List.mem_append_right _ (List.mem_singleton.2 rfl))) hk)
    unfold Yi.enc at hy
    simp only [hp, hq, Tk.val, Tk.vals, C] at hy
    clear HB0 hB4 hw hj hg4 hc3 hfz3 hlt3 hg3
    clear hc hfz
    gi_wp2
    refine hR.mono ?_
    rintro e W3 (⟨rfl, hJ3, hk3⟩ | ⟨rfl, hJx3⟩)
    ·by_cases hk : k = 0
     ·obtain ⟨hn1, hsc⟩ := HK1.out hk
      subst hk
      have HS6 := qh (HS5.out.next HJ.out hg0 hk3 hJ3 rfl hn1 hn (by rw [HS.out.scan, hsc]; cases scanAt tx (i + n) <;> simp [Except.map]))
      have hB6 : Blk W3 g 9 #[.string s] := hk3.2.trans HS5.out.box
      have hc6 := hB6.cell 0
      have hc6 : W3.cell? ⟨g, 0, none⟩ = some (.string s) := hc6
      have hfz6 := hB6.frozen 0
      clear HS5 HS hk3 hJ3 hB6 HK0 HK1 HE1 m0 m1 m2 m3 m4 f0 f1 f2 f3 f4 hy hlt4 hglt hne3
      gi_wp2
      gi_region_with (refine ⟨trivial, ?_⟩; gi_at_call 57; refine (callsIn_wide.2 (HB.out _)).mono ?_; rintro e w7 ⟨rfl, rfl⟩)
      all_goals
       gi_wp2
       gi_roundg (s.size - n + 1)
       case rel => exact ⟨i + n, _, s.extract n s.size, by rw [hq]; rfl, by rw [ByteArray.size_extract]; omega, by rw [ByteArray.size_extract]; omega, HS6⟩
       case measure => omega
     ·have hE := qh (HE1.out hk)
      have k0 : ((k : Int) != 0) = true := by simp only [bne_iff_ne, ne_eq]; omega
      clear HE1 HS5 HS hk3 HK0 HK1 m0 m1 m2 m3 m4 f0 f1 f2 f3 f4 hy hlt4 hglt hne3
      gi_wp2
      refine bodyPost_ret (results_none rfl _ _ _) rfl ?_
      exact ⟨⟨_, rfl⟩, .inl ⟨_, hE.out, hJ3⟩⟩
    ·clear HE1 HS5 HS HK0 HK1 m0 m1 m2 m3 m4 f0 f1 f2 f3 f4 hy hlt4 hglt hne3
     gi_wp2
     refine bodyPost_ret (results_none rfl _ _ _) rfl ?_
     exact ⟨⟨_, rfl⟩, .inr ⟨_, trivial, hJx3⟩⟩
end Lx
end Go.Proofs.YtkemhmfdooghkaaGreatDoor
