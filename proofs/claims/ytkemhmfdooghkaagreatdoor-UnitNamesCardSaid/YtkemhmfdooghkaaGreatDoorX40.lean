import Derived.Test.YtkemhmfdooghkaaGreatDoorX39
import Derived.Lib.SlicesS
set_option linter.unusedSimpArgs false
set_option linter.unusedVariables false
set_option maxRecDepth 100000
set_option maxHeartbeats 6400000
namespace Go.Proofs.YtkemhmfdooghkaaGreatDoor
namespace Lx
open Go.RowKit
open Pl Fl
structure EnvS (w : World) : Prop where
 ml : ∃ m : Int, w.cell? ⟨2, 0, none⟩ = some (.int .i64 m)
 es : ∃ t v, w.cell? ⟨0, 0, none⟩ = some (.iface t v)
 er : ∃ t v, w.cell? ⟨1, 0, none⟩ = some (.iface t v)
theorem cell_lt {w : World} {p : Addr} {v : Value} (h : w.cell? p = some v) : p.block < w.heap.size := by
 unfold World.cell? at h
 rcases Nat.lt_or_ge p.block w.heap.size with hlt | hge
 ·exact hlt
 ·rw [Array.getElem?_eq_none hge] at h; simp at h
theorem EnvS.below {w w' : World} {B : Nat} (E : EnvS w) (hB : w.heap.size ≤ B) (h : Below B w w') : EnvS w' := by
 obtain ⟨⟨m, hm⟩, ⟨t, v, he⟩, ⟨t', v', hr⟩⟩ := E
 have b1 := cell_lt hm
 have b2 := cell_lt he
 have b3 := cell_lt hr
 exact ⟨⟨m, (h.cell (by omega)).trans hm⟩, ⟨t, v, (h.cell (by omega)).trans he⟩, ⟨t', v', (h.cell (by omega)).trans hr⟩⟩
theorem index_infix (s sub : List UInt8) : (0 ≤ Lib.index s sub) ↔ ∃ i, i ≤ s.length ∧ Lib.occAt s sub i = true := by
 rcases Lib.index_spec s sub with ⟨h1, h2⟩ | ⟨i, h1, h2, h3, _⟩
 ·rw [h1]
  constructor
  ·intro h; omega
  ·rintro ⟨i, hi, e⟩; rw [h2 i hi] at e; cases e
 ·rw [h1]
  exact ⟨fun _ => ⟨i, h2, h3⟩, fun _ => by omega⟩
theorem contains_infix (s sub : List UInt8) : Lib.contains s sub = true ↔ sub <:+: s := by
 unfold Lib.contains
 rw [decide_eq_true_eq, index_infix]
 constructor
 ·rintro ⟨i, hi, h⟩
  have := List.isPrefixOf_iff_prefix.1 h
  obtain ⟨r, hr⟩ := this
  exact ⟨s.take i, r, by rw [List.append_assoc, hr, List.take_append_drop]⟩
 ·rintro ⟨l, r, h⟩
  refine ⟨l.length, by rw [← h]; simp, ?_⟩
  unfold Lib.occAt
  rw [List.isPrefixOf_iff_prefix, ← h, List.append_assoc, List.drop_left]
  exact ⟨r, rfl⟩
theorem indexByte_nonneg (s : List UInt8) (c : UInt8) : decide (0 ≤ Lib.indexByte s c) = s.contains c := by
 induction s with
 | nil => rfl
 | cons a s ih =>
   have hge := Lib.indexByte_ge s c
   unfold Lib.indexByte
   cases h : a == c
   ·rw [if_neg (by simp)]
    have ha : ¬ c = a := fun e => by subst e; simp at h
    rw [List.contains_cons, show (c == a) = false by simpa using ha, Bool.false_or, ← ih]
    by_cases h2 : Lib.indexByte s c = -1
    ·rw [if_pos (by simp [h2]), h2]
    ·rw [if_neg (by simpa using h2)]
     rw [Bool.eq_iff_iff, decide_eq_true_eq, decide_eq_true_eq]
     omega
   ·rw [if_pos rfl]
    have ha : c = a := by have := eq_of_beq h; exact this.symm
    subst ha
    simp
def rowW (l : List ByteArray) : List UInt8 := l.flatMap fun x => x.data.toList ++ [32]
theorem pre_word : ∀ (s w t : List UInt8), 32 ∉ s → 32 ∉ w → ((s ++ [32]) <+: (w ++ 32 :: t) ↔ s = w)
 | [], [], t, _, _ => by simp
 | [], b :: w, t, _, hw => by
   have : ¬ 32 = b := fun e => hw (by rw [e]; simp)
   simp [List.cons_prefix_cons, this]
 | a :: s, [], t, hs, _ => by
   have : ¬ a = 32 := fun e => hs (by rw [e]; simp)
   simp [List.cons_prefix_cons, this]
 | a :: s, b :: w, t, hs, hw => by
   have h1 : 32 ∉ s := fun h => hs (List.mem_cons_of_mem _ h)
   have h2 : 32 ∉ w := fun h => hw (List.mem_cons_of_mem _ h)
   rw [List.cons_append, List.cons_append, List.cons_prefix_cons, pre_word s w t h1 h2, List.cons.injEq]
theorem infix_skip (s : List UInt8) : ∀ (w t : List UInt8), 32 ∉ w → ((32 :: s) <:+: (w ++ t) ↔ (32 :: s) <:+: t)
 | [], t, _ => by simp
 | b :: w, t, hw => by
   have hb : ¬ 32 = b := fun e => hw (by rw [e]; simp)
   rw [List.cons_append, List.infix_cons_iff, infix_skip s w t fun h => hw (List.mem_cons_of_mem _ h), List.cons_prefix_cons]
   simp [hb]
theorem infix_row (s : List UInt8) (hs : 32 ∉ s) : ∀ (l : List ByteArray), (∀ x ∈ l, 32 ∉ x.data.toList) → ((32 :: (s ++ [32])) <:+: (32 :: rowW l) ↔ ∃ x ∈ l, x.data.toList = s)
 | [], _ => by
   rw [List.infix_cons_iff, List.cons_prefix_cons]
   simp [rowW]
 | x :: l, h => by
   have hx := h x (by simp)
   have e : rowW (x :: l) = x.data.toList ++ 32 :: rowW l := by simp [rowW]
   rw [List.infix_cons_iff, List.cons_prefix_cons, e, pre_word _ _ _ hs hx, infix_skip _ _ _ hx, infix_row s hs l fun y hy => h y (List.mem_cons_of_mem _ hy)]
   simp only [true_and, List.mem_cons, exists_eq_or_imp]
   exact or_congr ⟨fun h => h.symm, fun h => h.symm⟩ Iff.rfl
theorem words_no32 : ∀ x ∈ words, 32 ∉ x.data.toList := by decide
def wordsT : List UInt8 := 32 :: rowW words
theorem wordsT_len : wordsT.length = 226 := by decide +kernel
theorem isW_row (s : ByteArray) (hs : 32 ∉ s.data.toList) : Lib.contains wordsT (32 :: (s.data.toList ++ [32])) = isW s := by
 rw [Bool.eq_iff_iff, contains_infix]
 unfold wordsT
 rw [infix_row _ hs words words_no32]
 unfold isW
 rw [List.any_eq_true]
 exact ⟨fun ⟨x, h1, h2⟩ => ⟨x, h1, by simp [h2]⟩, fun ⟨x, h1, h2⟩ => ⟨x, h1, by simpa using h2⟩⟩
theorem isW_nil {s : ByteArray} (h : s.size = 0) : isW s = false := by
 unfold isW
 rw [(empty_iff s).2 h]
 decide
theorem isW_32 {s : ByteArray} (h : 32 ∈ s.data.toList) : isW s = false := by
 unfold isW
 rw [List.any_eq_false]
 intro x hx e
 rw [beq_iff_eq] at e
 exact words_no32 x hx (e ▸ h)
theorem Word_any (s : ByteArray) (hs : s.size ≤ 9223372036854775800) {w : World} (E : EnvS w) : Calls Tryz.prog 90 #[.string s] w fun e w' => e = .returned (.bool (isW s)) ∧ w' = w := by
 obtain ⟨m, hm⟩ := E.ml
 have hc1 := Tryz.strings_Contains_one s 32 w
 rw [indexByte_nonneg] at hc1
 have HC1 := qh hc1
 have HC2 := qh (show ∀ x y : ByteArray, x.data.toList = wordsT → y.data.toList = 32 :: (s.data.toList ++ [32]) → Calls Tryz.prog 94 #[.string x, .string y] w fun e w' => e = .returned (.bool (Lib.contains wordsT (32 :: (s.data.toList ++ [32])))) ∧ w' = w by
  intro x y hx hy
  rw [← hx, ← hy]
  refine Tryz.strings_Contains x y m w ?_ hm
  have := congrArg List.length hx
  rw [wordsT_len] at this
  rw [show x.size = x.data.toList.length by simp, this]
  omega)
 have z1 : ¬ 9223372036854775807 < 1 + s.size := by omega
 have z2 : ¬ 9223372036854775807 < 1 + s.size + 1 := by omega
 clear hc1 hm
 have hl : s.toList = s.data.toList := ByteArray.toList_eq s
 by_cases h0 : s.size = 0
 ·have HR := qh (isW_nil h0)
  have hb : (s.toList != []) = false := by rw [hl, (empty_iff s).2 h0]; rfl
  have hb2 : s.toList.isEmpty = true := by rw [hl, (empty_iff s).2 h0]; rfl
  have hb3 : s.toList = [] := by rw [hl, (empty_iff s).2 h0]
  clear hl
  go_enter Tryz.func90, Tryz.ntmps90
  go_wp2
  go_ret
  exact ⟨by rw [HR.out]; rfl, rfl⟩
 have hb2 : s.toList.isEmpty = false := by rw [hl, List.isEmpty_eq_false_iff, ne_eq, empty_iff]; exact h0
 have hb3 : ¬ s.toList = [] := by rw [hl, empty_iff]; exact h0
 clear hl
 by_cases h32 : s.data.toList.contains 32 = true
 ·have HR := qh (isW_32 (s := s) (by simpa using h32))
  rw [h32] at HC1
  go_enter Tryz.func90, Tryz.ntmps90
  go_wp2_with fail
  ((with_reducible refine HC1.out.mono ?_); rintro e w1 ⟨rfl, hw⟩)
  have hw2 := hw.symm
  subst hw2
  go_wp2
  go_ret
  exact ⟨by rw [HR.out]; rfl, rfl⟩
 ·have h33 : s.data.toList.contains 32 = false := by simpa using h32
  have HR := qh (isW_row s (by simpa using h32))
  rw [h33] at HC1
  go_enter Tryz.func90, Tryz.ntmps90
  go_wp2_with fail
  ((with_reducible refine HC1.out.mono ?_); rintro e w1 ⟨rfl, hw⟩)
  have hw2 := hw.symm
  subst hw2
  clear hw
  go_wp2_with fail
  ((with_reducible refine (HC2.out _ _ (by decide +kernel) (by simp)).mono ?_); rintro e w1 ⟨rfl, hw⟩)
  have hw2 := hw.symm
  subst hw2
  clear hw
  go_wp2
  go_ret
  exact ⟨by rw [← HR.out]; rfl, rfl⟩
end Lx
namespace Lx
open Go.RowKit
open Pl Fl
attribute [local go_sem] run_store_complexL
def tokEnd (s : List UInt8) (r : Except Nat (Tk × Nat)) (e : Ending) : Prop := match r with
 | .ok (t, n) => e = .returned (.tuple #[t.val (0, 0) (0, 0), .int .i64 n, .int .i64 0])
 | .error k => ∃ (t : Tk) (n : Nat), n ≤ s.length ∧ e = .returned (.tuple #[t.val (0, 0) (0, 0), .int .i64 n, .int .i64 k])
theorem tok_vals0 (k : Nat) (t : ByteArray) (n : Int) : (Tk.mk k t n).val (0, 0) (0, 0) = .agg #[.int .u8 k, .complex .f64 0 0, .complex .f64 0 0, .string t, .int .i64 n] := by
 simp [Tk.val, Tk.vals, C, fl_0]
theorem name_any (s : ByteArray) (h0 : 0 < s.size) (hs : s.size ≤ 9223372036854775800) (hc : isL s[0] = true) {w : World} (E : EnvS w) :
 Calls Tryz.prog 67 #[.string s] w fun e w' => tokEnd s.data.toList (oneN s.data.toList) e ∧ Below w.heap.size w w' := by
 have HR := qh (run_part s hs)
 have HLE := runN_le isP s.data.toList
 have HE1 : ∀ k, runN isP s.data.toList = k → 32 < k → oneN s.data.toList = .error 5 := fun k hk h32 => by
  unfold oneN; rw [head_at s h0]; simp only [Option.getD_some, hc, if_true]; rw [hk, if_pos h32]
 have HE2 : ∀ k, runN isP s.data.toList = k → ¬ 32 < k → ∀ b, isW (s.extract 0 k) = b → oneN s.data.toList = .ok (⟨if b then 6 else 1, s.extract 0 k, 0⟩, k) := fun k hk h32 b hb => by
  unfold oneN; rw [head_at s h0]; simp only [Option.getD_some, hc, if_true]; rw [hk, if_neg h32, ← ext_take, hb]
 have HE1' := qh HE1
 have HE2' := qh HE2
 have HEn := qh E
 clear HE1 HE2 E
 go_enter Tryz.func67, Tryz.ntmps67
 go_wp2_with fail
 ((with_reducible refine (HR.out _).mono ?_); rintro e w1 ⟨rfl, rfl⟩)
 have hls : s.data.toList.length = s.size := by simp
 rw [hls] at HLE
 generalize hk : runN isP s.data.toList = k at *
 have x0 : (0 : Int) ≤ (k : Int) := by omega
 have x2 : (k : Int) ≤ (s.size : Int) := by omega
 clear hk HR
 by_cases h32 : 32 < k
 ·have HE := qh (HE1'.out k rfl h32)
  have h32' : (32 : Int) < (k : Int) := by omega
  clear HE1' HE2'
  go_wp2
  (try simp only [Exit.inBlock, Exit.then])
  refine bodyPost_ret (tok_ret3 rfl _ _ w.heap.size _ _ _ _ _ rfl ((Blk.new _ _ _).alloc _)) rfl ?_
  refine ⟨?_, ((Below.refl _ _).alloc nl _).alloc (by simp) _⟩
  rw [HE.out]
  exact ⟨⟨1, s.extract 0 k, 0⟩, k, by rw [hls]; exact HLE, by rw [tok_vals0]; rfl⟩
 ·have HE := qh (HE2'.out k rfl h32)
  have h32' : ¬ (32 : Int) < (k : Int) := by omega
  have HW := qh (fun (w' : World) (E' : EnvS w') => Word_any (s.extract 0 k) (by simp; omega) E')
  clear HE1' HE2'
  go_wp2_with fail
  ((with_reducible refine (HW.out _ (HEn.out.below nl (((Below.refl _ _).alloc nl _).alloc (by simp) _))).mono ?_); rintro e w1 ⟨rfl, hw⟩)
  have hw2 := hw.symm
  subst hw2
  clear hw
  cases hw : isW (s.extract 0 k)
  all_goals
   have HE3 := qh (HE.out _ hw)
   go_wp2
   (try simp only [Exit.inBlock, Exit.then])
   refine bodyPost_ret (tok_ret3 rfl _ _ w.heap.size _ _ _ _ _ rfl ((Blk.new _ _ _).alloc _)) rfl ?_
   refine ⟨?_, ((Below.refl _ _).alloc nl _).alloc (by simp) _⟩
   rw [HE3.out]
   simp [tokEnd, tok_vals0]
theorem text_any (s : ByteArray) (h0 : 0 < s.size) (hs : s.size ≤ 9223372036854775800) (hl : isL s[0] = false) (hd : isD s[0] = false) (hq : s[0] = 34 ∨ s[0] = 39) (w : World) :
 Calls Tryz.prog 70 #[.string s] w fun e w' => tokEnd s.data.toList (oneN s.data.toList) e ∧ Below w.heap.size w w' := by
 have HQ := qh (one_quote s h0 hl hd hq)
 have HR := qh (fun (w' : World) (hg : w'.cell? ⟨w.heap.size, 0, none⟩ = some (.string s)) => run_text h0 w.heap.size (s.extract 1 s.size) (by simp; omega) w' hg)
 have HE := qh (ext_drop s 1)
 have HLE := qh (runN_le (isQ s[0]) (s.data.toList.drop 1))
 have x1 : (1 : Int) ≤ (s.size : Int) := by omega
 go_enter Tryz.func70, Tryz.ntmps70
 go_wp2_with fail
 ((with_reducible refine (HR.out _ ?_).mono ?_))
 ·simp
 rintro e w1 ⟨rfl, rfl⟩
 rw [HE.out]
 have hdl : (s.data.toList.drop 1).length = s.size - 1 := by simp
 have hls : s.data.toList.length = s.size := by simp
 rw [hdl] at HLE
 clear HR HE hdl
 have HQ2 := qh (fun k (h1 : 1 ≤ k) h2 => HQ.out k h1 h2)
 clear HQ
 obtain ⟨m, hm⟩ : ∃ m, m = runN (isQ s[0]) (s.data.toList.drop 1) := ⟨_, rfl⟩
 rw [← hm] at HLE ⊢
 obtain ⟨k, hk⟩ : ∃ k, k = m + 1 := ⟨_, rfl⟩
 have HQ3 := qh (HQ2.out k (by omega) (by rw [← hm]; omega))
 have hmk : m = k - 1 := by omega
 have hk1 : 1 ≤ k := by omega
 have hkl : k ≤ s.size := by have := HLE.out; omega
 clear HQ2 hm hk HLE
 subst hmk
 have hsum : 1 + ((k - 1 : Nat) : Int) = (k : Nat) := by omega
 have y0 : (0 : Int) ≤ (k : Int) := by omega
 have y1 : (1 : Int) ≤ (k : Int) := by omega
 have y2 : (k : Int) ≤ (s.size : Int) := by omega
 by_cases hks : k < s.size
 ·have y3 : (k : Int) < (s.size : Int) := by omega
  have z1 : ((k : Int) == (s.size : Int)) = false := by simp only [beq_eq_false_iff_ne, ne_eq]; omega
  have HA : Hid (s.data.toList[k]? = some s[k]) := qh (by have := congrArg List.head? (drop_cons s k hks); rw [List.head?_drop] at this; rw [this]; rfl)
  by_cases h10 : s[k] = 10
  ·have z2 : ((s[k].toNat : Int) == 10) = true := by rw [h10]; rfl
   have HN := qh (HQ3.out.1 (.inr (by rw [HA.out, h10])))
   clear HQ3 h10
   go_wp2
   (try simp only [Exit.inBlock, Exit.then])
   refine bodyPost_ret (tok_ret3 rfl _ _ (w.heap.size + 1) _ _ _ _ _ rfl (by have := Blk.new (w.alloc (.cells #[.string s] 9)) 40 #[.int .u8 0, .complex .f64 0 0, .complex .f64 0 0, .string ⟨#[]⟩, .int .i64 0]; rwa [World.size_alloc] at this)) rfl ?_
   refine ⟨?_, ((Below.refl _ _).alloc nl _).alloc (by simp) _⟩
   rw [HN.out]
   exact ⟨⟨0, ⟨#[]⟩, 0⟩, k, by rw [hls]; exact hkl, by rw [tok_vals0]; rfl⟩
  ·have z2 : ((s[k].toNat : Int) == 10) = false := by
    simp only [beq_eq_false_iff_ne, ne_eq]
    exact fun e => h10 (UInt8.toNat_inj.1 (by rw [show (10 : UInt8).toNat = 10 from rfl]; omega))
   have HN := qh (HQ3.out.2 (by rw [HA.out]; simp; exact h10))
   clear HQ3 h10
   go_wp2
   (try simp only [Exit.inBlock, Exit.then])
   refine bodyPost_ret (tok_ret3 rfl _ _ (w.heap.size + 1) _ _ _ _ _ rfl (by have := Blk.new (w.alloc (.cells #[.string s] 9)) 40 #[.int .u8 4, .complex .f64 0 0, .complex .f64 0 0, .string (s.extract 1 k), .int .i64 0]; rwa [World.size_alloc] at this)) rfl ?_
   refine ⟨?_, ((Below.refl _ _).alloc nl _).alloc (by simp) _⟩
   rw [HN.out]
   simp [tokEnd, tok_vals0]
 ·have hke : k = s.size := by omega
  have z1 : ((k : Int) == (s.size : Int)) = true := by simp [hke]
  have HN := qh (HQ3.out.1 (.inl (List.getElem?_eq_none (by rw [hls]; omega))))
  clear HQ3 hke
  go_wp2
  (try simp only [Exit.inBlock, Exit.then])
  refine bodyPost_ret (tok_ret3 rfl _ _ (w.heap.size + 1) _ _ _ _ _ rfl (by have := Blk.new (w.alloc (.cells #[.string s] 9)) 40 #[.int .u8 0, .complex .f64 0 0, .complex .f64 0 0, .string ⟨#[]⟩, .int .i64 0]; rwa [World.size_alloc] at this)) rfl ?_
  refine ⟨?_, ((Below.refl _ _).alloc nl _).alloc (by simp) _⟩
  rw [HN.out]
  exact ⟨⟨0, ⟨#[]⟩, 0⟩, k, by rw [hls]; exact hkl, by rw [tok_vals0]; rfl⟩
theorem contains_two (x : ByteArray) : Lib.containsS twos x = twos.any (fun y => y.data.toList == x.data.toList) := by
 rw [Bool.eq_iff_iff, Lib.containsS_iff, List.any_eq_true]
 exact ⟨fun h => ⟨x, h, by simp⟩, fun ⟨y, h1, h2⟩ => by rw [← bytes_ext (eq_of_beq h2)]; exact h1⟩
theorem symN_of (s : ByteArray) (h0 : 0 < s.size) : symN s.data.toList = if twos.any (fun y => y.data.toList == s.data.toList.take 2) then 2 else if ones.contains s[0] then 1 else 0 := by
 unfold symN
 rw [head_at s h0]
 congr 1
theorem ext_one (s : ByteArray) (h0 : 0 < s.size) : s.extract 0 1 = ⟨#[s[0]]⟩ := by
 apply bytes_ext
 rw [take_data]
 have := drop_cons s 0 h0
 rw [List.drop_zero] at this
 rw [this]
 rfl
theorem twos_not1 (x : ByteArray) (h : x.data.toList.length < 2) : twos.any (fun y => y.data.toList == x.data.toList) = false := by
 rw [List.any_eq_false]
 intro y hy e
 have := congrArg List.length (eq_of_beq e)
 have := twos_size y hy
 omega
theorem cell_top {W : World} {cs : Array Value} {t : TypeId} {b : Nat} (hb : b = W.heap.size) (j : Nat) : (W.alloc (.cells cs t)).cell? ⟨b, j, none⟩ = cs[j]? := by
 subst hb; exact cell_of_row _ _ _ _ _ _ (heap_alloc_new W _)
theorem symbol_anyP (s : ByteArray) (h0 : 0 < s.size) (hs : s.size ≤ 9223372036854775800) (hl : isL s[0] = false) (hd : isD s[0] = false) (hq : ¬ (s[0] = 34 ∨ s[0] = 39)) (w : World) :
 Calls Tryz.prog 71 #[.string s] w fun e w' => tokEnd s.data.toList (oneN s.data.toList) e ∧ Below w.heap.size w w' := by
 have hone : oneN s.data.toList = if symN s.data.toList = 0 then .error 40 else .ok (plainT (bt (s.data.toList.take (symN s.data.toList))), symN s.data.toList) := by
  unfold oneN
  rw [head_at s h0]
  simp only [Option.getD_some, hl, hd, hq, Bool.false_eq_true, if_false]
 have HO := qh hone
 have HSY := qh (symN_of s h0)
 have hcc := fun (w' : World) => Tryz.strings_Contains_one onesB s[0] w'
 rw [← ext_one s h0] at hcc
 unfold onesB at hcc
 have HC := qh hcc
 have HTW := qh (fun (b : Nat) (w' : World) (hc : ∀ j, j < twos.length → w'.cell? ⟨b, 0 + j, none⟩ = some (.string (twos.getD j ByteArray.empty))) => Tryz.slices_Contains_string b 0 5 5 twos (s.extract 0 2) w' (by decide) (by decide) hc)
 have x1 : (1 : Int) ≤ (s.size : Int) := by omega
 clear hone hcc
 go_enter Tryz.func71, Tryz.ntmps71
 by_cases h2 : 1 < s.size
 ·have x2 : (1 : Int) < (s.size : Int) := by omega
  have x3 : (2 : Int) ≤ (s.size : Int) := by omega
  have HE := qh (show Lib.containsS (twos.take 5) (s.extract 0 2) = twos.any (fun y => y.data.toList == s.data.toList.take 2) by
   rw [show twos.take 5 = twos from rfl, contains_two, take_data])
  go_wp2_with fail
  ((with_reducible refine (HTW.out _ _ ?_).mono ?_))
  ·intro j hj
   rw [cell_top (by simp)]
   rcases j with _ | _ | _ | _ | _ | j
   ·rfl
   ·rfl
   ·rfl
   ·rfl
   ·rfl
   ·exact absurd hj (by show ¬ _ < 5; omega)
  rintro e w1 ⟨rfl, hw⟩
  have hw2 := hw.symm
  subst hw2
  clear hw
  rw [HE.out]
  cases htw : twos.any (fun y => y.data.toList == s.data.toList.take 2)
  case' true =>
   have HN := qh (show symN s.data.toList = 2 by rw [HSY.out, htw]; rfl)
   clear HTW HE htw HC
   have hT : (s.extract 0 2).toList = (s.extract 0 2).data.toList := ByteArray.toList_eq _
   have HO2 := qh (show oneN s.data.toList = .ok (plainT (s.extract 0 2), 2) by rw [HO.out, HN.out, ← ext_take]; rfl)
   clear HO HN HSY
   by_cases h1 : (s.extract 0 2).data.toList = [60, 62]
   ·have b0 : ((s.extract 0 2).toList == [60, 62]) = true := by rw [hT, h1]; rfl
    have HP := qh (show plainT (s.extract 0 2) = ⟨5, ⟨#[35]⟩, 0⟩ by unfold plainT; rw [if_pos h1])
    clear hT h1
    go_wp2
    (try simp only [Exit.inBlock, Exit.then])
    refine bodyPost_ret (tok_ret3 rfl _ _ w.heap.size _ _ _ _ _ rfl (((Blk.new _ _ _).alloc _).alloc _)) rfl ?_
    refine ⟨?_, (((Below.refl _ _).alloc nl _).alloc (by simp) _).alloc (by simp; omega) _⟩
    rw [HO2.out, HP.out]
    simp [tokEnd, tok_vals0]
   have b0 : ((s.extract 0 2).toList == [60, 62]) = false := by rw [hT]; simpa using h1
   by_cases h2 : (s.extract 0 2).data.toList = [38]
   ·have b1 : ((s.extract 0 2).toList == [38]) = true := by rw [hT, h2]; rfl
    have HP := qh (show plainT (s.extract 0 2) = ⟨6, ⟨#[65, 78, 68]⟩, 0⟩ by unfold plainT; rw [if_neg h1, if_pos h2])
    clear hT h1 h2
    go_wp2
    (try simp only [Exit.inBlock, Exit.then])
    refine bodyPost_ret (tok_ret3 rfl _ _ w.heap.size _ _ _ _ _ rfl (((Blk.new _ _ _).alloc _).alloc _)) rfl ?_
    refine ⟨?_, (((Below.refl _ _).alloc nl _).alloc (by simp) _).alloc (by simp; omega) _⟩
    rw [HO2.out, HP.out]
    simp [tokEnd, tok_vals0]
   have b1 : ((s.extract 0 2).toList == [38]) = false := by rw [hT]; simpa using h2
   by_cases h3 : (s.extract 0 2).data.toList = [126]
   ·have b2 : ((s.extract 0 2).toList == [126]) = true := by rw [hT, h3]; rfl
    have HP := qh (show plainT (s.extract 0 2) = ⟨6, ⟨#[78, 79, 84]⟩, 0⟩ by unfold plainT; rw [if_neg h1, if_neg h2, if_pos h3])
    clear hT h1 h2 h3
    go_wp2
    (try simp only [Exit.inBlock, Exit.then])
    refine bodyPost_ret (tok_ret3 rfl _ _ w.heap.size _ _ _ _ _ rfl (((Blk.new _ _ _).alloc _).alloc _)) rfl ?_
    refine ⟨?_, (((Below.refl _ _).alloc nl _).alloc (by simp) _).alloc (by simp; omega) _⟩
    rw [HO2.out, HP.out]
    simp [tokEnd, tok_vals0]
   have b2 : ((s.extract 0 2).toList == [126]) = false := by rw [hT]; simpa using h3
   have HP := qh (show plainT (s.extract 0 2) = ⟨5, s.extract 0 2, 0⟩ by unfold plainT; rw [if_neg h1, if_neg h2, if_neg h3])
   clear hT h1 h2 h3
   go_wp2
   (try simp only [Exit.inBlock, Exit.then])
   refine bodyPost_ret (tok_ret3 rfl _ _ w.heap.size _ _ _ _ _ rfl (((Blk.new _ _ _).alloc _).alloc _)) rfl ?_
   refine ⟨?_, (((Below.refl _ _).alloc nl _).alloc (by simp) _).alloc (by simp; omega) _⟩
   rw [HO2.out, HP.out]
   simp [tokEnd, tok_vals0]
  case' false =>
   have HTF := qh htw
   clear HE htw
   go_wp2_with fail
   ((with_reducible refine (HC.out _).mono ?_); rintro e w2 ⟨rfl, hw⟩)
   have hw2 := hw.symm
   subst hw2
   clear hw
   rw [indexByte_nonneg, show ([43, 45, 42, 47, 126, 46, 44, 59, 40, 91, 123, 94, 61, 35, 60, 62, 58, 41, 93, 125, 124, 38] : List UInt8) = ones from rfl]
   cases hin : ones.contains s[0]
   ·have HN := qh (show oneN s.data.toList = .error 40 by rw [HO.out, HSY.out, HTF.out, hin]; rfl)
    clear HO HSY HTF hin HTW
    go_wp2
    (try simp only [Exit.inBlock, Exit.then])
    refine bodyPost_ret (tok_ret3 rfl _ _ w.heap.size _ _ _ _ _ rfl (((Blk.new _ _ _).alloc _).alloc _)) rfl ?_
    refine ⟨?_, (((Below.refl _ _).alloc nl _).alloc (by simp) _).alloc (by simp; omega) _⟩
    rw [HN.out]
    exact ⟨⟨5, ⟨#[]⟩, 0⟩, 0, Nat.zero_le _, by rw [tok_vals0]; rfl⟩
   have HN := qh (show symN s.data.toList = 1 by rw [HSY.out, HTF.out, hin]; rfl)
   clear HTF hin HTW
   have hT : (s.extract 0 1).toList = (s.extract 0 1).data.toList := ByteArray.toList_eq _
   have HO2 := qh (show oneN s.data.toList = .ok (plainT (s.extract 0 1), 1) by rw [HO.out, HN.out, ← ext_take]; rfl)
   clear HO HN HSY
   by_cases h1 : (s.extract 0 1).data.toList = [60, 62]
   ·have b0 : ((s.extract 0 1).toList == [60, 62]) = true := by rw [hT, h1]; rfl
    have HP := qh (show plainT (s.extract 0 1) = ⟨5, ⟨#[35]⟩, 0⟩ by unfold plainT; rw [if_pos h1])
    clear hT h1
    go_wp2
    (try simp only [Exit.inBlock, Exit.then])
    refine bodyPost_ret (tok_ret3 rfl _ _ w.heap.size _ _ _ _ _ rfl (((Blk.new _ _ _).alloc _).alloc _)) rfl ?_
    refine ⟨?_, (((Below.refl _ _).alloc nl _).alloc (by simp) _).alloc (by simp; omega) _⟩
    rw [HO2.out, HP.out]
    simp [tokEnd, tok_vals0]
   have b0 : ((s.extract 0 1).toList == [60, 62]) = false := by rw [hT]; simpa using h1
   by_cases h2 : (s.extract 0 1).data.toList = [38]
   ·have b1 : ((s.extract 0 1).toList == [38]) = true := by rw [hT, h2]; rfl
    have HP := qh (show plainT (s.extract 0 1) = ⟨6, ⟨#[65, 78, 68]⟩, 0⟩ by unfold plainT; rw [if_neg h1, if_pos h2])
    clear hT h1 h2
    go_wp2
    (try simp only [Exit.inBlock, Exit.then])
    refine bodyPost_ret (tok_ret3 rfl _ _ w.heap.size _ _ _ _ _ rfl (((Blk.new _ _ _).alloc _).alloc _)) rfl ?_
    refine ⟨?_, (((Below.refl _ _).alloc nl _).alloc (by simp) _).alloc (by simp; omega) _⟩
    rw [HO2.out, HP.out]
    simp [tokEnd, tok_vals0]
   have b1 : ((s.extract 0 1).toList == [38]) = false := by rw [hT]; simpa using h2
   by_cases h3 : (s.extract 0 1).data.toList = [126]
   ·have b2 : ((s.extract 0 1).toList == [126]) = true := by rw [hT, h3]; rfl
    have HP := qh (show plainT (s.extract 0 1) = ⟨6, ⟨#[78, 79, 84]⟩, 0⟩ by unfold plainT; rw [if_neg h1, if_neg h2, if_pos h3])
    clear hT h1 h2 h3
    go_wp2
    (try simp only [Exit.inBlock, Exit.then])
    refine bodyPost_ret (tok_ret3 rfl _ _ w.heap.size _ _ _ _ _ rfl (((Blk.new _ _ _).alloc _).alloc _)) rfl ?_
    refine ⟨?_, (((Below.refl _ _).alloc nl _).alloc (by simp) _).alloc (by simp; omega) _⟩
    rw [HO2.out, HP.out]
    simp [tokEnd, tok_vals0]
   have b2 : ((s.extract 0 1).toList == [126]) = false := by rw [hT]; simpa using h3
   have HP := qh (show plainT (s.extract 0 1) = ⟨5, s.extract 0 1, 0⟩ by unfold plainT; rw [if_neg h1, if_neg h2, if_neg h3])
   clear hT h1 h2 h3
   go_wp2
   (try simp only [Exit.inBlock, Exit.then])
   refine bodyPost_ret (tok_ret3 rfl _ _ w.heap.size _ _ _ _ _ rfl (((Blk.new _ _ _).alloc _).alloc _)) rfl ?_
   refine ⟨?_, (((Below.refl _ _).alloc nl _).alloc (by simp) _).alloc (by simp; omega) _⟩
   rw [HO2.out, HP.out]
   simp [tokEnd, tok_vals0]
 ·have x2 : ¬ (1 : Int) < (s.size : Int) := by omega
  have x4 : decide ((1 : Int) < (s.size : Int)) = false := decide_eq_false x2
  have HTF := qh (show twos.any (fun y => y.data.toList == s.data.toList.take 2) = false by
   have hh : s.data.toList.take 2 = s.data.toList := List.take_of_length_le (by simp; omega)
   rw [hh]
   exact twos_not1 s (by simp; omega))
  go_wp2_with fail
  ((with_reducible refine (HC.out _).mono ?_); rintro e w2 ⟨rfl, hw⟩)
  have hw2 := hw.symm
  subst hw2
  clear hw
  rw [indexByte_nonneg, show ([43, 45, 42, 47, 126, 46, 44, 59, 40, 91, 123, 94, 61, 35, 60, 62, 58, 41, 93, 125, 124, 38] : List UInt8) = ones from rfl]
  cases hin : ones.contains s[0]
  ·have HN := qh (show oneN s.data.toList = .error 40 by rw [HO.out, HSY.out, HTF.out, hin]; rfl)
   clear HO HSY HTF hin HTW
   go_wp2
   (try simp only [Exit.inBlock, Exit.then])
   refine bodyPost_ret (tok_ret3 rfl _ _ w.heap.size _ _ _ _ _ rfl ((Blk.new _ _ _).alloc _)) rfl ?_
   refine ⟨?_, ((Below.refl _ _).alloc nl _).alloc (by simp) _⟩
   rw [HN.out]
   exact ⟨⟨5, ⟨#[]⟩, 0⟩, 0, Nat.zero_le _, by rw [tok_vals0]; rfl⟩
  have HN := qh (show symN s.data.toList = 1 by rw [HSY.out, HTF.out, hin]; rfl)
  clear HTF hin HTW
  have hT : (s.extract 0 1).toList = (s.extract 0 1).data.toList := ByteArray.toList_eq _
  have HO2 := qh (show oneN s.data.toList = .ok (plainT (s.extract 0 1), 1) by rw [HO.out, HN.out, ← ext_take]; rfl)
  clear HO HN HSY
  by_cases h1 : (s.extract 0 1).data.toList = [60, 62]
  ·have b0 : ((s.extract 0 1).toList == [60, 62]) = true := by rw [hT, h1]; rfl
   have HP := qh (show plainT (s.extract 0 1) = ⟨5, ⟨#[35]⟩, 0⟩ by unfold plainT; rw [if_pos h1])
   clear hT h1
   go_wp2
   (try simp only [Exit.inBlock, Exit.then])
   refine bodyPost_ret (tok_ret3 rfl _ _ w.heap.size _ _ _ _ _ rfl ((Blk.new _ _ _).alloc _)) rfl ?_
   refine ⟨?_, ((Below.refl _ _).alloc nl _).alloc (by simp) _⟩
   rw [HO2.out, HP.out]
   simp [tokEnd, tok_vals0]
  have b0 : ((s.extract 0 1).toList == [60, 62]) = false := by rw [hT]; simpa using h1
  by_cases h2 : (s.extract 0 1).data.toList = [38]
  ·have b1 : ((s.extract 0 1).toList == [38]) = true := by rw [hT, h2]; rfl
   have HP := qh (show plainT (s.extract 0 1) = ⟨6, ⟨#[65, 78, 68]⟩, 0⟩ by unfold plainT; rw [if_neg h1, if_pos h2])
   clear hT h1 h2
   go_wp2
   (try simp only [Exit.inBlock, Exit.then])
   refine bodyPost_ret (tok_ret3 rfl _ _ w.heap.size _ _ _ _ _ rfl ((Blk.new _ _ _).alloc _)) rfl ?_
   refine ⟨?_, ((Below.refl _ _).alloc nl _).alloc (by simp) _⟩
   rw [HO2.out, HP.out]
   simp [tokEnd, tok_vals0]
  have b1 : ((s.extract 0 1).toList == [38]) = false := by rw [hT]; simpa using h2
  by_cases h3 : (s.extract 0 1).data.toList = [126]
  ·have b2 : ((s.extract 0 1).toList == [126]) = true := by rw [hT, h3]; rfl
   have HP := qh (show plainT (s.extract 0 1) = ⟨6, ⟨#[78, 79, 84]⟩, 0⟩ by unfold plainT; rw [if_neg h1, if_neg h2, if_pos h3])
   clear hT h1 h2 h3
   go_wp2
   (try simp only [Exit.inBlock, Exit.then])
   refine bodyPost_ret (tok_ret3 rfl _ _ w.heap.size _ _ _ _ _ rfl ((Blk.new _ _ _).alloc _)) rfl ?_
   refine ⟨?_, ((Below.refl _ _).alloc nl _).alloc (by simp) _⟩
   rw [HO2.out, HP.out]
   simp [tokEnd, tok_vals0]
  have b2 : ((s.extract 0 1).toList == [126]) = false := by rw [hT]; simpa using h3
  have HP := qh (show plainT (s.extract 0 1) = ⟨5, s.extract 0 1, 0⟩ by unfold plainT; rw [if_neg h1, if_neg h2, if_neg h3])
  clear hT h1 h2 h3
  go_wp2
  (try simp only [Exit.inBlock, Exit.then])
  refine bodyPost_ret (tok_ret3 rfl _ _ w.heap.size _ _ _ _ _ rfl ((Blk.new _ _ _).alloc _)) rfl ?_
  refine ⟨?_, ((Below.refl _ _).alloc nl _).alloc (by simp) _⟩
  rw [HO2.out, HP.out]
  simp [tokEnd, tok_vals0]
end Lx
end Go.Proofs.YtkemhmfdooghkaaGreatDoor
