/- A part of the proof: B1. -/
import Derived.Test.YtkemhmfdooghkaaGreatDoorW1
import Derived.Test.YtkemhmfdooghkaaGreatDoorW10
import Derived.Test.YtkemhmfdooghkaaGreatDoorW11
import Derived.BigQuiet
import Derived.Deep.QuietTactic
import Derived.Deep.LoopGhost
import Derived.Deep.AppendLies
import Derived.ChangeSlices
import Derived.OpenShut
import Derived.Lib.ItoaMem
import Derived.Laws.BytesString
import Derived.Laws.Concat
set_option linter.unusedSimpArgs false
set_option linter.unusedVariables false
set_option maxRecDepth 100000
set_option maxHeartbeats 6400000
namespace Go.Proofs.YtkemhmfdooghkaaGreatDoor.Pl
open Go.RowKit
open Fl
theorem dec_big (n : Nat) (h : 9 < n) : Lib.decDigits n = Lib.decDigits (n / 10) ++ [UInt8.ofNat (48 + n % 10)] := by
 rw [Lib.decDigits, dif_neg (by omega)]
theorem dec_small (n : Nat) (h : ¬ 9 < n) : Lib.decDigits n = [UInt8.ofNat (48 + n)] := by
 rw [Lib.decDigits, dif_pos (by omega)]
theorem ofNat48 (n : Nat) : UInt8.ofNat (48 + n) = 48 + UInt8.ofNat n := UInt8.ofNat_add 48 n
def digN (n : Nat) : List UInt8 := if n = 0 then [] else Lib.decDigits n
theorem digN_step (m : Nat) (h : 0 < m) (l : List UInt8) : digN m ++ l = digN (m / 10) ++ (48 + UInt8.ofNat (m % 10)) :: l := by
 unfold digN
 rw [if_neg (by omega)]
 by_cases h9 : 9 < m
 ·rw [if_neg (by omega), dec_big m h9, ofNat48]; simp
 ·rw [if_pos (by omega), dec_small m h9, ofNat48, show m % 10 = m by omega]; rfl
theorem conv_one (W : World) (z : Int) (h0 : 0 ≤ z) (h1 : z < 256) : (convert 22 9 (.slice (some ⟨W.heap.size, 0, none⟩) 1 1)).run Tryz.prog (W.alloc (.cells #[.int .u8 z] 5)) = .ok (.string ⟨#[UInt8.ofNat z.toNat]⟩) (W.alloc (.cells #[.int .u8 z] 5)) := by
 rw [run_convert_bytes_string _ _ _ _ _ _ _ Tryz.underlying22 Tryz.underlying5 Tryz.underlying9]
 rw [run_bytesToString _ _ _ _ [z] (by simp [loadCells, loadCellsFrom, go_sem, Addr.add])]
 rfl
theorem str_cons (d : UInt8) (l : List UInt8) : (ByteArray.mk #[d] ++ ByteArray.mk l.toArray) = ByteArray.mk (d :: l).toArray := ByteArray.mk_append_mk [d] l
theorem rDigits_any (N : Nat) (w : World) (hN : N < 4294967296) : Calls Tryz.prog 25 #[.int .i64 N] w fun e w' => e = .returned (.string ⟨(digN N).toArray⟩) ∧ Below w.heap.size w w' := by
 go_enter Tryz.func25, Tryz.ntmps25
 go_wp2
 go_loopw [0, 3] (fun n s wr => ∃ (m : Nat) (l : List UInt8), m ≤ N ∧ n = .int .i64 m ∧ s = .string ⟨l.toArray⟩ ∧ l.length + m ≤ N ∧ Hid (digN N = digN m ++ l) ∧ Below w.heap.size w wr) (fun n _ _ => (intOf n).toNat)
 case atStart => exact ⟨N, [], Nat.le_refl _, rfl, rfl, by simp, qh (by simp), Below.refl _ _⟩
 case round =>
  obtain ⟨m, l, hm, rfl, rfl, hlen, hl, hb⟩ := hrel
  by_cases h9 : 0 < m
  ·have hc := conv_one wr (48 + (m : Int) % 10) (by omega) (by omega)
   go_wp2
   refine ⟨⟨m / 10, (48 + UInt8.ofNat (m % 10)) :: l, by omega, by simp, by rw [str_cons], by simp; omega, qh (by rw [hl.out, digN_step m h9]), below_alloc hb _⟩, ?_⟩
   simp [intOf]; omega
  ·have HE := qh (show digN N = l from by rw [hl.out, show m = 0 by omega]; rfl)
   clear hl
   go_wp2
   go_ret
   exact ⟨by rw [HE.out]; rfl, hb⟩
end Go.Proofs.YtkemhmfdooghkaaGreatDoor.Pl
namespace Go.Proofs.YtkemhmfdooghkaaGreatDoor.Lx
open Go.RowKit
open Pl Fl
theorem flat_at (src : List UInt8) (l : List Tok) {i r : Nat} (hi : i < l.length) (hr : r < 5) : (flat src l)[i * 5 + r]? = (Tok.vals src l[i])[r]? := by
 induction l generalizing i with
 | nil => simp at hi
 | cons t l ih =>
   have e : flat src (t :: l) = Tok.vals src t ++ flat src l := by simp [flat]
   rw [e]
   rcases i with _ | i
   ·rw [List.getElem?_append_left (by rw [tok_vals_len]; omega)]
    simp
   ·rw [List.getElem?_append_right (by rw [tok_vals_len]; omega), tok_vals_len, show (i + 1) * 5 + r - 5 = i * 5 + r by omega, ih (by simpa using hi)]
    rfl
theorem tok_spot {w : World} {src : List UInt8} {A : Option Addr} {l : List Tok} (h : Reads w w.heap.size 5 A l.length (flat src l)) {i : Nat} (hi : i < l.length) : ∃ b off, A = some ⟨b, off, none⟩ ∧ b < w.heap.size ∧
 w.cell? ⟨b, off + i * 5, none⟩ = some (.int .u8 l[i].1.kind) ∧ w.cell? ⟨b, off + i * 5 + 1, none⟩ = some (C (at_ src l[i].2.1)) ∧ w.cell? ⟨b, off + i * 5 + 2, none⟩ = some (C (at_ src l[i].2.2)) ∧
 w.cell? ⟨b, off + i * 5 + 3, none⟩ = some (.string l[i].1.text) ∧ w.cell? ⟨b, off + i * 5 + 4, none⟩ = some (.int .i64 l[i].1.n) := by
 obtain ⟨⟨b, off, sp⟩, e, hb, hc⟩ := h.2 (by omega)
 have hs : sp = none := by
  have h0 := hc (0 * 5 + 0) _ ((flat_at src l (i := 0) (by omega) (by omega)).trans rfl)
  have := World.cell?_spot h0
  simpa [Addr.add] using this
 subst hs
 have ad : ∀ r, (⟨b, off, none⟩ : Addr).add r = ⟨b, off + r, none⟩ := fun r => by unfold Addr.add; split <;> simp_all
 have cc : ∀ r v, r < 5 → (Tok.vals src l[i])[r]? = some v → w.cell? ⟨b, off + i * 5 + r, none⟩ = some v := fun r v hr hv => by
  have := hc (i * 5 + r) v ((flat_at src l hi hr).trans hv)
  rwa [ad, ← Nat.add_assoc] at this
 exact ⟨b, off, e, hb, cc 0 _ (by omega) rfl, cc 1 _ (by omega) rfl, cc 2 _ (by omega) rfl, cc 3 _ (by omega) rfl, cc 4 _ (by omega) rfl⟩
theorem Reads.rowBelow {w w' : World} {src : List UInt8} {A : Option Addr} {n : Nat} {xs : List Value} (h : Reads w w.heap.size 5 A n xs) (hb : Below w.heap.size w w') : Reads w' w'.heap.size 5 A n xs := (h.below hb).more hb.size
open Go.RowKit
open Pl Fl
attribute [local go_sem] run_store_complexL
def octN (n : Nat) : List UInt8 := if h : n < 8 then [UInt8.ofNat (48 + n)] else octN (n / 8) ++ [UInt8.ofNat (48 + n % 8)]
termination_by n
decreasing_by omega
def txt (t : Tk) : List UInt8 := if t.kind = 2 then Lib.itoa t.n else if t.kind = 3 then octN t.n.toNat ++ [67] else if t.kind = 4 then (if t.text.data.toList.contains 34 then 39 :: (t.text.data.toList ++ [39]) else 34 :: (t.text.data.toList ++ [34])) else t.text.data.toList
theorem quoted (q : UInt8) (s : ByteArray) : (⟨#[q]⟩ : ByteArray) ++ s ++ ⟨#[q]⟩ = bt (q :: (s.data.toList ++ [q])) := by
 apply bytes_ext
 simp [bt]
theorem bt_dataB (s : ByteArray) : bt s.data.toList = s := by cases s; simp [bt]
open Go.RowKit
open Pl Fl
theorem own_reads {w : World} {src : List UInt8} {base n g cap : Nat} {xs : List Value} (h : w.ownsRow base 40 5 (.slice (some ⟨g, 0, none⟩) n cap) n xs) : Reads w w.heap.size 5 (some ⟨g, 0, none⟩) n xs := by
 obtain ⟨A, c, e, h⟩ := own_form h
 injection e with e1 e2 e3
 subst e1
 exact h
theorem scanF_len : ∀ (f i : Nat) (s : List UInt8) (l : List Tok), scanF f i s = .ok l → l.length ≤ s.length + 1 := by
 intro f
 induction f with
 | zero => intro i s l h; unfold scanF at h; cases h
 | succ f ih =>
   intro i s l h
   unfold scanF at h
   split at h
   ·injection h with h; subst h; simp
   ·rename_i hs
    obtain ⟨b1, b2⟩ := item_bd s hs
    split at h
    ·cases h
    ·rename_i n hi
     have := b1 n hi
     have := ih _ _ _ h
     rw [List.length_drop] at this
     omega
    ·rename_i t n hi
     have := b2 t n hi
     cases e : scanF f (i + n) (s.drop n) with
     | error k => rw [e] at h; cases h
     | ok l' =>
       rw [e] at h
       injection h with h
       subst h
       have := ih _ _ _ e
       rw [List.length_drop] at this
       simp only [List.length_cons]
       omega
theorem scanL_len {s : List UInt8} {l : List Tok} (h : scanL s = .ok l) : l.length ≤ 16385 ∧ s.length ≤ 16384 := by
 unfold scanL at h
 split at h
 ·cases h
 ·have := scanF_len _ _ _ _ h
  omega
open Go.RowKit
open Pl Fl
def chD (d : Nat) : UInt8 := if d < 10 then UInt8.ofNat (48 + d) else UInt8.ofNat (55 + d)
def digs (B n : Nat) : List UInt8 := if h : n < B ∨ B < 2 then [chD n] else digs B (n / B) ++ [chD (n % B)]
termination_by n
decreasing_by exact Nat.div_lt_self (by omega) (by omega)
theorem digs_small {B n : Nat} (h : n < B) : digs B n = [chD n] := by rw [digs, dif_pos (.inl h)]
theorem digs_big {B n : Nat} (h : B ≤ n) (h2 : 2 ≤ B) : digs B n = digs B (n / B) ++ [chD (n % B)] := by rw [digs, dif_neg (by omega)]
theorem chD_facts : ∀ d, d < 16 → dgt (chD d) = d ∧ isX (chD d) = true ∧ (d < 10 → isD (chD d) = true) := by decide
theorem digs_ne (B n : Nat) : digs B n ≠ [] := by
 rw [digs]
 split <;> simp
theorem digs_isX {B : Nat} (hB : 2 ≤ B) (h16 : B ≤ 16) : ∀ (n : Nat), ∀ c ∈ digs B n, isX c = true := by
 intro n
 induction n using Nat.strongRecOn with
 | _ n ih =>
   intro c hc
   by_cases h : n < B
   ·rw [digs_small h, List.mem_singleton] at hc
    rw [hc]; exact (chD_facts n (by omega)).2.1
   ·rw [digs_big (by omega) hB] at hc
    rcases List.mem_append.1 hc with hc | hc
    ·exact ih _ (Nat.div_lt_self (by omega) hB) c hc
    ·rw [List.mem_singleton.1 hc]
     exact (chD_facts _ (by have := Nat.mod_lt n (show B > 0 by omega); omega)).2.1
theorem digs_isD {B : Nat} (hB : 2 ≤ B) (h10 : B ≤ 10) : ∀ (n : Nat), ∀ c ∈ digs B n, isD c = true := by
 intro n
 induction n using Nat.strongRecOn with
 | _ n ih =>
   intro c hc
   by_cases h : n < B
   ·rw [digs_small h, List.mem_singleton] at hc
    rw [hc]; exact (chD_facts n (by omega)).2.2 (by omega)
   ·rw [digs_big (by omega) hB] at hc
    rcases List.mem_append.1 hc with hc | hc
    ·exact ih _ (Nat.div_lt_self (by omega) hB) c hc
    ·rw [List.mem_singleton.1 hc]
     have := Nat.mod_lt n (show B > 0 by omega)
     exact (chD_facts _ (by omega)).2.2 (by omega)
theorem pU_digs {B : Nat} (hB : 2 ≤ B) (h16 : B ≤ 16) (r : List UInt8) : ∀ (n : Nat), n < 1000000 → pU B 0 (digs B n ++ r) = pU B n r := by
 intro n
 induction n using Nat.strongRecOn generalizing r with
 | _ n ih =>
   intro hn
   have step : ∀ (m d : Nat), d < B → m < 1000000 → pU B m (chD d :: r) = pU B (m * B + d) r := by
    intro m d hd hm
    have hf := (chD_facts d (by omega)).1
    have hmb : m * B ≤ m * 16 := Nat.mul_le_mul_left m h16
    rw [pU_step (by rw [hf]; omega) (by rw [hf]; omega), hf]
   by_cases h : n < B
   ·rw [digs_small h]
    show pU B 0 (chD n :: r) = _
    rw [step 0 n h (by omega)]
    simp
   ·have hlt := Nat.div_lt_self (show 0 < n by omega) hB
    rw [digs_big (by omega) hB, List.append_assoc]
    rw [ih (n / B) hlt ([chD (n % B)] ++ r) (by omega)]
    show pU B (n / B) (chD (n % B) :: r) = _
    rw [step _ _ (Nat.mod_lt n (by omega)) (by omega), Nat.mul_comm, Nat.div_add_mod]
theorem pU_zeros {B : Nat} (hB : 2 ≤ B) (r : List UInt8) : ∀ k, pU B 0 (List.replicate k 48 ++ r) = pU B 0 r
 | 0 => rfl
 | k + 1 => by
   rw [List.replicate_succ, List.cons_append]
   have h48 : dgt 48 = 0 := rfl
   rw [pU_step (by rw [h48]; omega) (by rw [h48]; omega), h48, Nat.zero_mul]
   exact pU_zeros hB r k
theorem valR_digs {B M : Nat} (hB : 2 ≤ B) (h16 : B ≤ 16) (hM : M < 18446744073709551616) (k : Nat) {n : Nat} (hn : n < 1000000) : valR B M (List.replicate k 48 ++ digs B n) = if n ≤ M then some n else none := by
 have hne : List.replicate k 48 ++ digs B n ≠ [] := fun e => digs_ne B n (List.append_eq_nil_iff.1 e).2
 rw [valR_pU B M hB hM hne, pU_zeros hB]
 have := pU_digs hB h16 [] n hn
 rw [List.append_nil] at this
 rw [this]
 rfl
theorem runN_all_eq {p : UInt8 → Bool} : ∀ {l r : List UInt8}, (∀ c ∈ l, p c = true) → (∀ c, r.head? = some c → p c = false) → runN p (l ++ r) = l.length
 | [], r, _, hr => by
   rcases r with _ | ⟨c, r⟩
   ·rfl
   ·exact runN_no (hr c rfl) r
 | a :: l, r, h, hr => by
   rw [List.cons_append, runN_yes (h a (by simp)), runN_all_eq (fun c hc => h c (List.mem_cons_of_mem _ hc)) hr, List.length_cons]
def numItem (n : Nat) : Option Tk → Item
 | none => .bad 41
 | some t => .tok t n
def numScan (n : Nat) : Option Tk → Except (Nat × Nat) (List Tok)
 | none => .error (0, 41)
 | some t => .ok [(t, 0, n), (noTk, n, n)]
structure NumText (T : List UInt8) (v : Option Tk) : Prop where
 head : ∃ c r, T = c :: r ∧ isD c = true
 run : (∀ c ∈ T, isX c = true) ∨ ∃ T', T = T' ++ [72] ∧ ∀ c ∈ T', isX c = true
 val : numN T = v
theorem isD_not {c : UInt8} (h : isD c = true) : isB c = false ∧ isL c = false ∧ c ≠ 40 := by
 have h2 := h
 unfold isD at h2
 simp only [Bool.and_eq_true, decide_eq_true_eq] at h2
 refine ⟨?_, not_isL_of_isD h, ?_⟩
 ·cases hb : isB c
  ·rfl
  ·exfalso
   unfold isB at hb
   simp only [Bool.or_eq_true, beq_iff_eq] at hb
   rcases hb with ((rfl | rfl) | rfl) | rfl <;> revert h2 <;> decide
 ·rintro rfl; revert h2; decide
theorem NumText.item {T : List UInt8} {v : Option Tk} (h : NumText T v) (r : List UInt8) (hr : ∀ c, r.head? = some c → isX c = false ∧ c ≠ 72) : item (T ++ r) = numItem T.length v := by
 obtain ⟨⟨c, T1, rfl, hc⟩, hrun, rfl⟩ := h
 obtain ⟨n1, n2, n3⟩ := isD_not hc
 have hone : oneN ((c :: T1) ++ r) = match numN (c :: T1) with | none => .error 41 | some t => .ok (t, (c :: T1).length) := by
  rw [List.cons_append]
  unfold oneN
  simp only [List.head?_cons, Option.getD_some, n2, hc, if_true, Bool.false_eq_true, if_false]
  have hlen : (if (c :: (T1 ++ r))[runN isX (c :: (T1 ++ r))]? = some 72 then runN isX (c :: (T1 ++ r)) + 1 else runN isX (c :: (T1 ++ r))) = (c :: T1).length := by
   rcases hrun with hall | ⟨T', hT, hall⟩
   ·have hk : runN isX (c :: (T1 ++ r)) = (c :: T1).length := by
     rw [← List.cons_append]; exact runN_all_eq hall fun x hx => (hr x hx).1
    rw [hk, if_neg]
    rw [← List.cons_append, List.getElem?_append_right (Nat.le_refl _), Nat.sub_self]
    intro e
    have : r.head? = some 72 := by rw [← e]; exact List.head?_eq_getElem? ..
    exact (hr 72 this).2 rfl
   ·have hk : runN isX (c :: (T1 ++ r)) = T'.length := by
     rw [← List.cons_append, hT, List.append_assoc]
     refine runN_all_eq hall fun x hx => ?_
     rw [List.singleton_append, List.head?_cons] at hx
     injection hx with hx
     subst hx
     rfl
    rw [hk, if_pos]
    ·rw [hT]; simp
    ·rw [← List.cons_append, hT, List.append_assoc, List.getElem?_append_right (Nat.le_refl _), Nat.sub_self]
     rfl
  rw [hlen]
  have ht : (c :: (T1 ++ r)).take (c :: T1).length = c :: T1 := by
   rw [← List.cons_append, List.take_left]
  rw [ht] <;> (cases numN (c :: T1) <;> rfl)
 have hi : Lx.item ((c :: T1) ++ r) = match oneN ((c :: T1) ++ r) with | .error e => .bad e | .ok (t, n) => .tok t n := by
  have h2 : ¬ ((c :: T1) ++ r).take 2 = [40, 42] := by
   intro e
   have := congrArg List.head? e
   simp at this
   exact n3 this
  rw [Lx.item, if_neg (by simp [n1]), if_neg h2] <;> (cases oneN ((c :: T1) ++ r) <;> rfl)
 rw [hi, hone]
 all_goals (cases numN (c :: T1) <;> rfl)
theorem NumText.scan {T : List UInt8} {v : Option Tk} (h : NumText T v) (hl : T.length ≤ 16384) : scanL T = numScan T.length v := by
 have hne : 0 < T.length := by obtain ⟨⟨c, T1, rfl, _⟩, _, _⟩ := h; simp
 have hit := h.item [] (fun c hc => by cases hc)
 rw [List.append_nil] at hit
 rw [scanL_eq, if_neg (by omega), scanAt_step hne, List.drop_zero, hit]
 cases v with
 | none => rfl
 | some t =>
   dsimp only [numItem]
   rw [Nat.zero_add, scanAt_end (Nat.le_refl _)]
   rfl
open Go.RowKit
open Pl Fl
theorem dec_digs : ∀ n : Nat, Lib.decDigits n = digs 10 n := by
 intro n
 induction n using Nat.strongRecOn with
 | _ n ih =>
   by_cases h : 9 < n
   ·rw [dec_big n h, digs_big (by omega) (by omega), ih _ (Nat.div_lt_self (by omega) (by omega))]
    congr 1
    unfold chD
    rw [if_pos (Nat.mod_lt n (by omega))]
   ·rw [dec_small n h, digs_small (by omega)]
    unfold chD
    rw [if_pos (by omega)]
theorem oct_digs : ∀ n : Nat, octN n = digs 8 n := by
 intro n
 induction n using Nat.strongRecOn with
 | _ n ih =>
   by_cases h : n < 8
   ·rw [octN, dif_pos h, digs_small h]
    unfold chD
    rw [if_pos (by omega)]
   ·rw [octN, dif_neg h, digs_big (by omega) (by omega), ih _ (Nat.div_lt_self (by omega) (by omega))]
    congr 1
    unfold chD
    rw [if_pos (by have := Nat.mod_lt n (show 8 > 0 by omega); omega)]
theorem digs_len {B : Nat} (hB : 2 ≤ B) : ∀ (k n : Nat), n < B ^ (k + 1) → (digs B n).length ≤ k + 1 := by
 intro k
 induction k with
 | zero => intro n h; rw [digs_small (by simpa using h)]; simp
 | succ k ih =>
   intro n h
   by_cases hn : n < B
   ·rw [digs_small hn]; simp
   ·rw [digs_big (by omega) hB, List.length_append]
    have := ih (n / B) (by rw [Nat.div_lt_iff_lt_mul (by omega)]; rw [Nat.pow_succ] at h; exact h)
    simp only [List.length_singleton]
    omega
theorem digs_head {B : Nat} (hB : 2 ≤ B) (h10 : B ≤ 10) (n : Nat) : ∃ c r, digs B n = c :: r ∧ isD c = true := by
 rcases h : digs B n with _ | ⟨c, r⟩
 ·exact absurd h (digs_ne B n)
 ·exact ⟨c, r, rfl, digs_isD hB h10 n c (by rw [h]; simp)⟩
theorem num_dec {n : Nat} (hn : n ≤ 65535) : NumText (digs 10 n) (some (mkNum 2 n)) := by
 refine ⟨digs_head (by omega) (by omega) n, .inl (digs_isX (by omega) (by omega) n), ?_⟩
 have hv := valR_digs (B := 10) (M := 65535) (by omega) (by omega) (by omega) 0 (n := n) (by omega)
 rw [List.replicate_zero, List.nil_append, if_pos hn] at hv
 unfold numN numX
 have hd : isD ((digs 10 n).getLast?.getD 0) = true := by
  rcases h : (digs 10 n).getLast? with _ | x
  ·rw [List.getLast?_eq_none_iff] at h; exact absurd h (digs_ne 10 n)
  ·exact digs_isD (by omega) (by omega) n x (List.mem_of_getLast? h)
 have h72 : ¬ (digs 10 n).getLast?.getD 0 = 72 := fun e => by rw [e] at hd; revert hd; decide
 rw [if_neg h72, hv, if_pos (by rfl)]
 rfl
theorem num_oct {n : Nat} (hn : n ≤ 255) : NumText (digs 8 n ++ [67]) (some (mkNum 3 n)) := by
 obtain ⟨c, r, e, hc⟩ := digs_head (B := 8) (by omega) (by omega) n
 refine ⟨⟨c, r ++ [67], by rw [e]; rfl, hc⟩, .inl ?_, ?_⟩
 ·intro x hx
  rcases List.mem_append.1 hx with hx | hx
  ·exact digs_isX (by omega) (by omega) n x hx
  ·rw [List.mem_singleton.1 hx]; rfl
 ·have hv := valR_digs (B := 8) (M := 255) (by omega) (by omega) (by omega) 0 (n := n) (by omega)
  rw [List.replicate_zero, List.nil_append, if_pos hn] at hv
  rw [numN_snoc]
  unfold numX
  rw [if_neg (by decide), not10 (by decide), if_neg (by simp), if_neg (by decide), if_pos rfl, hv]
  rfl
def symsP : List ByteArray := [⟨#[58, 61]⟩, ⟨#[60, 61]⟩, ⟨#[62, 61]⟩, ⟨#[46, 46]⟩, ⟨#[35]⟩, ⟨#[43]⟩, ⟨#[45]⟩, ⟨#[42]⟩, ⟨#[47]⟩, ⟨#[46]⟩, ⟨#[44]⟩, ⟨#[59]⟩, ⟨#[40]⟩, ⟨#[91]⟩, ⟨#[123]⟩, ⟨#[94]⟩, ⟨#[61]⟩, ⟨#[60]⟩, ⟨#[62]⟩, ⟨#[58]⟩, ⟨#[41]⟩, ⟨#[93]⟩, ⟨#[125]⟩, ⟨#[124]⟩]
inductive TkOK : Tk → Prop
 | name (x : ByteArray) (h0 : ∃ c r, x.data.toList = c :: r ∧ isL c = true) (hp : ∀ c ∈ x.data.toList, isP c = true) (hl : x.data.toList.length ≤ 32) (hw : isW x = false) : TkOK ⟨1, x, 0⟩
 | word (x : ByteArray) (hw : isW x = true) : TkOK ⟨6, x, 0⟩
 | num (n : Nat) (h : n ≤ 65535) : TkOK ⟨2, ⟨#[]⟩, n⟩
 | chr (n : Nat) (h : n ≤ 255) : TkOK ⟨3, ⟨#[]⟩, n⟩
 | str (x : ByteArray) (h10 : 10 ∉ x.data.toList) (hq : 34 ∉ x.data.toList ∨ 39 ∉ x.data.toList) : TkOK ⟨4, x, 0⟩
 | sym (x : ByteArray) (h : x ∈ symsP) : TkOK ⟨5, x, 0⟩
theorem TkOK.kind {t : Tk} (h : TkOK t) : t.kind ≠ 0 ∧ t.kind < 256 := by cases h <;> exact ⟨by simp, by simp⟩
def sepR (r : List UInt8) : Prop := r = [] ∨ ∃ c r', r = c :: r' ∧ (c = 32 ∨ c = 10 ∨ c = 9 ∨ c = 40)
theorem sep_not {r : List UInt8} (h : sepR r) : ∀ c, r.head? = some c → isP c = false ∧ isX c = false ∧ c ≠ 72 := by
 intro c hc
 rcases h with rfl | ⟨x, r', rfl, hx⟩
 ·cases hc
 ·injection hc with hc
  subst hc
  rcases hx with rfl | rfl | rfl | rfl <;> decide
theorem isL_not {c : UInt8} (h : isL c = true) : isB c = false ∧ c ≠ 40 := by
 have h2 := h
 unfold isL at h2
 simp only [Bool.or_eq_true, Bool.and_eq_true, decide_eq_true_eq] at h2
 refine ⟨?_, ?_⟩
 ·cases hb : isB c
  ·rfl
  ·exfalso
   unfold isB at hb
   simp only [Bool.or_eq_true, beq_iff_eq] at hb
   rcases hb with ((rfl | rfl) | rfl) | rfl <;> revert h2 <;> decide
 ·rintro rfl; revert h2; decide
theorem item_of_one {s : List UInt8} {c : UInt8} (hh : s.head? = some c) (hb : isB c = false) (h40 : c ≠ 40) : item s = match oneN s with | .error e => .bad e | .ok (t, n) => .tok t n := by
 have h2 : ¬ s.take 2 = [40, 42] := by
  intro e
  rcases s with _ | ⟨a, s⟩
  ·cases hh
  ·injection hh with hh
   subst hh
   have := congrArg List.head? e
   simp at this
   exact h40 this
 rw [Lx.item, if_neg (by rw [hh]; simp [hb]), if_neg h2] <;> (cases oneN s <;> rfl)
theorem item_name {x : ByteArray} {c : UInt8} {r0 : List UInt8} (h0 : x.data.toList = c :: r0) (hc : isL c = true) (hp : ∀ c ∈ x.data.toList, isP c = true) (hl : x.data.toList.length ≤ 32) {r : List UInt8} (hr : sepR r) : item (x.data.toList ++ r) = .tok ⟨if isW x then 6 else 1, x, 0⟩ x.data.toList.length := by
 obtain ⟨n1, n2⟩ := isL_not hc
 have hh : (x.data.toList ++ r).head? = some c := by rw [h0]; rfl
 rw [item_of_one hh n1 n2]
 have hrun : runN isP (x.data.toList ++ r) = x.data.toList.length := runN_all_eq hp fun y hy => (sep_not hr y hy).1
 have ho : oneN (x.data.toList ++ r) = .ok (⟨if isW x then 6 else 1, x, 0⟩, x.data.toList.length) := by
  unfold oneN
  rw [hh]
  simp only [Option.getD_some, hc, if_true]
  rw [hrun, if_neg (by omega), List.take_left, bt_dataB]
 rw [ho]
theorem words_ok : ∀ x ∈ words, (∃ c r, x.data.toList = c :: r ∧ isL c = true) ∧ (∀ c ∈ x.data.toList, isP c = true) ∧ x.data.toList.length ≤ 32 := by
 intro x hx
 have h : (words.all fun x => (match x.data.toList with | [] => false | c :: _ => isL c) && x.data.toList.all isP && decide (x.data.toList.length ≤ 32)) = true := by decide +kernel
 have := List.all_eq_true.1 h x hx
 simp only [Bool.and_eq_true, decide_eq_true_eq, List.all_eq_true] at this
 refine ⟨?_, this.1.2, this.2⟩
 have h1 := this.1.1
 rcases he : x.data.toList with _ | ⟨c, r⟩
 ·rw [he] at h1; cases h1
 ·rw [he] at h1; exact ⟨c, r, rfl, h1⟩
theorem isW_mem {x : ByteArray} (h : isW x = true) : x ∈ words := by
 unfold isW at h
 obtain ⟨y, hy, e⟩ := List.any_eq_true.1 h
 rw [← bytes_ext (eq_of_beq e)]
 exact hy
theorem item_str {x : ByteArray} {q : UInt8} (hq : q = 34 ∨ q = 39) (h10 : 10 ∉ x.data.toList) (hx : q ∉ x.data.toList) (r : List UInt8) : item (q :: (x.data.toList ++ [q]) ++ r) = .tok ⟨4, x, 0⟩ (x.data.toList.length + 2) := by
 have hf : isB q = false ∧ q ≠ 40 ∧ isL q = false ∧ isD q = false := by rcases hq with rfl | rfl <;> decide
 have hh : (q :: (x.data.toList ++ [q]) ++ r).head? = some q := rfl
 rw [item_of_one hh hf.1 hf.2.1]
 have hrun : runN (fun y => y != q && y != 10) (q :: (x.data.toList ++ [q]) ++ r).tail = x.data.toList.length := by
  show runN _ ((x.data.toList ++ [q]) ++ r) = _
  rw [List.append_assoc]
  refine runN_all_eq (fun c hc => ?_) (fun c hc => ?_)
  ·have h1 : c ≠ q := fun e => hx (e ▸ hc)
   have h2 : c ≠ 10 := fun e => h10 (e ▸ hc)
   simp [h1, h2]
  ·injection hc with hc
   subst hc
   simp
 have hg : (q :: (x.data.toList ++ [q]) ++ r)[1 + x.data.toList.length]? = some q := by
  show (q :: ((x.data.toList ++ [q]) ++ r))[1 + x.data.toList.length]? = some q
  rw [Nat.add_comm, List.getElem?_cons_succ, List.append_assoc, List.getElem?_append_right (Nat.le_refl _), Nat.sub_self]
  rfl
 have hq10 : q ≠ 10 := by rcases hq with rfl | rfl <;> decide
 have ht : ((q :: (x.data.toList ++ [q]) ++ r).take (1 + x.data.toList.length)).drop 1 = x.data.toList := by
  show ((q :: ((x.data.toList ++ [q]) ++ r)).take (1 + x.data.toList.length)).drop 1 = _
  rw [Nat.add_comm, List.take_succ_cons, List.drop_succ_cons, List.drop_zero, List.append_assoc, List.take_left]
 have ho : oneN (q :: (x.data.toList ++ [q]) ++ r) = .ok (⟨4, x, 0⟩, x.data.toList.length + 2) := by
  unfold oneN
  rw [hh]
  simp only [Option.getD_some, hf.2.2.1, hf.2.2.2, Bool.false_eq_true, if_false]
  rw [if_pos hq, hrun, hg, if_neg (by simp [hq10]), ht, bt_dataB]
  congr 2
  omega
 rw [ho]
theorem item_sym {x : ByteArray} (h : x ∈ symsP) {r : List UInt8} (hr : sepR r) : item (x.data.toList ++ r) = .tok ⟨5, x, 0⟩ x.data.toList.length := by
 simp only [symsP, List.mem_cons, List.not_mem_nil, or_false] at h
 rcases hr with rfl | ⟨c, r', rfl, rfl | rfl | rfl | rfl⟩ <;>
  rcases h with rfl | rfl | rfl | rfl | rfl | rfl | rfl | rfl | rfl | rfl | rfl | rfl | rfl | rfl | rfl | rfl | rfl | rfl | rfl | rfl | rfl | rfl | rfl | rfl <;> rfl
theorem item_txt {t : Tk} (h : TkOK t) {r : List UInt8} (hr : sepR r) : item (txt t ++ r) = .tok t (txt t).length ∧ txt t ≠ [] := by
 cases h with
 | name x h0 hp hl hw =>
   obtain ⟨c, r0, e, hc⟩ := h0
   have ht : txt ⟨1, x, 0⟩ = x.data.toList := rfl
   rw [ht]
   refine ⟨?_, by rw [e]; simp⟩
   rw [item_name e hc hp hl hr, hw]
   rfl
 | word x hw =>
   obtain ⟨⟨c, r0, e, hc⟩, hp, hl⟩ := words_ok x (isW_mem hw)
   have ht : txt ⟨6, x, 0⟩ = x.data.toList := rfl
   rw [ht]
   refine ⟨?_, by rw [e]; simp⟩
   rw [item_name e hc hp hl hr, hw]
   rfl
 | num n h =>
   have ht : txt ⟨2, ⟨#[]⟩, n⟩ = digs 10 n := by
    show Lib.itoa (n : Int) = _
    rw [Lib.itoa_nonneg, dec_digs]
   rw [ht]
   exact ⟨(num_dec h).item r (fun c hc => ⟨(sep_not hr c hc).2.1, (sep_not hr c hc).2.2⟩), digs_ne _ _⟩
 | chr n h =>
   have ht : txt ⟨3, ⟨#[]⟩, n⟩ = digs 8 n ++ [67] := by
    show octN (n : Int).toNat ++ [67] = _
    rw [Int.toNat_natCast, oct_digs]
   rw [ht]
   exact ⟨(num_oct h).item r (fun c hc => ⟨(sep_not hr c hc).2.1, (sep_not hr c hc).2.2⟩), by simp⟩
 | str x h10 hq =>
   have ht : txt ⟨4, x, 0⟩ = if x.data.toList.contains 34 then 39 :: (x.data.toList ++ [39]) else 34 :: (x.data.toList ++ [34]) := rfl
   rw [ht]
   by_cases h34 : x.data.toList.contains 34 = true
   ·rw [if_pos h34]
    have h39 : 39 ∉ x.data.toList := by
     rcases hq with hq | hq
     ·exact absurd (by simpa using h34) hq
     ·exact hq
    refine ⟨?_, by simp⟩
    rw [item_str (.inr rfl) h10 h39 r]
    simp
   ·rw [if_neg h34]
    refine ⟨?_, by simp⟩
    rw [item_str (.inl rfl) h10 (by simpa using h34) r]
    simp
 | sym x h =>
   have ht : txt ⟨5, x, 0⟩ = x.data.toList := rfl
   rw [ht]
   refine ⟨item_sym h hr, ?_⟩
   simp only [symsP, List.mem_cons, List.not_mem_nil, or_false] at h
   rcases h with rfl | rfl | rfl | rfl | rfl | rfl | rfl | rfl | rfl | rfl | rfl | rfl | rfl | rfl | rfl | rfl | rfl | rfl | rfl | rfl | rfl | rfl | rfl | rfl <;> simp
theorem lex_txt {t : Tk} (h : TkOK t) {r : List UInt8} (hr : sepR r) : lex (txt t ++ r) = (lex r).map (t :: ·) := by
 obtain ⟨h1, h2⟩ := item_txt h hr
 rw [lex_tok (by simp [h2]) h1, List.drop_left]
open Go.RowKit
open Pl Fl
attribute [local go_sem] run_store_complexL
def digT (B m : Nat) : List UInt8 := if m = 0 then [] else digs B m
theorem digT_step {B : Nat} (hB : 2 ≤ B) (m : Nat) : digs B m = digT B (m / B) ++ [chD (m % B)] := by
 unfold digT
 by_cases h : m < B
 ·rw [digs_small h, Nat.div_eq_of_lt h, if_pos rfl, Nat.mod_eq_of_lt h]; rfl
 ·have : m / B ≠ 0 := by
   have := Nat.div_pos (show B ≤ m by omega) (by omega)
   omega
  rw [digs_big (by omega) hB, if_neg this]
def DigR (B N m : Nat) (l : List UInt8) : Prop := (l = [] ∧ m = N) ∨ (l ≠ [] ∧ digs B N = digT B m ++ l)
theorem DigR.step {B N m : Nat} {l : List UInt8} (hB : 2 ≤ B) (h : DigR B N m l) (hm : 0 < m ∨ l = []) : DigR B N (m / B) (chD (m % B) :: l) := by
 refine .inr ⟨by simp, ?_⟩
 rcases h with ⟨rfl, rfl⟩ | ⟨hl, h⟩
 ·exact digT_step hB m
 ·have h0 : 0 < m := hm.resolve_right hl
  have e : digT B m = digT B (m / B) ++ [chD (m % B)] := by
   rw [digT, if_neg (by omega)]
   exact digT_step hB m
  rw [h, e]
  simp
theorem DigR.done {B N : Nat} {l : List UInt8} (h : DigR B N 0 l) (hl : l ≠ []) : digs B N = l := by
 rcases h with ⟨h, _⟩ | ⟨_, h⟩
 ·exact absurd h hl
 ·exact h
def emptyV : Value → Nat
 | .string s => if s.size = 0 then 1 else 0
 | _ => 0
theorem emptyV_no {s : ByteArray} (h : s.size ≠ 0) : emptyV (.string s) = 0 := if_neg h
theorem emptyV_yes {s : ByteArray} (h : s.size = 0) : emptyV (.string s) = 1 := if_pos h
theorem chD_small {d : Nat} (h : d < 10) : chD d = UInt8.ofNat (48 + d) := by unfold chD; rw [if_pos h]
theorem bt_cons (d : UInt8) (l : List UInt8) : (⟨#[d]⟩ : ByteArray) ++ bt l = bt (d :: l) := by apply bytes_ext; simp [bt]
theorem bt_list (l : List UInt8) : (bt l).toList = l := by rw [ByteArray.toList_eq]; simp [bt]
theorem bt_size (l : List UInt8) : (bt l).size = l.length := by
 show l.toArray.size = _
 simp
theorem octal_any (N : Nat) (hN : N ≤ 70000) (w : World) : Calls Tryz.prog 26 #[.int .i64 N] w fun e w' => e = .returned (.string (bt (digs 8 N))) ∧ Below w.heap.size w w' := by
 go_enter Tryz.func26, Tryz.ntmps26
 go_wp2
 go_loopw [0, 3] (fun n s wr => ∃ (m : Nat) (l : List UInt8) (sb : ByteArray), m ≤ N ∧ n = .int .i64 m ∧ s = .string sb ∧ sb.size + m ≤ N + 1 ∧ Hid (sb = bt l ∧ DigR 8 N m l) ∧ Hid (Below w.heap.size w wr)) (fun n s _ => (intOf n).toNat + emptyV s)
 case atStart => exact ⟨N, [], ⟨#[]⟩, Nat.le_refl _, rfl, rfl, by show 0 + N ≤ N + 1; omega, qh ⟨rfl, .inl ⟨rfl, rfl⟩⟩, qh (Below.refl _ _)⟩
 case round =>
  obtain ⟨m, l, sb, hm, rfl, rfl, hlen, hl, hb⟩ := hrel
  have hsl : sb.toList = l := by rw [hl.out.1, bt_list]
  have hsz : sb.size = l.length := by rw [hl.out.1, bt_size]
  by_cases hcont : 0 < m ∨ l = []
  ·have HN := qh (hl.out.2.step (by omega) hcont)
   have hc := conv_one wr (48 + (m : Int) % 8) (by omega) (by omega)
   have hch : UInt8.ofNat (48 + (m : Int) % 8).toNat = chD (m % 8) := by
    rw [chD_small (by omega)]
    congr 1 <;> omega
   rw [hch] at hc
   have HS := qh (show (⟨#[chD (m % 8)]⟩ : ByteArray) ++ sb = bt (chD (m % 8) :: l) by rw [hl.out.1, bt_cons])
   have hz : ¬ 9223372036854775807 < 1 + sb.size := by omega
   clear hch
   rcases Nat.eq_zero_or_pos m with h0 | h0
   ·have hle : l = [] := hcont.resolve_left (by omega)
    have hs2 : sb.toList.isEmpty = true := by rw [hsl, hle]; rfl
    have hs3 : sb.toList = [] := by rw [hsl, hle]
    subst h0
    have hl0 : l.length = 0 := by rw [hle]; rfl
    have hc0 := conv_one wr 48 (by omega) (by omega)
    rw [show UInt8.ofNat (48 : Int).toNat = chD 0 from rfl] at hc0
    clear hcont hsl hc
    go_wp2
    refine ⟨⟨0, chD 0 :: l, _, by omega, rfl, rfl, ?_, qh ⟨HS.out, HN.out⟩, qh (hb.out.alloc hb.out.size _)⟩, ?_⟩
    ·rw [HS.out, bt_size]; simp; omega
    ·have e1 : emptyV (.string ((⟨#[chD 0]⟩ : ByteArray) ++ sb)) = 0 := emptyV_no (by rw [HS.out, bt_size]; simp)
     have e2 : emptyV (.string sb) = 1 := emptyV_yes (by rw [hsz, hle]; rfl)
     rw [e1, e2]
     simp [intOf]
   ·have h00 : (0 : Int) < (m : Int) := by omega
    clear hcont hsl
    go_wp2
    refine ⟨⟨m / 8, chD (m % 8) :: l, _, by omega, by simp, rfl, ?_, qh ⟨HS.out, HN.out⟩, qh (hb.out.alloc hb.out.size _)⟩, ?_⟩
    ·rw [HS.out, bt_size]; simp; omega
    ·have e1 : emptyV (.string ((⟨#[chD (m % 8)]⟩ : ByteArray) ++ sb)) = 0 := emptyV_no (by rw [HS.out, bt_size]; simp)
     rw [e1]
     have : (intOf (.int .i64 ((m : Int) / 8))).toNat < (intOf (.int .i64 (m : Nat))).toNat := by simp [intOf]; omega
     omega
  ·have h0 : m = 0 := by omega
   have hne : ¬ l = [] := fun e => hcont (.inr e)
   have hs2 : sb.toList.isEmpty = false := by rw [hsl]; simpa using hne
   have hs3 : ¬ sb.toList = [] := by rw [hsl]; exact hne
   subst h0
   have HD := qh (show sb = bt (digs 8 N) by rw [hl.out.1, hl.out.2.done hne])
   clear hcont hsl hl
   go_wp2
   go_ret
   exact ⟨by rw [← HD.out]; rfl, hb.out⟩
open Go.RowKit
open Pl Fl
attribute [local go_sem] run_store_complexL
structure TkR (t : Tk) : Prop where
 txt : t.text.size ≤ 1073741824
 num : t.kind = 2 ∨ t.kind = 3 → 0 ≤ t.n ∧ t.n ≤ 65535
 kind : t.kind < 256
def RtOK (t : Tk) : Prop := ∀ (p q : Nat × Nat) (w : World), Calls Tryz.prog 12 #[t.val p q] w fun e w' => e = .returned (.string (bt (txt t))) ∧ Below w.heap.size w w'
theorem rText_ok {t : Tk} (h : TkR t) : RtOK t := by
 intro p q w
 obtain ⟨tk, tt, tn⟩ := t
 have hb := fun (o : Obj) => (Below.refl w.heap.size w).alloc (Nat.le_refl _) o
 have HB := qh hb
 have z1 : ¬ 9223372036854775807 < 1 + tt.size := by have := h.txt; dsimp only at this; omega
 have z2 : ¬ 9223372036854775807 < 1 + tt.size + 1 := by have := h.txt; dsimp only at this; omega
 have HT := qh h
 simp only [Tk.val, Tk.vals, C]
 clear hb h
 by_cases h2 : tk = 2
 ·subst h2
  obtain ⟨n, rfl⟩ : ∃ n : Nat, tn = n := ⟨tn.toNat, by have := HT.out.num (.inl rfl); dsimp only at this; omega⟩
  have hn : n ≤ 65535 := by have := HT.out.num (.inl rfl); dsimp only at this; omega
  have HR := qh (show txt ⟨2, tt, n⟩ = Lib.decDigits n from Lib.itoa_nonneg n)
  go_enter Tryz.func12, Tryz.ntmps12
  by_cases h0 : n = 0
  ·subst h0
   have HD := qh (show Lib.decDigits 0 = [48] by rw [dec_small 0 (by omega)]; rfl)
   go_wp2
   go_ret
   exact ⟨by rw [HR.out, HD.out]; rfl, HB.out _⟩
  ·have n0 : ((n : Int) == 0) = false := by simp only [beq_eq_false_iff_ne, ne_eq]; omega
   have HD := qh (fun (W : World) => rDigits_any n W (by omega))
   have HG := qh (show digN n = Lib.decDigits n from if_neg h0)
   clear h0
   go_wp2_with fail
   refine (HD.out _).mono ?_
   rintro e w1 ⟨rfl, hb1⟩
   have HB1 := qh ((HB.out _).trans (hb1.mono (by simp)))
   clear hb1
   go_wp2
   go_ret
   exact ⟨by rw [HR.out, ← HG.out]; rfl, HB1.out⟩
 have k2 : ((tk : Int) == 2) = false := by simp only [beq_eq_false_iff_ne, ne_eq]; omega
 by_cases h3 : tk = 3
 ·have k3 : ((tk : Int) == 3) = true := by simp [h3]
  obtain ⟨n, rfl⟩ : ∃ n : Nat, tn = n := ⟨tn.toNat, by have := HT.out.num (.inr h3); dsimp only at this; omega⟩
  have hn : n ≤ 65535 := by have := HT.out.num (.inr h3); dsimp only at this; omega
  have HR := qh (show txt ⟨tk, tt, n⟩ = digs 8 n ++ [67] by
   unfold txt
   rw [if_neg h2, if_pos h3]
   show octN (n : Int).toNat ++ _ = _
   rw [Int.toNat_natCast, oct_digs])
  have HO := qh (fun (W : World) => octal_any n (by omega) W)
  have hsz : (bt (digs 8 n)).size ≤ 6 := by
   rw [bt_size]
   exact digs_len (B := 8) (by omega) 5 n (by omega)
  have z3 : ¬ 9223372036854775807 < (bt (digs 8 n)).size + 1 := by omega
  have HC := qh (show bt (digs 8 n) ++ ⟨#[67]⟩ = bt (digs 8 n ++ [67]) by apply bytes_ext; simp [bt])
  clear h2 h3 hsz
  go_enter Tryz.func12, Tryz.ntmps12
  go_wp2_with fail
  refine (HO.out _).mono ?_
  rintro e w1 ⟨rfl, hb1⟩
  have HB1 := qh ((HB.out _).trans (hb1.mono (by simp)))
  clear hb1
  go_wp2
  go_ret
  exact ⟨by rw [HR.out, ← HC.out]; rfl, HB1.out⟩
 have k3 : ((tk : Int) == 3) = false := by simp only [beq_eq_false_iff_ne, ne_eq]; omega
 by_cases h4 : tk = 4
 ·have k4 : ((tk : Int) == 4) = true := by simp [h4]
  have HR := qh (show txt ⟨tk, tt, tn⟩ = if tt.data.toList.contains 34 then 39 :: (tt.data.toList ++ [39]) else 34 :: (tt.data.toList ++ [34]) by unfold txt; rw [if_neg h2, if_neg h3, if_pos h4])
  clear h2 h3 h4
  go_enter Tryz.func12, Tryz.ntmps12
  go_wp2
  go_loop [3] (fun i => ∃ k : Nat, k ≤ tt.size ∧ i = .int .i64 k ∧ Hid (34 ∉ tt.data.toList.take k)) (fun i => tt.size - (intOf i).toNat)
  case atStart => exact ⟨0, Nat.zero_le _, rfl, qh (by simp)⟩
  case round =>
   obtain ⟨k, hk, rfl, HN⟩ := hrel
   have x0 : (0 : Int) ≤ (k : Int) := by omega
   by_cases hlt : k < tt.size
   ·have x1 : (k : Int) < (tt.size : Int) := by omega
    have HD := qh (drop_cons tt k hlt)
    by_cases h34 : tt[k] = 34
    ·have t1 : ((tt[k].toNat : Int) == 34) = true := by rw [h34]; rfl
     have hc : tt.data.toList.contains 34 = true := by
      rw [← List.take_append_drop k tt.data.toList, HD.out, h34]
      simp
     have HR2 := qh (show txt ⟨tk, tt, tn⟩ = 39 :: (tt.data.toList ++ [39]) by rw [HR.out, if_pos hc])
     clear HR hc HD HN h34
     go_wp2
     go_ret
     refine ⟨by rw [HR2.out, ← quoted]; rfl, HB.out _⟩
    ·have t1 : ((tt[k].toNat : Int) == 34) = false := ne_u8 34 (by omega) h34
     have HN2 := qh (show 34 ∉ tt.data.toList.take (k + 1) by
      rw [List.take_add_one]
      have hg : tt.data.toList[k]? = some tt[k] := by have := congrArg List.head? HD.out; rw [List.head?_drop] at this; rw [this]; rfl
      rw [hg]
      intro hm
      rcases List.mem_append.1 hm with hm | hm
      ·exact HN.out hm
      ·have := List.mem_singleton.1 hm; exact h34 this.symm)
     clear HN HD h34
     go_wp2
     go_round
     case rel => exact ⟨k + 1, by omega, by go_num, HN2⟩
     case measure => simp [intOf]; omega
   ·have hks : k = tt.size := by omega
    have hc : ¬ tt.data.toList.contains 34 = true := by
     have h1 := HN.out
     rw [List.take_of_length_le (by simp; omega)] at h1
     simpa using h1
    have HR2 := qh (show txt ⟨tk, tt, tn⟩ = 34 :: (tt.data.toList ++ [34]) by rw [HR.out, if_neg hc])
    clear HR hc HN
    go_wp2
    go_ret
    refine ⟨by rw [HR2.out, ← quoted]; rfl, HB.out _⟩
 ·have k4 : ((tk : Int) == 4) = false := by simp only [beq_eq_false_iff_ne, ne_eq]; omega
  have HR := qh (show txt ⟨tk, tt, tn⟩ = tt.data.toList by unfold txt; rw [if_neg h2, if_neg h3, if_neg h4])
  clear h2 h3 h4
  go_enter Tryz.func12, Tryz.ntmps12
  go_wp2
  go_ret
  refine ⟨by rw [HR.out, bt_dataB]; rfl, HB.out _⟩
open Go.RowKit
open Pl Fl
theorem valN_le : ∀ (l : List UInt8) (B M n v : Nat), valN B M n l = some v → v ≤ M
 | [], B, M, n, v, h => by
   unfold valN at h
   split at h
   ·injection h with h; omega
   ·cases h
 | c :: l, B, M, n, v, h => by
   unfold valN at h
   split at h
   ·cases h
   ·exact valN_le l _ _ _ _ h
theorem valR_le {B M v : Nat} {l : List UInt8} (h : valR B M l = some v) : v ≤ M := by
 unfold valR at h
 split at h
 ·cases h
 ·exact valN_le _ _ _ _ _ h
theorem numN_ok {l : List UInt8} {t : Tk} (h : numN l = some t) : (∃ v, v ≤ 65535 ∧ t = mkNum 2 v) ∨ (∃ v, v ≤ 255 ∧ t = mkNum 3 v) := by
 unfold numN numX at h
 split at h
 ·obtain ⟨v, hv, rfl⟩ := Option.map_eq_some_iff.1 h
  exact .inl ⟨v, valR_le hv, rfl⟩
 ·split at h
  ·obtain ⟨v, hv, rfl⟩ := Option.map_eq_some_iff.1 h
   exact .inl ⟨v, valR_le hv, rfl⟩
  ·split at h
   ·obtain ⟨v, hv, rfl⟩ := Option.map_eq_some_iff.1 h
    exact .inl ⟨v, valR_le hv, rfl⟩
   ·split at h
    ·obtain ⟨v, hv, rfl⟩ := Option.map_eq_some_iff.1 h
     exact .inr ⟨v, valR_le hv, rfl⟩
    ·cases h
theorem txt_num (v : Nat) : txt (mkNum 2 v) = digs 10 v := by
 show Lib.itoa (v : Int) = _
 rw [Lib.itoa_nonneg, dec_digs]
theorem txt_chr (v : Nat) : txt (mkNum 3 v) = digs 8 v ++ [67] := by
 show octN (v : Int).toNat ++ [67] = _
 rw [Int.toNat_natCast, oct_digs]
theorem num_one {c : UInt8} (hc : isD c = true) {t : Tk} (h : numN [c] = some t) : (txt t).length ≤ 3 := by
 have h2 := hc
 unfold isD at h2
 simp only [Bool.and_eq_true, decide_eq_true_eq] at h2
 have hd : dgt c = c.toNat - 48 := by unfold dgt; rw [if_neg (by omega)]
 have hv : valR 10 65535 [c] = some (dgt c) := by
  unfold valR
  rw [if_neg (by simp)]
  unfold valN
  rw [if_neg (by omega)]
  unfold valN
  rw [if_pos (by omega)]
  simp
 have h72 : c ≠ 72 := by rintro rfl; revert hc; decide
 have : numN [c] = some (mkNum 2 (dgt c)) := by
  have e := numN_snoc [] c
  rw [List.nil_append] at e
  rw [e]
  unfold numX
  rw [if_neg h72, hv, if_pos (by rfl)]
  rfl
 rw [this] at h
 injection h with h
 subst h
 rw [txt_num, digs_small (by omega)]
 simp
theorem ok_of5 {t : Tk} (h : t.kind = 5 ∧ t.n = 0 ∧ (symsP.any fun y => y.data.toList == t.text.data.toList) = true ∧ t.text.data.toList.length ≤ 3) : TkOK t ∧ (txt t).length ≤ 3 := by
 obtain ⟨k, x, n⟩ := t
 obtain ⟨rfl, rfl, h, hl⟩ := h
 obtain ⟨y, hy, e⟩ := List.any_eq_true.1 h
 have e2 : y = x := bytes_ext (eq_of_beq e)
 exact ⟨.sym x (e2 ▸ hy), hl⟩
theorem ok_of6 {t : Tk} (h : t.kind = 6 ∧ t.n = 0 ∧ isW t.text = true ∧ t.text.data.toList.length ≤ 3) : TkOK t ∧ (txt t).length ≤ 3 := by
 obtain ⟨k, x, n⟩ := t
 obtain ⟨rfl, rfl, h, hl⟩ := h
 exact ⟨.word x h, hl⟩
theorem sym_one : ∀ c ∈ ones, TkOK (plainT (bt [c])) ∧ (txt (plainT (bt [c]))).length ≤ 3 := by
 intro c hc
 simp only [ones, List.mem_cons, List.not_mem_nil, or_false] at hc
 rcases hc with rfl | rfl | rfl | rfl | rfl | rfl | rfl | rfl | rfl | rfl | rfl | rfl | rfl | rfl | rfl | rfl | rfl | rfl | rfl | rfl | rfl | rfl <;>
  first
  | exact ok_of5 (by decide +kernel)
  | exact ok_of6 (by decide +kernel)
theorem sym_two : ∀ x ∈ twos, TkOK (plainT x) ∧ (txt (plainT x)).length ≤ 3 := by
 intro c hc
 simp only [twos, List.mem_cons, List.not_mem_nil, or_false] at hc
 rcases hc with rfl | rfl | rfl | rfl | rfl <;> exact ok_of5 (by decide +kernel)
theorem oneN_ok {s : List UInt8} (hs : s ≠ []) {t : Tk} {n : Nat} (h : oneN s = .ok (t, n)) : TkOK t ∧ (txt t).length ≤ 3 * n := by
 have hbd := oneN_bd s hs t n h
 obtain ⟨c, r, rfl⟩ : ∃ c r, s = c :: r := by
  rcases s with _ | ⟨c, r⟩
  ·exact absurd rfl hs
  ·exact ⟨c, r, rfl⟩
 unfold oneN at h
 dsimp only [List.head?_cons, Option.getD_some, List.tail_cons] at h
 split at h
 ·rename_i hc
  split at h
  ·cases h
  ·rename_i h32
   injection h with h
   injection h with h1 h2
   subst h1 h2
   have hall : ∀ y ∈ (bt ((c :: r).take (runN isP (c :: r)))).data.toList, isP y = true := by
    intro y hy
    have : (bt ((c :: r).take (runN isP (c :: r)))).data.toList = (c :: r).take (runN isP (c :: r)) := by simp [bt]
    rw [this] at hy
    exact runN_all isP _ y hy
   have hlen : (bt ((c :: r).take (runN isP (c :: r)))).data.toList.length = runN isP (c :: r) := by
    have := runN_le isP (c :: r)
    show ((c :: r).take (runN isP (c :: r))).toArray.toList.length = _
    rw [List.toList_toArray, List.length_take]
    omega
   have hhd : ∃ d q, (bt ((c :: r).take (runN isP (c :: r)))).data.toList = d :: q ∧ isL d = true := by
    obtain ⟨m, hm⟩ : ∃ m, runN isP (c :: r) = m + 1 := ⟨_, by rw [runN_yes (by unfold isP; rw [hc]; rfl)]⟩
    rw [hm]
    exact ⟨c, r.take m, rfl, hc⟩
   cases hw : isW (bt ((c :: r).take (runN isP (c :: r))))
   ·refine ⟨.name _ hhd hall (by omega) hw, ?_⟩
    show (bt _).data.toList.length ≤ _
    omega
   ·refine ⟨.word _ hw, ?_⟩
    show (bt _).data.toList.length ≤ _
    omega
 ·split at h
  ·rename_i hd
   split at h
   ·cases h
   ·rename_i t' hn
    injection h with h
    injection h with h1 h2
    subst h1
    have hone : n = 1 → (txt t').length ≤ 3 := by
     intro e
     rw [h2, e] at hn
     exact num_one hd hn
    rcases numN_ok hn with ⟨v, hv, rfl⟩ | ⟨v, hv, rfl⟩
    ·refine ⟨.num v hv, ?_⟩
     rcases Nat.lt_or_ge n 2 with h3 | h3
     ·have := hone (by omega); omega
     ·rw [txt_num]
      have := digs_len (B := 10) (by omega) 4 v (by omega)
      omega
    ·refine ⟨.chr v hv, ?_⟩
     rcases Nat.lt_or_ge n 2 with h3 | h3
     ·have := hone (by omega); omega
     ·rw [txt_chr, List.length_append]
      have := digs_len (B := 8) (by omega) 2 v (by omega)
      simp only [List.length_singleton]
      omega
  ·split at h
   ·rename_i hq
    split at h
    ·cases h
    ·injection h with h
     injection h with h1 h2
     have hx : (bt (((c :: r).take (1 + runN (fun x => x != c && x != 10) r)).drop 1)).data.toList = r.take (runN (fun x => x != c && x != 10) r) := by
      rw [Nat.add_comm, List.take_succ_cons, List.drop_succ_cons, List.drop_zero]
      simp [bt]
     have hall := runN_all (fun x => x != c && x != 10) r
     rw [← hx] at hall
     have hlen : (bt (((c :: r).take (1 + runN (fun x => x != c && x != 10) r)).drop 1)).data.toList.length = runN (fun x => x != c && x != 10) r := by
      have := runN_le (fun x => x != c && x != 10) r
      rw [hx, List.length_take]
      omega
     generalize bt (((c :: r).take (1 + runN (fun x => x != c && x != 10) r)).drop 1) = x at *
     subst h1
     have hno : c ∉ x.data.toList := fun hm => by have := hall c hm; simp at this
     refine ⟨.str x (fun hm => by have := hall 10 hm; simp at this) (hq.imp (fun e => by rw [← e]; exact hno) (fun e => by rw [← e]; exact hno)), ?_⟩
     have : (txt ⟨4, x, 0⟩).length = x.data.toList.length + 2 := by
      have e4 : txt ⟨4, x, 0⟩ = if x.data.toList.contains 34 then 39 :: (x.data.toList ++ [39]) else 34 :: (x.data.toList ++ [34]) := rfl
      rw [e4]
      split <;> simp
     rw [this]
     omega
   ·split at h
    ·cases h
    ·rename_i h0
     injection h with h
     injection h with h1 h2
     subst h2
     unfold symN at h1 h0
     have key : TkOK t ∧ (txt t).length ≤ 3 := by
      rw [← h1]
      by_cases htw : (twos.any fun x => x.data.toList == (c :: r).take 2) = true
      ·rw [if_pos htw]
       obtain ⟨x, hx, e⟩ := List.any_eq_true.1 htw
       have e2 := eq_of_beq e
       rw [← e2, bt_dataB]
       exact sym_two x hx
      ·rw [if_neg htw] at h0 ⊢
       by_cases hon : (ones.any fun x => (c :: r).head? == some x) = true
       ·rw [if_pos hon]
        obtain ⟨x, hx, e⟩ := List.any_eq_true.1 hon
        have e2 := eq_of_beq e
        injection e2 with e2
        subst e2
        exact sym_one c hx
       ·rw [if_neg hon] at h0; exact absurd rfl h0
     exact ⟨key.1, by have := key.2; omega⟩
theorem scanF_ok : ∀ (f i : Nat) (s : List UInt8) (l : List Tok), scanF f i s = .ok l → ∃ l' : List Tok, ∃ j, l = l' ++ [(noTk, j, j)] ∧ (∀ t ∈ l', TkOK t.1) ∧ (l'.map fun t => (txt t.1).length + 1).sum ≤ 4 * s.length ∧ l'.length ≤ s.length := by
 intro f
 induction f with
 | zero => intro i s l h; unfold scanF at h; cases h
 | succ f ih =>
   intro i s l h
   unfold scanF at h
   split at h
   ·injection h with h; subst h; exact ⟨[], i, rfl, by simp, by simp, by simp⟩
   ·rename_i hs
    obtain ⟨b1, b2⟩ := item_bd s hs
    split at h
    ·cases h
    ·rename_i n hi
     have hb := b1 n hi
     obtain ⟨l', j, h1, h2, h3, h4⟩ := ih _ _ _ h
     rw [List.length_drop] at h3 h4
     exact ⟨l', j, h1, h2, by omega, by omega⟩
    ·rename_i t n hi
     have hb := b2 t n hi
     cases e : scanF f (i + n) (s.drop n) with
     | error k => rw [e] at h; cases h
     | ok l0 =>
       rw [e] at h
       injection h with h
       subst h
       obtain ⟨l', j, h1, h2, h3, h4⟩ := ih _ _ _ e
       rw [List.length_drop] at h3 h4
       have ho : oneN s = .ok (t, n) := by
        unfold item at hi
        split at hi
        ·cases hi
        ·split at hi
         ·split at hi
          ·cases hi
          ·cases hi
         ·split at hi
          ·cases hi
          ·rename_i t' n' e'
           injection hi with e1 e2
           rw [e', e1, e2]
       have hk := oneN_ok hs ho
       refine ⟨(t, i, i + n) :: l', j, by rw [h1]; rfl, ?_, ?_, by simp only [List.length_cons]; omega⟩
       ·intro x hx
        rcases List.mem_cons.1 hx with rfl | hx
        ·exact hk.1
        ·exact h2 x hx
       ·simp only [List.map_cons, List.sum_cons]
        have := hk.2
        omega
theorem scanL_ok {s : List UInt8} {l : List Tok} (h : scanL s = .ok l) : ∃ l' : List Tok, ∃ j, l = l' ++ [(noTk, j, j)] ∧ (∀ t ∈ l', TkOK t.1) ∧ (l'.map fun t => (txt t.1).length + 1).sum ≤ 4 * s.length ∧ l'.length ≤ s.length := by
 unfold scanL at h
 split at h
 ·cases h
 ·exact scanF_ok _ _ _ _ h
theorem scan_of_lex {s : List UInt8} {L : List Tk} (h : lex s = some L) (hs : s.length ≤ 16384) : ∃ l, scanL s = .ok l ∧ l.map (·.1) = L ++ [noTk] := by
 have h2 := scan_lex hs
 rw [h] at h2
 cases e : scanL s with
 | error k => rw [e] at h2; cases h2
 | ok l =>
   rw [e] at h2
   injection h2 with h2
   obtain ⟨l', j, rfl, _⟩ := scanL_ok e
   refine ⟨_, rfl, ?_⟩
   rw [List.dropLast_concat] at h2
   rw [h2, List.map_append]
   rfl
theorem lex_at (n : Nat) {s r : List UInt8} (h : item s = .blank n) (hs : s ≠ []) (hd : s.drop n = r) : lex s = lex r := by rw [lex_blank hs h, hd]
open Go.RowKit Go.ChangeShapes Go.WideShapes
open Pl Fl
def real (l : List Tok) : List Tk := (l.filter fun t => t.1.kind != 0).map (·.1)
theorem real_step {l : List Tok} {i : Nat} (h : i < l.length) : real (l.take (i + 1)) = real (l.take i) ++ (if l[i].1.kind = 0 then [] else [l[i].1]) := by
 unfold real
 rw [List.take_add_one, List.getElem?_eq_getElem h]
 simp only [Option.toList, List.filter_append, List.map_append]
 congr 1
 by_cases hk : l[i].1.kind = 0
 ·simp [hk]
 ·simp [hk]
theorem sum_take_le (f : Tok → Nat) : ∀ (l : List Tok) (i : Nat), ((l.take i).map f).sum ≤ (l.map f).sum
 | [], i => by simp
 | t :: l, 0 => by simp
 | t :: l, i + 1 => by
   simp only [List.take_succ_cons, List.map_cons, List.sum_cons]
   have := sum_take_le f l i
   omega
theorem le_sum (f : Tok → Nat) : ∀ (l : List Tok) (t : Tok), t ∈ l → f t ≤ (l.map f).sum
 | a :: l, t, h => by
   simp only [List.map_cons, List.sum_cons]
   rcases List.mem_cons.1 h with rfl | h
   ·omega
   ·have := le_sum f l t h; omega
theorem TkOK.toR {t : Tk} (h : TkOK t) (hl : (txt t).length ≤ 1000000) : TkR t := by
 cases h with
 | name x h0 hp hl2 hw => exact ⟨by show x.size ≤ _; have : x.data.toList.length = x.size := by simp
                                    omega, by simp, by simp⟩
 | word x hw => exact ⟨by
    have h2 := (words_ok x (isW_mem hw)).2.2
    have : x.data.toList.length = x.size := by simp
    show x.size ≤ _
    omega, by simp, by simp⟩
 | num n h => exact ⟨Nat.zero_le _, fun _ => ⟨by show (0 : Int) ≤ (n : Int); omega, by show (n : Int) ≤ 65535; omega⟩, by simp⟩
 | chr n h => exact ⟨Nat.zero_le _, fun _ => ⟨by show (0 : Int) ≤ (n : Int); omega, by show (n : Int) ≤ 65535; omega⟩, by simp⟩
 | str x h10 hq => exact ⟨by
    have e4 : txt ⟨4, x, 0⟩ = if x.data.toList.contains 34 then 39 :: (x.data.toList ++ [39]) else 34 :: (x.data.toList ++ [34]) := rfl
    rw [e4] at hl
    have : x.data.toList.length = x.size := by simp
    show x.size ≤ _
    split at hl <;> simp at hl <;> omega, by simp, by simp⟩
 | sym x h => exact ⟨by
    have : x.data.toList.length = x.size := by simp
    have h2 : (txt ⟨5, x, 0⟩).length = x.data.toList.length := rfl
    show x.size ≤ _
    omega, by simp, by simp⟩
structure Src (s : List UInt8) (l : List Tok) : Prop where
 ok : ∀ t ∈ l, t.1.kind ≠ 0 → TkOK t.1
 kind : ∀ t ∈ l, t.1.kind < 256
 sum : (l.map fun t => (txt t.1).length + 1).sum ≤ 4 * s.length + 1
 len : l.length ≤ s.length + 1
 real : l.map (·.1) = real l ++ [noTk]
theorem src_of {s : List UInt8} {l : List Tok} (h : scanL s = .ok l) : Src s l := by
 obtain ⟨l', j, rfl, h2, h3, h4⟩ := scanL_ok h
 have hr : real (l' ++ [(noTk, j, j)]) = l'.map (·.1) := by
  unfold real
  rw [List.filter_append, List.filter_eq_self.2 (fun t ht => by have := (h2 t ht).kind.1; simpa using this)]
  simp [noTk]
 refine ⟨?_, ?_, ?_, by rw [List.length_append]; simp only [List.length_singleton]; omega, by rw [hr, List.map_append]; rfl⟩
 ·intro t ht hk
  rcases List.mem_append.1 ht with ht | ht
  ·exact h2 t ht
  ·rw [List.mem_singleton.1 ht] at hk; exact absurd rfl hk
 ·intro t ht
  rcases List.mem_append.1 ht with ht | ht
  ·exact (h2 t ht).kind.2
  ·rw [List.mem_singleton.1 ht]; exact Nat.zero_lt_succ _
 ·rw [List.map_append, List.sum_append]
  have : (txt noTk).length = 0 := rfl
  simp only [List.map_cons, List.map_nil, List.sum_cons, List.sum_nil, this]
  omega
theorem scanF_err : ∀ (f i : Nat) (s : List UInt8) (j k : Nat), s.length < f → scanF f i s = .error (j, k) → k = 5 ∨ k = 40 ∨ k = 41 ∨ k = 42 ∨ k = 43 := by
 intro f
 induction f with
 | zero => intro i s j k h; omega
 | succ f ih =>
   intro i s j k hl h
   unfold scanF at h
   split at h
   ·cases h
   ·rename_i hs
    obtain ⟨b1, b2⟩ := item_bd s hs
    split at h
    ·rename_i e hi
     injection h with h
     injection h with h1 h2
     subst h2
     unfold item at hi
     split at hi
     ·cases hi
     ·split at hi
      ·split at hi
       ·injection hi with hi; omega
       ·cases hi
      ·split at hi
       ·rename_i k' e'
        injection hi with hi
        have := oneN_err _ _ e'
        omega
       ·cases hi
    ·rename_i n hi
     have hb := b1 n hi
     exact ih _ _ _ _ (by rw [List.length_drop]; omega) h
    ·rename_i t n hi
     have hb := b2 t n hi
     cases e : scanF f (i + n) (s.drop n) with
     | error jk =>
       obtain ⟨j', k'⟩ := jk
       rw [e] at h
       injection h with h
       injection h with h1 h2
       subst h2
       exact ih _ _ _ _ (by rw [List.length_drop]; omega) e
     | ok l => rw [e] at h; cases h
theorem scanL_err {s : List UInt8} {j k : Nat} (h : scanL s = .error (j, k)) : k = 5 ∨ k = 40 ∨ k = 41 ∨ k = 42 ∨ k = 43 := by
 unfold scanL at h
 split at h
 ·injection h with h; injection h with h1 h2; omega
 ·exact scanF_err _ _ _ _ _ (by omega) h
end Go.Proofs.YtkemhmfdooghkaaGreatDoor.Lx
