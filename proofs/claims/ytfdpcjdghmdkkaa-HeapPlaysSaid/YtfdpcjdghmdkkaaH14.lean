/- HeapFills: blocks of one size, till there is no room; all freed: one gap again. -/
import Derived.Test.YtfdpcjdghmdkkaaH13
import Derived.Deep.LoopGhost
set_option linter.unusedSimpArgs false
set_option linter.unusedVariables false
namespace Go.Proofs.Ytfdpcjdghmdkkaa.Hp
open Go.RowKit Go.Sort
/-- After so many blocks of one size. -/
structure Full (one count : Nat) (ks : List Nat) (g : Nat → Bk) : Prop where
  key : ∀ k, k ∈ ks ↔ 1 ≤ k ∧ k ≤ count
  val : ∀ k, 1 ≤ k → k ≤ count → (g k).1.val = 1 + (k - 1) * one ∧ (g k).2 = one
theorem Full.start (one : Nat) (g : Nat → Bk) : Full one 0 [] g := ⟨fun k => by simp; omega, fun k h1 h2 => by omega⟩
theorem mul_lt_step {one count a : Nat} (h1 : 1 ≤ one) (h : a < count * one) : ∃ q, q < count ∧ q * one ≤ a ∧ a < q * one + one := by
  refine ⟨a / one, ?_, Nat.div_mul_le_self a one, ?_⟩
  · exact (Nat.div_lt_iff_lt_mul h1).2 h
  · have hd := Nat.div_add_mod a one
    have hm := Nat.mod_lt a (show one > 0 from h1)
    rw [Nat.mul_comm] at hd
    omega
section
variable {all one count : Nat} {ks : List Nat} {g : Nat → Bk}
theorem Full.fits (h : Full one count ks g) (h1 : 1 ≤ one) (ha : (count + 1) * one ≤ all) : Fits 1 all ks g (1 + count * one) one := by
  rw [Nat.add_mul, Nat.one_mul] at ha
  refine ⟨by omega, by omega, fun k hk => .inr ?_⟩
  obtain ⟨q1, q2⟩ := (h.key k).1 hk
  obtain ⟨v1, v2⟩ := h.val k q1 q2
  rw [v1, v2]
  have : (k - 1) * one + one ≤ count * one := by
    have := Nat.mul_le_mul_right one (show k - 1 + 1 ≤ count by omega)
    rwa [Nat.add_mul, Nat.one_mul] at this
  omega
theorem Full.least (h : Full one count ks g) (h1 : 1 ≤ one) {a : Nat} (hf : Fits 1 all ks g a one) : 1 + count * one ≤ a := by
  obtain ⟨f1, f2, f3⟩ := hf
  rcases Nat.lt_or_ge (a - 1) (count * one) with hl | hl
  · obtain ⟨q, hq, q1, q2⟩ := mul_lt_step h1 hl
    have hk : q + 1 ∈ ks := (h.key _).2 ⟨by omega, by omega⟩
    obtain ⟨v1, v2⟩ := h.val (q + 1) (by omega) (by omega)
    rw [Nat.add_sub_cancel] at v1
    rcases f3 _ hk with w | w
    · rw [v1] at w; omega
    · rw [v1, v2] at w; omega
  · omega
theorem Full.none_ (h : Full one count ks g) (h1 : 1 ≤ one) (ha : ¬ (count + 1) * one ≤ all) (a : Nat) : ¬ Fits 1 all ks g a one := by
  intro hf
  have := h.least h1 hf
  have := hf.2.1
  rw [Nat.add_mul, Nat.one_mul] at ha
  omega
theorem Full.next (h : Full one count ks g) (h1 : 1 ≤ one) (hs : 1 + count * one ≤ 65536) : Full one (count + 1) (ks ++ [count + 1]) (updB g (count + 1) (mkB (1 + count * one) one)) := by
  refine ⟨fun k => ?_, fun k k1 k2 => ?_⟩
  · rw [List.mem_append, List.mem_singleton, h.key]
    omega
  · unfold updB
    by_cases e : k = count + 1
    · rw [if_pos e, e, Nat.add_sub_cancel]
      exact ⟨mkB_at hs, rfl⟩
    · rw [if_neg e]
      exact h.val k k1 (by omega)
theorem Full.sum (h : Full one count ks g) (hn : ks.Nodup) : sumB g ks = count * one := by
  have e : ∀ (l : List Nat), (∀ k ∈ l, (g k).2 = one) → sumB g l = l.length * one := by
    intro l hl
    induction l with
    | nil => simp [sumB]
    | cons a l ih =>
      have := ih (fun k hk => hl k (List.mem_cons_of_mem _ hk))
      unfold sumB at *
      rw [List.map_cons, List.sum_cons, this, hl a (List.mem_cons_self ..), List.length_cons, Nat.add_mul, Nat.one_mul, Nat.add_comm]
  have hl : ks.length = count := by
    have h1 : ks.Perm ((List.range count).map (· + 1)) := (List.perm_ext_iff_of_nodup hn (by rw [List.nodup_iff_pairwise_ne, List.pairwise_map]; exact (List.nodup_range (n := count)).imp (fun hne e => hne (Nat.succ.inj e)))).2 fun k => by
      rw [h.key, List.mem_map]
      constructor
      · intro q; exact ⟨k - 1, by rw [List.mem_range]; omega, by omega⟩
      · rintro ⟨q, hq, rfl⟩; rw [List.mem_range] at hq; omega
    have := h1.length_eq
    simpa using this
  rw [e ks (fun k hk => (h.val k ((h.key k).1 hk).1 ((h.key k).1 hk).2).2), hl]
end
theorem count_eq {all one count : Nat} (h1 : 1 ≤ one) (ha : count * one ≤ all) (hb : ¬ (count + 1) * one ≤ all) : count = all / one ∧ all - count * one = all % one := by
  rw [Nat.add_mul, Nat.one_mul] at hb
  have hd : all / one = count := by
    rw [Nat.div_eq_of_lt_le (by omega)]
    rw [Nat.add_mul, Nat.one_mul]
    omega
  have hm := Nat.div_add_mod all one
  rw [hd, Nat.mul_comm] at hm
  exact ⟨hd.symm, by omega⟩
/-- A slice of bytes that came in. -/
structure Bs (w : World) (A : Option Addr) (c : Nat) (l : List Nat) : Prop where
  reads : Reads w w.heap.size 1 A l.length (l.map fun x => Value.int .u8 (x : Nat))
  cap : l.length ≤ c
  max : c ≤ 9223372036854775807
  small : ∀ x ∈ l, x < 256
theorem Bs.below {w w' : World} {A : Option Addr} {c : Nat} {l : List Nat} (h : Bs w A c l) (hb : Below w.heap.size w w') : Reads w' w.heap.size 1 A l.length (l.map fun x => Value.int .u8 (x : Nat)) := h.reads.below hb
end Go.Proofs.Ytfdpcjdghmdkkaa.Hp
