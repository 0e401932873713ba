/- A part of the proof: L6. -/
import Derived.Test.YtkemhmfdooghkaaGreatDoorZ1
import Derived.Test.YtkemhmfdooghkaaGreatDoorZ28
set_option linter.unusedSimpArgs false
set_option linter.unusedVariables false

section
namespace Go.Proofs.YtkemhmfdooghkaaGreatDoor.Lx
open Go.RowKit
open Pl Fl
attribute [local go_sem] run_store_complexL
theorem bytesW_below (w : World) (t : ByteArray) : Below w.heap.size w (Lib.bytesWorld w 5 t) := Lib.bytesWorld_below _ _ _
def pPEnd (r : Except Nat Nat) (e : Ending) : Prop := match r with
 | .ok v => e = .returned (.tuple #[.int .u64 v, .nilIface])
 | .error _ => ∃ (v : Int) (T : TypeId) (p : Value), e = .returned (.tuple #[.int .u64 v, .iface T p])
theorem pU_err : ∀ (l : List UInt8) (B n k : Nat), pU B n l = .error k → k = 1 ∨ k = 2
 | [], B, n, k, h => by unfold pU at h; cases h
 | c :: l, B, n, k, h => by
   unfold pU at h
   split at h
   ·injection h with h; omega
   ·split at h
    ·injection h with h; omega
    ·exact pU_err l _ _ _ h
theorem pU_lt : ∀ (l : List UInt8) (B n v : Nat), n < 18446744073709551616 → pU B n l = .ok v → v < 18446744073709551616
 | [], B, n, v, hn, h => by unfold pU at h; injection h with h; omega
 | c :: l, B, n, v, hn, h => by
   unfold pU at h
   split at h
   ·cases h
   ·split at h
    ·cases h
    ·exact pU_lt l _ _ _ (by omega) h
theorem toErr {w : World} (E : EnvS w) (t : ByteArray) (ht : t.size ≤ 281474976710656) (B : Int) (k : Nat) (hk : k = 1 ∨ k = 2) : Calls Tryz.prog 105 #[.string ⟨#[80, 97, 114, 115, 101, 85, 105, 110, 116]⟩, .string t, .int .i64 B, .int .i64 64, .iface 145 (.int .i64 k)] w fun e w' => (∃ T p, e = .returned (.iface T p)) ∧ Below w.heap.size w w' := by
 obtain ⟨t1, v1, h1⟩ := E.es
 obtain ⟨t2, v2, h2⟩ := E.er
 rcases hk with rfl | rfl
 ·exact (Tryz.strconv_toError_range _ t B 64 _ w ht h2 (.inr ⟨_, _, rfl⟩)).mono fun e w' ⟨N, he, _, _, hb⟩ => ⟨⟨_, _, he⟩, hb⟩
 ·exact (Tryz.strconv_toError_syntax _ t B 64 _ w ht h1 (.inr ⟨_, _, rfl⟩)).mono fun e w' ⟨N, he, _, _, hb⟩ => ⟨⟨_, _, he⟩, hb⟩
set_option maxRecDepth 100000 in set_option maxHeartbeats 6400000 in
theorem parseP (B : Nat) (hB : B = 8 ∨ B = 10 ∨ B = 16) (t : ByteArray) (hne : t.size ≠ 0) (hmax : t.size ≤ 281474976710656) (hX : ∀ c ∈ t.data.toList, isX c = true) {w : World} (E : EnvS w) :
 Calls Tryz.prog 92 #[.string t, .int .i64 (B : Nat), .int .i64 64] w fun e w' => pPEnd (pU B 0 t.data.toList) e ∧ Below w.heap.size w w' := by
 have hI : Calls Tryz.prog 104 #[.string t, .int .i64 (B : Nat), .int .i64 64] w fun e w' => pUEnd (pU B 0 t.data.toList) e ∧ w' = Lib.bytesWorld w 5 t := by
  rcases hB with rfl | rfl | rfl
  ·exact parseI8 t hne (by omega) hX w
  ·exact parseI10 t hne (by omega) hX w
  ·exact parseI16 t hne (by omega) hX w
 have HI := qh hI
 have hb := bytesW_below w t
 have HE := qh (E.below (Nat.le_refl _) hb)
 have HB := qh hb
 have hk := pU_err t.data.toList B 0
 have HK := qh hk
 clear hI hb hB hX E hk
 generalize Lib.bytesWorld w 5 t = W1 at *
 go_enter Tryz.func92, Tryz.ntmps92
 go_wp2_with fail
 refine HI.out.mono ?_
 rintro e w1 ⟨he, hw⟩
 subst hw
 cases hr : pU B 0 t.data.toList with
 | ok v =>
   rw [hr] at he
   have he2 : e = .returned (.tuple #[.int .u64 (v : Nat), .nilIface]) := he
   subst he2
   clear he
   go_wp2
   go_ret2
   exact ⟨by rw [hr]; rfl, HB.out⟩
 | error k =>
   rw [hr] at he
   obtain ⟨v, he⟩ := he
   subst he
   have HT := qh (toErr HE.out t hmax B k (HK.out k hr))
   have HRR := qh hr
   clear hr
   go_wp2_with fail
   refine HT.out.mono ?_
   rintro e w2 ⟨⟨T, p, rfl⟩, hb2⟩
   have HB2 := qh (HB.out.trans (hb2.mono HB.out.size))
   clear hb2
   go_wp2
   go_ret2
   exact ⟨by rw [HRR.out]; exact ⟨_, _, _, rfl⟩, HB2.out⟩
theorem valN_pU (B M : Nat) (hB : 2 ≤ B) (hM : M < 18446744073709551616) : ∀ (l : List UInt8) (n : Nat), n < 18446744073709551616 →
 valN B M n l = match pU B n l with | .ok v => if v ≤ M then some v else none | .error _ => none
 | [], n, hn => rfl
 | c :: l, n, hn => by
   unfold valN pU
   by_cases h1 : B ≤ dgt c
   ·rw [if_pos (.inl h1), if_pos h1]
   ·rw [if_neg h1]
    have hmul : n ≤ n * B := Nat.le_mul_of_pos_right n (by omega)
    by_cases h2 : 18446744073709551616 ≤ n * B + dgt c
    ·rw [if_pos h2]
     by_cases h3 : M < n
     ·rw [if_pos (.inr h3)]
     ·rw [if_neg (by omega)]
      -- the number is beyond what may be from here on
      have big : ∀ (l : List UInt8) (m : Nat), M < m → valN B M m l = none := by
       intro l
       induction l with
       | nil => intro m hm; unfold valN; rw [if_neg (by omega)]
       | cons c l ih => intro m hm; unfold valN; rw [if_pos (.inr hm)]
      exact big l _ (by omega)
    ·rw [if_neg h2]
     by_cases h3 : M < n
     ·rw [if_pos (.inr h3)]
      have big : ∀ (l : List UInt8) (m : Nat), M < m → (match pU B m l with | .ok v => if v ≤ M then some v else none | .error _ => none) = none := by
       intro l
       induction l with
       | nil => intro m hm; unfold pU; dsimp only; rw [if_neg (by omega)]
       | cons c l ih =>
         intro m hm
         unfold pU
         split
         ·rename_i h
          split at h
          ·cases h
          ·split at h
           ·cases h
           ·rename_i v _ _
            have := ih (m * B + dgt c) (by have : m ≤ m * B := Nat.le_mul_of_pos_right m (by omega); omega)
            rw [h] at this
            exact this
         ·rfl
      rw [big l _ (by omega)]
     ·rw [if_neg (by omega)]
      exact valN_pU B M hB hM l _ (by omega)
theorem valR_pU (B M : Nat) (hB : 2 ≤ B) (hM : M < 18446744073709551616) {l : List UInt8} (hl : l ≠ []) : valR B M l = match pU B 0 l with | .ok v => if v ≤ M then some v else none | .error _ => none := by
 unfold valR
 rw [if_neg hl]
 exact valN_pU B M hB hM l 0 (by omega)
theorem pU10_last {l : List UInt8} {c : UInt8} (hc : 10 ≤ dgt c) : ∀ (n : Nat), (∃ k, pU 10 n (l ++ [c]) = .error k) := by
 induction l with
 | nil =>
   intro n
   exact ⟨2, by rw [List.nil_append]; unfold pU; rw [if_pos hc]⟩
 | cons a l ih =>
   intro n
   rw [List.cons_append]
   unfold pU
   split
   ·exact ⟨_, rfl⟩
   ·split
    ·exact ⟨_, rfl⟩
    ·exact ih _
end Go.Proofs.YtkemhmfdooghkaaGreatDoor.Lx
end
