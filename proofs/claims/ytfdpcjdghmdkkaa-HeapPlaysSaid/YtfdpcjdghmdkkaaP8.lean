/- HeapPlays: both heaps in memory. -/
import Derived.Test.YtfdpcjdghmdkkaaP7
import Derived.Deep.Onto
set_option linter.unusedSimpArgs false
set_option linter.unusedVariables false
namespace Go.Proofs.Ytfdpcjdghmdkkaa.Hp
open Go.RowKit Go.Sort
theorem RefAt.base {B B' : Nat} {w : World} {hr gl fr n last : Nat} {f : Nat → Nat} (R : RefAt B w hr gl fr n last f) (h : B' ≤ B) : RefAt B' w hr gl fr n last f :=
  ⟨R.cells, World.ownsRow.mono R.row h, R.ne, Nat.le_trans h R.lo⟩
/-- Both heaps, of one state. -/
structure Bo (w0 w : World) (hr gl fr n last : Nat) (ks : List Nat) (g : Nat → Bk) (f : Nat → Nat) : Prop where
  st : StB w0 w (w0.heap.size + 1) w0.heap.size fr n last ks g
  ref : RefAt (w0.heap.size + 2) w hr gl fr n last f
  rl : Rl fr n ks g f
section
variable {w0 w w' : World} {hr gl fr n last : Nat} {ks : List Nat} {g : Nat → Bk} {f : Nat → Nat}
theorem Bo.below (S : Bo w0 w hr gl fr n last ks g f) (hb : Below w.heap.size w w') : Bo w0 w' hr gl fr n last ks g f := ⟨S.st.held hb, S.ref.below hb, S.rl⟩
theorem Bo.drew (S : Bo w0 w hr gl fr n last ks g f) : Bo w0 w.drew hr gl fr n last ks g f := S.below ((Below.refl _ _).drew)
/-- Make, by windows of the row. -/
theorem make_win (S : StB w0 w (w0.heap.size + 1) w0.heap.size fr n last ks g) (r : Rl fr n ks g f) (hl : last < 65535) {m : Nat} (hm : 1 ≤ m) (hhi : (m : Int) ≤ 9223372036854775807) :
    Calls Try.prog 19 #[.pointer (some ⟨w0.heap.size + 1, 0, none⟩), .int .i64 (m : Nat)] w fun e w' => Keeps2 (w0.heap.size + 1) w0.heap.size w w' ∧
      ((∃ s, s + m ≤ n ∧ (∀ x, s ≤ x → x < s + m → f x = 0) ∧ (∀ s', s' + m ≤ n → (∀ x, s' ≤ x → x < s' + m → f x = 0) → s ≤ s') ∧ e = .returned (.tuple #[.int .u16 ((last + 1 : Nat) : Int), .int .i64 ((fr + s : Nat) : Int), .int .i64 0]) ∧
          StB w0 w' (w0.heap.size + 1) w0.heap.size fr n (last + 1) (ks ++ [last + 1]) (updB g (last + 1) (mkB (fr + s) m)) ∧ Rl fr n (ks ++ [last + 1]) (updB g (last + 1) (mkB (fr + s) m)) (fillF f s (s + m) (last + 1))) ∨
        ((∀ s, s + m ≤ n → ¬ ∀ x, s ≤ x → x < s + m → f x = 0) ∧ e = .returned (.tuple #[.int .u16 0, .int .i64 0, .int .i64 4]) ∧ StB w0 w' (w0.heap.size + 1) w0.heap.size fr n last ks g)) := by
  refine (make_plain S.1.at_ S.1.ok hm hhi).mono ?_
  rintro e w' ⟨hk, h⟩
  have hb := S.2.trans (hk.below S.2.size (Nat.le_succ _) (Nat.le_refl _))
  refine ⟨hk, ?_⟩
  rcases h with ⟨a, h1, h2, h3, h4, h5, h6⟩ | ⟨h1, h2, h3⟩
  · have hf1 := h2.1
    have hf2 := h2.2.1
    obtain ⟨s, rfl⟩ : ∃ s, a = fr + s := ⟨a - fr, by omega⟩
    refine .inl ⟨s, by omega, (r.fits_iff S.1.ok hm (by omega)).1 h2, fun s' hs' q => ?_, h4, ⟨⟨h5, h6⟩, hb⟩, r.made S.1.ok h2 hm⟩
    have := h3 (fr + s') ((r.fits_iff S.1.ok hm hs').2 q)
    omega
  · refine .inr ⟨fun s hs q => ?_, h2, ⟨⟨h3, S.1.ok⟩, hb⟩⟩
    rcases h1 with h1 | h1
    · omega
    · exact h1 (fr + s) ((r.fits_iff S.1.ok hm hs).2 q)
theorem Bo.keepRef (S : Bo w0 w hr gl fr n last ks g f) (hk : Keeps2 (w0.heap.size + 1) w0.heap.size w w') : RefAt (w0.heap.size + 2) w' hr gl fr n last f := by
  have h1 := S.ref.lo
  have h2 := S.ref.gl_lt.1
  exact S.ref.keeps hk (by omega) (by omega) (by omega) (by omega)
theorem StB.keepSt {w1 : World} (S : StB w0 w (w0.heap.size + 1) w0.heap.size fr n last ks g) (hk : Keeps2 hr gl w w1) (h1 : w0.heap.size + 2 ≤ hr) (h2 : w0.heap.size + 2 ≤ gl) : StB w0 w1 (w0.heap.size + 1) w0.heap.size fr n last ks g :=
  ⟨⟨S.1.at_.keeps hk (by omega) (by omega) (by omega) (by omega), S.1.ok⟩, S.2.trans (hk.below S.2.size (by omega) (by omega))⟩
end
end Go.Proofs.Ytfdpcjdghmdkkaa.Hp
