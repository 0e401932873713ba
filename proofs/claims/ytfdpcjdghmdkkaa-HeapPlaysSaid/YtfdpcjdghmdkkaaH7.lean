/- A heap in memory; SortedFunc; place: where a block of so many words has room. -/
import Derived.Test.YtfdpcjdghmdkkaaH6
import Derived.Deep.LoopGhost
import Derived.BigQuiet
import Derived.Deep.QuietTactic
import Derived.Deep.AppendLies
import Derived.Deep.RegionLaw
set_option linter.unusedSimpArgs false
set_option linter.unusedVariables false
namespace Go.Proofs.Ytfdpcjdghmdkkaa.Hp
open Go.RowKit Go.Sort
def bkV (x : Bk) : Value := blkV x.out
/-- Block h is a heap of n words from 'from' on: the last number, the map of its blocks. -/
structure HpAt (w : World) (h b : Nat) (fr n last : Nat) (ks : List Nat) (g : Nat → Bk) : Prop where
  cells : w.heap[h]? = some (.cells #[.int .i64 (fr : Nat), .int .i64 (n : Nat), .int .i64 (last : Nat), .map (some b)] 56 (0, 0))
  map : IsM w b ks (fun k => bkV (g k))
section
variable {w w' : World} {h b fr n last : Nat} {ks : List Nat} {g : Nat → Bk}
theorem HpAt.ne (H : HpAt w h b fr n last ks g) : h ≠ b := by
  intro e
  obtain ⟨es, c, h1, _⟩ := H.map
  rw [← e, H.cells] at h1
  cases h1
theorem HpAt.lt (H : HpAt w h b fr n last ks g) : h < w.heap.size := (Array.getElem?_eq_some_iff.1 H.cells).1
theorem HpAt.kept (H : HpAt w h b fr n last ks g) (h1 : w'.heap[h]? = w.heap[h]?) (h2 : w'.heap[b]? = w.heap[b]?) : HpAt w' h b fr n last ks g := ⟨h1.trans H.cells, H.map.kept h2⟩
theorem HpAt.below {B : Nat} (H : HpAt w h b fr n last ks g) (hb : Below B w w') (h1 : h < B) (h2 : b < B) : HpAt w' h b fr n last ks g := H.kept (hb.block h h1) (hb.block b h2)
theorem HpAt.alloc (H : HpAt w h b fr n last ks g) (o : Obj) : HpAt (w.alloc o) h b fr n last ks g := H.kept (heap_alloc_old w o H.lt) (heap_alloc_old w o H.map.lt)
theorem HpAt.drew (H : HpAt w h b fr n last ks g) : HpAt w.drew h b fr n last ks g := ⟨H.cells, H.map⟩
theorem HpAt.c0 (H : HpAt w h b fr n last ks g) : w.cell? ⟨h, 0, none⟩ = some (.int .i64 (fr : Nat)) := by simp [World.cell?, H.cells]
theorem HpAt.c1 (H : HpAt w h b fr n last ks g) : w.cell? ⟨h, 1, none⟩ = some (.int .i64 (n : Nat)) := by simp [World.cell?, H.cells]
theorem HpAt.c2 (H : HpAt w h b fr n last ks g) : w.cell? ⟨h, 2, none⟩ = some (.int .i64 (last : Nat)) := by simp [World.cell?, H.cells]
theorem HpAt.c3 (H : HpAt w h b fr n last ks g) : w.cell? ⟨h, 3, none⟩ = some (.map (some b)) := by simp [World.cell?, H.cells]
theorem HpAt.fz (H : HpAt w h b fr n last ks g) (i : Nat) : w.frozen? ⟨h, i, none⟩ = false := by simp [World.frozen?, H.cells]
end
theorem flatMap_out (ss : List Nat) (g : Nat → Bk) : ss.flatMap (fun k => blkC ((g k).out)) = (ss.map g).flatMap encB := by
  rw [List.flatMap_map]; rfl
set_option maxHeartbeats 1000000 in
theorem sortedFunc_any {w : World} {Bm b : Nat} {ks : List Nat} {g : Nat → Bk} (hBm : Bm < w.heap.size) (hm : w.cell? ⟨Bm, 0, none⟩ = some (.map (some b))) (h : IsM w b ks (fun k => bkV (g k))) (hk : ks.length ≤ 70000) :
    Calls Try.prog 30 #[.func (.func 38) #[] #[.pointer (some ⟨Bm, 0, none⟩)], .func (.func 32) #[] #[]] w fun e w' =>
      ∃ (v : Value) (l : List Bk), e = .returned v ∧ l.Perm (ks.map g) ∧ (l.Pairwise fun x y => x.1.val ≤ y.1.val) ∧ w'.ownsRow w.heap.size 61 2 v l.length (l.flatMap encB) ∧ Below w.heap.size w w' := by
  have hc := collect_blk (w := w) (g := fun k => (g k).out) (S := fun ss => ks.Perm ss) (Sp := fun _ => True) (N := ks.length) (w0 := w) (by omega) (enters_of Try.func38 (by kernel_rfl) rfl) (.refl _ _) (seqT_of (values_seq hBm hm h))
  have HK := Lib.hid hk
  clear hk h hm hBm
  go_enter Try.func30, Try.ntmps30
  go_wp2_with (first
    | (go_at_call 36
       refine hc.mono ?_
       rintro e w1 ⟨ss, v, rfl, hS, hrow, hb⟩
       rw [flatMap_out] at hrow
       have hlen : ss.length = ks.length := hS.length_eq.symm
       have hs := sortFunc_any hrow (by have := HK.out; omega) hb.size
       have HS := Lib.hid hS
       have HB := Lib.hid hb
       have HS2 := Lib.hid hs
       clear hS hb hs hrow hlen hc)
    | (go_at_call 37
       refine HS2.out.mono ?_
       rintro e w2 ⟨rfl, l, hp, hw, hrow, hb2⟩
       have HR := Lib.hid (And.intro hp (And.intro hw (And.intro hrow hb2)))
       clear hp hw hrow hb2))
  go_ret
  obtain ⟨hp, hw, hrow, hb2⟩ := HR.out
  have e1 : ss.length = l.length := by have := hp.length_eq; simpa using this.symm
  rw [e1] at hrow
  exact ⟨v, l, rfl, hp.trans (HS.out.symm.map g), hw, hrow, HB.out.trans hb2⟩
/-- Where a block of so many words has room, among rows that are in order. -/
def gapL (need : Int) : Nat → List Bk → Nat
  | a, [] => a
  | a, x :: l => if (x.1.val : Int) - (a : Int) ≥ need then a else gapL need (x.1.val + x.2) l
theorem values_any (mb : Option Nat) (w : World) : Calls Try.prog 31 #[.map mb] w fun e w' =>
    e = .returned (.func (.func 38) #[] #[.pointer (some ⟨w.heap.size, 0, none⟩)]) ∧ w' = w.alloc (.cells #[.map mb] 54) := by
  go_enter Try.func31, Try.ntmps31
  go_wp2
  go_ret
  exact ⟨rfl, rfl⟩
theorem keysF_any (mb : Option Nat) (w : World) : Calls Try.prog 25 #[.map mb] w fun e w' =>
    e = .returned (.func (.func 29) #[] #[.pointer (some ⟨w.heap.size, 0, none⟩)]) ∧ w' = w.alloc (.cells #[.map mb] 54) := by
  go_enter Try.func25, Try.ntmps25
  go_wp2
  go_ret
  exact ⟨rfl, rfl⟩
end Go.Proofs.Ytfdpcjdghmdkkaa.Hp
