/- slices.AppendSeq and slices.Collect: a row is made of what an iterator hands over. -/
import Derived.Test.YtfdpcjdghmdkkaaH4
import Derived.Test.YtfdpcjdghmdkkaaRange
import Derived.Maps.AppendAt
set_option linter.unusedSimpArgs false
set_option linter.unusedVariables false
namespace Go.Proofs.Ytfdpcjdghmdkkaa.Hp
open Go.RowKit
attribute [local go_sem] Oper.semAt_some
theorem infoU : (Try.prog.info? 23).map (fun i => (i.zero, i.size, i.bytes)) = some (some (.int .u16 0), 1, 2) := by kernel_rfl
theorem infoB : (Try.prog.info? 61).map (fun i => (i.zero, i.size, i.bytes)) = some (some (.agg #[.int .i64 0, .int .i64 0]), 2, 16) := by kernel_rfl
/-- What an iterator over a map turns. -/
def WalkT (B r : Nat) (o : Obj) : Prop := B ≤ r ∧ o.isWalk = true
theorem walkT_other {B r : Nat} {o : Obj} (h : WalkT B r o) : (∀ L, o ≠ .loop L) ∧ ∀ d, o ≠ .deferred d := by
  constructor
  · rintro L rfl; exact absurd h.2 (by simp [Obj.isWalk])
  · rintro d rfl; exact absurd h.2 (by simp [Obj.isWalk])
theorem abides_of {β : Type} {B : Nat} {J : β → World → Prop} (h : AbT (WalkT B) J) : AbidesFrom B J :=
  fun s W W' row hs hg hr => h s W W' row hs hg fun r e => by obtain ⟨h1, o, h2, h3⟩ := hr r e; exact ⟨o, h2, h1, h3⟩
theorem seqT_of {α : Type} {P : Program} {n g : Nat} {lb : Array Value} {encs : α → Array Value} {S Sp : List α → Prop} {N : Nat} {w : World} (h : SeqStopsK Fence.wide n P g lb encs KeepsWalks S Sp N w) :
    SeqT WalkT P n g lb encs KeepsWalks S Sp (fun pre _ => pre.length < N) w :=
  fun l J Jx W h1 h2 h3 h4 h5 => h l J Jx W h1 (abides_of h2) (abides_of h3) h4 h5
def keyV (k : Nat) : Value := .int .u16 (k : Nat)
theorem flatMap_one : ∀ (xs : List Nat), xs.flatMap (fun k => [keyV k]) = xs.map keyV
  | [] => rfl
  | a :: l => by rw [List.flatMap_cons, flatMap_one l]; rfl
theorem flatMap_add (enc : Nat → List Value) (xs : List Nat) (x : Nat) : (xs ++ [x]).flatMap enc = xs.flatMap enc ++ enc x := by simp [List.flatMap_append]
/-- The row so far: its box, its cells. -/
def RowI (w : World) (t e : TypeId) (size : Nat) (enc : Nat → List Value) (pre : List Nat) (W : World) : Prop :=
  (∃ v, Boxed W w.heap.size t v ∧ W.ownsRow w.heap.size e size v pre.length (pre.flatMap enc) ∧ True) ∧ Below w.heap.size w W
theorem loopT_cells {B0 B r : Nat} {o : Obj} (h : LoopT (WalkT B0) B r o) : o.isCells = false := by
  rcases h with h | ⟨_, ⟨L, rfl⟩ | ⟨d, rfl⟩⟩
  · exact Obj.not_cells_of_walk h.2
  · rfl
  · rfl
theorem loopT_le {B0 B r : Nat} {o : Obj} (h : LoopT (WalkT B0) B r o) (hB : B ≤ B0) : B ≤ r := by
  rcases h with h | ⟨h, _⟩
  · exact Nat.le_trans hB h.1
  · exact h
theorem rowI_ab (w : World) (t e : TypeId) (size : Nat) (enc : Nat → List Value) {B : Nat} (hB : w.heap.size ≤ B) : AbT (LoopT (WalkT (B + 2)) B) (RowI w t e size enc) :=
  AbT.and (fun s W W' row hs hg hr => holdsRow_own w.heap.size w.heap.size t e size List.length (fun pre => pre.flatMap enc) (fun _ _ => True) s W W' row hs hg (fun r e => by obtain ⟨o, h1, h2⟩ := hr r e; exact ⟨o, h1, loopT_cells h2⟩))
    (AbT.below (Nat.le_refl _) fun r o h => Nat.le_trans hB (loopT_le h (by omega)))
theorem cells_new_blk (w : World) (x : Nat × Nat) (t : TypeId) : ∀ j u, (blkC x)[j]? = some u → (w.alloc (.cells #[.int .i64 (x.1 : Nat), .int .i64 (x.2 : Nat)] t)).cell? ((⟨w.heap.size, 0, none⟩ : Addr).add j) = some u := by
  intro j u h
  rcases j with _ | _ | j
  · simp [blkC] at h; subst h; simp [Addr.add]
  · simp [blkC] at h; subst h; simp [Addr.add]
  · simp [blkC] at h
set_option maxRecDepth 100000 in
set_option maxHeartbeats 2000000 in
theorem appendSeq_key {w : World} {gf : Nat} {lb : Array Value} {S Sp : List Nat → Prop} {N : Nat} {w0 : World} (hN : N ≤ 100000)
    (eg : ∀ args w, (callFunc gf args).run Try.prog w = .ok (.enter gf args) w) (hb0 : Below w0.heap.size w0 w)
    (hseq : SeqT WalkT Try.prog 1 gf lb (fun k : Nat => #[Value.int .u16 (k : Nat)]) KeepsWalks S Sp (fun pre _ => pre.length < N) w0) :
    Calls Try.prog 33 #[.slice none 0 0, .func (.func gf) #[] lb] w fun e w' => ∃ ss v, e = .returned v ∧ S ss ∧ w'.ownsRow w.heap.size 23 1 v ss.length (ss.flatMap (fun k => [keyV k])) ∧ Below w.heap.size w w' := by
  obtain ⟨i0, hi, hz0, hz1, hz2⟩ := info_parts infoU
  refine (callsIn_wide (n := 2)).1 (callsIn_of_wp_marks Try.func33 rfl trivial ?_ rfl)
  simp only [Try.ntmps33, List.size_toArray, List.length_cons, List.length_nil, Nat.reduceAdd, Nat.reduceSub, Array.replicate_succ, Array.replicate_zero, List.push_toArray, List.append_toArray, List.nil_append, List.cons_append]
  gi_wp2
  have hB1 : Below w.heap.size w (w.alloc (.cells #[.slice none 0 0] 36)) := (Below.refl _ w).alloc (Nat.le_refl _) _
  refine range_T (by decide) (gf := gf) (lb := lb) rfl eg hseq (fun _ _ _ h => walkT_other h) (fun h k => walksK_t h k) (fun W l L L' hl h => walksK_b (w := w) W l _ _ (by simp at hl; omega) h rfl rfl) (hb0.trans (hB1.mono hb0.size)) (fun _ => rfl)
    (RowI w 36 23 1 (fun k => [keyV k])) (fun pre x a1 W => a1 = { tmps := #[.slice none 0 0, .func (.func gf) #[] lb, .pointer (some ⟨w.heap.size, 0, none⟩), undef, .slice none 0 0, .int .u16 (x : Nat), .func (.func gf) #[] lb, .int .u16 (x : Nat), undef, undef, undef, undef, undef], defers := [] } ∧ RowI w 36 23 1 (fun k => [keyV k]) pre W) (fun _ _ _ => False)
    (rowI_ab w _ _ _ _ (by simp)) ?ab (fun _ _ _ _ _ hs _ _ => hs)
    ⟨⟨_, Boxed.new w _ _, ⟨rfl, .inl ⟨rfl, rfl⟩⟩, trivial⟩, hB1⟩ ?assign ?body ?done ?stop
  case ab =>
    intro a1 x s W W' row hs hg hr
    exact ⟨hs.1, rowI_ab w 36 23 1 (fun k => [keyV k]) (B := (w.alloc (.cells #[.slice none 0 0] 36)).heap.size) (by simp) s W W' row hs.2 hg hr⟩
  case assign =>
    intro l pre x W hi hok hsz
    gi_wp2
    exact ⟨KeepsOthers.refl _, KeepsWalks.refl _, trivial, hi⟩
  case body =>
    rintro l pre x a1 W ⟨rfl, ⟨v, hv, hrow, _⟩, hb⟩ hok
    have hc := hv.cell
    have hf := hv.frozen
    have hsz := hb.size
    gi_wp2_with (first
      | (gi_at_builtin; refine wpListIn_append_own _ rfl _ _ 36 rfl w.heap.size 23 i0 (.int .u16 0) 1 2 Try.underlying36 hi hz0 hz1 hz2 rfl (by decide) _ _ _ rfl (hrow.alloc _) ⟨W.heap.size, 0, none⟩ 1 1 ([.int .u16 (x : Nat)]) rfl rfl (cell_one_new _ _ _) (by simp [Value.oneCell']) (by simp [maxLen]; omega) (by omega) (by simp; omega) ?_
         intro v' w3 hown' hg3 hnil3
         obtain ⟨hv3, hv4, hrow4, hko, hb4⟩ := hv.appended (by decide) hrow hsz (Nat.le_refl _) hown' hg3
         obtain ⟨g', cap', rfl⟩ := ownsRow_succ hown'
         have hc3 := hv3.cell
         have hf3 := hv3.frozen
         clear hown' hg3 hnil3
         try go_frame)
      | gi_in)
    refine ⟨hko, hko.walks, ⟨_, hv4, ?_, trivial⟩, hb.trans hb4⟩
    rw [flatMap_add, List.length_append]
    exact hrow4

  case done =>
    rintro D xs W hD hS ⟨⟨v, hv, hrow, _⟩, hb⟩ hK
    have hc := hv.cell
    have hf := hv.frozen
    gi_wp2
    refine ⟨by simp, .inl ⟨_, _, rfl, run_takeDeferred hK, ?_⟩⟩
    exact ⟨_, results_tmp rfl _ _ _, xs, v, rfl, hS, ownsRow_putObj hrow (.deferred none) hK rfl, hb.grown (grownBy_putObj' _ _ _) hb.size (fun k e => by cases e; simp at hD; omega)⟩
  case stop =>
    rintro D c pre W _ _ h _
    exact h.elim
theorem collect_key {w : World} {gf : Nat} {lb : Array Value} {S Sp : List Nat → Prop} {N : Nat} {w0 : World} (hN : N ≤ 100000)
    (eg : ∀ args w, (callFunc gf args).run Try.prog w = .ok (.enter gf args) w) (hb0 : Below w0.heap.size w0 w)
    (hseq : SeqT WalkT Try.prog 1 gf lb (fun k : Nat => #[Value.int .u16 (k : Nat)]) KeepsWalks S Sp (fun pre _ => pre.length < N) w0) :
    Calls Try.prog 27 #[.func (.func gf) #[] lb] w fun e w' => ∃ ss v, e = .returned v ∧ S ss ∧ w'.ownsRow w.heap.size 23 1 v ss.length (ss.flatMap (fun k => [keyV k])) ∧ Below w.heap.size w w' := by
  have hc := appendSeq_key (w := w) hN eg hb0 hseq
  go_enter Try.func27, Try.ntmps27
  go_wp2_with (go_at_call 33; refine hc.mono ?_; rintro e w' ⟨ss, v, rfl, hS, hrow, hb⟩)
  go_ret
  exact ⟨ss, v, rfl, hS, hrow, hb⟩
set_option maxRecDepth 100000 in
set_option maxHeartbeats 2000000 in
theorem appendSeq_blk {w : World} {g : Nat → Nat × Nat} {gf : Nat} {lb : Array Value} {S Sp : List Nat → Prop} {N : Nat} {w0 : World} (hN : N ≤ 100000)
    (eg : ∀ args w, (callFunc gf args).run Try.prog w = .ok (.enter gf args) w) (hb0 : Below w0.heap.size w0 w)
    (hseq : SeqT WalkT Try.prog 1 gf lb (fun k : Nat => #[blkV (g k)]) KeepsWalks S Sp (fun pre _ => pre.length < N) w0) :
    Calls Try.prog 50 #[.slice none 0 0, .func (.func gf) #[] lb] w fun e w' => ∃ ss v, e = .returned v ∧ S ss ∧ w'.ownsRow w.heap.size 61 2 v ss.length (ss.flatMap (fun k => blkC (g k))) ∧ Below w.heap.size w w' := by
  obtain ⟨i0, hi, hz0, hz1, hz2⟩ := info_parts infoB
  refine (callsIn_wide (n := 2)).1 (callsIn_of_wp_marks Try.func50 rfl trivial ?_ rfl)
  simp only [Try.ntmps50, List.size_toArray, List.length_cons, List.length_nil, Nat.reduceAdd, Nat.reduceSub, Array.replicate_succ, Array.replicate_zero, List.push_toArray, List.append_toArray, List.nil_append, List.cons_append]
  gi_wp2
  have hB1 : Below w.heap.size w (w.alloc (.cells #[.slice none 0 0] 71)) := (Below.refl _ w).alloc (Nat.le_refl _) _
  refine range_T (by decide) (gf := gf) (lb := lb) rfl eg hseq (fun _ _ _ h => walkT_other h) (fun h k => walksK_t h k) (fun W l L L' hl h => walksK_b (w := w) W l _ _ (by simp at hl; omega) h rfl rfl) (hb0.trans (hB1.mono hb0.size)) (fun _ => rfl)
    (RowI w 71 61 2 (fun k => blkC (g k))) (fun pre x a1 W => ∃ b, a1 = { tmps := #[.slice none 0 0, .func (.func gf) #[] lb, .pointer (some ⟨w.heap.size, 0, none⟩), undef, .slice none 0 0, .pointer (some ⟨b, 0, none⟩), .func (.func gf) #[] lb, blkV (g x), undef, undef, undef, undef, undef], defers := [] } ∧ W.heap[b]? = some (.cells (blkC (g x)).toArray 61 (0, 0)) ∧ RowI w 71 61 2 (fun k => blkC (g k)) pre W) (fun _ _ _ => False)
    (rowI_ab w _ _ _ _ (by simp)) ?ab (fun _ _ _ _ _ hs _ _ => hs)
    ⟨⟨_, Boxed.new w _ _, ⟨rfl, .inl ⟨rfl, rfl⟩⟩, trivial⟩, hB1⟩ ?assign ?body ?done ?stop
  case ab =>
    intro a1 x s W W' row hs hg hr
    obtain ⟨b, h1, h2, h3⟩ := hs
    exact ⟨b, h1, (grownBy_keeps_cells hg (fun r e => by obtain ⟨o, q1, q2⟩ := hr r e; exact ⟨o, q1, loopT_cells q2⟩) h2 rfl).trans h2, rowI_ab w 71 61 2 (fun k => blkC (g k)) (B := (w.alloc (.cells #[.slice none 0 0] 71)).heap.size) (by simp) s W W' row h3 hg hr⟩
  case assign =>
    intro l pre x W hi hok hsz
    unfold blkV
    gi_wp2
    exact ⟨KeepsOthers.alloc _ _, KeepsWalks.alloc _ _, W.heap.size, rfl, World.alloc_heap_new W _, (rowI_ab w 71 61 2 (fun k => blkC (g k)) (B := w.heap.size) (Nat.le_refl _)).alloc hi _⟩
  case body =>
    rintro l pre x a1 W ⟨b, rfl, hvb, ⟨v, hv, hrow, _⟩, hb⟩ hok
    have hb0c : W.cell? ⟨b, 0, none⟩ = some (.int .i64 ((g x).1 : Nat)) := by simp [World.cell?, hvb, blkC]
    have hb1c : W.cell? ⟨b, 1, none⟩ = some (.int .i64 ((g x).2 : Nat)) := by simp [World.cell?, hvb, blkC]
    unfold blkV
    have hc := hv.cell
    have hf := hv.frozen
    have hsz := hb.size
    gi_wp2_with (first
      | (gi_at_builtin; refine wpListIn_append_own _ rfl _ _ 71 rfl w.heap.size 61 i0 (.agg #[.int .i64 0, .int .i64 0]) 2 16 Try.underlying71 hi hz0 hz1 hz2 rfl (by decide) _ _ _ rfl (hrow.alloc _) ⟨W.heap.size, 0, none⟩ 1 1 (blkC (g x)) rfl rfl (cells_new_blk _ _ _) (by simp [Value.oneCell', blkC]) (by simp [maxLen]; omega) (by omega) (by simp; omega) ?_
         intro v' w3 hown' hg3 hnil3
         obtain ⟨hv3, hv4, hrow4, hko, hb4⟩ := hv.appended (by decide) hrow hsz (Nat.le_refl _) hown' hg3
         obtain ⟨g', cap', rfl⟩ := ownsRow_succ hown'
         have hc3 := hv3.cell
         have hf3 := hv3.frozen
         clear hown' hg3 hnil3
         try go_frame)
      | gi_in)
    refine ⟨hko, hko.walks, ⟨_, hv4, ?_, trivial⟩, hb.trans hb4⟩
    rw [flatMap_add, List.length_append]
    exact hrow4

  case done =>
    rintro D xs W hD hS ⟨⟨v, hv, hrow, _⟩, hb⟩ hK
    have hc := hv.cell
    have hf := hv.frozen
    gi_wp2
    refine ⟨by simp, .inl ⟨_, _, rfl, run_takeDeferred hK, ?_⟩⟩
    exact ⟨_, results_tmp rfl _ _ _, xs, v, rfl, hS, ownsRow_putObj hrow (.deferred none) hK rfl, hb.grown (grownBy_putObj' _ _ _) hb.size (fun k e => by cases e; simp at hD; omega)⟩
  case stop =>
    rintro D c pre W _ _ h _
    exact h.elim
theorem collect_blk {w : World} {g : Nat → Nat × Nat} {gf : Nat} {lb : Array Value} {S Sp : List Nat → Prop} {N : Nat} {w0 : World} (hN : N ≤ 100000)
    (eg : ∀ args w, (callFunc gf args).run Try.prog w = .ok (.enter gf args) w) (hb0 : Below w0.heap.size w0 w)
    (hseq : SeqT WalkT Try.prog 1 gf lb (fun k : Nat => #[blkV (g k)]) KeepsWalks S Sp (fun pre _ => pre.length < N) w0) :
    Calls Try.prog 36 #[.func (.func gf) #[] lb] w fun e w' => ∃ ss v, e = .returned v ∧ S ss ∧ w'.ownsRow w.heap.size 61 2 v ss.length (ss.flatMap (fun k => blkC (g k))) ∧ Below w.heap.size w w' := by
  have hc := appendSeq_blk (w := w) hN eg hb0 hseq
  go_enter Try.func36, Try.ntmps36
  go_wp2_with (go_at_call 50; refine hc.mono ?_; rintro e w' ⟨ss, v, rfl, hS, hrow, hb⟩)
  go_ret
  exact ⟨ss, v, rfl, hS, hrow, hb⟩
end Go.Proofs.Ytfdpcjdghmdkkaa.Hp
