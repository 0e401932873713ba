/- The iterators of maps.Keys and maps.Values over such a map: what they hand to a loop. -/
import Derived.Test.YtfdpcjdghmdkkaaH3
import Derived.Test.YtfdpcjdghmdkkaaProg
import Derived.RangeFuncFrom
import Derived.RangeFuncBox
import Derived.RangeFuncCalls
import Derived.RangeFuncLeaves
import Derived.Sort.MapsRangeIn
import Derived.Shelf.Abstract
import Derived.OwnWalkIn
import Derived.TacticsInMore
import Derived.RegionIn
import Derived.LoopNIn
import Derived.LoopIn
import Derived.Sort.LoopGhostIn
set_option linter.unusedSimpArgs false
set_option linter.unusedVariables false
namespace Go.Proofs.Ytfdpcjdghmdkkaa.Hp
open Go.RowKit
section
variable {F : Fence} {n : Nat} {P : Program} (w : World) {ops : Array Oper} {rest : List Oper} {o : Oper} {a : Act} {Q : Exit → Act → World → Prop}
theorem wpListIn_rangeM (hg : o.guard = none) (m : Operand) (t : TypeId) (hop : o.op = Op.range t m) (k e : TypeId) (ht : P.underlying t = some (.map k e)) (b : Nat) (ks : List Nat) (f : Nat → Value)
    (hm : a.eval m = .map (some b)) (h : IsM w b ks f) (r : Nat) (hr : w.heap.size = r)
    (hK : ∀ w', IterM w' r b ks f ks → w.grownBy w' none → w'.heap.size = r + 1 → wpListIn F n P ops Q rest (a.put o.dst (.pointer (some ⟨r, 0, none⟩))) w') :
    wpListIn F n P ops Q (o :: rest) a w := by
  subst hr
  refine wpListIn_plain hg fun K' hK' => ?_
  have hlt := h.lt
  obtain ⟨es, clock, hb, h2, h3, h4, h5⟩ := h
  have hrun := run_range_map w t k e b es clock ht hb
  unfold Oper.wpIn
  refine ⟨by simp [Oper.about, hop], ?_⟩
  rw [Oper.semAt_plain F _ _ (by rw [hop]; intro c hc'; cases hc')]
  simp [execOp, hop, hm, hrun, Result.andThen]
  refine hK' _ _ (hK _ ⟨es, clock, clock, #[], clock, (heap_alloc_old w _ hlt).trans hb, h2, h3, h4, h5, heap_alloc_new w _, h2, Nat.le_refl _, Nat.le_refl _, ?_⟩ (World.grownBy_alloc w _ none) (by simp))
  have := congrArg (List.map Prod.fst) h4
  simp only [List.map_map, Function.comp_def] at this
  have e : (es.toList.filter fun e => !(#[] : Array Nat).contains e.born) = es.toList := by rw [List.filter_eq_self]; intro x _; simp
  rw [e]
  exact this
theorem wpListIn_nextM (hg : o.guard = none) (it : Operand) (hop : o.op = Op.next it false) (r b : Nat) (ks left : List Nat) (f : Nat → Value) (hit : a.eval it = .pointer (some ⟨r, 0, none⟩)) (h : IterM w r b ks f left)
    (hDone : left = [] → wpListIn F n P ops Q rest (a.put o.dst (.tuple #[.bool false])) w)
    (hMore : ∀ (k : Nat) (w' : World), k ∈ left → k ∈ ks → IterM w' r b ks f (left.filter (fun x => !decide (x = k))) → w.grownBy w' (some r) → w'.heap.size = w.heap.size →
      (Instr.entry (.pointer (some ⟨r, 0, none⟩))).run P w' = .ok (.tuple #[.int .u16 (k : Nat), f k]) w' → wpListIn F n P ops Q rest (a.put o.dst (.tuple #[.bool true, .int .u16 (k : Nat), f k])) w') :
    wpListIn F n P ops Q (o :: rest) a w := by
  refine wpListIn_plain hg fun K' hK' => ?_
  unfold Oper.wpIn
  refine ⟨by simp [Oper.about, hop], ?_⟩
  rw [Oper.semAt_plain F _ _ (by rw [hop]; intro c hc'; cases hc')]
  rcases h.next (P := P) o.type with ⟨h0, hrun⟩ | ⟨k, w', h1, h2, hrun, h3, h4, h5, h6⟩
  · simp [execOp, hop, hit, hrun, Result.andThen]
    exact hK' _ _ (hDone h0)
  · simp [execOp, hop, hit, hrun, Result.andThen]
    exact hK' _ _ (hMore k w' h1 h2 h3 h4 h5 h6)
end
/-- A range under way is kept where maps and iterators are kept. -/
theorem IterM.walks {w w' : World} {r b : Nat} {ks left : List Nat} {f : Nat → Value} (h : IterM w r b ks f left) (hk : KeepsWalks w w') : IterM w' r b ks f left := by
  have h0 := h
  obtain ⟨es, clock, since, seen, c0, h1, _, _, _, _, h6, _⟩ := h
  exact h0.kept ((hk.same b _ h1 rfl).trans h1.symm) ((hk.same r _ h6 rfl).trans h6.symm)
theorem IterM.iter_walk {w : World} {r b : Nat} {ks left : List Nat} {f : Nat → Value} (h : IterM w r b ks f left) : ∃ o : Obj, w.heap[r]? = some o ∧ o.isWalk = true := by
  obtain ⟨es, clock, since, seen, c0, _, _, _, _, _, h6, _⟩ := h
  exact ⟨_, h6, rfl⟩
/-- What has come and what is to come. -/
structure AccR (s acc left : List Nat) : Prop where
  perm : s.Perm (acc ++ left)
theorem AccR.start (s : List Nat) : AccR s [] s := ⟨.refl _⟩
theorem nd_filter {l : List Nat} (hn : l.Nodup) {k : Nat} (hk : k ∈ l) : l.Perm (k :: l.filter fun x => !decide (x = k)) := by
  refine (List.perm_ext_iff_of_nodup hn (List.nodup_cons.2 ⟨by simp, hn.sublist List.filter_sublist⟩)).2 fun x => ?_
  rw [List.mem_cons, List.mem_filter]
  by_cases e : x = k
  · subst e; simp [hk]
  · simp [e]
theorem AccR.step {s acc left : List Nat} {k : Nat} (h : AccR s acc left) (hs : s.Nodup) (hk : k ∈ left) : AccR s (acc ++ [k]) (left.filter fun x => !decide (x = k)) := by
  have hl : left.Nodup := (List.nodup_append.1 (h.perm.nodup_iff.1 hs)).2.1
  refine ⟨h.perm.trans ?_⟩
  rw [List.append_assoc]
  exact (nd_filter hl hk).append_left acc
theorem AccR.len {s acc left : List Nat} (h : AccR s acc left) : s.length = acc.length + left.length := by rw [h.perm.length_eq, List.length_append]
theorem AccR.less {s acc left : List Nat} {k : Nat} (h : AccR s acc left) (hs : s.Nodup) (hk : k ∈ left) : (left.filter fun x => !decide (x = k)).length + 1 = left.length := by
  have := (h.step hs hk).len
  have := h.len
  rw [List.length_append, List.length_singleton] at *
  omega
theorem walks_abide {W : World} {J : List Nat → World → Prop} (hJ : AbidesFrom W.heap.size J) {s : List Nat} {w w' : World} {r : Nat} (h : J s w) (hg : w.grownBy w' (some r)) (hr : W.heap.size ≤ r) (ho : ∃ o : Obj, w.heap[r]? = some o ∧ o.isWalk = true) : J s w' :=
  hJ s w w' (some r) h hg (fun q e => by injection e with e; subst e; exact ⟨hr, ho⟩)

set_option maxRecDepth 100000 in
set_option maxHeartbeats 1000000 in
theorem keys_seq {w : World} {Bm b : Nat} {ks : List Nat} {f : Nat → Value} (hBm : Bm < w.heap.size) (hm : w.cell? ⟨Bm, 0, none⟩ = some (.map (some b))) (h : IsM w b ks f) :
    SeqStopsK Fence.wide 1 Try.prog 29 #[.pointer (some ⟨Bm, 0, none⟩)] (fun k : Nat => #[Value.int .u16 (k : Nat)]) KeepsWalks (fun ss => ks.Perm ss) (fun _ => True) ks.length w := by
  intro l J Jx W hW hJ _ hY h0
  have hmW : W.cell? ⟨Bm, 0, none⟩ = some (.map (some b)) := (hW.cell (p := ⟨Bm, 0, none⟩) hBm).trans hm
  have hM : IsM W b ks f := h.kept (hW.block b h.lt)
  have hN := hM.nodup
  refine callsIn_of_wp Try.func29 rfl trivial ?_ rfl
  simp only [Try.ntmps29, List.size_toArray, List.length_cons, List.length_nil, Nat.reduceAdd, Nat.reduceSub, Array.replicate_succ, Array.replicate_zero, List.push_toArray, List.append_toArray, List.nil_append, List.cons_append]
  gi_wp2_with (first
    | (gi_at_range; refine wpListIn_rangeM _ rfl _ _ rfl _ _ Try.underlying54 b ks f rfl hM W.heap.size rfl ?_; intro w0 hi0 hg0 hs0)
    | gi_in)
  try go_frame
  gi_loopg [3] ks.length (fun g _ wr => ∃ (left acc : List Nat), left.length ≤ g ∧ IterM wr W.heap.size b ks f left ∧ AccR ks acc left ∧ J acc wr)
  case atStart =>
    exact ⟨ks, [], Nat.le_refl _, hi0, AccR.start ks, hJ [] W w0 none h0 hg0 (fun r e => by cases e)⟩
  case round =>
    obtain ⟨left, acc, hg, hi, ha, hj⟩ := hrel
    gi_wp2_with (first
      | (gi_at_next; refine wpListIn_nextM _ rfl _ rfl W.heap.size b ks left f rfl hi ?_ ?_)
      | gi_in)
    · intro hl0
      subst hl0
      gi_wp2
      go_end0
      exact ⟨⟨_, rfl⟩, .inl ⟨acc, by have := ha.perm; rwa [List.append_nil] at this, hj⟩⟩
    · intro k w2 hkl hks hi2 hg2 hs2 hen
      have hl := ha.less hN hkl
      have hj2 : J acc w2 := walks_abide hJ hj hg2 (Nat.le_refl _) hi.iter_walk
      obtain ⟨fn, tmps, assign, body, hy, hR⟩ := hY acc k w2 hj2 (by have := ha.len; omega)
      clear hs2
      gi_wp2
      refine hR.mono ?_
      rintro e W3 (⟨rfl, hJ3, hk3⟩ | ⟨rfl, hJx3⟩)
      · gi_wp2
        have hi3 := hi2.walks hk3
        gi_roundg (left.length - 1)
        case rel => exact ⟨_, acc ++ [k], by omega, hi3, ha.step hN hkl, hJ3⟩
        case measure => omega
      · gi_wp2
        refine bodyPost_ret (results_none rfl _ _ _) rfl ?_
        exact ⟨⟨_, rfl⟩, .inr ⟨acc ++ [k], trivial, hJx3⟩⟩

/-- A block: its address, its size. -/
def blkC (x : Nat × Nat) : List Value := [.int .i64 (x.1 : Nat), .int .i64 (x.2 : Nat)]
def blkV (x : Nat × Nat) : Value := .agg #[.int .i64 (x.1 : Nat), .int .i64 (x.2 : Nat)]
set_option maxRecDepth 100000 in
set_option maxHeartbeats 1000000 in
theorem values_seq {w : World} {Bm b : Nat} {ks : List Nat} {g : Nat → Nat × Nat} (hBm : Bm < w.heap.size) (hm : w.cell? ⟨Bm, 0, none⟩ = some (.map (some b))) (h : IsM w b ks (fun k => blkV (g k))) :
    SeqStopsK Fence.wide 1 Try.prog 38 #[.pointer (some ⟨Bm, 0, none⟩)] (fun k : Nat => #[blkV (g k)]) KeepsWalks (fun ss => ks.Perm ss) (fun _ => True) ks.length w := by
  intro l J Jx W hW hJ _ hY h0
  have hmW : W.cell? ⟨Bm, 0, none⟩ = some (.map (some b)) := (hW.cell (p := ⟨Bm, 0, none⟩) hBm).trans hm
  have hM : IsM W b ks (fun k => blkV (g k)) := h.kept (hW.block b h.lt)
  have hN := hM.nodup
  refine callsIn_of_wp Try.func38 rfl trivial ?_ rfl
  simp only [Try.ntmps38, List.size_toArray, List.length_cons, List.length_nil, Nat.reduceAdd, Nat.reduceSub, Array.replicate_succ, Array.replicate_zero, List.push_toArray, List.append_toArray, List.nil_append, List.cons_append]
  gi_wp2_with (first
    | (gi_at_range; refine wpListIn_rangeM _ rfl _ _ rfl _ _ Try.underlying54 b ks (fun k => blkV (g k)) rfl hM W.heap.size rfl ?_; intro w0 hi0 hg0 hs0)
    | gi_in)
  try go_frame
  gi_loopg [4] ks.length (fun gh _ wr => ∃ (left acc : List Nat), left.length ≤ gh ∧ IterM wr W.heap.size b ks (fun k => blkV (g k)) left ∧ AccR ks acc left ∧ J acc wr)
  case atStart =>
    exact ⟨ks, [], Nat.le_refl _, hi0, AccR.start ks, hJ [] W w0 none h0 hg0 (fun r e => by cases e)⟩
  case round =>
    obtain ⟨left, acc, hg, hi, ha, hj⟩ := hrel
    gi_wp2_with (first
      | (gi_at_next; refine wpListIn_nextM _ rfl _ rfl W.heap.size b ks left (fun k => blkV (g k)) rfl hi ?_ ?_)
      | gi_in)
    · intro hl0
      subst hl0
      gi_wp2
      go_end0
      exact ⟨⟨_, rfl⟩, .inl ⟨acc, by have := ha.perm; rwa [List.append_nil] at this, hj⟩⟩
    · intro k w2 hkl hks hi2 hg2 hs2 hen
      have hl := ha.less hN hkl
      have hj2 : J acc w2 := walks_abide hJ hj hg2 (Nat.le_refl _) hi.iter_walk
      have hj3 : J acc (w2.alloc (.cells #[.int .i64 ((g k).1 : Nat), .int .i64 ((g k).2 : Nat)] 61)) := hJ acc w2 _ none hj2 (World.grownBy_alloc _ _ none) (fun r e => by cases e)
      obtain ⟨fn, tmps, assign, body, hy, hR⟩ := hY acc k _ hj3 (by have := ha.len; omega)
      unfold blkV at hen hy
      clear hs2
      gi_wp2
      refine hR.mono ?_
      rintro e W3 (⟨rfl, hJ3, hk3⟩ | ⟨rfl, hJx3⟩)
      · gi_wp2
        have hi3 := (hi2.alloc _).walks hk3
        gi_roundg (left.length - 1)
        case rel => exact ⟨_, acc ++ [k], by omega, hi3, ha.step hN hkl, hJ3⟩
        case measure => omega
      · gi_wp2
        refine bodyPost_ret (results_none rfl _ _ _) rfl ?_
        exact ⟨⟨_, rfl⟩, .inr ⟨acc ++ [k], trivial, hJx3⟩⟩
end Go.Proofs.Ytfdpcjdghmdkkaa.Hp
