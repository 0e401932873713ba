/- set, may, Put, Change. -/
import Derived.Test.YtibpekgmgidebaaC3
import Derived.Deep.DrawnRows
set_option linter.unusedSimpArgs false
set_option linter.unusedVariables false
namespace Go.Proofs.Ytibpekgmgidebaa.Sc
open Go.RowKit
open Od

theorem lvl_field1 (v0 v1 : Value) (w : World) : (Instr.field 45 (.agg #[v0, v1]) 1).run Try.prog w = .ok v1 w := by kernel_rfl
attribute [local go_sem] lvl_field1
attribute [local go_sem ↓] Go.wp_at_zero Go.wp_at_succ
theorem grown_trans {a b c : World} {r : Option Nat} (h1 : a.grownBy b none) (h2 : b.grownBy c r) : a.grownBy c r :=
  ⟨h2.os.trans h1.os, h2.tape.trans h1.tape, h2.output.trans h1.output, Nat.le_trans h1.size h2.size, fun k hk hr => (h2.block k (Nat.lt_of_lt_of_le hk h1.size) hr).trans (h1.block k hk (by simp))⟩
theorem boxed {w w' : World} {o : Array Value} {t : TypeId} (hg : (w.alloc (.cells o t)).grownBy w' none) (j : Nat) : w'.cell? ⟨w.heap.size, j, none⟩ = o[j]? := by
  have h := (hg.block w.heap.size (by simp) (by simp)).trans (heap_alloc_new w (.cells o t))
  exact cell_of_row _ _ _ _ _ _ h
set_option maxRecDepth 100000 in
set_option maxHeartbeats 1600000 in
theorem set_any {w : World} {B vb : Nat} {ls : List Lvl} {l : Lvl} (H : EnvAt w B vb (ls ++ [l])) (e : Ent) : Calls Try.prog 17 #[.pointer (some ⟨vb, 0, none⟩), e.val] w fun r w' => r = .returned (.tuple #[]) ∧ w.grownBy w' (some l.b) ∧ IsM w' l.b (if e.name ∈ l.ks then l.ks else l.ks ++ [e.name]) (fun k => itm (updI l.f e.name (e, .slice none 0 0) k)) := by
  obtain ⟨en, ek, et, ev, el, ea, em⟩ := e
  have HE := Lib.hid H
  clear H
  unfold Ent.val
  dsimp only
  go_enter Try.func17, Try.ntmps17
  go_wp2_with fail
  have HE2 := Lib.hid (show EnvAt (w.alloc (.cells #[.string (S en), .int .u8 ek, .int .i64 et, ev, .int .i64 el, .int .i64 ea, .string em] 31)).drew B vb (ls ++ [l]) from HE.out.kept fun k _ hk => Below.heap_alloc _ _ k hk)
  have HBX := Lib.hid (fun (w3 : World) (hg : ((w.alloc (.cells #[.string (S en), .int .u8 ek, .int .i64 et, ev, .int .i64 el, .int .i64 ea, .string em] 31)).drew).grownBy w3 none) (j : Nat) => boxed (w := w) (o := #[.string (S en), .int .u8 ek, .int .i64 et, ev, .int .i64 el, .int .i64 ea, .string em]) (t := 31) (w' := w3) ⟨hg.os, hg.tape, hg.output, hg.size, hg.block⟩ j)
  go_region_with (first
    | (go_at_call 22; (with_reducible refine (top_any HE2.out).mono ?_); rintro r w3 ⟨rfl, hg3⟩
       have c0 := HBX.out w3 hg3 0
       have c1 := HBX.out w3 hg3 1
       have c2 := HBX.out w3 hg3 2
       have c3 := HBX.out w3 hg3 3
       have c4 := HBX.out w3 hg3 4
       have c5 := HBX.out w3 hg3 5
       have c6 := HBX.out w3 hg3 6
       simp only [List.getElem?_toArray, List.getElem?_cons_zero, List.getElem?_cons_succ] at c0 c1 c2 c3 c4 c5 c6
       obtain ⟨w4, hrun, hm4, hg4⟩ := (((HE2.out.grown hg3).maps l (by simp)).2).put Try.underlying43 Try.underlying9 en (Ent.item ⟨en, ek, et, ev, el, ea, em⟩ (.slice none 0 0))
       simp only [Ent.item] at hrun
       have hm4 := (show _ = _ from itm_upd l.f en (⟨en, ek, et, ev, el, ea, em⟩, .slice none 0 0)) ▸ hm4
       have HG := Lib.hid (And.intro hm4 (grown_trans hg3 hg4))
       clear hm4 hg3 hg4))
  all_goals
    have hA := World.grownBy_alloc w (.cells #[.string (S en), .int .u8 ek, .int .i64 et, ev, .int .i64 el, .int .i64 ea, .string em] 31) none
    have hA2 : w.grownBy (w.alloc (.cells #[.string (S en), .int .u8 ek, .int .i64 et, ev, .int .i64 el, .int .i64 ea, .string em] 31)).drew none := ⟨hA.os, hA.tape, hA.output, hA.size, hA.block⟩
    have hG := grown_trans hA2 HG.out.2
    go_end0
    exact ⟨rfl, hG, HG.out.1⟩
end Go.Proofs.Ytibpekgmgidebaa.Sc
