/- A map of names as the shelf's ownsMap; Names. -/
import Derived.Test.YtibpekgmgidebaaC7
import Derived.Test.YtibpekgmgidebaaIter
set_option linter.unusedSimpArgs false
set_option linter.unusedVariables false
namespace Go.Proofs.Ytibpekgmgidebaa.Sc
open Go.RowKit
open Od
open Go.WideShapes Go.Maps
attribute [local go_sem] lvl_field1

def R0 : Value → Option (DataW Unit × List MemPlace) := fun _ => some (.nil, [])
theorem key_of (m : Nm) (h : m.length ≤ maxLen) : keyOf Try.prog 9 (.string (S m)) = some (Lit.string m) := by
  have hs : (S m).size ≤ maxLen := by rw [S_size]; exact h
  have := Go.WideMaps.keyOf_string_mk Try.underlying9 hs
  simpa [S] using this
theorem rg_key {x : MapEntry} {m : Nm} (hk : x.key = .string (S m)) (h : m.length ≤ maxLen) : WideElems.rd Try.prog 9 R0 x = some (.string m, .nil) := by
  simp [WideElems.rd, hk, key_of m h, R0]
theorem IsM.owns {w : World} {b : Nat} {ks : List Nm} {f : Nm → Value} (h : IsM w b ks f) (hl : ∀ k ∈ ks, k.length ≤ maxLen) (hn : ks.length ≤ maxLen) :
    ∃ D0 : DataW Unit, w.ownsMap Try.prog 9 R0 b ks.length D0 ∧ (strKeys D0).Perm ks ∧ Go.Maps.size D0 = ks.length := by
  obtain ⟨es, clock, hb, h1, h2, h3, h4⟩ := h
  have hsz : es.size = ks.length := by have := congrArg List.length h3; simpa using this
  have hkeys : es.toList.map (·.key) = ks.map (fun k => Value.string (S k)) := by
    have := congrArg (List.map Prod.fst) h3
    simpa [List.map_map, Function.comp_def] using this
  have hrd : ∀ x ∈ es.toList, ∃ k ∈ ks, x.key = .string (S k) := fun x hx => by
    have : x.key ∈ ks.map (fun k => Value.string (S k)) := by rw [← hkeys]; exact List.mem_map_of_mem hx
    obtain ⟨k, hk, e⟩ := List.mem_map.1 this
    exact ⟨k, hk, e.symm⟩
  have hnd : (es.toList.map (·.key)).Nodup := by
    rw [hkeys]
    refine List.pairwise_map.2 (h4.imp fun hne e => hne ?_)
    injection e with e
    exact S_inj.1 e
  refine ⟨.map ((es.toList.map (WideElems.rg Try.prog 9 R0)).foldr DataW.insert []), ⟨es, clock, hb, ⟨by omega, ⟨h1, h2, hnd⟩, fun x hx => ?_⟩, by omega, rfl⟩, ?_, ?_⟩
  · obtain ⟨k, hk, e⟩ := hrd x hx
    exact ⟨_, rg_key e (hl k hk)⟩
  · show (((es.toList.map (WideElems.rg Try.prog 9 R0)).foldr DataW.insert []).map fun p => strOf p.1).Perm ks
    refine ((sorted_perm _).map _).trans (List.Perm.of_eq ?_)
    rw [List.map_map]
    have e : (es.toList.map (·.key)).map (fun v => match v with | .string s => s.data.toList | _ => []) = ks := by
      rw [hkeys, List.map_map]
      simp [Function.comp_def, S]
    rw [List.map_map] at e
    refine Eq.trans (List.map_congr_left fun x hx => ?_) e
    obtain ⟨k, hk, e2⟩ := hrd x hx
    simp [WideElems.rg, rg_key e2 (hl k hk), strOf, e2, S]
  · show ((es.toList.map (WideElems.rg Try.prog 9 R0)).foldr DataW.insert []).length = _
    rw [length_sorted]
    simp [hsz]
end Go.Proofs.Ytibpekgmgidebaa.Sc
