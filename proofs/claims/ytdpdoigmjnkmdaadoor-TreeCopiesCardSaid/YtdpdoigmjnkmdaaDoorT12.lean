/- The walk of heavy. -/
import Derived.Test.YtdpdoigmjnkmdaaDoorT11
set_option linter.unusedSimpArgs false
set_option linter.unusedVariables false
namespace Go.Proofs.YtdpdoigmjnkmdaaDoor.Tr
open Go.RowKit
open Fl

def namesN (l : List Pc) : Nat := (l.map fun p => p.name.size).sum
theorem namesN_take (l : List Pc) (k : Nat) (h : k < l.length) : namesN (l.take (k + 1)) = namesN (l.take k) + l[k].name.size := by
  unfold namesN
  rw [List.take_succ_eq_append_getElem h, List.map_append, List.sum_append]; simp
theorem piece_name {w : World} {B n : Nat} {A : Option Addr} {l : List Pc} {k : Nat} (h : Reads w B 6 A n (valsP l)) (hk : k < l.length) : ∃ b off, A = some ⟨b, off, none⟩ ∧ w.cell? ⟨b, off + k * 6 + 3, none⟩ = some (.string l[k].name) := by
  have hl := h.1
  rw [valsP_len] at hl
  obtain ⟨⟨b, off, sp⟩, e, hb, hc⟩ := h.2 (by omega)
  obtain ⟨p0, l0, h0⟩ : ∃ p0 l0, l = p0 :: l0 := by cases l with
    | nil => simp at hk
    | cons p l => exact ⟨p, l, rfl⟩
  have hs : sp = none := by
    have := hc 0 (.int .u8 p0.kind) (by rw [h0, valsP_cons]; rfl)
    have := World.cell?_spot this
    simpa [Addr.add] using this
  subst hs
  refine ⟨b, off, e, ?_⟩
  have hv : (valsP l)[k * 6 + 3]? = some (.string l[k].name) := by
    rw [← List.getElem?_drop, valsP_drop, List.drop_eq_getElem_cons hk, valsP_cons]; rfl
  have := hc _ _ hv
  have ha : ∀ j, (⟨b, off, none⟩ : Addr).add j = ⟨b, off + j, none⟩ := fun j => by unfold Addr.add; split <;> simp_all
  rw [ha] at this
  rw [Nat.add_assoc]
  exact this

def HeavyR (l : List Pc) (w : World) (e : Ending) (w' : World) : Prop := ∃ z, e = .returned (.bool z) ∧ w = w' ∧ (z = false → l.length ≤ 200 ∧ namesN l ≤ 4096)
set_option maxRecDepth 100000 in
set_option maxHeartbeats 3200000 in
theorem heavy_any (l : List Pc) (A : Option Addr) (c : Nat) (w : World) (hl : l.length ≤ 9223372036854775807) (hn : ∀ p ∈ l, p.name.size ≤ 9007199254740992) (hR : Reads w w.heap.size 6 A l.length (valsP l)) :
    Calls Tryd.prog 8 #[.slice A l.length c] w (HeavyR l w) := by
  have HR := Lib.hid hR
  have HN := Lib.hid hn
  clear hR hn
  go_enter Tryd.func8, Tryd.ntmps8
  go_wp2
  go_loop [3, 4] (fun t i => ∃ (k z : Nat), k ≤ l.length ∧ k ≤ 500 ∧ i = .int .i64 k ∧ t = .int .i64 z ∧ Hid (z ≤ k * 9007199254740992) ∧ Hid (z = namesN (l.take k))) (fun _ i => 500 - (intOf i).toNat)
  case atStart => exact ⟨0, 0, Nat.zero_le _, by omega, rfl, rfl, Lib.hid (by omega), Lib.hid rfl⟩
  case round =>
    obtain ⟨k, z, hk, hk5, rfl, rfl, hz, HZ⟩ := hrel
    by_cases hlt : k < l.length
    · by_cases h5 : k < 500
      · obtain ⟨b, off, rfl, hcell⟩ := piece_name HR.out hlt
        have hs := HN.out l[k] (List.getElem_mem hlt)
        have HZ2 := Lib.hid (namesN_take l k hlt)
        generalize l[k].name = nm at *
        have hz2 := hz.out
        have hzz : z + nm.size ≤ 9223372036854775807 := by omega
        have HZ3 := Lib.hid (show z + nm.size ≤ (k + 1) * 9007199254740992 by omega)
        clear hs hz2
        have hi0 : (0 : Int) ≤ (k : Int) := by omega
        have hi1 : (k : Int) < (l.length : Int) := by omega
        go_wp2
        go_round
        case rel => exact ⟨k + 1, z + nm.size, by omega, by omega, by go_num, by go_num, HZ3, Lib.hid (by rw [HZ2.out, HZ.out])⟩
        case measure => simp [intOf]; omega
      · by_cases h2 : 200 < l.length
        · go_wp2
          go_ret
          exact ⟨_, rfl, rfl, fun h => by simp at h⟩
        · omega
    · have hE := HZ.out
      rw [List.take_of_length_le (by omega)] at hE
      have HE := Lib.hid hE
      clear hE HZ
      by_cases h2 : 200 < l.length
      · go_wp2
        go_ret
        exact ⟨_, rfl, rfl, fun h => by simp at h⟩
      · by_cases h3 : 4096 < z
        · have H3 := Lib.hid h3
          go_wp2
          go_ret
          refine ⟨_, rfl, rfl, fun h => ?_⟩
          simp at h
          have := H3.out
          omega
        · go_wp2
          go_ret
          refine ⟨_, rfl, rfl, fun h => ?_⟩
          have := HE.out
          omega
end Go.Proofs.YtdpdoigmjnkmdaaDoor.Tr
