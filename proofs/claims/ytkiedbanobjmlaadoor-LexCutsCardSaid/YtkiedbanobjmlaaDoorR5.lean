/- The walk of the reference's symbol. -/
import Derived.Test.YtkiedbanobjmlaaDoorR4
import Derived.Deep.Cut
import Derived.BigQuiet
import Derived.Deep.RegionHeld3
set_option linter.unusedSimpArgs false
set_option linter.unusedVariables false
namespace Go.Proofs.YtkiedbanobjmlaaDoor.Lx
open Go.RowKit
open Pl Fl

def twos : List ByteArray := [⟨#[58, 61]⟩, ⟨#[60, 62]⟩, ⟨#[60, 61]⟩, ⟨#[62, 61]⟩, ⟨#[46, 46]⟩]
def ones : List UInt8 := [43, 45, 42, 47, 126, 46, 44, 59, 40, 91, 123, 94, 61, 35, 60, 62, 58, 41, 93, 125, 124, 38]
def onesB : ByteArray := ⟨#[43, 45, 42, 47, 126, 46, 44, 59, 40, 91, 123, 94, 61, 35, 60, 62, 58, 41, 93, 125, 124, 38]⟩
/-- How many bytes a symbol has. -/
def symN (s : List UInt8) : Nat := if twos.any (fun x => x.data.toList == s.take 2) then 2 else if ones.any (fun c => s.head? == some c) then 1 else 0
def twosV : Array Value := #[.string ⟨#[58, 61]⟩, .string ⟨#[60, 62]⟩, .string ⟨#[60, 61]⟩, .string ⟨#[62, 61]⟩, .string ⟨#[46, 46]⟩]
theorem twosV_eq : twosV = (twos.map Value.string).toArray := rfl
theorem twosV_at (i : Nat) (h : i < twos.length) : twosV[i]? = some (.string twos[i]) := by
  rw [twosV_eq]; simp [h]
theorem twos_size : ∀ x ∈ twos, x.data.toList.length = 2 := by decide
theorem ext_front (s : ByteArray) : (s.extract 0 2).toList = s.data.toList.take 2 := by
  rw [ByteArray.toList_eq, ByteArray.data_extract, Array.toList_extract, List.extract_eq_take_drop]; simp

theorem below_drewN {B : Nat} {w wr : World} (h : Below B w wr) (n : Nat) : Below B w (wr.drewN n) := ⟨h.os, h.tape, h.output, h.size, h.block⟩

set_option maxHeartbeats 3200000 in
theorem symbol_any (s : ByteArray) (h0 : 1 ≤ s.size) (hs : s.size ≤ 9223372036854775800) (w : World) :
    Calls Tryd.prog 50 #[.string s] w fun e w' => e = .returned (.int .i64 (symN s.data.toList : Nat)) ∧ Below w.heap.size w w' := by
  go_enter Tryd.func50, Tryd.ntmps50
  go_upto_region 2 with (fail)
  have hcell : ∀ i (h : i < twos.length), (w.alloc (.cells twosV 9)).cell? ⟨w.heap.size, i, none⟩ = some (.string twos[i]) := fun i h => by
    rw [cell_of_row _ _ _ _ _ _ (heap_alloc_new w _)]; exact twosV_at i h
  have HC := Lib.hid hcell
  have HB := Lib.hid ((Below.refl w.heap.size w).alloc (Nat.le_refl _) (.cells twosV 9))
  have hlt0 : w.heap.size < (w.alloc (.cells twosV 9)).heap.size := by simp
  clear hcell
  have hcs : (w.alloc (.cells twosV 9)) = w.alloc (.cells #[.string ⟨#[58, 61]⟩, .string ⟨#[60, 62]⟩, .string ⟨#[60, 61]⟩, .string ⟨#[62, 61]⟩, .string ⟨#[46, 46]⟩] 9) := rfl
  rw [hcs] at HC HB hlt0
  clear hcs
  go_wp2
  go_loopw [4] (fun i wr => ∃ k : Nat, k ≤ 5 ∧ i = .int .i64 k ∧ Hid (Below w.heap.size w wr) ∧ Hid (∀ i (h : i < twos.length), wr.cell? ⟨w.heap.size, i, none⟩ = some (.string twos[i])) ∧ Hid (∀ x ∈ twos.take k, ¬ x.data.toList = s.data.toList.take 2)) (fun i _ => 5 - (intOf i).toNat)
  case atStart => exact ⟨0, by omega, rfl, HB, HC, Lib.hid (by simp)⟩
  case round =>
    obtain ⟨k, hk, rfl, HB2, HC2, HN⟩ := hrel
    by_cases hlt : k < 5
    · have hkl : k < twos.length := hlt
      have hc := HC2.out k hkl
      have HT := Lib.hid (show twos.take (k + 1) = twos.take k ++ [twos[k]] from by simp)
      have HM := Lib.hid (show twos[k] ∈ twos from by simp)
      have h2 := twos_size twos[k] HM.out
      generalize twos[k] = x at *
      have hi0 : (0 : Int) ≤ (k : Int) := by omega
      have hi1 : (k : Int) < 5 := by omega
      have HX : ¬ x.data.toList = s.data.toList.take 2 → Hid (∀ y ∈ twos.take (k + 1), ¬ y.data.toList = s.data.toList.take 2) := fun hne => Lib.hid (by
        intro y hy
        rw [HT.out, List.mem_append, List.mem_singleton] at hy
        rcases hy with hy | rfl
        · exact HN.out y hy
        · exact hne)
      by_cases hs2 : s.size < 2
      · have hb3 : ¬ (2 : Int) ≤ (s.size : Int) := by omega
        have HN2 := HX (fun e => by have := congrArg List.length e; simp at this; simp at h2; omega)
        clear HX HT HM h2
        have hb2 : decide ((2 : Int) ≤ (s.size : Int)) = false := by simp; omega
        go_wp2
        go_quiet (fail)
        go_wp2
        go_roundw
        case rel => exact ⟨k + 1, by omega, by go_num, Lib.hid (below_drewN HB2.out _), Lib.hid HC2.out, HN2⟩
        case measure => simp [intOf]; omega
      · have hb3 : (2 : Int) ≤ (s.size : Int) := by omega
        have hE := ext_front s
        by_cases he : x.data.toList = s.data.toList.take 2
        · have hb4 : ((s.extract 0 2).toList == x.toList) = true := by rw [hE, ByteArray.toList_eq, he]; simp
          have HR := Lib.hid (show symN s.data.toList = 2 by unfold symN; rw [if_pos (List.any_eq_true.2 ⟨x, HM.out, by simpa using he⟩)])
          clear HX HT HM h2 hE he
          go_wp2
          go_quiet (fail)
          go_wp2
          go_ret
          exact ⟨ret_int (by rw [HR.out]; rfl), below_drewN HB2.out _⟩
        · have hb4 : ((s.extract 0 2).toList == x.toList) = false := by
            rw [hE, ByteArray.toList_eq]
            simp only [beq_eq_false_iff_ne, ne_eq]
            exact fun e => he e.symm
          have HN2 := HX he
          clear HX HT HM h2 hE he
          go_wp2
          go_quiet (fail)
          go_wp2
          go_roundw
          case rel => exact ⟨k + 1, by omega, by go_num, Lib.hid (below_drewN HB2.out _), Lib.hid HC2.out, HN2⟩
          case measure => simp [intOf]; omega
    · have HNT := Lib.hid (show twos.any (fun x => x.data.toList == s.data.toList.take 2) = false by
        rw [List.any_eq_false]
        intro x hx e
        exact HN.out x (by rw [show k = twos.length from by show k = 5; omega, List.take_length]; exact hx) (by simpa using e))
      clear HN HC2
      have hk5 : k = 5 := by omega
      subst hk5
      go_wp2
      have hx0 : (0 : Int) < (s.size : Int) := by omega
      have hob : Hid (onesB.size = 22 ∧ onesB.data.toList = ones) := Lib.hid ⟨rfl, rfl⟩
      unfold onesB at hob
      generalize hO : (⟨#[43, 45, 42, 47, 126, 46, 44, 59, 40, 91, 123, 94, 61, 35, 60, 62, 58, 41, 93, 125, 124, 38]⟩ : ByteArray) = ob at *
      have hsz := hob.out.1
      clear hO
      go_loopw [6] (fun i wr => ∃ j : Nat, j ≤ 22 ∧ i = .int .i64 j ∧ Hid (Below w.heap.size w wr) ∧ Hid (∀ c ∈ ones.take j, ¬ s.data.toList.head? = some c)) (fun i _ => 22 - (intOf i).toNat)
      case atStart => exact ⟨0, by omega, rfl, HB2, Lib.hid (by simp)⟩
      case round =>
        obtain ⟨j, hj, rfl, HB3, HN⟩ := hrel
        by_cases hlt2 : j < 22
        · have hjl : j < ob.size := by omega
          have hi0 : (0 : Int) ≤ (j : Int) := by omega
          have hi1 : (j : Int) < (ob.size : Int) := by omega
          have h00 : 0 < s.size := by omega
          have HH := Lib.hid (show s.data.toList.head? = some s[0] by have := drop_cons s 0 h00; rw [List.drop_zero] at this; rw [this]; rfl)
          have HO := Lib.hid (show ones.take (j + 1) = ones.take j ++ [ob[j]] by
            have h1 := drop_cons ob j hjl
            rw [hob.out.2] at h1
            have h2 : (ones.drop j).take 1 = [ob[j]] := by rw [h1]; rfl
            rw [← h2, List.take_add])
          by_cases he : s[0] = ob[j]
          · have hb : (((s[0]).toNat : Int) == ((ob[j]).toNat : Int)) = true := by rw [he]; simp
            have HR := Lib.hid (show symN s.data.toList = 1 by
              unfold symN
              rw [if_neg (by rw [HNT.out]; simp), if_pos]
              refine List.any_eq_true.2 ⟨ob[j], ?_, by rw [HH.out, he]; simp⟩
              have : ob[j] ∈ ones.take (j + 1) := by rw [HO.out]; simp
              exact List.mem_of_mem_take this)
            clear HO HH he HNT
            go_wp2
            go_quiet (fail)
            go_wp2
            go_ret
            exact ⟨ret_int (by rw [HR.out]; rfl), below_drewN HB3.out _⟩
          · have hb : (((s[0]).toNat : Int) == ((ob[j]).toNat : Int)) = false := by
              simp only [beq_eq_false_iff_ne, ne_eq]
              exact fun e => he (UInt8.toNat_inj.1 (by omega))
            have HN2 := Lib.hid (show ∀ c ∈ ones.take (j + 1), ¬ s.data.toList.head? = some c by
              intro c hc
              rw [HO.out, List.mem_append, List.mem_singleton] at hc
              rcases hc with hc | rfl
              · exact HN.out c hc
              · rw [HH.out]; intro e; injection e with e; exact he e)
            clear HO HH he HN
            go_wp2
            go_quiet (fail)
            go_wp2
            go_roundw
            case rel => exact ⟨j + 1, by omega, by go_num, Lib.hid (below_drewN HB3.out _), HN2⟩
            case measure => simp [intOf]; omega
        · have HR := Lib.hid (show symN s.data.toList = 0 by
            unfold symN
            rw [if_neg (by rw [HNT.out]; simp), if_neg]
            intro h
            obtain ⟨c, hc, e⟩ := List.any_eq_true.1 h
            refine HN.out c (by rw [show j = ones.length from by show j = 22; omega, List.take_length]; exact hc) (by simpa using e))
          have hj2 : j = 22 := by omega
          subst hj2
          clear HN HNT
          go_wp2
          go_ret
          exact ⟨ret_int (by rw [HR.out]; rfl), HB3.out⟩
end Go.Proofs.YtkiedbanobjmlaaDoor.Lx
