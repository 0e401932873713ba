/- The walk of the reference's Number. -/
import Derived.Test.YtpomnihgimgpdaaDoorP8
import Derived.Test.YtpomnihgimgpdaaDoorNum
set_option linter.unusedSimpArgs false
set_option linter.unusedVariables false
namespace Go.Proofs.YtpomnihgimgpdaaDoor.Pl
open Go.RowKit
open Fl
open Num

theorem take_snoc (s : ByteArray) (k : Nat) (h : k < s.size) : s.data.toList.take (k + 1) = s.data.toList.take k ++ [s[k]] := by
  have hl : k < s.data.toList.length := by simpa using h
  rw [List.take_add_one, List.getElem?_eq_getElem hl]
  rfl
theorem mem_at (s : ByteArray) (k : Nat) (h : k < s.size) : s[k] ∈ s.data.toList := by
  show s.data[k] ∈ _
  simp
theorem head_at (s : ByteArray) (h : 0 < s.size) : s.data.toList.head? = some s[0] := by
  have hl : 0 < s.data.toList.length := by simpa using h
  rw [List.head?_eq_getElem?, List.getElem?_eq_getElem hl]
  rfl
theorem val_take_le (l : List UInt8) (k : Nat) : val (l.take k) ≤ val l := by
  have h := val_app (l.take k) (l.drop k)
  rw [List.take_append_drop] at h
  rw [h]; exact valFrom_ge _ _

set_option maxHeartbeats 3200000 in
theorem Number_any (s : ByteArray) (w : World) (hs : s.size ≤ 1073741800) : Calls Tryd.prog 31 #[.string s] w fun e w' => e = .returned (.int .i64 (numN s.data.toList : Nat)) ∧ w = w' := by
  go_enter Tryd.func31, Tryd.ntmps31
  go_wp2
  go_loop [3, 4] (fun n i => ∃ k : Nat, k ≤ s.size ∧ i = .int .i64 k ∧ n = .int .i64 (val (s.data.toList.take k)) ∧ val (s.data.toList.take k) ≤ 10737418249 ∧ Hid (Digits (s.data.toList.take k)) ∧ Hid (0 < k → ∀ c, s.data.toList.head? = some c → c.toNat ≠ 48)) (fun _ i => s.size - (intOf i).toNat)
  case atStart => exact ⟨0, Nat.zero_le _, rfl, rfl, Nat.zero_le _, Lib.hid (fun c hc => by simp at hc), Lib.hid (fun h => by omega)⟩
  case round =>
    obtain ⟨k, hk, rfl, rfl, hv, HD, HH⟩ := hrel
    by_cases hlt : k < s.size
    · by_cases h1 : s[k].toNat < 48
      · have HR := Lib.hid (numN_bad (l := s.data.toList) (fun g => by have := g.1 _ (mem_at s k hlt); omega))
        have d1 : (s[k].toNat : Int) < 48 := by omega
        clear HD HH h1
        generalize val (s.data.toList.take k) = v at *
        go_wp2
        go_ret
        exact ⟨ret_int (by rw [HR.out]; rfl), rfl⟩
      · by_cases h2 : 57 < s[k].toNat
        · have HR := Lib.hid (numN_bad (l := s.data.toList) (fun g => by have := g.1 _ (mem_at s k hlt); omega))
          have d1 : ¬ (s[k].toNat : Int) < 48 := by omega
          have d2 : 57 < (s[k].toNat : Int) := by omega
          clear HD HH h1 h2
          generalize val (s.data.toList.take k) = v at *
          go_wp2
          go_ret
          exact ⟨ret_int (by rw [HR.out]; rfl), rfl⟩
        · have d1 : ¬ (s[k].toNat : Int) < 48 := by omega
          have d2 : ¬ 57 < (s[k].toNat : Int) := by omega
          by_cases h3 : k = 0 ∧ s[k].toNat = 48
          · have HR := Lib.hid (numN_bad (l := s.data.toList) (fun g => by
              obtain ⟨e, h⟩ := h3
              subst e
              exact g.2.1 _ (head_at s hlt) h))
            have d3 : ((k : Int) == 0) = true := by simp [h3.1]
            have d4 : ((s[k].toNat : Int) == 48) = true := by simp [h3.2]
            clear HD HH h1 h2 h3
            generalize val (s.data.toList.take k) = v at *
            go_wp2
            go_ret
            exact ⟨ret_int (by rw [HR.out]; rfl), rfl⟩
          · have HH' := Lib.hid (show 0 < k + 1 → ∀ c, s.data.toList.head? = some c → c.toNat ≠ 48 from fun _ c hc => by
              by_cases h0 : k = 0
              · subst h0
                rw [head_at s hlt] at hc
                have := Option.some.inj hc
                subst this
                intro h; exact h3 ⟨rfl, h⟩
              · exact HH.out (by omega) c hc)
            have HN := Lib.hid (show val (s.data.toList.take (k + 1)) = 10 * val (s.data.toList.take k) + (s[k].toNat - 48) from by rw [take_snoc s k hlt, val_snoc])
            have HD' := Lib.hid (show Digits (s.data.toList.take (k + 1)) from by
              rw [take_snoc s k hlt]
              intro c hc
              rcases List.mem_append.1 hc with hc | hc
              · exact HD.out c hc
              · rw [List.mem_singleton] at hc; subst hc; omega)
            have HB := Lib.hid (show 1073741824 < val (s.data.toList.take k) → numN s.data.toList = 0 from fun h => numN_bad (fun g => by
              have := val_take_le s.data.toList k
              have := g.2.2
              omega))
            clear HD HH
            generalize val (s.data.toList.take k) = v at *
            by_cases h4 : 1073741824 < v
            · have HR := Lib.hid (HB.out h4)
              have d5 : (1073741824 : Int) < (v : Int) := by omega
              by_cases h0 : k = 0
              · have d3 : ((k : Int) == 0) = true := by simp [h0]
                have d4 : ((s[k].toNat : Int) == 48) = false := by
                  have : s[k].toNat ≠ 48 := fun h => h3 ⟨h0, h⟩
                  simp; omega
                clear HB h4 h1 h2 h3 h0 HH' HD' HN
                go_wp2
                go_ret
                exact ⟨ret_int (by rw [HR.out]; rfl), rfl⟩
              · have d3 : ((k : Int) == 0) = false := by simp; omega
                clear HB h4 h1 h2 h3 h0 HH' HD' HN
                go_wp2
                go_ret
                exact ⟨ret_int (by rw [HR.out]; rfl), rfl⟩
            · have d5 : ¬ (1073741824 : Int) < (v : Int) := by omega
              have hb1 : 48 ≤ s[k].toNat := by omega
              have hb2 : s[k].toNat ≤ 57 := by omega
              by_cases h0 : k = 0
              · have d3 : ((k : Int) == 0) = true := by simp [h0]
                have d4 : ((s[k].toNat : Int) == 48) = false := by
                  have : s[k].toNat ≠ 48 := fun h => h3 ⟨h0, h⟩
                  simp; omega
                clear HB h3 h0
                go_wp2
                go_round
                case rel => exact ⟨k + 1, by omega, by go_num, by rw [HN.out]; go_num, by rw [HN.out]; omega, HD', HH'⟩
                case measure => simp [intOf]; omega
              · have d3 : ((k : Int) == 0) = false := by simp; omega
                clear HB h3 h0
                go_wp2
                go_round
                case rel => exact ⟨k + 1, by omega, by go_num, by rw [HN.out]; go_num, by rw [HN.out]; omega, HD', HH'⟩
                case measure => simp [intOf]; omega
    · have hkS : k = s.size := by omega
      subst hkS
      have hall : s.data.toList.take s.size = s.data.toList := List.take_of_length_le (by simp)
      rw [hall] at hv HD ⊢
      by_cases h4 : 1073741824 < val s.data.toList
      · have HR := Lib.hid (numN_bad (l := s.data.toList) (fun g => by have := g.2.2; omega))
        have d5 : (1073741824 : Int) < (val s.data.toList : Int) := by omega
        clear HD HH h4
        generalize val s.data.toList = v at *
        go_wp2
        go_ret
        exact ⟨ret_int (by rw [HR.out]; rfl), rfl⟩
      · have HR := Lib.hid (show numN s.data.toList = val s.data.toList from by
          by_cases h0 : 0 < s.size
          · exact numN_good ⟨HD.out, HH.out h0, by omega⟩
          · have hlen : s.data.toList.length = s.size := by simp
            have : s.data.toList = [] := List.length_eq_zero_iff.1 (by omega)
            rw [this]
            unfold numN
            split
            · rfl
            · rfl)
        have d5 : ¬ (1073741824 : Int) < (val s.data.toList : Int) := by omega
        clear HD HH
        generalize val s.data.toList = v at *
        go_wp2
        go_ret
        exact ⟨ret_int (by rw [HR.out]), rfl⟩

end Go.Proofs.YtpomnihgimgpdaaDoor.Pl
