/- The reference's Name and Join. -/
import Derived.Test.YtkiedbanobjmlaaDoorL25
set_option linter.unusedSimpArgs false
set_option linter.unusedVariables false
namespace Go.Proofs.YtkiedbanobjmlaaDoor.Lx
open Go.RowKit
open Pl Fl
attribute [local go_sem] run_store_complexL

theorem runN_iff {p : UInt8 → Bool} : ∀ {l : List UInt8}, runN p l = l.length ↔ ∀ c ∈ l, p c = true
  | [] => by simp [runN_nil]
  | c :: r => by
    cases h : p c
    · rw [runN_no h]
      simp [h]
    · rw [runN_yes h, List.length_cons]
      have := runN_iff (p := p) (l := r)
      simp only [List.mem_cons, forall_eq_or_imp, h, true_and]
      rw [← this]
      omega
set_option maxRecDepth 100000 in
set_option maxHeartbeats 3200000 in
theorem rName_any (s : ByteArray) (hs : s.size ≤ 9223372036854775800) (w : World) : Calls Tryd.prog 16 #[.string s] w fun e w' => e = .returned (.bool (isName s.data.toList)) ∧ Below w.heap.size w w' := by
  have hl : s.toList = s.data.toList := ByteArray.toList_eq s
  have hlen : s.data.toList.length = s.size := by simp
  have HN := Lib.hid (show isName s.data.toList = (!s.data.toList.isEmpty && decide (s.size ≤ 32) && isL (s.data.toList.head?.getD 0) && decide (runN isP s.data.toList = s.size) && !isW s) by unfold isName; rw [bt_data, hlen])
  by_cases h0 : s.size = 0
  · have HR := Lib.hid (show isName s.data.toList = false by rw [HN.out, (empty_iff s).2 h0]; rfl)
    have hb2 : s.toList.isEmpty = true := by rw [hl, (empty_iff s).2 h0]; rfl
    have hb3 : s.toList = [] := by rw [hl, (empty_iff s).2 h0]
    clear hl hlen
    go_enter Tryd.func16, Tryd.ntmps16
    go_wp2
    go_ret
    exact ⟨by rw [HR.out]; rfl, Below.refl _ _⟩
  have hb2 : s.toList.isEmpty = false := by rw [hl, List.isEmpty_eq_false_iff, ne_eq, empty_iff]; exact h0
  have hb3 : ¬ s.toList = [] := by rw [hl, empty_iff]; exact h0
  have he : s.data.toList.isEmpty = false := by rw [← hl]; exact hb2
  have h00 : 0 < s.size := by omega
  have hh := head_at s h00
  have HN2 := Lib.hid (show isName s.data.toList = (decide (s.size ≤ 32) && isL s[0] && decide (runN isP s.data.toList = s.size) && !isW s) by rw [HN.out, he, hh]; rfl)
  have i0 : (0 : Int) < (s.size : Int) := by omega
  have HL := Lib.hid (rletter_any s[0] w)
  have HW := Lib.hid (rWord_any s w)
  have HA := Lib.hid (runN_iff (p := isP) (l := s.data.toList))
  have HLN := Lib.hid hlen
  have hat := fun (k : Nat) (h : k < s.size) => show s.data.toList[k]? = some s[k] by
    rw [List.getElem?_eq_getElem (by rw [hlen]; exact h)]; rfl
  have HAT := Lib.hid hat
  clear hl hlen HN he hh hat
  generalize isName s.data.toList = R at *
  by_cases h32 : s.size ≤ 32
  · have b32 : ¬ (32 : Int) < (s.size : Int) := by omega
    rw [show decide (s.size ≤ 32) = true by simpa using h32] at HN2
    go_enter Tryd.func16, Tryd.ntmps16
    go_wp2_with fail
    ((with_reducible refine HL.out.mono ?_); rintro e w1 ⟨rfl, rfl⟩)
    cases hc : isL s[0]
    · have HR := Lib.hid (show R = false by rw [HN2.out, hc]; rfl)
      go_wp2
      go_ret
      exact ⟨by rw [HR.out]; rfl, Below.refl _ _⟩
    go_wp2_with fail
    ((with_reducible refine HW.out.mono ?_); rintro e w1 ⟨rfl, hw⟩)
    have HB := Lib.hid (show Below w.heap.size w w1 by rw [hw]; exact (Below.refl w.heap.size w).alloc (Nat.le_refl _) _)
    clear hw
    cases hw : isW s
    · have HN3 := Lib.hid (show R = decide (runN isP s.data.toList = s.size) by rw [HN2.out, hc, hw]; simp)
      clear hw hc HN2
      go_wp2
      go_loop [3] (fun i => ∃ k : Nat, k ≤ s.size ∧ i = .int .i64 k ∧ Hid (∀ x ∈ s.data.toList.take k, isP x = true)) (fun i => s.size - (intOf i).toNat)
      case atStart => exact ⟨0, by omega, rfl, Lib.hid (by simp)⟩
      case round =>
        obtain ⟨k, hk, rfl, HK⟩ := hrel
        by_cases hlt : k < s.size
        · have i1 : (k : Int) < (s.size : Int) := by omega
          have i2 : (0 : Int) ≤ (k : Int) := by omega
          have HLT := Lib.hid (rletter_any s[k] w1)
          have HDT := Lib.hid (rdigit_any s[k] w1)
          have HT := Lib.hid (show s.data.toList.take (k + 1) = s.data.toList.take k ++ [s[k]] by
            rw [List.take_add_one, HAT.out k hlt]; rfl)
          have HNO := Lib.hid (show isP s[k] = false → R = false by
            intro hp
            rw [HN3.out]
            apply decide_eq_false
            intro h
            have h2 := HA.out.1 (by rw [HLN.out]; exact h) s[k] (List.mem_of_getElem? (HAT.out k hlt))
            rw [hp] at h2; cases h2)
          have HP := Lib.hid (show isP s[k] = (isL s[k] || isD s[k]) from rfl)
          have HYE := Lib.hid (show isP s[k] = true → ∀ x ∈ s.data.toList.take (k + 1), isP x = true by
            intro hp x hx
            rw [HT.out, List.mem_append, List.mem_singleton] at hx
            rcases hx with hx | rfl
            · exact HK.out x hx
            · exact hp)
          go_wp2_with fail
          ((with_reducible refine HLT.out.mono ?_); rintro e w2 ⟨rfl, rfl⟩)
          cases hcl : isL s[k]
          · go_wp2_with fail
            ((with_reducible refine HDT.out.mono ?_); rintro e w2 ⟨rfl, rfl⟩)
            cases hcd : isD s[k]
            · have HR := Lib.hid (HNO.out (by rw [HP.out, hcl, hcd]; rfl))
              go_wp2
              go_ret
              exact ⟨by rw [HR.out]; rfl, HB.out⟩
            · have HY := Lib.hid (HYE.out (by rw [HP.out, hcl, hcd]; rfl))
              go_wp2
              refine ⟨⟨k + 1, by omega, by rfl, HY⟩, ?_⟩
              simp [intOf]; omega
          · have HY := Lib.hid (HYE.out (by rw [HP.out, hcl]; rfl))
            go_wp2
            refine ⟨⟨k + 1, by omega, by rfl, HY⟩, ?_⟩
            simp [intOf]; omega
        · have hks : k = s.size := by omega
          subst hks
          have HR := Lib.hid (show R = true by
            rw [HN3.out]
            apply decide_eq_true
            rw [← HLN.out]
            refine HA.out.2 fun c hcm => HK.out c ?_
            rw [List.take_of_length_le (by rw [HLN.out]; exact Nat.le_refl _)]
            exact hcm)
          go_wp2
          go_ret
          exact ⟨by rw [HR.out]; rfl, HB.out⟩
    · have HR := Lib.hid (show R = false by rw [HN2.out, hc, hw]; simp)
      go_wp2
      go_ret
      exact ⟨by rw [HR.out]; rfl, HB.out⟩
  · have b33 : (32 : Int) < (s.size : Int) := by omega
    have HR := Lib.hid (show R = false by rw [HN2.out, show decide (s.size ≤ 32) = false from decide_eq_false h32]; rfl)
    go_enter Tryd.func16, Tryd.ntmps16
    go_wp2
    go_ret
    exact ⟨by rw [HR.out]; rfl, Below.refl _ _⟩
theorem join_snoc : ∀ (L : List (List UInt8)) (x : List UInt8), L ≠ [] → Lib.join (L ++ [x]) [32] = Lib.join L [32] ++ [32] ++ x
  | [], _, h => absurd rfl h
  | [y], x, _ => by simp [Lib.join, List.intercalate]
  | y :: z :: r, x, _ => by
    have e1 : Lib.join (y :: z :: (r ++ [x])) [32] = y ++ [32] ++ Lib.join (z :: (r ++ [x])) [32] := by simp [Lib.join, List.intercalate]
    have e2 : Lib.join (y :: z :: r) [32] = y ++ [32] ++ Lib.join (z :: r) [32] := by simp [Lib.join, List.intercalate]
    have ih := join_snoc (z :: r) x (by simp)
    rw [List.cons_append, List.cons_append, e1, e2, show z :: (r ++ [x]) = (z :: r) ++ [x] from rfl, ih]
    simp [List.append_assoc]
theorem join_ne : ∀ (L : List (List UInt8)), (∀ x ∈ L, x ≠ []) → L ≠ [] → Lib.join L [32] ≠ []
  | [], _, h => absurd rfl h
  | [y], h, _ => by rw [Lib.join_one]; exact h y (by simp)
  | y :: z :: r, h, _ => by
    have e2 : Lib.join (y :: z :: r) [32] = y ++ [32] ++ Lib.join (z :: r) [32] := by simp [Lib.join, List.intercalate]
    rw [e2]
    simp
theorem sum_filter_le (p : Tok → Bool) (f : Tok → Nat) : ∀ l : List Tok, ((l.filter p).map f).sum ≤ (l.map f).sum
  | [] => by simp
  | t :: l => by
    have := sum_filter_le p f l
    rw [List.filter_cons]
    split <;> simp only [List.map_cons, List.sum_cons] <;> omega
theorem joinT_le (l : List Tok) : (joinT l).length ≤ (l.map fun t => (txt t.1).length + 1).sum := by
  rw [join_real]
  refine Nat.le_trans (join_len _) ?_
  unfold real
  rw [List.map_map, List.map_map]
  exact sum_filter_le _ _ l
/-- One token more. -/
theorem joinT_step {l : List Tok} (hne : ∀ t ∈ l, t.1.kind ≠ 0 → txt t.1 ≠ []) {i : Nat} (h : i < l.length) : joinT (l.take (i + 1)) = if l[i].1.kind = 0 then joinT (l.take i) else if joinT (l.take i) = [] then txt l[i].1 else joinT (l.take i) ++ [32] ++ txt l[i].1 := by
  have hn : ∀ x ∈ (real (l.take i)).map txt, x ≠ [] := by
    intro x hx
    obtain ⟨t, ht, rfl⟩ := List.mem_map.1 hx
    unfold real at ht
    obtain ⟨y, hy, rfl⟩ := List.mem_map.1 ht
    rw [List.mem_filter] at hy
    exact hne y (List.mem_of_mem_take hy.1) (by simpa using hy.2)
  rw [join_real, join_real, real_step h]
  by_cases h0 : l[i].1.kind = 0
  · rw [if_pos h0, if_pos h0, List.append_nil]
  · rw [if_neg h0, if_neg h0, List.map_append, List.map_cons, List.map_nil]
    by_cases hz : (real (l.take i)).map txt = []
    · rw [hz, if_pos (by rfl), List.nil_append, Lib.join_one]
    · rw [if_neg (join_ne _ hn hz), join_snoc _ _ hz]
set_option maxRecDepth 100000 in
set_option maxHeartbeats 3200000 in
theorem rJoin_any {src : List UInt8} {l : List Tok} (hl : l.length ≤ 1000000) (hw : ∀ t ∈ l, t.1.kind ≠ 0 → RtOK t.1 ∧ txt t.1 ≠ []) (hj : (l.map fun t => (txt t.1).length + 1).sum ≤ 1000000) {A : Option Addr} {c : Nat} {w : World} (R : Reads w w.heap.size 5 A l.length (flat src l)) :
    Calls Tryd.prog 18 #[.slice A l.length c] w fun e w' => e = .returned (.string (bt (joinT l))) ∧ Below w.heap.size w w' := by
  have HR := Lib.hid R
  have HW := Lib.hid hw
  have HJ := Lib.hid hj
  clear R hw hj
  go_enter Tryd.func18, Tryd.ntmps18
  go_wp2
  go_loopg [3, 4] l.length (fun gh sv si wr => ∃ (i : Nat) (tb : ByteArray), sv = .string tb ∧ si = .int .i64 (i : Nat) ∧ i ≤ l.length ∧ l.length - i ≤ gh ∧ Hid (tb = bt (joinT (l.take i))) ∧ Hid (Below w.heap.size w wr))
  case atStart => exact ⟨0, ⟨#[]⟩, rfl, rfl, by omega, by omega, Lib.hid rfl, Lib.hid (Below.refl _ _)⟩
  case round =>
    obtain ⟨i, tb, rfl, rfl, hi1, hi2, htb, hb⟩ := hrel
    have htbs : tb.size ≤ 1000000 := by
      rw [htb.out, bt_size]
      refine Nat.le_trans (joinT_le _) (Nat.le_trans (sum_take_le (fun t => (txt t.1).length + 1) l i) HJ.out)
    by_cases hi : i < l.length
    · obtain ⟨b1, o1, e1, l1, p0, p1, p2, p3, p4⟩ := tok_spot (((HR.out.below hb.out).more hb.out.size)) hi
      have hmem := List.getElem_mem hi
      have HST := Lib.hid (joinT_step (fun t ht h => (HW.out t ht h).2) hi)
      have HWT := Lib.hid (fun (h : l[i].1.kind ≠ 0) => (HW.out l[i] hmem h).1)
      have hts : (txt l[i].1).length ≤ 1000000 := by
        have h1 := le_sum (fun t => (txt t.1).length + 1) l _ hmem
        have := HJ.out
        omega
      subst e1
      unfold C at p1 p2
      generalize hti : l[i] = ti at *
      obtain ⟨⟨tk, tt, tn⟩, ia, ib⟩ := ti
      dsimp only at p0 p1 p2 p3 p4 HWT hts HST
      clear hti hmem
      by_cases h0 : tk = 0
      · subst h0
        have HN := Lib.hid (show tb = bt (joinT (l.take (i + 1))) by rw [HST.out, if_pos rfl, htb.out])
        go_wp2
        go_roundg (l.length - i - 1)
        case rel => exact ⟨i + 1, tb, rfl, by rfl, by omega, by omega, HN, hb⟩
        case measure => omega
      · have k0 : ((tk : Int) == 0) = false := by simp only [beq_eq_false_iff_ne, ne_eq]; omega
        have HTX := Lib.hid (HWT.out h0 (at_ src ia) (at_ src ib))
        simp only [Tk.val, Tk.vals, C] at HTX
        have htz : (bt (txt ⟨tk, tt, tn⟩)).size ≤ 1000000 := by rw [bt_size]; exact hts
        have z1 : ¬ 9223372036854775807 < tb.size + 1 + (bt (txt ⟨tk, tt, tn⟩)).size := by omega
        have z2 : ¬ 9223372036854775807 < tb.size + (bt (txt ⟨tk, tt, tn⟩)).size := by omega
        have z3 : ¬ 9223372036854775807 < tb.size + 1 := by omega
        have htl : tb.toList = joinT (l.take i) := by rw [htb.out, bt_list]
        by_cases hjn : joinT (l.take i) = []
        · have s1 : tb.toList.isEmpty = true := by rw [htl, hjn]; rfl
          have s2 : tb.toList = [] := by rw [htl, hjn]
          have HN := Lib.hid (show tb ++ bt (txt ⟨tk, tt, tn⟩) = bt (joinT (l.take (i + 1))) by
            rw [HST.out, if_neg h0, if_pos hjn, htb.out, hjn]; apply bytes_ext; simp [bt])
          clear htl hjn hts
          go_wp2_with fail
          refine (HTX.out _).mono ?_
          rintro e w3 ⟨rfl, hb3⟩
          have HB3 := Lib.hid (hb.out.trans (hb3.mono hb.out.size))
          clear hb3 HTX
          go_wp2
          go_roundg (l.length - i - 1)
          case rel => exact ⟨i + 1, _, rfl, by rfl, by omega, by omega, HN, HB3⟩
          case measure => omega
        · have s1 : tb.toList.isEmpty = false := by rw [htl, List.isEmpty_eq_false_iff]; exact hjn
          have s2 : ¬ tb.toList = [] := by rw [htl]; exact hjn
          have HN := Lib.hid (show tb ++ ⟨#[32]⟩ ++ bt (txt ⟨tk, tt, tn⟩) = bt (joinT (l.take (i + 1))) by
            rw [HST.out, if_neg h0, if_neg hjn, htb.out]; apply bytes_ext; simp [bt])
          clear htl hjn hts
          go_wp2_with fail
          refine (HTX.out _).mono ?_
          rintro e w3 ⟨rfl, hb3⟩
          have HB3 := Lib.hid (hb.out.trans (hb3.mono hb.out.size))
          clear hb3 HTX
          go_wp2
          go_roundg (l.length - i - 1)
          case rel => exact ⟨i + 1, _, rfl, by rfl, by omega, by omega, HN, HB3⟩
          case measure => omega
    · have hin : i = l.length := by omega
      subst hin
      have HN := Lib.hid (show tb = bt (joinT l) by rw [htb.out, List.take_length])
      go_wp2
      go_ret
      exact ⟨by rw [← HN.out]; rfl, hb.out⟩
end Go.Proofs.YtkiedbanobjmlaaDoor.Lx
