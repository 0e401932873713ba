/- The law on orders, without the document's answer: its walk. -/
import Derived.Test.YthonoobbpfgjhaaM22
set_option linter.unusedSimpArgs false
set_option linter.unusedVariables false
set_option linter.unusedSectionVars false
namespace Go.Proofs.Ythonoobbpfgjhaa.Od
open Go.RowKit
set_option maxRecDepth 100000 in
set_option maxHeartbeats 12800000 in
theorem behind_walk {w : World} {A : Option Addr} {c : Nat} {q : List Md} (h : Mods w A c q) (m : Nm) :
    Calls Try.prog 5 #[.slice A q.length c, .string (S m)] w (AliveR w) := by
  have hmm := @run_makeMap Try.prog
  have hcc := h.cap
  have hcb := h.big
  have H := Lib.hid h
  have HM := Lib.hid (many_any h)
  have HSZ := Lib.hid (S_size m)
  clear h
  go_enter Try.func5, Try.ntmps5
  go_wp2_with fail
  refine HM.out.mono ?_
  rintro e w1 ⟨b, rfl, hsm, rfl⟩
  cases b with
  | true =>
    go_wp2_with (go_at_call 7; refine (alive_any _).mono ?_; rintro e w2 ⟨rfl, hb⟩; have HB := Lib.hid hb; clear hb)
    go_ret
    exact ⟨rfl, HB.out⟩
  | false =>
    have HS := Lib.hid (hsm rfl)
    have hql := HS.out.len
    clear hsm
    by_cases h3 : 300 < m.length
    · have y1 : decide ((300 : Int) < ((S m).size : Int)) = true := by rw [HSZ.out]; simp only [decide_eq_true_eq]; omega
      clear h3
      go_wp2_with (go_at_call 7; refine (alive_any _).mono ?_; rintro e w2 ⟨rfl, hb⟩; have HB := Lib.hid hb; clear hb)
      go_ret
      exact ⟨rfl, HB.out⟩
    · have y1 : decide ((300 : Int) < ((S m).size : Int)) = false := by rw [HSZ.out]; simp only [decide_eq_false_iff_not]; omega
      clear h3
      have HO := Lib.hid (Order_any H.out HS.out m)
      obtain ⟨o, who, kk, hans⟩ : ∃ o who kk, ansOf (orderP (nl q) m) = (o, who, kk) := ⟨_, _, _, rfl⟩
      have HANS := Lib.hid hans
      clear hans
      go_wp2_with fail
      refine HO.out.mono ?_
      rintro e w2 ⟨A2, c2, rfl, hn2, hb2⟩
      rw [HANS.out] at hn2 ⊢
      have HN2 := Lib.hid hn2
      have HB2 := Lib.hid hb2
      have HR := Lib.hid (Reach_any (H.out.below hb2) HS.out m)
      clear hn2 hb2 HO
      go_wp2_with fail
      refine HR.out.mono ?_
      rintro e w3 ⟨r, hr3, A3, c3, rfl, hn3, hb3⟩
      have HR3 := Lib.hid hr3
      have HN3 := Lib.hid hn3
      have HN2 := Lib.hid (HN2.out.below hb3)
      have HB3 := Lib.hid (HB2.out.trans (hb3.mono HB2.out.size))
      have HC := Lib.hid (Cycle_any (H.out.below HB3.out) HS.out)
      clear hr3 hn3 hb3 HR HB2
      go_wp2_with fail
      refine HC.out.mono ?_
      rintro e w4 ⟨cy, hr4, A4, c4, rfl, hn4, hb4⟩
      have HC4 := Lib.hid hr4
      have HN4 := Lib.hid hn4
      have HN3 := Lib.hid (HN3.out.below hb4)
      have HN2 := Lib.hid (HN2.out.below hb4)
      have HB4 := Lib.hid (HB3.out.trans (hb4.mono HB3.out.size))
      have hz4 := HB4.out.size
      have HM4 := Lib.hid (show CntM (w4.alloc (.map #[] 0)) w4.heap.size (cnt q 0) from ⟨[], IsM.made w4 _, fun n _ => by simp [cnt, names]⟩)
      have HBM := Lib.hid ((Below.refl w4.heap.size w4).alloc (Nat.le_refl _) (.map #[] 0))
      clear hr4 hn4 hb4 HC HB3
      go_wp2
      go_loopw [11, 12] (fun tv iv wr => ∃ (k : Nat) (tw : Bool), k ≤ q.length ∧ tv = .bool tw ∧ iv = .int .i64 k ∧ Hid (CntM wr w4.heap.size (cnt q k)) ∧ Hid (tw = true ↔ ¬ (names (q.take k)).Nodup) ∧ Hid (Below w4.heap.size w4 wr)) (fun _ iv _ => q.length - (intOf iv).toNat)
      case atStart => exact ⟨0, false, Nat.zero_le _, rfl, rfl, HM4, Lib.hid (by simp [names]), HBM⟩
      case round =>
        clear HM4 HBM
        obtain ⟨k, tw, hk, rfl, rfl, HCM, HTW, HBM⟩ := hrel
        by_cases hlt : k < q.length
        · obtain ⟨g, off, rfl, hgl, z1, _⟩ := H.out.at_ hlt
          have HBW := Lib.hid (HB4.out.trans (HBM.out.mono hz4))
          have hc1 := bel HBW.out hgl z1
          have Z1 := Lib.hid z1
          have hlk := HCM.out.look q[k].1
          have hcl := cnt_le q k q[k].1
          obtain ⟨ks, hks, hk0⟩ := HCM.out
          have HKS := Lib.hid hks
          have HK0 := Lib.hid hk0
          have hwz := HBM.out.size
          have hml := HCM.out.lt
          clear z1 hks hk0
          cases tw with
          | true =>
            have HTW2 := Lib.hid (show true = true ↔ ¬ (names (q.take (k + 1))).Nodup from ⟨fun _ => (dup_succ hlt).2 (.inl (HTW.out.1 rfl)), fun _ => rfl⟩)
            clear HTW
            go_wp2_with (at_mapUpdate; refine wpList_put _ rfl _ _ _ _ rfl _ _ Try.underlying39 Try.underlying9 w4.heap.size ks (cntV (cnt q k)) rfl HKS.out q[k].1 (.int .i64 ((cnt q k q[k].1 : Nat) + 1 : Int)) rfl rfl ?_; intro w5 hp hg5; have HC5 := Lib.hid (CntM.put HK0.out hp); have HB5 := Lib.hid (HBM.out.grown hg5 hwz (fun j hj => by injection hj with hj; omega)); clear hp hg5)
            rw [cnt_succ hlt] at HC5
            go_roundw
            case rel => exact ⟨k + 1, true, by omega, rfl, by go_num, HC5, HTW2, HB5⟩
            case measure => simp [intOf]; omega
          | false =>
            obtain ⟨tb, htb⟩ : ∃ tb, decide ((1 : Int) < ((cnt q (k + 1) q[k].1 : Nat) : Int)) = tb := ⟨_, rfl⟩
            have HTW2 := Lib.hid (show tb = true ↔ ¬ (names (q.take (k + 1))).Nodup from by
              rw [dup_succ hlt, ← htb, decide_eq_true_eq]
              have h1 : ¬ ¬ (names (q.take k)).Nodup := fun h => by have := HTW.out.2 h; cases this
              constructor
              · exact fun h => .inr (by omega)
              · exact fun h => h.elim (fun h => absurd h h1) (fun h => by omega))
            clear HTW
            go_wp2_with (at_mapUpdate; refine wpList_put _ rfl _ _ _ _ rfl _ _ Try.underlying39 Try.underlying9 w4.heap.size ks (cntV (cnt q k)) rfl HKS.out q[k].1 (.int .i64 ((cnt q k q[k].1 : Nat) + 1 : Int)) rfl rfl ?_; intro w5 hp hg5; (have hp5 := CntM.put HK0.out hp); rw [cnt_succ hlt] at hp5; have hlk5 := hp5.look q[k].1; have HC5 := Lib.hid hp5; have HB5 := Lib.hid (HBM.out.grown hg5 hwz (fun j hj => by injection hj with hj; omega)); have hc5 := bel (HB4.out.trans (HB5.out.mono hz4)) hgl Z1.out; clear hp hp5 hg5)
            go_roundw
            case rel => exact ⟨k + 1, tb, by omega, rfl, by go_num, HC5, HTW2, HB5⟩
            case measure => simp [intOf]; omega
        · have HCM := Lib.hid (show CntM wr w4.heap.size (cnt q q.length) from by have h1 := HCM.out; rwa [show k = q.length by omega] at h1)
          have htw := HTW.out
          rw [List.take_of_length_le (by omega)] at htw
          have hwz := HBM.out.size
          have HBW := Lib.hid (HB4.out.trans (HBM.out.mono hz4))
          cases tw with
          | true =>
            have hnd := htw.1 rfl
            cases hag : again [] (nl q) with
            | none =>
              have := (again_none.1 hag).1
              rw [show (nl q).map (·.1) = names q by simp [nl, names]] at this
              exact absurd this hnd
            | some a =>
              have h1 := again_some hag
              rw [show (nl q).map (·.1) = names q by simp [nl, names]] at h1
              have h2 : (o, who, kk) = ([], a, 6) := by rw [← HANS.out]; unfold orderP; rw [hag]; rfl
              injection h2 with h3 h4
              injection h4 with h4 h5
              subst h3 h4 h5
              have hlk := HCM.out.look who
              have t1 : decide ((1 : Int) < ((cnt q q.length who : Nat) : Int)) = true := by
                rw [decide_eq_true_eq]
                have := h1.2.elim (fun h => by cases h) id
                unfold cnt
                rw [List.take_length]
                omega
              clear hag h1 hnd htw HTW
              go_wp2_with (go_at_call 7; refine (alive_any _).mono ?_; rintro e w6 ⟨rfl, hb6⟩; have HB6 := Lib.hid (HBW.out.trans (hb6.mono HBW.out.size)); clear hb6)
              go_ret
              exact ⟨rfl, HB6.out⟩
          | false =>
            have hnd : (names q).Nodup := Decidable.byContradiction fun h => by have := htw.2 h; cases this
            have HND := Lib.hid hnd
            have hag : again [] (nl q) = none := again_none.2 ⟨by rw [show (nl q).map (·.1) = names q by simp [nl, names]]; exact hnd, fun x _ h => by cases h⟩
            have HAG := Lib.hid hag
            clear hnd hag htw HTW
            have HN2 := Lib.hid (HN2.out.below HBM.out)
            have HN3 := Lib.hid (HN3.out.below HBM.out)
            have HN4 := Lib.hid (HN4.out.below HBM.out)
            have hrc := HN3.out.cap
            have hrb := HN3.out.big
            have hlk := HCM.out.look m
            obtain ⟨b1, hb1⟩ : ∃ b1, (((cnt q q.length m : Nat) : Int) == 0) = b1 := ⟨_, rfl⟩
            obtain ⟨b2, hb2⟩ : ∃ b2, decide ((0 : Int) ≤ posOf (sortN cy) m) = b2 := ⟨_, rfl⟩
            have HM0 := Lib.hid (show b1 = missB q m ((sortN r).take 0) from by
              rw [← hb1, Bool.eq_iff_iff]
              simp only [missB, List.take_zero, List.any_nil, Bool.or_false, beq_iff_eq, decide_eq_true_eq]
              rw [← cnt_zero]
              omega)
            have HR0 := Lib.hid (show b2 = rndB (sortN cy) m ((sortN r).take 0) from by
              rw [← hb2, Bool.eq_iff_iff]
              simp only [rndB, List.take_zero, List.any_nil, Bool.or_false, decide_eq_true_eq]
              exact posOf_ge)
            go_wp2_with (go_at_call 10; refine (at_any HN4.out m).mono ?_; rintro e w6 ⟨rfl, rfl⟩)
            clear hlk
            go_loop [13, 14, 15] (fun mv nv iv => ∃ (k : Nat) (mb nb : Bool), k ≤ (sortN r).length ∧ mv = .bool mb ∧ nv = .bool nb ∧ iv = .int .i64 k ∧ Hid (mb = missB q m ((sortN r).take k)) ∧ Hid (nb = rndB (sortN cy) m ((sortN r).take k))) (fun _ _ iv => (sortN r).length - (intOf iv).toNat)
            case atStart => exact ⟨0, b1, b2, Nat.zero_le _, rfl, rfl, rfl, HM0, HR0⟩
            case round =>
              clear hb1 hb2 HM0 HR0
              obtain ⟨k, mb, nb, hk, rfl, rfl, rfl, HMB, HNB⟩ := hrel
              by_cases hlt : k < (sortN r).length
              · obtain ⟨g, off, rfl, hgl, z1⟩ := HN3.out.at_ hlt
                have hlk := HCM.out.look (sortN r)[k]
                have HAT := Lib.hid (at_any HN4.out (sortN r)[k])
                obtain ⟨b3, hb3⟩ : ∃ b3, (((cnt q q.length (sortN r)[k] : Nat) : Int) == 0) = b3 := ⟨_, rfl⟩
                obtain ⟨b4, hb4⟩ : ∃ b4, decide ((0 : Int) ≤ posOf (sortN cy) (sortN r)[k]) = b4 := ⟨_, rfl⟩
                have HM1 := Lib.hid (show (mb || b3) = missB q m ((sortN r).take (k + 1)) from by
                  rw [missB_succ hlt, ← HMB.out]
                  congr 1
                  rw [← hb3, Bool.eq_iff_iff]
                  simp only [beq_iff_eq, decide_eq_true_eq]
                  rw [← cnt_zero]
                  omega)
                have HR1 := Lib.hid (show (nb || b4) = rndB (sortN cy) m ((sortN r).take (k + 1)) from by
                  rw [rndB_succ hlt, ← HNB.out]
                  congr 1
                  rw [← hb4, Bool.eq_iff_iff]
                  simp only [decide_eq_true_eq]
                  exact posOf_ge)
                clear HMB HNB
                cases mb <;> cases nb
                all_goals
                  go_wp2_with (go_at_call 10; refine HAT.out.mono ?_; rintro e w6 ⟨rfl, rfl⟩)
                  go_round
                  case rel => exact ⟨k + 1, _, _, by omega, rfl, rfl, by go_num, HM1, HR1⟩
                  case measure => simp [intOf]; omega
              · have hmb := HMB.out
                have hnb := HNB.out
                rw [List.take_of_length_le (by omega)] at hmb hnb
                clear HMB HNB
                cases hor : orderP (nl q) m with
                | error p =>
                  obtain ⟨a, k3⟩ := p
                  have h2 : (o, who, kk) = ([], a, k3) := by rw [← HANS.out, hor]; rfl
                  injection h2 with h3 h4
                  injection h4 with h4 h5
                  subst h3 h4 h5
                  rcases order_ends hor with ⟨h6, _⟩ | ⟨_, h7, h8⟩
                  · rw [HAG.out] at h6; cases h6
                  · rcases h8 with ⟨rfl, h9⟩ | ⟨rfl, h9⟩
                    · obtain ⟨g1, g2⟩ := none_bools HR3.out HC4.out h7 h9
                      have hlk := HCM.out.look who
                      have g3 : cnt q q.length who = 0 := cnt_zero.2 g2
                      rw [g3] at hlk
                      rw [g1] at hmb
                      subst hmb
                      clear hnb hor h7 h9 g1 g2 g3
                      cases nb
                      all_goals
                        go_wp2_with (go_at_call 7; refine (alive_any _).mono ?_; rintro e w6 ⟨rfl, hb6⟩; have HB6 := Lib.hid (HBW.out.trans (hb6.mono HBW.out.size)); clear hb6)
                        go_ret
                        exact ⟨rfl, HB6.out⟩
                    · obtain ⟨g1, g2⟩ := cyc_bools HR3.out HC4.out h7 h9
                      have HAT := Lib.hid (at_any HN4.out who)
                      have t1 : decide ((0 : Int) ≤ posOf (sortN cy) who) = true := by rw [decide_eq_true_eq]; exact posOf_ge.2 g2
                      rw [g1] at hnb
                      subst hnb
                      clear hmb hor h7 h9 g1 g2
                      cases mb
                      all_goals
                        go_wp2_with (first
                          | (go_at_call 10; refine HAT.out.mono ?_; rintro e w6 ⟨rfl, rfl⟩)
                          | (go_at_call 7; refine (alive_any _).mono ?_; rintro e w6 ⟨rfl, hb6⟩; have HB6 := Lib.hid (HBW.out.trans (hb6.mono HBW.out.size)); clear hb6))
                        go_ret
                        exact ⟨rfl, HB6.out⟩
                | ok o' =>
                  have h2 : (o, who, kk) = (o', [], 0) := by rw [← HANS.out, hor]; rfl
                  injection h2 with h3 h4
                  injection h4 with h4 h5
                  subst h3 h4 h5
                  obtain ⟨_, hF⟩ := order_fine hor
                  obtain ⟨g1, g2⟩ := ok_bools HR3.out HC4.out hF
                  rw [g1] at hmb
                  rw [g2] at hnb
                  subst hmb hnb
                  have hol : o.length = (sortN r).length + 1 := by rw [sortN_len]; exact hF.len HR3.out
                  have HOL := Lib.hid hol
                  have HFI := Lib.hid hF
                  obtain ⟨g5, off5, e5, hg5, hc5⟩ := HN2.out.at_ (k := (sortN r).length) (by omega)
                  have he5 : o[(sortN r).length]'(by omega) = m := by
                    have := hF.end_ hol
                    rw [List.getElem?_eq_getElem (by omega)] at this
                    injection this
                  rw [he5] at hc5
                  have hoc := HN2.out.cap
                  have hob := HN2.out.big
                  rw [hol] at hoc
                  obtain ⟨s1, s2, s3, s4⟩ := S_yes (rfl : m = m)
                  have HA2 := Lib.hid (show ∀ n, Calls Try.prog 10 #[.slice A2 ((sortN r).length + 1) c2, .string (S n)] wr fun e w' => e = .returned (.int .i64 (posOf o n)) ∧ wr = w' from fun n => hol ▸ at_any HN2.out n)
                  rw [hol]
                  subst e5
                  clear hor hF g1 g2 he5 hol
                  go_wp2
                  go_loop [16] (fun iv => ∃ k : Nat, k ≤ (sortN r).length + 1 ∧ iv = .int .i64 k) (fun iv => (sortN r).length + 1 - (intOf iv).toNat)
                  case atStart => exact ⟨0, Nat.zero_le _, rfl⟩
                  case round =>
                    obtain ⟨k5, hk5, rfl⟩ := hrel
                    by_cases hl5 : k5 < (sortN r).length + 1
                    · obtain ⟨g6, off6, e6, hg6, hc6⟩ := HN2.out.at_ (k := k5) (by rw [HOL.out]; exact hl5)
                      injection e6 with e6
                      injection e6 with e6 e7
                      subst e6 e7
                      have hko : k5 < o.length := by rw [HOL.out]; exact hl5
                      have hpo := posOf_nodup HFI.out.ord.nodup hko
                      have HP := Lib.hid (show Calls Try.prog 10 #[.slice (some ⟨g5, off5, none⟩) ((sortN r).length + 1) c2, .string (S (o[k5]'hko))] wr fun e w' => e = .returned (.int .i64 (k5 : Int)) ∧ wr = w' from hpo ▸ HA2.out _)
                      clear hpo
                      by_cases he : o[k5]'hko = m
                      · obtain ⟨u1, u2, u3, u4⟩ := S_yes he
                        clear he
                        go_wp2_with (go_at_call 10; refine HP.out.mono ?_; rintro e w6 ⟨rfl, rfl⟩)
                        go_round
                        case rel => exact ⟨k5 + 1, by omega, by go_num⟩
                        case measure => simp [intOf]; omega
                      · obtain ⟨u1, u2, u3, u4⟩ := S_no he
                        have hir : o[k5]'hko ∈ sortN r := mem_sortN.2 ((HR3.out.mem _).2 (((HFI.out.mem _).1 (List.getElem_mem hko)).resolve_left he))
                        have t2 : decide (posOf (sortN r) (o[k5]'hko) < (0 : Int)) = false := by
                          have := posOf_ge.2 hir
                          simp only [decide_eq_false_iff_not]; omega
                        have HPR := Lib.hid (at_any HN3.out (o[k5]'hko))
                        clear he hir
                        go_wp2_with fail
                        refine HP.out.mono ?_
                        rintro e w6 ⟨rfl, rfl⟩
                        go_wp2_with fail
                        refine HPR.out.mono ?_
                        rintro e w6 ⟨rfl, rfl⟩
                        go_wp2
                        go_round
                        case rel => exact ⟨k5 + 1, by omega, by go_num⟩
                        case measure => simp [intOf]; omega
                    · go_wp2
                      go_loop [17] (fun iv => ∃ k6 : Nat, k6 ≤ q.length ∧ iv = .int .i64 k6) (fun iv => q.length - (intOf iv).toNat)
                      case atStart => exact ⟨0, Nat.zero_le _, rfl⟩
                      case round =>
                        obtain ⟨k6, hk6, rfl⟩ := hrel
                        by_cases hl6 : k6 < q.length
                        · obtain ⟨ga, oa, rfl, hga, z1, z2⟩ := H.out.at_ hl6
                          obtain ⟨A', c', e2, hN⟩ := H.out.each q[k6] (List.getElem_mem hl6)
                          rw [e2] at z2
                          have hcc' := hN.cap
                          have hcb' := hN.big
                          have HN := Lib.hid hN
                          have hc1 := bel HBW.out hga z1
                          have hc2 := bel HBW.out hga z2
                          have HAT := Lib.hid (HA2.out q[k6].1)
                          clear z1 z2 e2 hN
                          by_cases hin : (0 : Int) ≤ posOf o q[k6].1
                          · have t1 : decide ((0 : Int) ≤ posOf o q[k6].1) = true := by simpa using hin
                            have HIN := Lib.hid hin
                            clear hin
                            go_wp2_with (go_at_call 10; refine HAT.out.mono ?_; rintro e w6 ⟨rfl, rfl⟩)
                            go_loop [19] (fun jv => ∃ j : Nat, j ≤ q[k6].2.1.length ∧ jv = .int .i64 j) (fun jv => q[k6].2.1.length - (intOf jv).toNat)
                            case atStart => exact ⟨0, Nat.zero_le _, rfl⟩
                            case round =>
                              obtain ⟨j, hj, rfl⟩ := hrel
                              by_cases hjl : j < q[k6].2.1.length
                              · obtain ⟨gn, on, rfl, hgn, z3⟩ := HN.out.at_ hjl
                                have hc3 := bel HBW.out hgn z3
                                obtain ⟨f1, f2⟩ := HFI.out.pos HND.out hl6 HIN.out (List.getElem_mem hjl)
                                have t2 : decide (posOf o q[k6].2.1[j] < (0 : Int)) = false := by simp only [decide_eq_false_iff_not]; omega
                                have t3 : decide (posOf o q[k6].1 ≤ posOf o q[k6].2.1[j]) = false := by simp only [decide_eq_false_iff_not]; omega
                                have t4 : decide ((j : Int) < ((q[k6].2.1.length : Nat) : Int)) = true := by simp only [decide_eq_true_eq]; omega
                                have HAN := Lib.hid (HA2.out q[k6].2.1[j])
                                clear z3 f1 f2
                                go_wp2_with (go_at_call 10; refine HAN.out.mono ?_; rintro e w6 ⟨rfl, rfl⟩)
                                go_round
                                case rel => exact ⟨j + 1, by omega, by go_num⟩
                                case measure => simp [intOf]; omega
                              · have t4 : decide ((j : Int) < ((q[k6].2.1.length : Nat) : Int)) = false := by simp only [decide_eq_false_iff_not]; omega
                                go_wp2
                                go_round
                                case rel => exact ⟨k6 + 1, by omega, by go_num⟩
                                case measure => simp [intOf]; omega
                          · have t1 : decide ((0 : Int) ≤ posOf o q[k6].1) = false := by simpa using hin
                            clear hin
                            go_wp2_with (go_at_call 10; refine HAT.out.mono ?_; rintro e w6 ⟨rfl, rfl⟩)
                            go_loop [19] (fun jv => jv = .int .i64 0) (fun _ => 0)
                            case atStart => rfl
                            case round =>
                              obtain rfl := hrel
                              go_wp2
                              all_goals
                                go_round
                                case rel => exact ⟨k6 + 1, by omega, by go_num⟩
                                case measure => simp [intOf]; omega
                        · go_wp2_with (go_at_call 7; refine (alive_any _).mono ?_; rintro e w6 ⟨rfl, hb6⟩; have HB6 := Lib.hid (HBW.out.trans (hb6.mono HBW.out.size)); clear hb6)
                          go_ret
                          exact ⟨rfl, HB6.out⟩
end Go.Proofs.Ythonoobbpfgjhaa.Od
