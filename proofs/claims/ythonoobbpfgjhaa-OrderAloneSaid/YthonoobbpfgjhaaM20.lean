/- The law on orders, who is reached, and who goes round: its walk. -/
import Derived.Test.YthonoobbpfgjhaaM19
set_option linter.unusedSimpArgs false
set_option linter.unusedVariables false
namespace Go.Proofs.Ythonoobbpfgjhaa.Od
open Go.RowKit
set_option maxRecDepth 100000 in
set_option maxHeartbeats 12800000 in
theorem tells_walk {w : World} {A : Option Addr} {c : Nat} {q : List Md} (h : Mods w A c q) (m : Nm) :
    Calls Try.prog 4 #[.slice A q.length c, .string (S m)] w (AliveR w) := by
  have H := Lib.hid h
  have HM := Lib.hid (many_any h)
  have HSZ := Lib.hid (S_size m)
  clear h
  go_enter Try.func4, Try.ntmps4
  go_wp2_with fail
  refine HM.out.mono ?_
  rintro e w1 ⟨b, rfl, hsm, rfl⟩
  cases b with
  | true =>
    go_wp2_with (go_at_call 7; refine (alive_any _).mono ?_; rintro e w2 ⟨rfl, hb⟩; have HB := Lib.hid hb; clear hb)
    go_ret
    exact ⟨rfl, HB.out⟩
  | false =>
    have HS := Lib.hid (hsm rfl).1
    clear hsm
    by_cases h3 : 300 < m.length
    · have y1 : decide ((300 : Int) < ((S m).size : Int)) = true := by rw [HSZ.out]; simp only [decide_eq_true_eq]; omega
      clear h3
      go_wp2_with (go_at_call 7; refine (alive_any _).mono ?_; rintro e w2 ⟨rfl, hb⟩; have HB := Lib.hid hb; clear hb)
      go_ret
      exact ⟨rfl, HB.out⟩
    · have y1 : decide ((300 : Int) < ((S m).size : Int)) = false := by rw [HSZ.out]; simp only [decide_eq_false_iff_not]; omega
      clear h3
      have HO := Lib.hid (Order_any H.out HS.out m)
      generalize hans : ansOf (orderP (nl q) m) = ans at *
      have HANS := Lib.hid hans
      clear hans
      obtain ⟨s1, s2, s3, s4⟩ := S_yes (rfl : ans.2.1 = ans.2.1)
      have tt : (Value.bool (decide (ans.1 = ans.1))) = .bool true := by simp
      go_wp2_with fail
      refine HO.out.mono ?_
      rintro e w2 ⟨A2, c2, rfl, hn2, hb2⟩
      rw [HANS.out] at hn2 ⊢
      have HN2 := Lib.hid hn2
      have HB2 := Lib.hid hb2
      clear hn2 hb2
      have HRO := Lib.hid (ROrder_any (H.out.below HB2.out) HS.out m)
      go_wp2_with fail
      refine HRO.out.mono ?_
      rintro e w3 ⟨A3, c3, rfl, hn3, hb3⟩
      rw [HANS.out] at hn3 ⊢
      have HB3 := Lib.hid (HB2.out.trans (hb3.mono HB2.out.size))
      have HT := Lib.hid (texts_any (HN2.out.below hb3) hn3)
      clear hn3 hb3 HRO HO
      go_wp2_with fail
      refine HT.out.mono ?_
      rintro e w4 ⟨rfl, n4, rfl⟩
      rw [show decide True = true from rfl]
      have HB4 := Lib.hid (below_dn HB3.out n4)
      clear HB3 HB2 HT
      generalize w3.drewN n4 = w4 at *
      have HR := Lib.hid (Reach_any (H.out.below HB4.out) HS.out m)
      go_wp2_with fail
      refine HR.out.mono ?_
      rintro e w5 ⟨s5, hr5, A5, c5, rfl, hn5, hb5⟩
      have HR5 := Lib.hid hr5
      have HN5 := Lib.hid hn5
      have HB5 := Lib.hid (HB4.out.trans (hb5.mono HB4.out.size))
      have HRR := Lib.hid (RReach_any (H.out.below HB5.out) HS.out m)
      clear hr5 hn5 hb5 HR
      go_wp2_with fail
      refine HRR.out.mono ?_
      rintro e w6 ⟨s6, hr6, A6, c6, rfl, hn6, hb6⟩
      have HB6 := Lib.hid (HB5.out.trans (hb6.mono HB5.out.size))
      rw [show sortN s6 = sortN s5 from hr6.same HR5.out] at hn6 ⊢
      have HT := Lib.hid (texts_any (HN5.out.below hb6) hn6)
      clear hr6 hn6 hb6 HRR
      go_wp2_with fail
      refine HT.out.mono ?_
      rintro e w7 ⟨rfl, n7, rfl⟩
      rw [show decide True = true from rfl]
      have HB7 := Lib.hid (below_dn HB6.out n7)
      clear HB6 HB5 HB4 HT
      generalize w6.drewN n7 = w7 at *
      have HC := Lib.hid (Cycle_any (H.out.below HB7.out) HS.out)
      go_wp2_with fail
      refine HC.out.mono ?_
      rintro e w8 ⟨s8, hr8, A8, c8, rfl, hn8, hb8⟩
      have HR8 := Lib.hid hr8
      have HN8 := Lib.hid hn8
      have HB8 := Lib.hid (HB7.out.trans (hb8.mono HB7.out.size))
      have HRC := Lib.hid (RCycle_any (H.out.below HB8.out) HS.out)
      clear hr8 hn8 hb8 HC
      go_wp2_with fail
      refine HRC.out.mono ?_
      rintro e w9 ⟨s9, hr9, A9, c9, rfl, hn9, hb9⟩
      have HB9 := Lib.hid (HB8.out.trans (hb9.mono HB8.out.size))
      rw [show sortN s9 = sortN s8 from hr9.same HR8.out] at hn9 ⊢
      have HT := Lib.hid (texts_any (HN8.out.below hb9) hn9)
      clear hr9 hn9 hb9 HRC
      go_wp2_with fail
      refine HT.out.mono ?_
      rintro e w10 ⟨rfl, n10, rfl⟩
      rw [show decide True = true from rfl]
      have HBA := Lib.hid (below_dn HB9.out n10)
      clear HB9 HB8 HB7 HT
      generalize w9.drewN n10 = w10 at *
      go_wp2_with fail
      refine (alive_any _).mono ?_
      rintro e w11 ⟨rfl, hb11⟩
      have HBB := Lib.hid (HBA.out.trans (hb11.mono HBA.out.size))
      clear hb11 HBA
      go_wp2
      go_ret
      exact ⟨rfl, HBB.out⟩
end Go.Proofs.Ythonoobbpfgjhaa.Od
