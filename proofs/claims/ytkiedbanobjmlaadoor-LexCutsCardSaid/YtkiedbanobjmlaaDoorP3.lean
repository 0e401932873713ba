/- The walks of Before and of the reference's Is, Pos and Behind. -/
import Derived.Test.YtkiedbanobjmlaaDoorP2
set_option linter.unusedSimpArgs false
set_option linter.unusedVariables false
namespace Go.Proofs.YtkiedbanobjmlaaDoor.Pl
open Go.RowKit
open Fl

/-- Is one place ahead of another? -/
def befN (p q : Nat × Nat) : Bool := isN p && isN q && (decide (p.1 < q.1) || (decide (p.1 = q.1) && decide (p.2 < q.2)))
theorem befN_out1 {p q : Nat × Nat} (h : isN p = false) : befN p q = false := by simp [befN, h]
theorem befN_out2 {p q : Nat × Nat} (h : isN q = false) : befN p q = false := by simp [befN, h]
theorem befN_in {p q : Nat × Nat} (h1 : isN p = true) (h2 : isN q = true) : befN p q = (decide (p.1 < q.1) || (decide (p.1 = q.1) && decide (p.2 < q.2))) := by simp [befN, h1, h2]

set_option maxHeartbeats 800000 in
theorem Before_any (p q : Nat × Nat) (w : World) (h1 : p.1 < 4294967296) (h2 : p.2 < 4294967296) (h3 : q.1 < 4294967296) (h4 : q.2 < 4294967296) : Calls Tryd.prog 24 #[C p, C q] w fun e w' => e = .returned (.bool (befN p q)) ∧ w = w' := by
  have HI := Lib.hid (is_any p w h1 h2)
  have HJ := Lib.hid (is_any q w h3 h4)
  have o1 := fl_order p.1 q.1 (by omega) (by omega)
  have o2 := fl_order p.2 q.2 (by omega) (by omega)
  unfold C at *
  cases a1 : isN p
  · have HR := Lib.hid (befN_out1 (q := q) a1)
    rw [a1] at HI
    clear h1 h2 h3 h4 a1 o1 o2
    generalize fl p.1 = F1 at *
    generalize fl p.2 = F2 at *
    generalize fl q.1 = G1 at *
    generalize fl q.2 = G2 at *
    go_enter Tryd.func24, Tryd.ntmps24
    go_wp2_with fail
    ((with_reducible refine HI.out.mono ?_); rintro e w' ⟨rfl, rfl⟩)
    go_wp2
    go_ret
    exact ⟨ret_bool (by rw [HR.out]), rfl⟩
  · cases a2 : isN q
    · have HR := Lib.hid (befN_out2 (p := p) a2)
      rw [a1] at HI
      rw [a2] at HJ
      clear h1 h2 h3 h4 a1 a2 o1 o2
      generalize fl p.1 = F1 at *
      generalize fl p.2 = F2 at *
      generalize fl q.1 = G1 at *
      generalize fl q.2 = G2 at *
      go_enter Tryd.func24, Tryd.ntmps24
      go_wp2_with fail
      ((with_reducible refine HI.out.mono ?_); rintro e w' ⟨rfl, rfl⟩)
      go_wp2_with fail
      ((with_reducible refine HJ.out.mono ?_); rintro e w' ⟨rfl, rfl⟩)
      go_wp2
      go_ret
      exact ⟨ret_bool (by rw [HR.out]), rfl⟩
    · have hR := befN_in a1 a2
      rw [a1] at HI
      rw [a2] at HJ
      rcases Nat.lt_trichotomy p.1 q.1 with c1 | c1 | c1
      · rw [cmp_lt c1] at o1
        have HR := Lib.hid (show befN p q = true from by rw [hR]; simp [c1])
        clear h1 h2 h3 h4 a1 a2 hR
        generalize fl p.1 = F1 at *
        generalize fl p.2 = F2 at *
        generalize fl q.1 = G1 at *
        generalize fl q.2 = G2 at *
        clear c1
        go_enter Tryd.func24, Tryd.ntmps24
        go_wp2_with fail
        ((with_reducible refine HI.out.mono ?_); rintro e w' ⟨rfl, rfl⟩)
        go_wp2_with fail
        ((with_reducible refine HJ.out.mono ?_); rintro e w' ⟨rfl, rfl⟩)
        go_wp2
        go_ret
        exact ⟨ret_bool (by rw [HR.out]), rfl⟩
      · rw [show compare p.1 q.1 = .eq from by rw [c1]; exact cmp_eq _] at o1
        rcases Nat.lt_trichotomy p.2 q.2 with c2 | c2 | c2
        · rw [cmp_lt c2] at o2
          have HR := Lib.hid (show befN p q = true from by rw [hR]; simp [c1, c2])
          clear h1 h2 h3 h4 a1 a2 hR
          generalize fl p.1 = F1 at *
          generalize fl p.2 = F2 at *
          generalize fl q.1 = G1 at *
          generalize fl q.2 = G2 at *
          clear c1 c2
          go_enter Tryd.func24, Tryd.ntmps24
          go_wp2_with fail
          ((with_reducible refine HI.out.mono ?_); rintro e w' ⟨rfl, rfl⟩)
          go_wp2_with fail
          ((with_reducible refine HJ.out.mono ?_); rintro e w' ⟨rfl, rfl⟩)
          go_wp2
          go_ret
          exact ⟨ret_bool (by rw [HR.out]), rfl⟩
        · rw [show compare p.2 q.2 = .eq from by rw [c2]; exact cmp_eq _] at o2
          have HR := Lib.hid (show befN p q = false from by rw [hR]; simp [c1, c2])
          clear h1 h2 h3 h4 a1 a2 hR
          generalize fl p.1 = F1 at *
          generalize fl p.2 = F2 at *
          generalize fl q.1 = G1 at *
          generalize fl q.2 = G2 at *
          clear c1 c2
          go_enter Tryd.func24, Tryd.ntmps24
          go_wp2_with fail
          ((with_reducible refine HI.out.mono ?_); rintro e w' ⟨rfl, rfl⟩)
          go_wp2_with fail
          ((with_reducible refine HJ.out.mono ?_); rintro e w' ⟨rfl, rfl⟩)
          go_wp2
          go_ret
          exact ⟨ret_bool (by rw [HR.out]), rfl⟩
        · rw [cmp_gt c2] at o2
          have HR := Lib.hid (show befN p q = false from by rw [hR]; simp; omega)
          clear h1 h2 h3 h4 a1 a2 hR
          generalize fl p.1 = F1 at *
          generalize fl p.2 = F2 at *
          generalize fl q.1 = G1 at *
          generalize fl q.2 = G2 at *
          clear c1 c2
          go_enter Tryd.func24, Tryd.ntmps24
          go_wp2_with fail
          ((with_reducible refine HI.out.mono ?_); rintro e w' ⟨rfl, rfl⟩)
          go_wp2_with fail
          ((with_reducible refine HJ.out.mono ?_); rintro e w' ⟨rfl, rfl⟩)
          go_wp2
          go_ret
          exact ⟨ret_bool (by rw [HR.out]), rfl⟩
      · rw [cmp_gt c1] at o1
        have HR := Lib.hid (show befN p q = false from by rw [hR]; simp; omega)
        clear h1 h2 h3 h4 a1 a2 hR
        generalize fl p.1 = F1 at *
        generalize fl p.2 = F2 at *
        generalize fl q.1 = G1 at *
        generalize fl q.2 = G2 at *
        clear c1
        go_enter Tryd.func24, Tryd.ntmps24
        go_wp2_with fail
        ((with_reducible refine HI.out.mono ?_); rintro e w' ⟨rfl, rfl⟩)
        go_wp2_with fail
        ((with_reducible refine HJ.out.mono ?_); rintro e w' ⟨rfl, rfl⟩)
        go_wp2
        go_ret
        exact ⟨ret_bool (by rw [HR.out]), rfl⟩

end Go.Proofs.YtkiedbanobjmlaaDoor.Pl
