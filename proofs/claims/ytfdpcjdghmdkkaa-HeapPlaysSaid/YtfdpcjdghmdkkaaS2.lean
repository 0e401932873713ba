/- reverseRangeOrdered, siftDownOrdered, heapSortOrdered over words. -/
import Derived.Test.YtfdpcjdghmdkkaaS1
set_option linter.unusedSimpArgs false
set_option linter.unusedVariables false
namespace Go.Proofs.Ytfdpcjdghmdkkaa.Hp
open Go.RowKit Go.Sort
theorem hide_get {d : Array Nat} (i : Nat) : ∃ x, Hid (x = d[i]!) ∧ True := ⟨_, Lib.hid rfl, trivial⟩
/-- A cell of the row under a name of its own. -/
theorem SU.spot {w0 w : World} {g cap : Nat} {d : Array Nat} (h : SU w0 g cap d w) {i : Nat} (hi : i < d.size) : ∃ x, Hid (x = d[i]!) ∧ w.cell? ⟨g, i, none⟩ = some (.int .u16 (x : Nat)) ∧ w.frozen? ⟨g, i, none⟩ = false :=
  ⟨_, Lib.hid rfl, h.cell hi, h.frozen i⟩
theorem SU.at_ {w0 w : World} {g cap x : Nat} {d : Array Nat} (h : SU w0 g cap d w) {i : Nat} (hi : i < d.size) (hx : Hid (x = d[i]!)) : w.cell? ⟨g, i, none⟩ = some (.int .u16 (x : Nat)) ∧ w.frozen? ⟨g, i, none⟩ = false := by
  rw [hx.out]; exact ⟨h.cell hi, h.frozen i⟩
theorem SU.swap' {w0 w : World} {g cap x y : Nat} {d : Array Nat} (h : SU w0 g cap d w) {i j : Nat} (hi : i < d.size) (hj : j < d.size) (hx : Hid (x = d[i]!)) (hy : Hid (y = d[j]!)) :
    SU w0 g cap (swp d i j) ((w.setCell ⟨g, i, none⟩ (.int .u16 (y : Nat))).setCell ⟨g, j, none⟩ (.int .u16 (x : Nat))) := by
  rw [hx.out, hy.out]; exact h.swap hi hj
set_option maxRecDepth 100000 in
set_option maxHeartbeats 3200000 in
theorem reverse_any {w0 w : World} {g cap a b : Nat} {d : Array Nat} (h : SU w0 g cap d w) (hab : a < b) (hb : b ≤ d.size) (hsz : d.size < 4611686018427387904) :
    Calls Try.prog 43 #[.slice (some ⟨g, 0, none⟩) d.size cap, .int .i64 a, .int .i64 b] w fun e w' => e = .returned (.tuple #[]) ∧ SU w0 g cap (reverseRange d a b) w' := by
  have H := Lib.hid h
  clear h
  obtain ⟨c, rfl⟩ : ∃ c, b = c + 1 := ⟨b - 1, by omega⟩
  go_enter Try.func43, Try.ntmps43
  go_wp2
  go_loopg [6, 7] (c - a) (fun gh vi vj wr => ∃ (i j : Nat) (dk : Array Nat), vi = .int .i64 (i : Nat) ∧ vj = .int .i64 (j : Nat) ∧ a ≤ i ∧ i ≤ c + 1 ∧ j ≤ c ∧ j - i ≤ gh ∧ i ≤ j + 1 ∧ dk.size = d.size ∧ Hid (SU w0 g cap dk wr) ∧ Hid (reverseLoop i j dk = reverseLoop a c d))
  case atStart => exact ⟨a, c, d, rfl, by go_num, by omega, by omega, by omega, by omega, by omega, rfl, H, Lib.hid rfl⟩
  case round =>
    obtain ⟨i, j, dk, rfl, rfl, hai, hic, hjc, hgh, hij1, hsk, hS, hR⟩ := hrel
    by_cases hij : i < j
    · have h1 : decide ((i : Int) < (j : Int)) = true := decide_eq_true (by omega)
      obtain ⟨x, hx, cx, fx⟩ := hS.out.spot (i := i) (by omega)
      obtain ⟨y, hy, cy, fy⟩ := hS.out.spot (i := j) (by omega)
      have HE := Lib.hid (show reverseLoop (i + 1) (j - 1) (swp dk i j) = reverseLoop a c d from by rw [← hR.out]; conv => rhs; rw [reverseLoop, if_pos hij])
      go_wp2
      go_region
      all_goals
        go_wp2
        go_roundg (j - 1 - (i + 1))
        case rel =>
          refine ⟨i + 1, j - 1, swp dk i j, by go_num, by go_num, by omega, by omega, by omega, by omega, by omega, by rw [size_swp]; exact hsk, Lib.hid ?_, HE⟩
          exact (hS.out.drew).swap' (by omega) (by omega) hx hy
        case measure => omega
    · have h1 : decide ((i : Int) < (j : Int)) = false := decide_eq_false (by omega)
      go_wp2
      go_end0
      refine ⟨rfl, ?_⟩
      unfold reverseRange
      rw [Nat.add_sub_cancel, ← hR.out, reverseLoop, if_neg hij]
      exact hS.out
theorem siftDown_size (hi first : Nat) : ∀ (n root : Nat) (d : Array Nat), hi - root ≤ n → (siftDown ltU hi first root d).size = d.size := by
  intro n
  induction n with
  | zero =>
    intro root d h
    rw [siftDown, dif_pos (by omega)]
  | succ n ih =>
    intro root d h
    rw [siftDown]
    split
    · rfl
    · split
      · split
        · rfl
        · split
          · rw [ih _ _ (by omega), size_swp]
          · rfl
      · split
        · rfl
        · rw [ih _ _ (by omega), size_swp]
theorem siftDown_size' (hi first root : Nat) (d : Array Nat) : (siftDown ltU hi first root d).size = d.size := siftDown_size hi first _ root d (Nat.le_refl _)
theorem sift_stop {hi first root : Nat} {d : Array Nat} (h : 2 * root + 1 ≥ hi) : siftDown ltU hi first root d = d := by rw [siftDown, dif_pos h]
/-- One round: ch is the child that is taken. -/
theorem sift_step {hi first root ch : Nat} {d : Array Nat} (h : 2 * root + 1 < hi) (hc : ch = if 2 * root + 1 + 1 < hi && ltU d[first + (2 * root + 1)]! d[first + (2 * root + 1) + 1]! then 2 * root + 2 else 2 * root + 1) :
    siftDown ltU hi first root d = if ltU d[first + root]! d[first + ch]! then siftDown ltU hi first ch (swp d (first + root) (first + ch)) else d := by
  subst hc
  conv => lhs; rw [siftDown, dif_neg (by omega)]
  by_cases h1 : (2 * root + 1 + 1 < hi && ltU d[first + (2 * root + 1)]! d[first + (2 * root + 1) + 1]!) = true
  · have h2 : 2 * root + 2 < hi := by simp at h1; omega
    rw [if_pos h1, if_pos h1]
    cases hl : ltU d[first + root]! d[first + (2 * root + 2)]! with
    | true => simp [hl, h2]
    | false => simp [hl]
  · rw [if_neg h1, if_neg h1]
    cases hl : ltU d[first + root]! d[first + (2 * root + 1)]! with
    | true => simp [hl]
    | false => simp [hl]
set_option maxRecDepth 100000 in
set_option maxHeartbeats 3200000 in
theorem sift_any {w0 w : World} {g cap lo hi first : Nat} {d : Array Nat} (h : SU w0 g cap d w) (hb : first + hi ≤ d.size) (hlo : lo ≤ hi) (hsz : d.size < 1152921504606846976) :
    Calls Try.prog 52 #[.slice (some ⟨g, 0, none⟩) d.size cap, .int .i64 lo, .int .i64 hi, .int .i64 first] w fun e w' => e = .returned (.tuple #[]) ∧ SU w0 g cap (siftDown ltU hi first lo d) w' := by
  have H := Lib.hid h
  clear h
  go_enter Try.func52, Try.ntmps52
  go_wp2
  go_loopg [8] (hi - lo) (fun gh vr wr => ∃ (r : Nat) (dk : Array Nat), vr = .int .i64 (r : Nat) ∧ r ≤ hi ∧ hi - r ≤ gh ∧ dk.size = d.size ∧ Hid (SU w0 g cap dk wr) ∧ Hid (siftDown ltU hi first r dk = siftDown ltU hi first lo d))
  case atStart => exact ⟨lo, d, rfl, hlo, Nat.le_refl _, rfl, H, Lib.hid rfl⟩
  case round =>
    obtain ⟨r, dk, rfl, hr, hgh, hsk, hS, hR⟩ := hrel
    by_cases hch : 2 * r + 1 < hi
    · have h1 : decide ((2 : Int) * (r : Int) + 1 ≥ (hi : Int)) = false := decide_eq_false (by omega)
      have h1' : decide ((hi : Int) ≤ (2 : Int) * (r : Int) + 1) = false := decide_eq_false (by omega)
      have wfr : IntKind.i64.wrap ((first : Int) + (r : Int)) = (first : Int) + (r : Int) := by rw [IntKind.wrap_i64]; omega
      have bfr : (first : Int) + (r : Int) < (d.size : Int) := by omega
      have pfr : (0 : Int) ≤ (first : Int) + (r : Int) := by omega
      have tfr : ((first : Int) + (r : Int)).toNat = first + r := by omega
      have wc1 : IntKind.i64.wrap ((first : Int) + (2 * (r : Int) + 1)) = (first : Int) + (2 * (r : Int) + 1) := by rw [IntKind.wrap_i64]; omega
      have bc1 : (first : Int) + (2 * (r : Int) + 1) < (d.size : Int) := by omega
      have pc1 : (0 : Int) ≤ (first : Int) + (2 * (r : Int) + 1) := by omega
      have tc1 : ((first : Int) + (2 * (r : Int) + 1)).toNat = first + (2 * r + 1) := by omega
      obtain ⟨x0, hx0, cc0, fc0⟩ := hS.out.spot (i := first + (2 * r + 1)) (by omega)
      by_cases h2 : 2 * r + 1 + 1 < hi
      · have g1 : decide ((2 : Int) * (r : Int) + 1 + 1 < (hi : Int)) = true := decide_eq_true (by omega)
        have wc2 : IntKind.i64.wrap ((first : Int) + (2 * (r : Int) + 1 + 1)) = (first : Int) + (2 * (r : Int) + 1 + 1) := by rw [IntKind.wrap_i64]; omega
        have bc2 : (first : Int) + (2 * (r : Int) + 1 + 1) < (d.size : Int) := by omega
        have pc2 : (0 : Int) ≤ (first : Int) + (2 * (r : Int) + 1 + 1) := by omega
        have tc2 : ((first : Int) + (2 * (r : Int) + 1 + 1)).toNat = first + (2 * r + 1 + 1) := by omega
        obtain ⟨x1, hx1, cc1, fc1⟩ := hS.out.spot (i := first + (2 * r + 1) + 1) (by omega)
        cases hq : ltU x0 x1
        · have HCH := Lib.hid (show 2 * r + 1 = if 2 * r + 1 + 1 < hi && ltU dk[first + (2 * r + 1)]! dk[first + (2 * r + 1) + 1]! then 2 * r + 2 else 2 * r + 1 from by rw [← hx0.out, ← hx1.out, hq]; simp)
          have HCC := hx0
          obtain ⟨xr, hxr, cr, fr⟩ := hS.out.spot (i := first + r) (by omega)
          cases hl : ltU xr x0
          · have HE := Lib.hid (show siftDown ltU hi first lo d = dk from by
              rw [← hR.out, sift_step (ch := 2 * r + 1) hch HCH.out, if_neg (by rw [← hxr.out, ← HCC.out, hl]; simp)])
            go_wp2
            go_quiet (first | (go_at_call 45; refine Calls.quiet_of_same (less_any _ _ _)))
            have HSN := Lib.hid (hS.out.drewN nq)
            clear cc0 fc0 cr fr
            (try clear cc1 fc1)
            generalize wr.drewN nq = wq at HSN ⊢
            obtain ⟨cr, fr⟩ := HSN.out.at_ (by omega) hxr
            obtain ⟨cc, fc⟩ := HSN.out.at_ (by omega) HCC
            go_wp2
            go_quiet (first | (go_at_call 45; refine Calls.quiet_of_same (less_any _ _ _)))
            go_wp2
            (try simp only [Exit.inBlock, Exit.then]); refine bodyPost_ret (results_none rfl _ _ _) rfl ?_
            refine ⟨rfl, ?_⟩
            rw [HE.out]
            exact HSN.out.drewN _
          · have HE := Lib.hid (show siftDown ltU hi first (2 * r + 1) (swp dk (first + r) (first + (2 * r + 1))) = siftDown ltU hi first lo d from by
              rw [← hR.out, sift_step (ch := 2 * r + 1) hch HCH.out, if_pos (by rw [← hxr.out, ← HCC.out, hl])])
            go_wp2
            go_quiet (first | (go_at_call 45; refine Calls.quiet_of_same (less_any _ _ _)))
            have HSN := Lib.hid (hS.out.drewN nq)
            clear cc0 fc0 cr fr
            (try clear cc1 fc1)
            generalize wr.drewN nq = wq at HSN ⊢
            obtain ⟨cr, fr⟩ := HSN.out.at_ (by omega) hxr
            obtain ⟨cc, fc⟩ := HSN.out.at_ (by omega) HCC
            go_wp2
            go_quiet (first | (go_at_call 45; refine Calls.quiet_of_same (less_any _ _ _)))
            go_wp2
            go_region
            all_goals
              go_wp2
              go_roundg (hi - (2 * r + 1))
              case rel =>
                refine ⟨2 * r + 1, swp dk (first + r) (first + (2 * r + 1)), by go_num, by omega, by omega, by rw [size_swp]; exact hsk, Lib.hid ?_, HE⟩
                exact ((HSN.out.drewN _).drew).swap' (by omega) (by omega) hxr HCC
              case measure => omega
        · have HCH := Lib.hid (show 2 * r + 2 = if 2 * r + 1 + 1 < hi && ltU dk[first + (2 * r + 1)]! dk[first + (2 * r + 1) + 1]! then 2 * r + 2 else 2 * r + 1 from by rw [← hx0.out, ← hx1.out, hq]; simp [h2])
          have HCC : Hid (x1 = dk[first + (2 * r + 2)]!) := hx1
          obtain ⟨xr, hxr, cr, fr⟩ := hS.out.spot (i := first + r) (by omega)
          cases hl : ltU xr x1
          · have HE := Lib.hid (show siftDown ltU hi first lo d = dk from by
              rw [← hR.out, sift_step (ch := 2 * r + 2) hch HCH.out, if_neg (by rw [← hxr.out, ← HCC.out, hl]; simp)])
            go_wp2
            go_quiet (first | (go_at_call 45; refine Calls.quiet_of_same (less_any _ _ _)))
            have HSN := Lib.hid (hS.out.drewN nq)
            clear cc0 fc0 cr fr
            (try clear cc1 fc1)
            generalize wr.drewN nq = wq at HSN ⊢
            obtain ⟨cr, fr⟩ := HSN.out.at_ (by omega) hxr
            obtain ⟨cc, fc⟩ := HSN.out.at_ (by omega) HCC
            go_wp2
            go_quiet (first | (go_at_call 45; refine Calls.quiet_of_same (less_any _ _ _)))
            go_wp2
            (try simp only [Exit.inBlock, Exit.then]); refine bodyPost_ret (results_none rfl _ _ _) rfl ?_
            refine ⟨rfl, ?_⟩
            rw [HE.out]
            exact HSN.out.drewN _
          · have HE := Lib.hid (show siftDown ltU hi first (2 * r + 2) (swp dk (first + r) (first + (2 * r + 2))) = siftDown ltU hi first lo d from by
              rw [← hR.out, sift_step (ch := 2 * r + 2) hch HCH.out, if_pos (by rw [← hxr.out, ← HCC.out, hl])])
            go_wp2
            go_quiet (first | (go_at_call 45; refine Calls.quiet_of_same (less_any _ _ _)))
            have HSN := Lib.hid (hS.out.drewN nq)
            clear cc0 fc0 cr fr
            (try clear cc1 fc1)
            generalize wr.drewN nq = wq at HSN ⊢
            obtain ⟨cr, fr⟩ := HSN.out.at_ (by omega) hxr
            obtain ⟨cc, fc⟩ := HSN.out.at_ (by omega) HCC
            go_wp2
            go_quiet (first | (go_at_call 45; refine Calls.quiet_of_same (less_any _ _ _)))
            go_wp2
            go_region
            all_goals
              go_wp2
              go_roundg (hi - (2 * r + 2))
              case rel =>
                refine ⟨2 * r + 2, swp dk (first + r) (first + (2 * r + 2)), by go_num, by omega, by omega, by rw [size_swp]; exact hsk, Lib.hid ?_, HE⟩
                exact ((HSN.out.drewN _).drew).swap' (by omega) (by omega) hxr HCC
              case measure => omega
      · have g1 : decide ((2 : Int) * (r : Int) + 1 + 1 < (hi : Int)) = false := decide_eq_false (by omega)
        have HCH := Lib.hid (show 2 * r + 1 = if 2 * r + 1 + 1 < hi && ltU dk[first + (2 * r + 1)]! dk[first + (2 * r + 1) + 1]! then 2 * r + 2 else 2 * r + 1 from by simp [h2])
        have HCC := hx0
        obtain ⟨xr, hxr, cr, fr⟩ := hS.out.spot (i := first + r) (by omega)
        cases hl : ltU xr x0
        · have HE := Lib.hid (show siftDown ltU hi first lo d = dk from by
            rw [← hR.out, sift_step (ch := 2 * r + 1) hch HCH.out, if_neg (by rw [← hxr.out, ← HCC.out, hl]; simp)])
          go_wp2
          go_quiet (first | (go_at_call 45; refine Calls.quiet_of_same (less_any _ _ _)))
          have HSN := Lib.hid (hS.out.drewN nq)
          clear cc0 fc0 cr fr
          (try clear cc1 fc1)
          generalize wr.drewN nq = wq at HSN ⊢
          obtain ⟨cr, fr⟩ := HSN.out.at_ (by omega) hxr
          obtain ⟨cc, fc⟩ := HSN.out.at_ (by omega) HCC
          go_wp2
          go_quiet (first | (go_at_call 45; refine Calls.quiet_of_same (less_any _ _ _)))
          go_wp2
          (try simp only [Exit.inBlock, Exit.then]); refine bodyPost_ret (results_none rfl _ _ _) rfl ?_
          refine ⟨rfl, ?_⟩
          rw [HE.out]
          exact HSN.out.drewN _
        · have HE := Lib.hid (show siftDown ltU hi first (2 * r + 1) (swp dk (first + r) (first + (2 * r + 1))) = siftDown ltU hi first lo d from by
            rw [← hR.out, sift_step (ch := 2 * r + 1) hch HCH.out, if_pos (by rw [← hxr.out, ← HCC.out, hl])])
          go_wp2
          go_quiet (first | (go_at_call 45; refine Calls.quiet_of_same (less_any _ _ _)))
          have HSN := Lib.hid (hS.out.drewN nq)
          clear cc0 fc0 cr fr
          (try clear cc1 fc1)
          generalize wr.drewN nq = wq at HSN ⊢
          obtain ⟨cr, fr⟩ := HSN.out.at_ (by omega) hxr
          obtain ⟨cc, fc⟩ := HSN.out.at_ (by omega) HCC
          go_wp2
          go_quiet (first | (go_at_call 45; refine Calls.quiet_of_same (less_any _ _ _)))
          go_wp2
          go_region
          all_goals
            go_wp2
            go_roundg (hi - (2 * r + 1))
            case rel =>
              refine ⟨2 * r + 1, swp dk (first + r) (first + (2 * r + 1)), by go_num, by omega, by omega, by rw [size_swp]; exact hsk, Lib.hid ?_, HE⟩
              exact ((HSN.out.drewN _).drew).swap' (by omega) (by omega) hxr HCC
            case measure => omega
    · have h1 : decide ((2 : Int) * (r : Int) + 1 ≥ (hi : Int)) = true := decide_eq_true (by omega)
      have h1' : decide ((hi : Int) ≤ (2 : Int) * (r : Int) + 1) = true := decide_eq_true (by omega)
      go_wp2
      go_end0
      refine ⟨rfl, ?_⟩
      rw [← hR.out, sift_stop (by omega)]
      exact hS.out
end Go.Proofs.Ytfdpcjdghmdkkaa.Hp
