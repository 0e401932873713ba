/- order2Ordered, medianOrdered, medianAdjacentOrdered over words: which of them is in the middle; a count of swaps. -/
import Derived.Test.YtfdpcjdghmdkkaaS3
import Derived.Sort.LotD4
set_option linter.unusedSimpArgs false
set_option linter.unusedVariables false
namespace Go.Proofs.Ytfdpcjdghmdkkaa.Hp
open Go.RowKit Go.Sort
/-- The row, and a count in block c. -/
structure CU (w0 : World) (g cap : Nat) (d : Array Nat) (c s : Nat) (w : World) : Prop where
  su : SU w0 g cap d w
  le : w0.heap.size ≤ c
  cnt : w.heap[c]? = some (.cells #[.int .i64 (s : Nat)] 3 (0, 0))
section
variable {w0 w : World} {g cap c s : Nat} {d : Array Nat}
theorem CU.cell (h : CU w0 g cap d c s w) : w.cell? ⟨c, 0, none⟩ = some (.int .i64 (s : Nat)) := by simp [World.cell?, h.cnt]
theorem CU.frozen (h : CU w0 g cap d c s w) : w.frozen? ⟨c, 0, none⟩ = false := by simp [World.frozen?, h.cnt]
theorem CU.drewN (h : CU w0 g cap d c s w) (n : Nat) : CU w0 g cap d c s (w.drewN n) := ⟨h.su.drewN n, h.le, h.cnt⟩
theorem CU.set (h : CU w0 g cap d c s w) (x : Nat) : CU w0 g cap d c x (w.setCell ⟨c, 0, none⟩ (.int .i64 (x : Nat))) := by
  refine ⟨h.su.other h.le _, h.le, ?_⟩
  unfold World.setCell
  simp only [Array.getElem?_modify, if_true, h.cnt]
  rfl
set_option maxRecDepth 100000 in
set_option maxHeartbeats 3200000 in
theorem order2_any (h : CU w0 g cap d c s w) {a b : Nat} (ha : a < d.size) (hb : b < d.size) (hsz : d.size < 1152921504606846976) (hs : s < 1000) :
    Calls Try.prog 66 #[.slice (some ⟨g, 0, none⟩) d.size cap, .int .i64 a, .int .i64 b, .pointer (some ⟨c, 0, none⟩)] w fun e w' =>
      e = .returned (.tuple #[.int .i64 ((order2 ltU d a b s).1 : Nat), .int .i64 ((order2 ltU d a b s).2.1 : Nat)]) ∧ CU w0 g cap d c (order2 ltU d a b s).2.2 w' := by
  have H := Lib.hid h
  have hc := h.cell
  have hf := h.frozen
  obtain ⟨x, hx, cx, fx⟩ := h.su.spot ha
  obtain ⟨y, hy, cy, fy⟩ := h.su.spot hb
  clear h
  go_enter Try.func66, Try.ntmps66
  have hw : wrap64 ((s : Int) + 1) = (s : Int) + 1 := by unfold wrap64; omega
  go_wp2
  go_quiet (first | (go_at_call 45; refine Calls.quiet_of_same (less_any _ _ _)))
  go_wp2
  · have hl : ltU y x = true := by assumption
    have HE := Lib.hid (show order2 ltU d a b s = (b, a, s + 1) from by unfold order2; rw [← hx.out, ← hy.out, hl]; simp)
    go_ret2
    rw [HE.out]
    exact ⟨rfl, (H.out.drewN _).set (s + 1)⟩
  · have hl : ltU y x = false := by assumption
    have HE := Lib.hid (show order2 ltU d a b s = (a, b, s) from by unfold order2; rw [← hx.out, ← hy.out, hl]; simp)
    go_ret2
    rw [HE.out]
    exact ⟨rfl, H.out.drewN _⟩
theorem order2_mem (d : Array Nat) (a b s : Nat) : ((order2 ltU d a b s).1 = a ∧ (order2 ltU d a b s).2.1 = b ∨ (order2 ltU d a b s).1 = b ∧ (order2 ltU d a b s).2.1 = a) ∧ (order2 ltU d a b s).2.2 ≤ s + 1 := by
  unfold order2
  split
  · exact ⟨.inr ⟨rfl, rfl⟩, Nat.le_refl _⟩
  · exact ⟨.inl ⟨rfl, rfl⟩, Nat.le_succ s⟩
set_option maxRecDepth 100000 in
set_option maxHeartbeats 3200000 in
theorem median_any (h : CU w0 g cap d c s w) {a b k : Nat} (ha : a < d.size) (hb : b < d.size) (hk : k < d.size) (hsz : d.size < 1152921504606846976) (hs : s < 900) :
    Calls Try.prog 56 #[.slice (some ⟨g, 0, none⟩) d.size cap, .int .i64 a, .int .i64 b, .int .i64 k, .pointer (some ⟨c, 0, none⟩)] w fun e w' =>
      e = .returned (.int .i64 ((median ltU d a b k s).1 : Nat)) ∧ CU w0 g cap d c (median ltU d a b k s).2 w' ∧ (median ltU d a b k s).1 < d.size ∧ (median ltU d a b k s).2 ≤ s + 3 := by
  unfold median
  dsimp only
  obtain ⟨m1, l1⟩ := order2_mem d a b s
  have c1 := order2_any h ha hb hsz (by omega)
  obtain ⟨⟨a1, b1, s1⟩, e1⟩ : ∃ r, order2 ltU d a b s = r := ⟨_, rfl⟩
  rw [e1] at m1 l1 c1 ⊢
  dsimp only at m1 l1 c1 ⊢
  obtain ⟨m2, l2⟩ := order2_mem d b1 k s1
  obtain ⟨⟨b2, k2, s2⟩, e2⟩ : ∃ r, order2 ltU d b1 k s1 = r := ⟨_, rfl⟩
  have hb1 : b1 < d.size := by omega
  have ha1 : a1 < d.size := by omega
  have c2 := fun w' (h' : CU w0 g cap d c s1 w') => order2_any h' hb1 hk hsz (by omega)
  rw [e2] at m2 l2 c2 ⊢
  dsimp only at m2 l2 c2 ⊢
  have hb2 : b2 < d.size := by omega
  obtain ⟨m3, l3⟩ := order2_mem d a1 b2 s2
  obtain ⟨⟨a3, b3, s3⟩, e3⟩ : ∃ r, order2 ltU d a1 b2 s2 = r := ⟨_, rfl⟩
  have c3 := fun w' (h' : CU w0 g cap d c s2 w') => order2_any h' ha1 hb2 hsz (by omega)
  rw [e3] at m3 l3 c3 ⊢
  dsimp only at m3 l3 c3 ⊢
  have hb3 : b3 < d.size := by omega
  have hs3 : s3 ≤ s + 3 := by omega
  have C1 := Lib.hid c1
  have C2 := Lib.hid c2
  have C3 := Lib.hid c3
  clear c1 c2 c3 m1 m2 m3 e1 e2 e3 h
  go_enter Try.func56, Try.ntmps56
  go_wp2_with fail
  refine C1.out.mono ?_
  rintro e w1 ⟨rfl, h1⟩
  have H1 := Lib.hid h1
  clear h1
  go_wp2_with fail
  refine (C2.out _ H1.out).mono ?_
  rintro e w2 ⟨rfl, h2⟩
  have H2 := Lib.hid h2
  clear h2
  go_wp2_with fail
  refine (C3.out _ H2.out).mono ?_
  rintro e w3 ⟨rfl, h3⟩
  have H3 := Lib.hid h3
  clear h3
  go_wp2
  go_ret
  exact ⟨rfl, H3.out, hb3, hs3⟩
set_option maxRecDepth 100000 in
set_option maxHeartbeats 3200000 in
theorem medianAdj_any (h : CU w0 g cap d c s w) {a : Nat} (h1 : 1 ≤ a) (ha : a + 1 < d.size) (hsz : d.size < 1152921504606846976) (hs : s < 900) :
    Calls Try.prog 55 #[.slice (some ⟨g, 0, none⟩) d.size cap, .int .i64 a, .pointer (some ⟨c, 0, none⟩)] w fun e w' =>
      e = .returned (.int .i64 ((medianAdjacent ltU d a s).1 : Nat)) ∧ CU w0 g cap d c (medianAdjacent ltU d a s).2 w' ∧ (medianAdjacent ltU d a s).1 < d.size ∧ (medianAdjacent ltU d a s).2 ≤ s + 3 := by
  have hm := median_any h (a := a - 1) (b := a) (k := a + 1) (by omega) (by omega) ha hsz hs
  unfold medianAdjacent
  have z1 : ((a - 1 : Nat) : Int) = (a : Int) - 1 := by omega
  have z2 : ((a + 1 : Nat) : Int) = (a : Int) + 1 := by omega
  rw [z1, z2] at hm
  have HM := Lib.hid hm
  clear hm h
  generalize median ltU d (a - 1) a (a + 1) s = r at *
  go_enter Try.func55, Try.ntmps55
  go_wp2_with (go_at_call 56; refine HM.out.mono ?_; rintro e w1 ⟨rfl, h1⟩; have H1 := Lib.hid h1; clear h1)
  go_ret
  exact ⟨rfl, H1.out⟩
end
end Go.Proofs.Ytfdpcjdghmdkkaa.Hp
