/- The walk of the reference's Behind. -/
import Derived.Test.YtkiedbanobjmlaaDoorP4
set_option linter.unusedSimpArgs false
set_option linter.unusedVariables false
namespace Go.Proofs.YtkiedbanobjmlaaDoor.Pl
open Go.RowKit
open Fl

/-- Two cells of a block hold a place. -/
def Two (w : World) (b : Nat) (l c : Int) : Prop := w.cell? ⟨b, 0, none⟩ = some (.int .i64 l) ∧ w.cell? ⟨b, 1, none⟩ = some (.int .i64 c) ∧ w.frozen? ⟨b, 0, none⟩ = false ∧ w.frozen? ⟨b, 1, none⟩ = false
theorem Two.below {w w' : World} {B b : Nat} {l c : Int} (h : Two w b l c) (hb : Below B w w') (hB : b < B) : Two w' b l c :=
  ⟨(hb.cell (p := ⟨b, 0, none⟩) hB).trans h.1, (hb.cell (p := ⟨b, 1, none⟩) hB).trans h.2.1, (hb.frozen (p := ⟨b, 0, none⟩) hB).trans h.2.2.1, (hb.frozen (p := ⟨b, 1, none⟩) hB).trans h.2.2.2⟩
theorem Two.set0 {w : World} {b : Nat} {l c : Int} (h : Two w b l c) (x : Int) : Two (w.setCell ⟨b, 0, none⟩ (.int .i64 x)) b x c :=
  ⟨World.cell?_setCell_same _ _ _ h.1, (World.cell?_setCell_other _ _ _ _ (by simp)).trans h.2.1, by rw [World.frozen?_setCell]; exact h.2.2.1, by rw [World.frozen?_setCell]; exact h.2.2.2⟩
theorem Two.set1 {w : World} {b : Nat} {l c : Int} (h : Two w b l c) (x : Int) : Two (w.setCell ⟨b, 1, none⟩ (.int .i64 x)) b l x :=
  ⟨(World.cell?_setCell_other _ _ _ _ (by simp)).trans h.1, World.cell?_setCell_same _ _ _ h.2.1, by rw [World.frozen?_setCell]; exact h.2.2.1, by rw [World.frozen?_setCell]; exact h.2.2.2⟩
theorem Two.set_far {w : World} {b : Nat} {l c : Int} (h : Two w b l c) {p : Addr} (hp : p.block ≠ b) (v : Value) : Two (w.setCell p v) b l c :=
  ⟨(World.cell?_setCell_other _ _ _ _ (by intro e; subst e; simp at hp)).trans h.1, (World.cell?_setCell_other _ _ _ _ (by intro e; subst e; simp at hp)).trans h.2.1, by rw [World.frozen?_setCell]; exact h.2.2.1, by rw [World.frozen?_setCell]; exact h.2.2.2⟩
theorem two_load {w : World} {b : Nat} {l c : Int} (h0 : w.cell? ⟨b, 0, none⟩ = some (.int .i64 l)) (h1 : w.cell? ⟨b, 1, none⟩ = some (.int .i64 c)) : (loadVar 50 ⟨b, 0, none⟩).run Tryd.prog w = .ok (.agg #[.int .i64 l, .int .i64 c]) w := by
  have hl : (loadCells ⟨b, 0, none⟩ 2).run Tryd.prog w = .ok #[.int .i64 l, .int .i64 c] w :=
    run_loadCells_list (P := Tryd.prog) w ⟨b, 0, none⟩ [.int .i64 l, .int .i64 c] (fun j v hv => by
      match j with
      | 0 => simp at hv; subst hv; simpa [Addr.add] using h0
      | 1 => simp at hv; subst hv; simpa [Addr.add] using h1
      | j + 2 => simp at hv)
  simp [loadVar, Sem.run_bind, Tryd.isAgg50, Tryd.sizeOf50, hl]
theorem two_ret {fn : Func} {p : Tmp} (h : fn.results = #[.cell p 50]) (tmps : Array Value) (w : World) (b : Nat) (l c : Int) (hp : tmps.getD p undef = .pointer (some ⟨b, 0, none⟩)) (h0 : w.cell? ⟨b, 0, none⟩ = some (.int .i64 l)) (h1 : w.cell? ⟨b, 1, none⟩ = some (.int .i64 c)) :
    (results fn tmps).run Tryd.prog w = .ok (.agg #[.int .i64 l, .int .i64 c]) w := by
  have hp' : tmps[p]?.getD undef = .pointer (some ⟨b, 0, none⟩) := by simpa using hp
  simp [results, h, hp', asAddr, two_load h0 h1]
theorem behN_pair (n m : Nat) (r : List UInt8) : behN (n, m) r = behN (ofN n m) r := by
  cases a : isN (n, m)
  · rw [behN_out a, ofN_out, behN_out rfl]
    by_cases g : isR n m = true
    · have := isR_in g
      simp [isN, inN] at a
      omega
    · simpa using g
  · have := isN_bd a
    rw [ofN_in (isR_mk (by omega) (by omega) (by omega) (by omega))]; rfl
theorem ret_R {a b : Int} {p : Nat × Nat} (h1 : a = p.1) (h2 : b = p.2) : Ending.returned (.agg #[.int .i64 a, .int .i64 b]) = .returned (.agg #[.int .i64 (p.1 : Nat), .int .i64 (p.2 : Nat)]) := by subst h1 h2; rfl

set_option maxHeartbeats 3200000 in
theorem rBehind_any (l c : Int) (s : ByteArray) (w : World) (hs : s.size ≤ 9223372036854775806) : Calls Tryd.prog 30 #[R l c, .string s] w fun e w' => e = .returned (R ((behN (ofN l c) s.data.toList).1 : Nat) ((behN (ofN l c) s.data.toList).2 : Nat)) ∧ Below w.heap.size w w' := by
  unfold R
  go_enter Tryd.func30, Tryd.ntmps30
  go_wp2
  go_loopw [5] (fun i wr => ∃ (l' c' : Int) (k : Nat), k ≤ s.size ∧ i = .int .i64 k ∧ Two wr w.heap.size l' c' ∧ Two wr (w.heap.size + 1) 0 0 ∧ w.heap.size + 1 < wr.heap.size ∧ Below w.heap.size w wr ∧ Hid (behN (ofN l c) s.data.toList = behN (ofN l' c') (s.data.toList.drop k))) (fun i _ => s.size - (intOf i).toNat)
  case atStart =>
    refine ⟨l, c, 0, Nat.zero_le _, rfl, ?_, ?_, ?_, below_alloc (below_alloc (Below.refl _ _) _) _, Lib.hid rfl⟩
    · refine ⟨?_, ?_, ?_, ?_⟩ <;> simp [go_sem]
    · refine ⟨?_, ?_, ?_, ?_⟩ <;> simp [go_sem]
    · simp
  case round =>
    obtain ⟨l', c', k, hk, rfl, ta, tb, hsz, hb, HB⟩ := hrel
    have hI := fun w' => rIs_any l' c' w'
    unfold R at hI
    by_cases hlt : k < s.size
    · have HD := Lib.hid (drop_cons s k hlt)
      cases a : isR l' c'
      · rw [a] at hI
        have HI := Lib.hid hI
        have HR := Lib.hid (show behN (ofN l c) s.data.toList = (0, 0) from by rw [HB.out, ofN_out a]; exact behN_out rfl _)
        clear hI HB a HD
        obtain ⟨z0, z1, z2, z3⟩ := ta
        go_wp2_with fail
        ((with_reducible refine (HI.out _).mono ?_); rintro e w1 ⟨rfl, h1⟩)
        have tb1 := tb.below h1 (by omega)
        have tb2 := (tb1.set0 0).set1 0
        obtain ⟨b0, b1, b2, b3⟩ := tb1
        have hsz1 := h1.size
        replace h1 := hb.trans (h1.mono hb.size)
        clear z0 z1 z2 z3
        go_wp2
        (try simp only [Exit.inBlock, Exit.then])
        refine bodyPost_ret (two_ret rfl _ _ (w.heap.size + 1) 0 0 rfl tb2.1 tb2.2.1) rfl ?_
        exact ⟨ret_R (by rw [HR.out]; rfl) (by rw [HR.out]; rfl), (h1.setCell (by simp) _).setCell (by simp) _⟩
      · have hbd := isR_in a
        have ha := ofN_in a
        rw [a] at hI
        have HI := Lib.hid hI
        have HS := Lib.hid (show behN (ofN l c) s.data.toList = behN (stepN (l'.toNat, c'.toNat) s[k]) (s.data.toList.drop (k + 1)) from by
          rw [HB.out, HD.out, ha]
          refine behN_cons ?_ _ _
          unfold isN inN
          simp
          omega)
        clear hI HB HD a ha
        obtain ⟨z0, z1, z2, z3⟩ := ta
        have ta' : Two wr w.heap.size l' c' := ⟨z0, z1, z2, z3⟩
        by_cases h10 : s[k].toNat = 10
        · have HN := Lib.hid (show behN (ofN l c) s.data.toList = behN (ofN (l' + 1) 1) (s.data.toList.drop (k + 1)) from by
            rw [HS.out]
            unfold stepN
            rw [if_pos h10, behN_pair]
            congr 2
            show ((l'.toNat + 1 : Nat) : Int) = _
            omega)
          have hc : ((s[k].toNat : Int) == 10) = true := by simp [h10]
          clear HS h10
          have TA := Lib.hid ta'
          have TB := Lib.hid tb
          clear ta' tb
          go_wp2_with fail
          ((with_reducible refine (HI.out _).mono ?_); rintro e w1 ⟨rfl, h1⟩)
          have ta1 := TA.out.below h1 (by omega)
          have tb1 := TB.out.below h1 (by omega)
          have TA2 := Lib.hid ((ta1.set0 (l' + 1)).set1 1)
          have TB2 := Lib.hid ((tb1.set_far (p := ⟨w.heap.size, 0, none⟩) (by simp) (.int .i64 (l' + 1))).set_far (p := ⟨w.heap.size, 1, none⟩) (by simp) (.int .i64 1))
          obtain ⟨a0, a1, a2, a3⟩ := ta1
          clear tb1
          have hsz1 := h1.size
          replace h1 := hb.trans (h1.mono hb.size)
          clear z0 z1 z2 z3
          go_wp2
          go_roundw
          case rel => exact ⟨l' + 1, 1, k + 1, by omega, by go_num, TA2.out, TB2.out, by simp [World.setCell]; omega, (h1.setCell (by simp) _).setCell (by simp) _, HN⟩
          case measure => simp [intOf]; omega
        · have HN := Lib.hid (show behN (ofN l c) s.data.toList = behN (ofN l' (c' + 1)) (s.data.toList.drop (k + 1)) from by
            rw [HS.out]
            unfold stepN
            rw [if_neg h10, behN_pair]
            congr 2
            · show ((l'.toNat : Nat) : Int) = _
              omega
            · show ((c'.toNat + 1 : Nat) : Int) = _
              omega)
          have hc : ((s[k].toNat : Int) == 10) = false := by simp; omega
          clear HS h10
          have TA := Lib.hid ta'
          have TB := Lib.hid tb
          clear ta' tb
          go_wp2_with fail
          ((with_reducible refine (HI.out _).mono ?_); rintro e w1 ⟨rfl, h1⟩)
          have ta1 := TA.out.below h1 (by omega)
          have tb1 := TB.out.below h1 (by omega)
          have TA2 := Lib.hid (ta1.set1 (c' + 1))
          have TB2 := Lib.hid (tb1.set_far (p := ⟨w.heap.size, 1, none⟩) (by simp) (.int .i64 (c' + 1)))
          obtain ⟨a0, a1, a2, a3⟩ := ta1
          clear tb1
          have hsz1 := h1.size
          replace h1 := hb.trans (h1.mono hb.size)
          clear z0 z1 z2 z3
          go_wp2
          go_roundw
          case rel => exact ⟨l', c' + 1, k + 1, by omega, by go_num, TA2.out, TB2.out, by simp [World.setCell]; omega, h1.setCell (by simp) _, HN⟩
          case measure => simp [intOf]; omega
    · have hkS : k = s.size := by omega
      subst hkS
      have HE := Lib.hid (show behN (ofN l c) s.data.toList = behN (ofN l' c') [] from by rw [HB.out, List.drop_of_length_le (by simp)])
      obtain ⟨z0, z1, z2, z3⟩ := ta
      have TA := Lib.hid (show Two wr w.heap.size l' c' from ⟨z0, z1, z2, z3⟩)
      have TB := Lib.hid tb
      cases a : isR l' c'
      · rw [a] at hI
        have HI := Lib.hid hI
        have HR := Lib.hid (show behN (ofN l c) s.data.toList = (0, 0) from by rw [HB.out, ofN_out a]; exact behN_out rfl _)
        clear hI HB HE a tb
        go_wp2_with fail
        ((with_reducible refine (HI.out _).mono ?_); rintro e w1 ⟨rfl, h1⟩)
        have tb1 := TB.out.below h1 (by omega)
        have tb2 := (tb1.set0 0).set1 0
        obtain ⟨b0, b1, b2, b3⟩ := tb1
        have hsz1 := h1.size
        replace h1 := hb.trans (h1.mono hb.size)
        clear z0 z1 z2 z3
        go_wp2
        (try simp only [Exit.inBlock, Exit.then])
        refine bodyPost_ret (two_ret rfl _ _ (w.heap.size + 1) 0 0 rfl tb2.1 tb2.2.1) rfl ?_
        exact ⟨ret_R (by rw [HR.out]; rfl) (by rw [HR.out]; rfl), (h1.setCell (by simp) _).setCell (by simp) _⟩
      · have hbd := isR_in a
        have HR := Lib.hid (show behN (ofN l c) s.data.toList = (l'.toNat, c'.toNat) from by
          rw [HE.out, ofN_in a]
          have : isN (l'.toNat, c'.toNat) = true := by unfold isN inN; simp; omega
          simp [behN, this])
        rw [a] at hI
        have HI := Lib.hid hI
        clear hI HB HE a tb
        go_wp2_with fail
        ((with_reducible refine (HI.out _).mono ?_); rintro e w1 ⟨rfl, h1⟩)
        have ta1 := TA.out.below h1 (by omega)
        have tb1 := TB.out.below h1 (by omega)
        have tb2 := (tb1.set0 l').set1 c'
        obtain ⟨b0, b1, b2, b3⟩ := tb1
        obtain ⟨a0, a1, a2, a3⟩ := ta1
        have hsz1 := h1.size
        replace h1 := hb.trans (h1.mono hb.size)
        clear z0 z1 z2 z3
        go_wp2
        (try simp only [Exit.inBlock, Exit.then])
        refine bodyPost_ret (two_ret rfl _ _ (w.heap.size + 1) l' c' rfl tb2.1 tb2.2.1) rfl ?_
        exact ⟨ret_R (by rw [HR.out]; simp; omega) (by rw [HR.out]; simp; omega), (h1.setCell (by simp) _).setCell (by simp) _⟩

end Go.Proofs.YtkiedbanobjmlaaDoor.Pl
