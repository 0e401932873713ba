/- place: where a block of so many words has room. -/
import Derived.Test.YtfdpcjdghmdkkaaH7
set_option linter.unusedSimpArgs false
set_option linter.unusedVariables false
namespace Go.Proofs.Ytfdpcjdghmdkkaa.Hp
open Go.RowKit Go.Sort
/-- What stands behind all rows. -/
def senB (fin : Nat) : Bk := (⟨fin % 131072, Nat.mod_lt _ (by decide)⟩, 0)
theorem senB_at {fin : Nat} (h : fin ≤ 65536) : (senB fin).1.val = fin := Nat.mod_eq_of_lt (by omega)
theorem senB_c {fin : Nat} (h : fin ≤ 65536) : encB (senB fin) = [.int .i64 (fin : Nat), .int .i64 0] := by
  unfold encB blkC Bk.out
  rw [senB_at h]
  rfl
theorem blk_cells {w : World} {base gb cap n : Nat} {l : List Bk} (h : w.ownsRow base 61 2 (.slice (some ⟨gb, 0, none⟩) n cap) n (l.flatMap encB)) {j : Nat} (hj : j < l.length) :
    w.cell? ⟨gb, j * 2, none⟩ = some (.int .i64 ((l[j]!).1.val : Nat)) ∧ w.cell? ⟨gb, j * 2 + 1, none⟩ = some (.int .i64 ((l[j]!).2 : Nat)) := by
  have hn : n = l.length := by have := h.1; rw [flat_len] at this; omega
  constructor
  · rw [World.ownsRow.cellAt h (j * 2) (by omega), flat_get l (j * 2) (by omega)]
    have e1 : j * 2 / 2 = j := by omega
    have e2 : j * 2 % 2 = 0 := by omega
    rw [e1, e2]
    rfl
  · rw [World.ownsRow.cellAt h (j * 2 + 1) (by omega), flat_get l (j * 2 + 1) (by omega)]
    have e1 : (j * 2 + 1) / 2 = j := by omega
    have e2 : (j * 2 + 1) % 2 = 1 := by omega
    rw [e1, e2]
    rfl
set_option maxRecDepth 100000 in
set_option maxHeartbeats 3200000 in
theorem place_any {w : World} {h b fr n last : Nat} {ks : List Nat} {g : Nat → Bk} (H : HpAt w h b fr n last ks g) (hk : ks.length ≤ 70000) (hfr : fr + n ≤ 65536) (hsm : ∀ k ∈ ks, (g k).2 ≤ 70000) (need : Int) (hlo : -9223372036854775808 ≤ need) (hhi : need ≤ 9223372036854775807) :
    Calls Try.prog 26 #[.pointer (some ⟨h, 0, none⟩), .int .i64 need] w fun e w' =>
      ∃ (l : List Bk) (a : Nat), l.Perm (ks.map g) ∧ (l.Pairwise fun x y => x.1.val ≤ y.1.val) ∧ a = gapL need fr (l ++ [senB (fr + n)]) ∧
        e = .returned (.tuple #[.int .i64 (a : Nat), .bool (decide (need ≤ ((fr + n : Nat) : Int) - (a : Int)))]) ∧ Below w.heap.size w w' := by
  obtain ⟨i0, hi, hz0, hz1, hz2⟩ := info_parts infoB
  have c0 := H.c0
  have c1 := H.c1
  have c3 := H.c3
  have hlt := H.lt
  have hbl := H.map.lt
  have HV := Lib.hid (fun (W : World) => values_any (some b) W)
  have HS := Lib.hid (sortedFunc_any (w := w.alloc (.cells #[.map (some b)] 54)) (Bm := w.heap.size) (b := b) (ks := ks) (g := g) (by simp) (by simp) (H.alloc _).map hk)
  have HH := Lib.hid H
  have HSM := Lib.hid hsm
  have HKL := Lib.hid hk
  clear H hk hsm
  go_enter Try.func26, Try.ntmps26
  go_wp2
  go_step3
  go_wp2_with (first
    | (go_at_call 31; refine (HV.out _).mono ?_; rintro e w1 ⟨rfl, rfl⟩)
    | (go_at_call 30
       refine HS.out.mono ?_
       rintro e w2 ⟨v, l, rfl, hp, hw, hrow, hb2⟩
       have hbw : Below w.heap.size w w2 := ((Below.refl _ w).alloc (Nat.le_refl _) _).trans (hb2.mono (by simp))
       have d0 := (hbw.cell (p := ⟨h, 0, none⟩) hlt).trans c0
       have d1 := (hbw.cell (p := ⟨h, 1, none⟩) hlt).trans c1
       have hll : l.length = ks.length := by have := hp.length_eq; simpa using this
       have hsz := hbw.size
       have hrow' : w2.ownsRow w.heap.size 61 2 v l.length (l.flatMap encB) := by
         refine ⟨hrow.1, hrow.2.imp id ?_⟩
         rintro ⟨q1, q2, q3, e1, e2, e3⟩
         exact ⟨q1, q2, q3, e1, by simp at e2; omega, e3⟩
       have HP := Lib.hid (And.intro hp hw)
       have HR := Lib.hid hrow'
       have HB := Lib.hid hbw
       have HLL := Lib.hid hll
       clear hp hw hrow hrow' hb2 hbw hll))
  go_step3
  have Q := Lib.hid (show (∀ i u, (encB (senB (fr + n)))[i]? = some u → ((w2.alloc (.cells #[.int .i64 ((fr + n : Nat) : Int), .int .i64 0] 61)).drew).cell? ((⟨w2.heap.size, 0, none⟩ : Addr).add i) = some u) ∧ (∀ u ∈ encB (senB (fr + n)), u.oneCell' = true) ∧ l.length + 1 ≤ maxLen ∧ (l.length + 1) * 16 ≤ 140737488355328 ∧ w.heap.size ≤ ((w2.alloc (.cells #[.int .i64 ((fr + n : Nat) : Int), .int .i64 0] 61)).drew).heap.size ∧ ((w2.alloc (.cells #[.int .i64 ((fr + n : Nat) : Int), .int .i64 0] 61)).drew).ownsRow w.heap.size 61 2 v l.length (l.flatMap encB) from by
    have := HLL.out
    have := HKL.out
    rw [senB_c hfr]
    refine ⟨World.news_of_block (cs := #[.int .i64 ((fr + n : Nat) : Int), .int .i64 0]) (t := 61) (fr := (0, 0)) (heap_alloc_new w2 _), fun u hu => by simp at hu; rcases hu with rfl | rfl <;> rfl, by unfold maxLen; omega, by omega, ?_, (HR.out.alloc _).drew⟩
    show w.heap.size ≤ (w2.alloc _).heap.size
    simp; omega)
  have hadd : IntKind.i64.wrap ((fr : Int) + (n : Int)) = (fr : Int) + (n : Int) := by rw [IntKind.wrap_i64]; omega
  have HLB := Lib.hid (show ∀ x ∈ l ++ [senB (fr + n)], x.2 ≤ 70000 from by
    intro x hx
    rcases List.mem_append.1 hx with hx | hx
    · have := HP.out.1.mem_iff.1 hx
      obtain ⟨k, hk, rfl⟩ := List.mem_map.1 this
      exact HSM.out k hk
    · rw [List.mem_singleton] at hx; subst hx; simp [senB])
  go_wp2
  go_region_law (refine step_append_lies _ (by rfl) _ _ _ (by rfl) w.heap.size 61 i0 _ 2 16 Try.underlying71 hi hz0 hz1 hz2 rfl (by omega) v l.length (l.flatMap encB) (by rfl) Q.out.2.2.2.2.2 ⟨w2.heap.size, 0, none⟩ 1 1 (encB (senB (fr + n))) (by rfl) (by rfl) Q.out.1 Q.out.2.1 (by omega) Q.out.2.2.1 Q.out.2.2.2.1 Q.out.2.2.2.2.1 (w2.heap.size + 1) (by simp) ?_; intro g' cap w3 hown1 hgrow hor hlt1; have HO := Lib.hid (And.intro hown1 (And.intro hgrow hor)); clear hown1 hgrow hor)
  all_goals
    have HB3 := Lib.hid (show Below w.heap.size w w3 from by
      refine ((HB.out.alloc HB.out.size (.cells #[.int .i64 ((fr : Int) + (n : Int)), .int .i64 0] 61)).drew).grown HO.out.2.1 ?_ ?_
      · show w.heap.size ≤ (w2.alloc _).heap.size
        simp; omega
      · intro k hk; exact (World.ownsRow.lt HR.out k hk).1)
    have HROW := Lib.hid (show w3.ownsRow w.heap.size 61 2 (.slice (some ⟨g', 0, none⟩) (l.length + 1) cap) (l.length + 1) ((l ++ [senB (fr + n)]).flatMap encB) from by
      rw [List.flatMap_append, List.flatMap_singleton]; exact HO.out.1)
    have hsz3 := HB3.out.size
    have hg3 := (World.ownsRow.lt HROW.out g' rfl).1
    have HH3 := Lib.hid (show HpAt w3 h b fr n last ks g from HH.out.below HB3.out hlt hbl)
    clear Q HO HR HB HS HV d0 d1 c0 c1 c3
    generalize hLL : l ++ [senB (fr + n)] = LL at *
    have HLL2 := Lib.hid hLL
    have hlen : LL.length = l.length + 1 := by rw [← hLL]; simp
    clear hLL
    go_wp2
    have hkl : l.length ≤ 70000 := by have := HLL.out; have := HKL.out; omega
    simp only [List.getElem_toArray, List.getElem_cons_succ, List.getElem_cons_zero]
    go_frame
    go_loopg [6, 34] (l.length + 1) (fun gh sa si wr => ∃ (i a : Nat), sa = .int .i64 (a : Nat) ∧ si = .int .i64 (i : Nat) ∧ i ≤ l.length + 1 ∧ l.length + 1 - i ≤ gh ∧ a ≤ 201072 ∧ Hid (Below w3.heap.size w3 wr) ∧ Hid (gapL need fr LL = gapL need a (LL.drop i)))
    case atStart => exact ⟨0, fr, rfl, rfl, by omega, by omega, by omega, Lib.hid (.refl _ _), Lib.hid rfl⟩
    case round =>
      obtain ⟨i, a, rfl, rfl, hil, hgh, ha, hb, hg⟩ := hrel
      have HW := Lib.hid (HH3.out.below hb.out HH3.out.lt HH3.out.map.lt)
      have e0 := HW.out.c0
      have e1 := HW.out.c1
      have hlw := HW.out.lt
      by_cases hi : i = l.length + 1
      · subst hi
        have HE := Lib.hid (hg.out.trans (by rw [List.drop_eq_nil_of_le (by omega)]; rfl) : gapL need fr LL = a)
        clear hg
        go_wp2
        go_quiet (fail)
        go_wp2
        rw [Exit.noGoto_ret]
        go_ret2
        exact ⟨l, a, HP.out.1, HP.out.2, by rw [HLL2.out]; exact HE.out.symm, rfl, below_drewN (HB3.out.trans (hb.out.mono hsz3)) _⟩
      · have hi' : i < LL.length := by omega
        obtain ⟨x, hx⟩ : ∃ x, x = LL[i]! := ⟨_, rfl⟩
        have hc := blk_cells HROW.out (j := i) (by omega)
        rw [← hx] at hc
        have hgl := (World.ownsRow.lt HROW.out g' rfl).2
        have f0 := (hb.out.cell (p := ⟨g', i * 2, none⟩) hgl).trans hc.1
        have f1 := (hb.out.cell (p := ⟨g', i * 2 + 1, none⟩) hgl).trans hc.2
        have hx1 := x.1.isLt
        have hx2 : x.2 ≤ 70000 := HLB.out x (by rw [hx, getElem!_pos _ i hi']; exact List.getElem_mem _)
        have HD := Lib.hid (show LL.drop i = x :: LL.drop (i + 1) from by rw [hx, getElem!_pos _ i hi']; exact List.drop_eq_getElem_cons hi')
        clear hc hx
        obtain ⟨⟨x1, hx1'⟩, x2⟩ := x
        dsimp only at *
        have hwn := hb.out.size
        by_cases hq : (x1 : Int) - (a : Int) ≥ need
        · have HE := Lib.hid (show gapL need fr LL = a from by rw [hg.out, HD.out]; show (if _ then _ else _) = _; rw [if_pos hq])
          clear hg HD
          go_wp2
          go_quiet (fail)
          go_wp2
          rw [Exit.noGoto_ret]
          go_ret2
          exact ⟨l, a, HP.out.1, HP.out.2, by rw [HLL2.out]; exact HE.out.symm, rfl, below_drewN (HB3.out.trans ((hb.out.alloc (by omega) _).mono hsz3)) _⟩
        · have HE := Lib.hid (show gapL need fr LL = gapL need (x1 + x2) (LL.drop (i + 1)) from by rw [hg.out, HD.out]; show (if _ then _ else _) = _; rw [if_neg hq])
          clear hg HD
          go_wp2
          go_roundg (l.length - i)
          case rel => exact ⟨i + 1, x1 + x2, by go_num, by go_num, by omega, by omega, by omega, Lib.hid (hb.out.alloc (by omega) _), HE⟩
          case measure => omega
end Go.Proofs.Ytfdpcjdghmdkkaa.Hp
