/- The walk of the reference's Copy. -/
import Derived.Test.YtdpdoigmjnkmdaaDoorT8
import Derived.StillTailTactics
set_option linter.unusedSimpArgs false
set_option linter.unusedVariables false
namespace Go.Proofs.YtdpdoigmjnkmdaaDoor.Tr
open Go.RowKit
open Fl
attribute [local go_sem] run_store_complex

theorem start_bel (w : World) (o : Obj) : Below w.heap.size w (w.drew.alloc o) := (Below.refl w.heap.size w).drew.alloc (Nat.le_refl _) o
set_option maxRecDepth 100000 in
set_option maxHeartbeats 6400000 in
theorem rcopy_any (N : Nat) : ∀ (d : Nd) (k : Fo) (v : Value) (w : World), (Fo.node d k .no).count ≤ N → (Fo.node d k .no).count ≤ 1000000 → Rep w (.node d k .no) [v] →
    Calls Tryd.prog 13 #[v] w fun e w' => ∃ u, e = .returned u ∧ Below w.heap.size w w' ∧ RepS (fun x => w.heap.size ≤ x) w' (.node d k .no) [u] := by
  induction N with
  | zero => intro d k v w h; simp [Fo.count] at h
  | succ N ih =>
    intro d k v w hN hc hr
    obtain ⟨b, A, c, ks, rfl, hat, hA, hk⟩ := hr.one
    have hle := Reads.len_le (B := 0) (A := none) hk
    simp only [Fo.count] at hN hc
    have HAT := Lib.hid hat
    have HA := Lib.hid hA
    have HK := Lib.hid hk
    have IH := Lib.hid ih
    have hbl := hat.lt
    obtain ⟨a0, a1, a2, a3, a4⟩ := hat
    unfold C at a1
    obtain ⟨i0, hi, hz0, hz1, hz2⟩ := info_parts info25
    clear hA hk hr ih
    go_enter Tryd.func13, Tryd.ntmps13
    go_wp2
    go_still_tail 17, (by kernel_rfl)
    change wpList _ _ _ _ _ w.drew
    have A4 := Lib.hid a4
    go_wp2
    go_loopw [4] (fun i wr => ∃ (j : Nat) (sv : Value) (g r : Fo) (xs : List Value), j ≤ ks.length ∧ i = .int .i64 j ∧ xs.length = j ∧ r.count ≤ k.count ∧ Hid (Bld (fun _ => False) w wr w.heap.size d sv g xs) ∧ Hid (k = g.app r) ∧ Hid (RepS (fun x => x < w.heap.size) wr r (ks.drop j)) ∧ Hid (Reads wr w.heap.size 1 A ks.length ks)) (fun i _ => ks.length - (intOf i).toNat)
    case atStart =>
      exact ⟨0, .slice none 0 0, .no, k, [], Nat.zero_le _, rfl, rfl, Nat.le_refl _, Lib.hid (Bld.start (Blk.new w.drew 46 _) (Nat.le_refl _) (start_bel _ _)), Lib.hid rfl, Lib.hid (HK.out.lt_.below (start_bel _ _)), Lib.hid (HA.out.below (start_bel _ _))⟩
    case round =>
      obtain ⟨j, sv, g, r, xs, hj, rfl, hxs, hrc, HB, HF, HR, HR2⟩ := hrel
      clear a0 a1 a2 a3 a4
      obtain ⟨m4, m4f, hbl2⟩ := HB.out.sv
      have c4 := (HB.out.bel.cell (p := ⟨b, 4, none⟩) hbl).trans A4.out
      have hi0 : (0 : Int) ≤ (j : Int) := by omega
      by_cases hlt : j < ks.length
      · have hi1 : (j : Int) < (ks.length : Int) := by omega
        obtain ⟨d1, k1, r1, rfl, g1, g2⟩ := HR.out.at_ hlt
        obtain ⟨b1, off, rfl, hcell⟩ := Reads.nth HR2.out hlt
        simp only [Fo.count] at hrc
        have c1 := fun (W : World) (h : Rep W (.node d1 k1 .no) [ks[j]]) => IH.out d1 k1 _ W (by simp [Fo.count]; omega) (by simp [Fo.count]; omega) h
        have C1 := Lib.hid c1
        have G1 := Lib.hid g1.rep
        have G2 := Lib.hid g2
        have HBD := Lib.hid HB.out.drew
        have hbd : wr.drew.heap.size = wr.heap.size := rfl
        clear c1 g1 g2 HR hbd
        generalize ks[j] = u at *
        go_wp2
        go_region_law (first
          | (go_simp; go_at_call 13; refine (C1.out _ G1.out.drew).mono ?_; rintro e x ⟨u', rfl, hb, hr⟩; obtain ⟨b2, _, _, _, rfl, _⟩ := hr.rep.one; have HBX := Lib.hid (HBD.out.below hb); have X := Lib.hid (And.intro hb hr); clear hb hr; obtain ⟨t4, t4f, _⟩ := HBX.out.sv; have Q := copy_facts HBX.out hxs (by omega) (u' := .pointer (some ⟨b2, 0, none⟩)) rfl)
          | (refine step_append_lies _ (by rfl) _ _ _ (by rfl) w.heap.size 25 i0 _ 1 8 Tryd.underlying42 hi hz0 hz1 hz2 rfl (by omega) sv j xs (by rfl) Q.out.2.2.2.2 ⟨x.heap.size, 0, none⟩ 1 1 [.pointer (some ⟨b2, 0, none⟩)] (by rfl) (by rfl) Q.out.1 Q.out.2.1 (by omega) Q.out.2.2.1 (by omega) Q.out.2.2.2.1 (x.heap.size + 1) (by simp) ?_; intro g' cap w1 hown1 hgrow hor hlt1; obtain ⟨s4, s4f⟩ := Bld.after HBX.out hgrow; have HO := Lib.hid (And.intro hown1 (And.intro hgrow hor)); clear hown1 hgrow hor))
        all_goals
          go_wp2
          go_roundw
          case rel =>
            refine ⟨j + 1, .slice (some ⟨g', 0, none⟩) (j + 1) cap, g.snoc d1 k1, r1, xs ++ [.pointer (some ⟨b2, 0, none⟩)], by omega, by go_num, by simp [hxs], by omega, Lib.hid ?_, Lib.hid (by rw [HF.out, Fo.snoc_app]), Lib.hid ?_, Lib.hid ?_⟩
            · have hs := Bld.step (HBX.out.below ((Below.refl _ _).alloc (Nat.le_refl _) (.cells #[.pointer (some ⟨b2, 0, none⟩)] 25))) ((HBD.out.newer X.out.2).below ((Below.refl _ _).alloc (Nat.le_refl _) (.cells #[.pointer (some ⟨b2, 0, none⟩)] 25))) (by rw [hxs]; exact HO.out.1) HO.out.2.1 (by rcases HO.out.2.2 with h | h; exact .inl h; exact .inr (by rw [h]; simp))
              rw [hxs] at hs
              exact hs
            · refine RepS.keep (w := x) ?_ (fun y hy hl => keep_old HBX.out HO.out.2.1 hy hl) (fun _ h _ => h) (RepS.below X.out.1 G2.out.drew)
              have := HO.out.2.1.size; simp at this ⊢; omega
            · refine (HR2.out.drew.below (X.out.1.mono ?_)).keep fun p hp => World.cell?_of_block ?_
              · exact HB.out.bel.size
              · exact keep_old HBX.out HO.out.2.1 hp (by have := HBX.out.bel.size; omega)
          case measure => simp [intOf]; omega
      · have he := HR.out.rep.end_ hlt
        subst he
        have HD := Lib.hid (HB.out.done.more (S' := fun x => w.heap.size ≤ x) fun x h _ => h.resolve_left id)
        have HL := Lib.hid HB.out.bel
        have HG := Lib.hid (show k = g by rw [HF.out, Fo.app_no])
        clear HR HB HF
        go_wp2
        go_ret
        exact ⟨_, rfl, HL.out, by rw [HG.out]; exact HD.out⟩

end Go.Proofs.YtdpdoigmjnkmdaaDoor.Tr
