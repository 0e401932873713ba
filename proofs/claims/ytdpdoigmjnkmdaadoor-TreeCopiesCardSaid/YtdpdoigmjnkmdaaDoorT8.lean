/- The walk of Copy. -/
import Derived.Test.YtdpdoigmjnkmdaaDoorT7
import Derived.Deep.RegionLaw
set_option linter.unusedSimpArgs false
set_option linter.unusedVariables false
namespace Go.Proofs.YtdpdoigmjnkmdaaDoor.Tr
open Go.RowKit
open Fl

theorem run_store_complex {P : Program} {w : World} {a : Addr} {m : Mode} (k : FloatKind) (x y : Nat) : (store a (.complex k x y) m).run P w = stored P w a (.complex k x y) m := run_store P w a _ m rfl
attribute [local go_sem] run_store_complex
theorem RepS.at_ {S : Nat → Prop} {w : World} {f : Fo} {vs : List Value} {i : Nat} (h : RepS S w f (vs.drop i)) (hi : i < vs.length) : ∃ d k r, f = .node d k r ∧ RepS S w (.node d k .no) [vs[i]] ∧ RepS S w r (vs.drop (i + 1)) := by
  cases f with
  | no => unfold RepS at h; simp at h; omega
  | node d k r =>
    unfold RepS at h
    obtain ⟨b, A, c, ks, vs', e, h2, h3, h4, h5, h6, h7⟩ := h
    rw [List.drop_eq_getElem_cons hi] at e
    simp only [List.cons.injEq] at e
    obtain ⟨e1, rfl⟩ := e
    refine ⟨d, k, r, rfl, ?_, h7⟩
    unfold RepS
    exact ⟨b, A, c, ks, [], by rw [e1], h2, h3, h4, h5, h6, by unfold RepS; rfl⟩
theorem RepS.drew {S : Nat → Prop} {w : World} {f : Fo} {vs : List Value} (h : RepS S w f vs) : RepS S w.drew f vs := h.below (below_drewN (Below.refl _ _) 1)
theorem Rep.drew {w : World} {f : Fo} {vs : List Value} (h : Rep w f vs) : Rep w.drew f vs := h.drewN 1
/-- What an append of one pointer asks, in a world x in which a node is being built. -/
theorem copy_facts {S : Nat → Prop} {w0 x : World} {b : Nat} {d : Nd} {sv u' : Value} {f : Fo} {xs : List Value} {j : Nat} (h : Bld S w0 x b d sv f xs) (hxs : xs.length = j) (hj : j ≤ 1000000) (hu : u'.oneCell' = true) :
    Hid ((∀ i v, [u'][i]? = some v → (x.alloc (.cells #[u'] 25)).cell? ((⟨x.heap.size, 0, none⟩ : Addr).add i) = some v) ∧ (∀ v ∈ [u'], v.oneCell' = true) ∧ j + 1 ≤ maxLen ∧ w0.heap.size ≤ (x.alloc (.cells #[u'] 25)).heap.size ∧ (x.alloc (.cells #[u'] 25)).ownsRow w0.heap.size 25 1 sv j xs) := by
  refine Lib.hid ⟨World.news_of_block (cs := #[u']) (t := 25) (fr := (0, 0)) (heap_alloc_new x _), fun v hv => ?_, by unfold maxLen; omega, ?_, ?_⟩
  · simp only [List.mem_singleton] at hv; subst hv; exact hu
  · have := h.bel.size; simp; omega
  · rw [← hxs]; exact h.own.alloc _
theorem Bld.drew {S : Nat → Prop} {w0 w : World} {b : Nat} {d : Nd} {sv : Value} {f : Fo} {xs : List Value} (h : Bld S w0 w b d sv f xs) : Bld S w0 w.drew b d sv f xs := h.below (below_drewN (Below.refl _ _) 1)

set_option maxRecDepth 100000 in
set_option maxHeartbeats 6400000 in
theorem copy_any (N : Nat) : ∀ (d : Nd) (k : Fo) (v : Value) (w : World), (Fo.node d k .no).count ≤ N → (Fo.node d k .no).count ≤ 1000000 → Rep w (.node d k .no) [v] →
    Calls Tryd.prog 23 #[v] w fun e w' => ∃ u, e = .returned u ∧ Below w.heap.size w w' ∧ RepS (fun x => w.heap.size ≤ x) w' (.node d k .no) [u] := by
  induction N with
  | zero => intro d k v w h; simp [Fo.count] at h
  | succ N ih =>
    intro d k v w hN hc hr
    obtain ⟨b, A, c, ks, rfl, hat, hA, hk⟩ := hr.one
    have hle := Reads.len_le (B := 0) (A := none) hk
    simp only [Fo.count] at hN hc
    have HAT := Lib.hid hat
    have HA := Lib.hid hA
    have HK := Lib.hid hk
    have IH := Lib.hid ih
    have hbl := hat.lt
    obtain ⟨a0, a1, a2, a3, a4⟩ := hat
    unfold C at a1
    obtain ⟨i0, hi, hz0, hz1, hz2⟩ := info_parts info25
    clear hA hk hr ih
    go_enter Tryd.func23, Tryd.ntmps23
    go_wp2
    go_loopw [17] (fun i wr => ∃ (j : Nat) (sv : Value) (g r : Fo) (xs : List Value), j ≤ ks.length ∧ i = .int .i64 j ∧ xs.length = j ∧ r.count ≤ k.count ∧ Hid (Bld (fun _ => False) w wr w.heap.size d sv g xs) ∧ Hid (k = g.app r) ∧ Hid (RepS (fun x => x < w.heap.size) wr r (ks.drop j)) ∧ Hid (Reads wr w.heap.size 1 A ks.length ks)) (fun i _ => ks.length - (intOf i).toNat)
    case atStart =>
      exact ⟨0, .slice none 0 0, .no, k, [], Nat.zero_le _, rfl, rfl, Nat.le_refl _, Lib.hid (Bld.start (Blk.new w 46 _) (Nat.le_refl _) ((Below.refl _ _).alloc (Nat.le_refl _) _)), Lib.hid rfl, Lib.hid (HK.out.lt_.below ((Below.refl _ _).alloc (Nat.le_refl _) _)), Lib.hid (HA.out.alloc (Nat.le_refl _) _)⟩
    case round =>
      obtain ⟨j, sv, g, r, xs, hj, rfl, hxs, hrc, HB, HF, HR, HR2⟩ := hrel
      clear a0 a1 a2 a3 a4
      obtain ⟨m4, m4f, hbl2⟩ := HB.out.sv
      by_cases hlt : j < ks.length
      · obtain ⟨d1, k1, r1, rfl, g1, g2⟩ := HR.out.at_ hlt
        obtain ⟨b1, off, rfl, hcell⟩ := Reads.nth HR2.out hlt
        simp only [Fo.count] at hrc
        have c1 := fun (W : World) (h : Rep W (.node d1 k1 .no) [ks[j]]) => IH.out d1 k1 _ W (by simp [Fo.count]; omega) (by simp [Fo.count]; omega) h
        have C1 := Lib.hid c1
        have G1 := Lib.hid g1.rep
        have G2 := Lib.hid g2
        have HBD := Lib.hid HB.out.drew
        have hbd : wr.drew.heap.size = wr.heap.size := rfl
        clear c1 g1 g2 HR hbd
        generalize ks[j] = u at *
        go_wp2
        go_region_law (first
          | (go_simp; go_at_call 23; refine (C1.out _ G1.out.drew).mono ?_; rintro e x ⟨u', rfl, hb, hr⟩; obtain ⟨b2, _, _, _, rfl, _⟩ := hr.rep.one; have HBX := Lib.hid (HBD.out.below hb); have X := Lib.hid (And.intro hb hr); clear hb hr; obtain ⟨t4, t4f, _⟩ := HBX.out.sv; have Q := copy_facts HBX.out hxs (by omega) (u' := .pointer (some ⟨b2, 0, none⟩)) rfl)
          | (refine step_append_lies _ (by rfl) _ _ _ (by rfl) w.heap.size 25 i0 _ 1 8 Tryd.underlying42 hi hz0 hz1 hz2 rfl (by omega) sv j xs (by rfl) Q.out.2.2.2.2 ⟨x.heap.size, 0, none⟩ 1 1 [.pointer (some ⟨b2, 0, none⟩)] (by rfl) (by rfl) Q.out.1 Q.out.2.1 (by omega) Q.out.2.2.1 (by omega) Q.out.2.2.2.1 (x.heap.size + 1) (by simp) ?_; intro g' cap w1 hown1 hgrow hor hlt1; obtain ⟨s4, s4f⟩ := Bld.after HBX.out hgrow; have HO := Lib.hid (And.intro hown1 (And.intro hgrow hor)); clear hown1 hgrow hor))
        all_goals
          go_wp2
          go_roundw
          case rel =>
            refine ⟨j + 1, .slice (some ⟨g', 0, none⟩) (j + 1) cap, g.snoc d1 k1, r1, xs ++ [.pointer (some ⟨b2, 0, none⟩)], by omega, by go_num, by simp [hxs], by omega, Lib.hid ?_, Lib.hid (by rw [HF.out, Fo.snoc_app]), Lib.hid ?_, Lib.hid ?_⟩
            · have hs := Bld.step (HBX.out.below ((Below.refl _ _).alloc (Nat.le_refl _) (.cells #[.pointer (some ⟨b2, 0, none⟩)] 25))) ((HBD.out.newer X.out.2).below ((Below.refl _ _).alloc (Nat.le_refl _) (.cells #[.pointer (some ⟨b2, 0, none⟩)] 25))) (by rw [hxs]; exact HO.out.1) HO.out.2.1 (by rcases HO.out.2.2 with h | h; exact .inl h; exact .inr (by rw [h]; simp))
              rw [hxs] at hs
              exact hs
            · refine RepS.keep (w := x) ?_ (fun y hy hl => keep_old HBX.out HO.out.2.1 hy hl) (fun _ h _ => h) (RepS.below X.out.1 G2.out.drew)
              have := HO.out.2.1.size; simp at this ⊢; omega
            · refine (HR2.out.drew.below (X.out.1.mono ?_)).keep fun p hp => World.cell?_of_block ?_
              · exact HB.out.bel.size
              · exact keep_old HBX.out HO.out.2.1 hp (by have := HBX.out.bel.size; omega)
          case measure => simp [intOf]; omega
      · have he := HR.out.rep.end_ hlt
        subst he
        have HD := Lib.hid (HB.out.done.more (S' := fun x => w.heap.size ≤ x) fun x h _ => h.resolve_left id)
        have HL := Lib.hid HB.out.bel
        have HG := Lib.hid (show k = g by rw [HF.out, Fo.app_no])
        clear HR HB HF
        go_wp2
        go_ret
        exact ⟨_, rfl, HL.out, by rw [HG.out]; exact HD.out⟩

end Go.Proofs.YtdpdoigmjnkmdaaDoor.Tr
