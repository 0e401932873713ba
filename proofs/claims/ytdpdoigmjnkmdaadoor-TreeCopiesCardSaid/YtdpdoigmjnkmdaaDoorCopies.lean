/- Trees whose blocks are all different, and the walk of Copy that gives such. -/
import Derived.Test.YtdpdoigmjnkmdaaDoorT8
import Derived.Deep.RegionLaw
import Derived.Deep.Onto
import Derived.Test.YtdpdoigmjnkmdaaDoorT31
import Derived.Test.YtdpdoigmjnkmdaaDoorT33
import Derived.Test.YtdpdoigmjnkmdaaDoorT40
set_option linter.unusedSimpArgs false
set_option linter.unusedVariables false

namespace Go.Proofs.YtdpdoigmjnkmdaaDoor.Tr
open Go.RowKit
open Fl

/-- A row of trees within blocks of which T holds, no block used twice. -/
def RepF (T : Nat → Prop) (w : World) : Fo → List Value → Prop
  | .no, vs => vs = []
  | .node d k r, vs => ∃ (T1 : Nat → Prop) (b : Nat) (sv : Value) (ks vs' : List Value), vs = .pointer (some ⟨b, 0, none⟩) :: vs' ∧ (∀ x, T1 x → T x) ∧ T1 b ∧ Blk w b 46 (cellsN d sv) ∧ w.ownsRow 0 25 1 sv ks.length ks ∧ (∀ g, sv.ownBlock = some g → T1 g) ∧
      RepF (fun x => T1 x ∧ x ≠ b ∧ sv.ownBlock ≠ some x) w k ks ∧ RepF (fun x => T x ∧ ¬ T1 x) w r vs'
theorem own_keep {w w' : World} {base : Nat} {e : TypeId} {size : Nat} {v : Value} {n : Nat} {xs : List Value} (h : w.ownsRow base e size v n xs) (hk : ∀ g, v.ownBlock = some g → w'.heap[g]? = w.heap[g]?) : w'.ownsRow base e size v n xs := by
  refine ⟨h.1, ?_⟩
  rcases h.2 with h0 | ⟨g, cap, cur, hv, hb, hg, h3⟩
  · exact .inl h0
  · subst hv
    exact .inr ⟨g, cap, cur, rfl, hb, (hk g rfl).trans hg, h3⟩
theorem RepF.keep {T T' : Nat → Prop} {w w' : World} (hk : ∀ x, T x → x < w.heap.size → w'.heap[x]? = w.heap[x]?) (hT : ∀ x, T x → x < w.heap.size → T' x) : ∀ {f : Fo} {vs : List Value}, RepF T w f vs → RepF T' w' f vs
  | .no, vs, h => by unfold RepF at h ⊢; exact h
  | .node d k r, vs, h => by
    unfold RepF at h ⊢
    obtain ⟨T1, b, sv, ks, vs', h1, h2, h3, h4, h5, h6, h7, h8⟩ := h
    refine ⟨fun x => T1 x ∧ x < w.heap.size, b, sv, ks, vs', h1, fun x hx => hT x (h2 x hx.1) hx.2, ⟨h3, h4.lt⟩, (hk b (h2 b h3) h4.lt).trans h4, own_keep h5 fun g hg => hk g (h2 g (h6 g hg)) (h5.lt g hg).2, fun g hg => ⟨h6 g hg, (h5.lt g hg).2⟩, ?_, ?_⟩
    · exact RepF.keep (fun x hx hl => hk x (h2 x hx.1) hl) (fun x hx hl => ⟨⟨hx.1, hl⟩, hx.2⟩) h7
    · exact RepF.keep (fun x hx hl => hk x hx.1 hl) (fun x hx hl => ⟨hT x hx.1 hl, fun h => hx.2 h.1⟩) h8
theorem RepF.below {T : Nat → Prop} {w w' : World} (hb : Below w.heap.size w w') {f : Fo} {vs : List Value} (h : RepF T w f vs) : RepF T w' f vs :=
  h.keep (fun x _ hx => hb.block x hx) (fun x hx _ => hx)
theorem RepF.more {T T' : Nat → Prop} {w : World} {f : Fo} {vs : List Value} (h : RepF T w f vs) (hT : ∀ x, T x → x < w.heap.size → T' x) : RepF T' w f vs :=
  h.keep (fun _ _ _ => rfl) hT
theorem RepF.drew {T : Nat → Prop} {w : World} {f : Fo} {vs : List Value} (h : RepF T w f vs) : RepF T w.drew f vs := h.below (below_drewN (Below.refl _ _) 1)
theorem RepF.snoc {T' : Nat → Prop} {w : World} {d : Nd} {k : Fo} {v : Value} (h2 : RepF T' w (.node d k .no) [v]) : ∀ {T U : Nat → Prop} {f : Fo} {vs : List Value}, (∀ x, T x → U x) → (∀ x, T' x → U x ∧ ¬ T x) → RepF T w f vs → RepF U w (f.snoc d k) (vs ++ [v])
  | T, U, .no, vs, _, hU, h => by unfold RepF at h; subst h; exact h2.more fun x hx _ => (hU x hx).1
  | T, U, .node d' k' r, vs, hTU, hU, h => by
    unfold RepF at h
    obtain ⟨T1, b, sv, ks, vs', rfl, g2, g3, g4, g5, g6, g7, g8⟩ := h
    show RepF U w (.node d' k' (r.snoc d k)) _
    unfold RepF
    exact ⟨T1, b, sv, ks, vs' ++ [v], rfl, fun x hx => hTU x (g2 x hx), g3, g4, g5, g6, g7, RepF.snoc h2 (fun x hx => ⟨hTU x hx.1, hx.2⟩) (fun x hx => ⟨⟨(hU x hx).1, fun h => (hU x hx).2 (g2 x h)⟩, fun h => (hU x hx).2 h.1⟩) g8⟩
theorem RepF.mk {U : Nat → Prop} {w : World} {b base : Nat} {d : Nd} {s : Value} {f : Fo} {xs : List Value} (hb : Blk w b 46 (cellsN d s)) (hown : w.ownsRow base 25 1 s xs.length xs) (hk : RepF (fun x => U x ∧ x ≠ b ∧ s.ownBlock ≠ some x) w f xs) (hUb : U b) (hUr : ∀ g, s.ownBlock = some g → U g) :
    RepF U w (.node d f .no) [.pointer (some ⟨b, 0, none⟩)] := by
  unfold RepF
  exact ⟨U, b, s, xs, [], rfl, fun x h => h, hUb, hb, hown.mono (Nat.zero_le _), hUr, hk, by unfold RepF; rfl⟩
theorem RepF.at_ {T : Nat → Prop} {w : World} {f : Fo} {vs : List Value} {i : Nat} (h : RepF T w f (vs.drop i)) (hi : i < vs.length) : ∃ d k r T1, f = .node d k r ∧ (∀ x, T1 x → T x) ∧ RepF T1 w (.node d k .no) [vs[i]] ∧ RepF (fun x => T x ∧ ¬ T1 x) w r (vs.drop (i + 1)) := by
  cases f with
  | no => unfold RepF at h; simp at h; omega
  | node d k r =>
    unfold RepF at h
    obtain ⟨T1, b, sv, ks, vs', e, h2, h3, h4, h5, h6, h7, h8⟩ := h
    rw [List.drop_eq_getElem_cons hi] at e
    simp only [List.cons.injEq] at e
    obtain ⟨e1, rfl⟩ := e
    refine ⟨d, k, r, T1, rfl, h2, ?_, h8⟩
    unfold RepF
    exact ⟨T1, b, sv, ks, [], by rw [e1], fun x h => h, h3, h4, h5, h6, h7, by unfold RepF; rfl⟩
theorem RepF.one {T : Nat → Prop} {w : World} {d : Nd} {k : Fo} {v : Value} (h : RepF T w (.node d k .no) [v]) : ∃ b sv ks, v = .pointer (some ⟨b, 0, none⟩) ∧ T b ∧ Blk w b 46 (cellsN d sv) ∧ w.ownsRow 0 25 1 sv ks.length ks ∧ (∀ g, sv.ownBlock = some g → T g) ∧ RepF (fun x => T x ∧ x ≠ b ∧ sv.ownBlock ≠ some x) w k ks := by
  unfold RepF at h
  obtain ⟨T1, b, sv, ks, vs', h1, h2, h3, h4, h5, h6, h7, h8⟩ := h
  simp only [List.cons.injEq] at h1
  exact ⟨b, sv, ks, h1.1, h2 b h3, h4, h5, fun g hg => h2 g (h6 g hg), h7.more fun x hx _ => ⟨h2 x hx.1, hx.2⟩⟩
theorem rf_step {w0 W w1 : World} {b g cap X : Nat} {d dk : Nd} {sv v : Value} {f k : Fo} {xs : List Value} (hX : w0.heap.size ≤ X) (hbX : b < X) (hsX : ∀ q, sv.ownBlock = some q → q < X)
    (hf : RepF (fun x => Apart (fun _ => False) w0 b sv x ∧ x < X) W f xs) (hk : RepF (fun x => X ≤ x) W (.node dk k .no) [v]) (hg : W.grownBy w1 sv.ownBlock) (hor : sv.ownBlock = some g ∨ g = W.heap.size) :
    RepF (Apart (fun _ => False) w0 b (.slice (some ⟨g, 0, none⟩) (xs.length + 1) cap)) (w1.setCell ⟨b, 4, none⟩ (.slice (some ⟨g, 0, none⟩) (xs.length + 1) cap)) (f.snoc dk k) (xs ++ [v]) := by
  have hkeep : ∀ x, x ≠ b → sv.ownBlock ≠ some x → x < W.heap.size → (w1.setCell ⟨b, 4, none⟩ (.slice (some ⟨g, 0, none⟩) (xs.length + 1) cap)).heap[x]? = W.heap[x]? := by
    intro x x2 x3 hl
    rw [Below.heap_setCell w1 ⟨b, 4, none⟩ _ x x2]
    exact hg.block x hl (fun e => x3 e.symm)
  have hge : ∀ x, sv.ownBlock ≠ some x → x < W.heap.size → (Value.slice (some ⟨g, 0, none⟩) (xs.length + 1) cap).ownBlock ≠ some x := by
    intro x x3 hl
    show some g ≠ some x
    intro e
    injection e with e
    subst e
    rcases hor with hor | hor
    · exact x3 hor
    · omega
  have hsx : ∀ x, X ≤ x → sv.ownBlock ≠ some x := fun x hx e => by have := hsX x e; omega
  have h1 : RepF (fun x => Apart (fun _ => False) w0 b (.slice (some ⟨g, 0, none⟩) (xs.length + 1) cap) x ∧ x < X) _ f xs := hf.keep (fun x hx hl => hkeep x hx.1.2.1 hx.1.2.2 hl) (fun x hx hl => ⟨⟨hx.1.1, hx.1.2.1, hge x hx.1.2.2 hl⟩, hx.2⟩)
  have h2 : RepF (fun x => Apart (fun _ => False) w0 b (.slice (some ⟨g, 0, none⟩) (xs.length + 1) cap) x ∧ X ≤ x) _ (.node dk k .no) [v] := hk.keep (fun x hx hl => hkeep x (by omega) (hsx x hx) hl) (fun x hx hl => ⟨⟨.inr (by omega), by omega, hge x (hsx x hx) hl⟩, hx⟩)
  exact RepF.snoc h2 (fun x hx => hx.1) (fun x hx => ⟨hx.1, fun h => by have := hx.2; have := h.2; omega⟩) h1

theorem run_store_complex' {P : Program} {w : World} {a : Addr} {m : Mode} (k : FloatKind) (x y : Nat) : (store a (.complex k x y) m).run P w = stored P w a (.complex k x y) m := run_store P w a _ m rfl
attribute [local go_sem] run_store_complex'

set_option maxRecDepth 100000 in
set_option maxHeartbeats 6400000 in
theorem copyF_any (N : Nat) : ∀ (d : Nd) (k : Fo) (v : Value) (w : World), (Fo.node d k .no).count ≤ N → (Fo.node d k .no).count ≤ 1000000 → Rep w (.node d k .no) [v] →
    Calls Tryd.prog 23 #[v] w fun e w' => ∃ u, e = .returned u ∧ Below w.heap.size w w' ∧ RepS (fun x => w.heap.size ≤ x) w' (.node d k .no) [u] ∧ RepF (fun x => w.heap.size ≤ x) w' (.node d k .no) [u] := by
  induction N with
  | zero => intro d k v w h; simp [Fo.count] at h
  | succ N ih =>
    intro d k v w hN hc hr
    obtain ⟨b, A, c, ks, rfl, hat, hA, hk⟩ := hr.one
    have hle := Reads.len_le (B := 0) (A := none) hk
    simp only [Fo.count] at hN hc
    have HAT := Lib.hid hat
    have HA := Lib.hid hA
    have HK := Lib.hid hk
    have IH := Lib.hid ih
    have hbl := hat.lt
    obtain ⟨a0, a1, a2, a3, a4⟩ := hat
    unfold C at a1
    obtain ⟨i0, hi, hz0, hz1, hz2⟩ := info_parts info25
    clear hA hk hr ih
    go_enter Tryd.func23, Tryd.ntmps23
    go_wp2
    go_loopw [17] (fun i wr => ∃ (j : Nat) (sv : Value) (g r : Fo) (xs : List Value), j ≤ ks.length ∧ i = .int .i64 j ∧ xs.length = j ∧ r.count ≤ k.count ∧ Hid (Bld (fun _ => False) w wr w.heap.size d sv g xs) ∧ Hid (k = g.app r) ∧ Hid (RepS (fun x => x < w.heap.size) wr r (ks.drop j)) ∧ Hid (Reads wr w.heap.size 1 A ks.length ks) ∧ Hid (RepF (Apart (fun _ => False) w w.heap.size sv) wr g xs)) (fun i _ => ks.length - (intOf i).toNat)
    case atStart =>
      exact ⟨0, .slice none 0 0, .no, k, [], Nat.zero_le _, rfl, rfl, Nat.le_refl _, Lib.hid (Bld.start (Blk.new w 46 _) (Nat.le_refl _) ((Below.refl _ _).alloc (Nat.le_refl _) _)), Lib.hid rfl, Lib.hid (HK.out.lt_.below ((Below.refl _ _).alloc (Nat.le_refl _) _)), Lib.hid (HA.out.alloc (Nat.le_refl _) _), Lib.hid (by unfold RepF; rfl)⟩
    case round =>
      obtain ⟨j, sv, g, r, xs, hj, rfl, hxs, hrc, HB, HF, HR, HR2, HRF⟩ := hrel
      clear a0 a1 a2 a3 a4
      obtain ⟨m4, m4f, hbl2⟩ := HB.out.sv
      by_cases hlt : j < ks.length
      · obtain ⟨d1, k1, r1, rfl, g1, g2⟩ := HR.out.at_ hlt
        obtain ⟨b1, off, rfl, hcell⟩ := Reads.nth HR2.out hlt
        simp only [Fo.count] at hrc
        have c1 := fun (W : World) (h : Rep W (.node d1 k1 .no) [ks[j]]) => IH.out d1 k1 _ W (by simp [Fo.count]; omega) (by simp [Fo.count]; omega) h
        have C1 := Lib.hid c1
        have G1 := Lib.hid g1.rep
        have G2 := Lib.hid g2
        have HBD := Lib.hid HB.out.drew
        have HFD := Lib.hid HRF.out.drew
        have hbd : wr.drew.heap.size = wr.heap.size := rfl
        clear c1 g1 g2 HR hbd
        generalize ks[j] = u at *
        go_wp2
        go_region_law (first
          | (go_simp; go_at_call 23; refine (C1.out _ G1.out.drew).mono ?_; rintro e x ⟨u', rfl, hb, hr, hrf⟩; obtain ⟨b2, _, _, _, rfl, _⟩ := hr.rep.one; have HBX := Lib.hid (HBD.out.below hb); have X := Lib.hid (And.intro hb (And.intro hr hrf)); clear hb hr hrf; obtain ⟨t4, t4f, _⟩ := HBX.out.sv; have Q := copy_facts HBX.out hxs (by omega) (u' := .pointer (some ⟨b2, 0, none⟩)) rfl)
          | (refine step_append_lies _ (by rfl) _ _ _ (by rfl) w.heap.size 25 i0 _ 1 8 Tryd.underlying42 hi hz0 hz1 hz2 rfl (by omega) sv j xs (by rfl) Q.out.2.2.2.2 ⟨x.heap.size, 0, none⟩ 1 1 [.pointer (some ⟨b2, 0, none⟩)] (by rfl) (by rfl) Q.out.1 Q.out.2.1 (by omega) Q.out.2.2.1 (by omega) Q.out.2.2.2.1 (x.heap.size + 1) (by simp) ?_; intro g' cap w1 hown1 hgrow hor hlt1; obtain ⟨s4, s4f⟩ := Bld.after HBX.out hgrow; have HO := Lib.hid (And.intro hown1 (And.intro hgrow hor)); clear hown1 hgrow hor))
        all_goals
          go_wp2
          go_roundw
          case rel =>
            refine ⟨j + 1, .slice (some ⟨g', 0, none⟩) (j + 1) cap, g.snoc d1 k1, r1, xs ++ [.pointer (some ⟨b2, 0, none⟩)], by omega, by go_num, by simp [hxs], by omega, Lib.hid ?_, Lib.hid (by rw [HF.out, Fo.snoc_app]), Lib.hid ?_, Lib.hid ?_, Lib.hid ?_⟩
            · have hs := Bld.step (HBX.out.below ((Below.refl _ _).alloc (Nat.le_refl _) (.cells #[.pointer (some ⟨b2, 0, none⟩)] 25))) ((HBD.out.newer X.out.2.1).below ((Below.refl _ _).alloc (Nat.le_refl _) (.cells #[.pointer (some ⟨b2, 0, none⟩)] 25))) (by rw [hxs]; exact HO.out.1) HO.out.2.1 (by rcases HO.out.2.2 with h | h; exact .inl h; exact .inr (by rw [h]; simp))
              rw [hxs] at hs
              exact hs
            · refine RepS.keep (w := x) ?_ (fun y hy hl => keep_old HBX.out HO.out.2.1 hy hl) (fun _ h _ => h) (RepS.below X.out.1 G2.out.drew)
              have := HO.out.2.1.size; simp at this ⊢; omega
            · refine (HR2.out.drew.below (X.out.1.mono ?_)).keep fun p hp => World.cell?_of_block ?_
              · exact HB.out.bel.size
              · exact keep_old HBX.out HO.out.2.1 hp (by have := HBX.out.bel.size; omega)
            · have hfa := (((HFD.out.more (T' := fun y => Apart (fun _ => False) w w.heap.size sv y ∧ y < wr.drew.heap.size) fun y hy hl => ⟨hy, hl⟩).below X.out.1).below ((Below.refl _ _).alloc (Nat.le_refl _) (.cells #[.pointer (some ⟨b2, 0, none⟩)] 25)))
              have hs := rf_step (d := d) (cap := cap) HBD.out.bel.size (HBD.out.sv.2.2) (fun q hq => (HBD.out.own.lt q hq).2) hfa (X.out.2.2.below ((Below.refl _ _).alloc (Nat.le_refl _) (.cells #[.pointer (some ⟨b2, 0, none⟩)] 25))) HO.out.2.1 (by rcases HO.out.2.2 with h | h; exact .inl h; exact .inr (by rw [h]; simp))
              rw [hxs] at hs
              exact hs
          case measure => simp [intOf]; omega
      · have he := HR.out.rep.end_ hlt
        subst he
        have HD := Lib.hid (HB.out.done.more (S' := fun x => w.heap.size ≤ x) fun x h _ => h.resolve_left id)
        have HL := Lib.hid HB.out.bel
        have HG := Lib.hid (show k = g by rw [HF.out, Fo.app_no])
        have HM := Lib.hid (show RepF (fun x => w.heap.size ≤ x) wr (.node d g .no) [.pointer (some ⟨w.heap.size, 0, none⟩)] from RepF.mk HB.out.1 HB.out.own (HRF.out.more fun x hx _ => ⟨hx.1.resolve_left id, hx.2⟩) (Nat.le_refl _) (fun q hq => (HB.out.own.lt q hq).1))
        clear HR HB HF HRF
        go_wp2
        go_ret
        exact ⟨_, rfl, HL.out, by rw [HG.out]; exact HD.out, by rw [HG.out]; exact HM.out⟩
end Go.Proofs.YtdpdoigmjnkmdaaDoor.Tr

namespace Go.Proofs.YtdpdoigmjnkmdaaDoor.Tr
open Go.RowKit
open Fl

/-- Only blocks of which T holds, and new ones, are another than they were. -/
structure Sp (T : Nat → Prop) (w w' : World) : Prop where
  os : w'.os = w.os
  tape : w'.tape = w.tape
  output : w'.output = w.output
  size : w.heap.size ≤ w'.heap.size
  block : ∀ x, x < w.heap.size → ¬ T x → w'.heap[x]? = w.heap[x]?
theorem Sp.refl (T : Nat → Prop) (w : World) : Sp T w w := ⟨rfl, rfl, rfl, Nat.le_refl _, fun _ _ _ => rfl⟩
theorem Sp.trans {T T2 : Nat → Prop} {w w1 w2 : World} (h : Sp T w w1) (h2 : Sp T2 w1 w2) (hT : ∀ x, x < w.heap.size → T2 x → T x) : Sp T w w2 :=
  ⟨h2.os.trans h.os, h2.tape.trans h.tape, h2.output.trans h.output, Nat.le_trans h.size h2.size, fun x hx hn => (h2.block x (Nat.lt_of_lt_of_le hx h.size) (fun e => hn (hT x hx e))).trans (h.block x hx hn)⟩
theorem Sp.setCell {T : Nat → Prop} {w w1 : World} (h : Sp T w w1) {p : Addr} (hp : T p.block) (u : Value) : Sp T w (w1.setCell p u) :=
  ⟨h.os, h.tape, h.output, by simp; exact h.size, fun x hx hn => (Below.heap_setCell w1 p u x (fun e => hn (by rw [e]; exact hp))).trans (h.block x hx hn)⟩
theorem Sp.alloc {T : Nat → Prop} {w w1 : World} (h : Sp T w w1) (o : Obj) : Sp T w (w1.alloc o) :=
  ⟨h.os, h.tape, h.output, by have := h.size; simp; omega, fun x hx hn => (Below.heap_alloc w1 o x (Nat.lt_of_lt_of_le hx h.size)).trans (h.block x hx hn)⟩

theorem Sp.grown {T : Nat → Prop} {w w1 w2 : World} {row : Option Nat} (h : Sp T w w1) (hg : w1.grownBy w2 row) (hr : ∀ q, row = some q → T q) : Sp T w w2 :=
  ⟨hg.os.trans h.os, hg.tape.trans h.tape, hg.output.trans h.output, Nat.le_trans h.size hg.size, fun x hx hn => (hg.block x (Nat.lt_of_lt_of_le hx h.size) (fun e => hn (hr x e.symm))).trans (h.block x hx hn)⟩
theorem RepF.len {w : World} : ∀ {T : Nat → Prop} {f : Fo} {vs : List Value}, RepF T w f vs → vs.length ≤ f.count
  | T, .no, vs, h => by unfold RepF at h; subst h; simp
  | T, .node d k r, vs, h => by
    unfold RepF at h
    obtain ⟨T1, b, sv, ks, vs', rfl, _, _, _, _, _, _, h8⟩ := h
    have := RepF.len h8
    simp only [Fo.count, List.length_cons]
    omega
theorem sp_facts {x : World} {sv u' : Value} {ks : List Value} (h : x.ownsRow 0 25 1 sv ks.length ks) (hj : ks.length ≤ 1000000) (hu : u'.oneCell' = true) :
    Hid ((∀ i v, [u'][i]? = some v → (x.alloc (.cells #[u'] 25)).cell? ((⟨x.heap.size, 0, none⟩ : Addr).add i) = some v) ∧ (∀ v ∈ [u'], v.oneCell' = true) ∧ ks.length + 1 ≤ maxLen ∧ 0 ≤ (x.alloc (.cells #[u'] 25)).heap.size ∧ (x.alloc (.cells #[u'] 25)).ownsRow 0 25 1 sv ks.length ks) := by
  refine Lib.hid ⟨World.news_of_block (cs := #[u']) (t := 25) (fr := (0, 0)) (heap_alloc_new x _), fun v hv => ?_, by unfold maxLen; omega, Nat.zero_le _, h.alloc _⟩
  simp only [List.mem_singleton] at hv; subst hv; exact hu
/-- A node that is being spoilt: its kids' row stands. -/
structure SB (T : Nat → Prop) (w : World) (b : Nat) (sv : Value) (ks : List Value) (wr : World) : Prop where
  blk : ∃ cs, Blk wr b 46 cs ∧ cs[4]? = some sv
  own : wr.ownsRow 0 25 1 sv ks.length ks
  sp : Sp T w wr
theorem SB.step {T T2 : Nat → Prop} {w wr w2 : World} {b : Nat} {sv : Value} {ks : List Value} (h : SB T w b sv ks wr) (h2 : Sp T2 wr w2) (hT : ∀ x, T2 x → T x ∧ x ≠ b ∧ sv.ownBlock ≠ some x) : SB T w b sv ks w2 := by
  obtain ⟨⟨cs, hb, h4⟩, ho, hs⟩ := h
  exact ⟨⟨cs, (h2.block b hb.lt fun e => (hT b e).2.1 rfl).trans hb, h4⟩, own_keep ho fun g hg => h2.block g (ho.lt g hg).2 fun e => (hT g e).2.2 hg, hs.trans h2 fun x _ hx => (hT x hx).1⟩

set_option maxRecDepth 100000 in
set_option maxHeartbeats 6400000 in
theorem spoil_any : ∀ (n : Nat) (d : Nd) (k : Fo) (v : Value) (w : World) (T : Nat → Prop), n ≤ 255 → (Fo.node d k .no).count ≤ 1000000 → (Fo.node d k .no).all Nd.fine → RepF T w (.node d k .no) [v] →
    Calls Tryd.prog 24 #[v, .int .i64 n] w fun e w' => e = .returned (.tuple #[]) ∧ Sp T w w' := by
  intro n
  induction n with
  | zero =>
    intro d k v w T hn hc hfa hr
    obtain ⟨b, sv, ks, rfl, -⟩ := hr.one
    go_enter Tryd.func24, Tryd.ntmps24
    go_wp2
    (try simp only [Exit.inBlock, Exit.then]); refine bodyPost_ret (results_none rfl _ _ _) rfl ?_
    exact ⟨rfl, Sp.refl _ _⟩
  | succ n ih =>
    intro d k v w T hn hc hfa hr
    obtain ⟨b, sv, ks, rfl, hTb, hb, hown, hTg, hk⟩ := hr.one
    obtain ⟨A, c, rfl, hR⟩ := own_form hown
    have m0 := hb.cell 0
    have m1 := hb.cell 1
    have m2 := hb.cell 2
    have m3 := hb.cell 3
    have m4 := hb.cell 4
    have f0 := hb.frozen 0
    have f2 := hb.frozen 2
    have f3 := hb.frozen 3
    have f4 := hb.frozen 4
    simp [cellsN] at m0 m1 m2 m3 m4
    have hbl := hb.lt
    obtain ⟨i0, hi, hz0, hz1, hz2⟩ := info_parts info25
    have hne : (Value.slice A ks.length c).ownBlock ≠ some b := own_blk_ne hown hb (by decide)
    have hnm : d.name.size + 1 ≤ 9223372036854775807 := by have := hfa.1.2.2.2.2.2; omega
    have hfk : k.all Nd.fine := hfa.2.1
    simp only [Fo.count] at hc
    have hkc : k.count ≤ 1000000 := by omega
    have hkl : ks.length ≤ 1000000 := Nat.le_trans hk.len hkc
    have HB := Lib.hid hb
    have HO := Lib.hid hown
    have HK := Lib.hid hk
    have HTB := Lib.hid hTb
    have HTG := Lib.hid hTg
    have HFK := Lib.hid hfk
    have HNE := Lib.hid hne
    have IH := Lib.hid ih
    clear hb hown hk hTb hTg hfa ih hr hR hc hfk hne
    rw [show ((n + 1 : Nat) : Int) = (n : Int) + 1 from by omega]
    go_enter Tryd.func24, Tryd.ntmps24
    go_wp2
    have HSB : Hid (SB T w b (.slice A ks.length c) ks (((w.setCell ⟨b, 0, none⟩ (.int .u8 (((d.kind : Int) + 1) % 256))).setCell ⟨b, 2, none⟩ (.string (d.name ++ ⟨#[120]⟩))).setCell ⟨b, 3, none⟩ (.int .i64 (wrap64 (d.n + 1))))) := by
      refine Lib.hid ⟨⟨_, ((HB.out.set_ 0 _).set_ 2 _).set_ 3 _, by simp [cellsN]⟩, own_keep HO.out fun g hg => ?_, (((Sp.refl T w).setCell HTB.out _).setCell HTB.out _).setCell HTB.out _⟩
      have hgb : g ≠ b := fun e => HNE.out (by rw [hg, e])
      rw [Below.heap_setCell _ _ _ g hgb, Below.heap_setCell _ _ _ g hgb, Below.heap_setCell _ _ _ g hgb]
    go_loopw [4] (fun i wr => ∃ (q : Nat) (r : Fo) (T2 : Nat → Prop), q ≤ ks.length ∧ i = .int .i64 q ∧ r.count ≤ 1000000 ∧ Hid (SB T w b (.slice A ks.length c) ks wr) ∧ Hid (r.all Nd.fine ∧ (∀ x, T2 x → T x ∧ x ≠ b ∧ (Value.slice A ks.length c).ownBlock ≠ some x) ∧ RepF T2 wr r (ks.drop q))) (fun i _ => ks.length - (intOf i).toNat)
    case atStart =>
      refine ⟨0, k, _, Nat.zero_le _, rfl, hkc, HSB, Lib.hid ⟨HFK.out, fun x h => h, HK.out.keep (fun x hx hl => ?_) fun x h _ => h⟩⟩
      rw [Below.heap_setCell _ _ _ x hx.2.1, Below.heap_setCell _ _ _ x hx.2.1, Below.heap_setCell _ _ _ x hx.2.1]
    case round =>
      obtain ⟨q, r, T2, hq, rfl, hrc, HS, HT⟩ := hrel
      clear m0 m1 m2 m3 m4 f0 f2 f3 f4
      obtain ⟨cs, hb2, hs4⟩ := HS.out.blk
      have hs4' := hs4
      have m4 := (hb2.cell 4).trans hs4
      have f4 := hb2.frozen 4
      have hbl2 := hb2.lt
      by_cases hlt : q < ks.length
      case' pos =>
        obtain ⟨t1, t2, t3⟩ := HT.out
        obtain ⟨d1, k1, r1, T1, rfl, g0, g1, g2⟩ := t3.at_ hlt
        have hro := Reads.of_own HS.out.own
        obtain ⟨ba, oa, rfl, hc1⟩ := Reads.nth hro hlt
        simp only [Fo.count] at hrc
        have C1 := Lib.hid (IH.out d1 k1 _ wr T1 (by omega) (by simp [Fo.count]; omega) ⟨t1.1, t1.2.1, trivial⟩ g1)
        have HN := Lib.hid (And.intro (show r1.all Nd.fine from t1.2.2) (And.intro (And.intro t2 g0) g2))
        have hi0 : (0 : Int) ≤ (q : Int) := by omega
        have hi1 : (q : Int) < (ks.length : Int) := by omega
        clear t1 t2 t3 g0 g1 g2 hro HT hb2 hs4
        generalize ks[q] = u at *
        go_wp2_with fail
        ((with_reducible refine C1.out.mono ?_); rintro e w8 ⟨rfl, hs8⟩)
        have HS8 := Lib.hid hs8
        clear hs8 C1 m4 f4 hc1
        go_wp2
        go_roundw
        case rel => exact ⟨q + 1, r1, _, by omega, by go_num, by omega, Lib.hid (HS.out.step HS8.out fun x hx => HN.out.2.1.1 x (HN.out.2.1.2 x hx)), Lib.hid ⟨HN.out.1, fun x hx => HN.out.2.1.1 x hx.1, HN.out.2.2.keep (fun x hx hl => HS8.out.block x hl hx.2) fun x h _ => h⟩⟩
        case measure => simp [intOf]; omega
      have HB2 := Lib.hid hb2
      have hown2 := HS.out.own.alloc (.cells #[.int .u8 0, .complex .f64 0 0, .string ⟨#[]⟩, .int .i64 0, .slice none 0 0] 46)
      have Q := sp_facts hown2 hkl (u' := .pointer (some ⟨wr.heap.size, 0, none⟩)) rfl
      have hb3 := (hb2.alloc (.cells #[.int .u8 0, .complex .f64 0 0, .string ⟨#[]⟩, .int .i64 0, .slice none 0 0] 46)).alloc (.cells #[.pointer (some ⟨wr.heap.size, 0, none⟩)] 25)
      have HB3 := Lib.hid hb3
      clear HT hb2 hs4 hown2 hb3
      go_wp2_with (at_builtin; refine wpList_append_lies _ rfl _ _ _ rfl 0 25 i0 (.pointer none) 1 8 Tryd.underlying42 hi hz0 hz1 hz2 rfl (by omega) _ ks.length ks rfl Q.out.2.2.2.2 ⟨wr.heap.size + 1, 0, none⟩ 1 1 [.pointer (some ⟨wr.heap.size, 0, none⟩)] rfl rfl (by have := Q.out.1; simpa using this) Q.out.2.1 (by omega) Q.out.2.2.1 (by omega) Q.out.2.2.2.1 (wr.heap.size + 2) (by simp) ?_)
      intro g' cap w6 hown1 hgrow hor hlt1
      have hb6 := HB3.out.grown hgrow (fun e => HNE.out e.symm)
      have m6 := (hb6.cell 4).trans hs4'
      have f6 := hb6.frozen 4
      have HSP := Lib.hid (((HS.out.sp.alloc _).alloc _).grown hgrow HTG.out)
      clear hb6 hgrow hown1 hor
      go_wp2
      go_end0
      exact ⟨rfl, HSP.out.setCell HTB.out _⟩
end Go.Proofs.YtdpdoigmjnkmdaaDoor.Tr

namespace Go.Proofs.YtdpdoigmjnkmdaaDoor.Tr
open Go.RowKit
open Fl

theorem copyF1 (f : Fo) (v : Value) (w : World) (hc : f.count ≤ 1000000) (hv : One w f v) : Calls Tryd.prog 23 #[v] w fun e w' => ∃ u, e = .returned u ∧ Below w.heap.size w w' ∧ ((f = .no ∧ u = .pointer none) ∨ (RepS (fun x => w.heap.size ≤ x) w' f [u] ∧ RepF (fun x => w.heap.size ≤ x) w' f [u])) := by
  rcases hv with ⟨rfl, rfl⟩ | ⟨d, k, rfl, h2⟩
  · exact (copy1_n w).mono fun e w' ⟨h, hb⟩ => ⟨_, h, hb, .inl ⟨rfl, rfl⟩⟩
  · exact (copyF_any _ d k v w (Nat.le_refl _) hc h2).mono fun e w' ⟨u, h, hb, hr, hf⟩ => ⟨u, h, hb, .inr ⟨hr, hf⟩⟩
set_option maxHeartbeats 1600000 in
theorem spoil_n (n : Nat) (w : World) : Calls Tryd.prog 24 #[.pointer none, .int .i64 n] w fun e w' => e = .returned (.tuple #[]) ∧ w' = w := by
  go_enter Tryd.func24, Tryd.ntmps24
  go_wp2
  (try simp only [Exit.inBlock, Exit.then]); refine bodyPost_ret (results_none rfl _ _ _) rfl ?_
  exact ⟨rfl, rfl⟩
theorem spoil1 (n : Nat) (l : List Pc) (deep : Nat) (u : Value) (w : World) (T : Nat → Prop) (hn : n ≤ 255) (hc : (grow deep l).1.count ≤ 1000000) (hfa : (grow deep l).1.all Nd.fine) (h : ((grow deep l).1 = .no ∧ u = .pointer none) ∨ RepF T w (grow deep l).1 [u]) :
    Calls Tryd.prog 24 #[u, .int .i64 n] w fun e w' => e = .returned (.tuple #[]) ∧ Sp T w w' := by
  rcases h with ⟨_, rfl⟩ | h
  · exact (spoil_n n w).mono fun e w' ⟨h, hw⟩ => ⟨h, by subst hw; exact Sp.refl _ _⟩
  · rcases grow_one deep l with h0 | ⟨d, k, h0⟩
    · rw [h0] at h; unfold RepF at h; cases h
    · rw [h0] at h hc hfa
      exact spoil_any n d k u w T hn hc hfa h
theorem one_low {T : Nat → Prop} {w1 w3 w4 : World} {f : Fo} {u : Value} (h : One w1 f u) (hb : Below w1.heap.size w1 w3) (hs : Sp T w3 w4) (hT : ∀ x, T x → w1.heap.size ≤ x) : One w4 f u := by
  rcases h with h | ⟨d, k, h1, h2⟩
  · exact .inl h
  · exact .inr ⟨d, k, h1, ((h2.lt_.below hb).keep (S' := fun x => x < w1.heap.size) hs.size (fun x hx hl => hs.block x hl (fun e => by have := hT x e; omega)) fun x h _ => h).rep⟩
theorem one_high {T : Nat → Prop} {N : Nat} {w0 w3 w4 : World} {f : Fo} {u v : Value} (h0 : One w0 f v) (h : (f = .no ∧ u = .pointer none) ∨ RepS (fun x => N ≤ x) w3 f [u]) (hs : Sp T w3 w4) (hT : ∀ x, T x → x < N) : One w4 f u := by
  refine one_copy (S := fun x => N ≤ x) h0 ?_
  rcases h with h | h
  · exact .inl h
  · exact .inr (h.keep hs.size (fun x hx hl => hs.block x hl (fun e => by have := hT x e; omega)) fun x h _ => h)
theorem Sp.bel {T : Nat → Prop} {N : Nat} {w w3 w4 : World} (hb : Below N w w3) (hn : N ≤ w.heap.size) (hs : Sp T w3 w4) (hT : ∀ x, T x → N ≤ x) : Below N w w4 :=
  ⟨hs.os.trans hb.os, hs.tape.trans hb.tape, hs.output.trans hb.output, Nat.le_trans hb.size hs.size, fun x hx => (hs.block x (by have := hb.size; omega) (fun e => by have := hT x e; omega)).trans (hb.block x hx)⟩

set_option maxRecDepth 100000 in
set_option maxHeartbeats 6400000 in
theorem copies_law (l : List Pc) (A : Option Addr) (c : Nat) (n : Nat) (hn : n ≤ 255) (w : World) (hE : EnvW w) (hl : Pcs w A c l) :
    Calls Tryd.prog 7 #[.slice A l.length c, .int .u8 n] w fun e w' => e = .returned (.bool true) ∧ Below w.heap.size w w' := by
  have HE := Lib.hid hE
  have HL := Lib.hid hl
  have ll := hl.lc
  have cl := hl.cm
  clear hE hl
  go_enter Tryd.func7, Tryd.ntmps7
  go_wp2_with fail
  ((with_reducible refine (heavy_any l A c w (by omega) HL.out.nm HL.out.rd).mono ?_); rintro e w1 ⟨z1, rfl, rfl, h1⟩)
  have H1 := Lib.hid h1
  clear h1
  cases z1
  case' true =>
    go_wp2_with fail
    ((with_reducible refine (works_any _ HE.out).mono ?_); rintro e w1 ⟨rfl, hb⟩)
    go_wp2
    go_ret
    exact ⟨rfl, hb⟩
  obtain ⟨h1, n1⟩ := H1.out (by simp)
  have GL := Lib.hid (grown_of (HL.out.fine n1) 20)
  clear n1 H1
  have g1 := Lib.hid (fun w' (h : Pcs w' A c l) => grow20 l A c w' h (by omega))
  go_wp2_with fail
  ((with_reducible refine (g1.out _ HL.out).mono ?_); rintro e w1 ⟨a, rfl, hb1, hr1⟩)
  have A1 := Lib.hid (one_grow hr1)
  have B1 := Lib.hid hb1
  clear hr1 hb1 g1
  have hn1 := grow_le 20 l
  generalize (grow 20 l).2 = na at *
  have hct : (grow 20 l).1.count ≤ 1000000 := by have := GL.out.ct; omega
  have hfit := Lib.hid (all_fits GL.out.al)
  have cE := fun (w' : World) (v v' : Value) => exact1 (grow 20 l).1 (grow 20 l).1 v v' w' hct hfit.out hfit.out
  rw [Fo.exact_refl] at cE
  have CE := Lib.hid cE
  have CF := Lib.hid (fun (w' : World) (v : Value) => copyF1 (grow 20 l).1 v w' hct)
  have CR := Lib.hid (fun (w' : World) (v : Value) => copy1r (grow 20 l).1 v w' hct)
  have CS := Lib.hid (fun (w' : World) (u : Value) (T : Nat → Prop) => spoil1 n l 20 u w' T hn hct GL.out.al)
  clear cE hct
  go_wp2_with fail
  ((with_reducible refine (CF.out _ _ A1.out).mono ?_); rintro e w2 ⟨b, rfl, hb2, hr2⟩)
  have B2 := Lib.hid hb2
  have R2 := Lib.hid hr2
  have A2 := Lib.hid (A1.out.below hb2)
  clear hb2 hr2
  go_wp2_with fail
  ((with_reducible refine (CR.out _ _ A2.out).mono ?_); rintro e w3 ⟨d, rfl, hb3, hr3⟩)
  have B3 := Lib.hid hb3
  have R3 := Lib.hid hr3
  have A3 := Lib.hid (A2.out.below hb3)
  have D3 : Hid (One w3 (grow 20 l).1 b) := Lib.hid (One.below (one_copy (S := fun x => w1.heap.size ≤ x) A1.out (by rcases R2.out with h | h; exact .inl h; exact .inr h.1)) hb3)
  clear hb3 hr3
  go_wp2_with fail
  ((with_reducible refine (CE.out _ _ _ A3.out D3.out).mono ?_); rintro e w4 ⟨rfl, hb4⟩)
  have B4 := Lib.hid hb4
  have B13 := Lib.hid (B2.out.trans (B3.out.mono B2.out.size))
  have B14 := Lib.hid (B13.out.trans (hb4.mono B13.out.size))
  have F4 : Hid (((grow 20 l).1 = .no ∧ b = .pointer none) ∨ RepF (fun x => w1.heap.size ≤ x ∧ x < w2.heap.size) w4 (grow 20 l).1 [b]) := Lib.hid (by
    rcases R2.out with h | h
    · exact .inl h
    · exact .inr (((h.2.more (T' := fun x => w1.heap.size ≤ x ∧ x < w2.heap.size) fun x hx hl => ⟨hx, hl⟩).below B3.out).below hb4))
  clear hb4
  go_wp2_with fail
  ((with_reducible refine (CS.out _ _ _ F4.out).mono ?_); rintro e w5 ⟨rfl, hs5⟩)
  have A5 := Lib.hid (one_low A1.out B14.out hs5 fun x hx => hx.1)
  have C5 : Hid (One w5 (grow 20 l).1 d) := Lib.hid (one_high (N := w2.heap.size) A2.out (by rcases R3.out with h | h; exact .inl h; exact .inr (h.below B4.out)) hs5 fun x hx => hx.2)
  have B5 : Hid (Below w.heap.size w w5) := Lib.hid (Sp.bel (B1.out.trans (B14.out.mono B1.out.size)) (Nat.le_refl _) hs5 fun x hx => Nat.le_trans B1.out.size hx.1)
  clear hs5
  go_wp2_with fail
  ((with_reducible refine (CE.out _ _ _ A5.out C5.out).mono ?_); rintro e w6 ⟨rfl, hb6⟩)
  have B6 := Lib.hid (B5.out.trans (hb6.mono B5.out.size))
  clear hb6
  go_wp2_with fail
  ((with_reducible refine (works_any _ (HE.out.below B6.out)).mono ?_); rintro e w7 ⟨rfl, hb⟩)
  go_wp2
  go_ret
  exact ⟨rfl, B6.out.trans (hb.mono B6.out.size)⟩
theorem wf_u8w {a : Int} (h : (Lit.int .u8 a).wf = true) : ∃ n : Nat, a = n ∧ n ≤ 255 := by
  have := wf_u8 h
  exact ⟨a.toNat, by omega, by omega⟩
theorem copies_card (l : List Pc) (A : Option Addr) (c : Nat) (a : Int) (ha : (Lit.int .u8 a).wf = true) (w : World) (hE : EnvW w) (hl : Pcs w A c l) :
    Calls Tryd.prog 7 #[.slice A l.length c, .int .u8 a] w fun e w' => e = .returned (.bool true) ∧ Below w.heap.size w w' := by
  obtain ⟨n, rfl, hn⟩ := wf_u8w ha
  exact copies_law l A c n hn w hE hl
end Go.Proofs.YtdpdoigmjnkmdaaDoor.Tr
