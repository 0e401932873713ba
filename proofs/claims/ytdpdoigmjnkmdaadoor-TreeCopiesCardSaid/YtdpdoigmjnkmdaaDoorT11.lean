/- The walk of Grow. -/
import Derived.Test.YtdpdoigmjnkmdaaDoorT10
import Derived.Deep.RegionHeld3
set_option linter.unusedSimpArgs false
set_option linter.unusedVariables false
namespace Go.Proofs.YtdpdoigmjnkmdaaDoor.Tr
open Go.RowKit
open Fl
attribute [local go_sem] run_store_complex

def Pc.ok (p : Pc) : Prop := p.kind < 256 ∧ p.line < 256 ∧ p.col < 256 ∧ p.kids < 256
def okL (l : List Pc) : Prop := ∀ p ∈ l, p.ok
theorem okL.drop {l : List Pc} (h : okL l) (k : Nat) : okL (l.drop k) := fun p hp => h p (List.mem_of_mem_drop hp)
theorem alloc_cell {w : World} {o : Obj} {b i : Nat} {v : Value} (h : w.cell? ⟨b, i, none⟩ = some v) : (w.alloc o).cell? ⟨b, i, none⟩ = some v :=
  (World.cell?_alloc_lt w o ⟨b, i, none⟩ (cell_lt h)).trans h
/-- What Grow answers. -/
def GrowR (w : World) (t : Fo × Nat) (e : Ending) (w' : World) : Prop :=
  ∃ u, e = .returned (.tuple #[u, .int .i64 (t.2 : Nat)]) ∧ Below w.heap.size w w' ∧ ((t.1 = .no ∧ u = .pointer none) ∨ RepS (fun x => w.heap.size ≤ x) w' t.1 [u])
theorem head_cells {w : World} {B n : Nat} {A : Option Addr} {p : Pc} {l : List Pc} (h : Reads w B 6 A n (valsP (p :: l))) : ∃ b off, A = some ⟨b, off, none⟩ ∧ w.cell? ⟨b, off, none⟩ = some (.int .u8 p.kind) ∧ w.cell? ⟨b, off + 1, none⟩ = some (.int .u8 p.line) ∧ w.cell? ⟨b, off + 2, none⟩ = some (.int .u8 p.col) ∧ w.cell? ⟨b, off + 3, none⟩ = some (.string p.name) ∧ w.cell? ⟨b, off + 4, none⟩ = some (.int .i64 p.n) ∧ w.cell? ⟨b, off + 5, none⟩ = some (.int .u8 p.kids) := by
  have hl := h.1
  rw [valsP_len] at hl
  simp only [List.length_cons] at hl
  obtain ⟨⟨b, off, sp⟩, e, hb, hc⟩ := h.2 (by omega)
  have h0 := hc 0 (.int .u8 p.kind) (by rw [valsP_cons]; rfl)
  have hs : sp = none := by
    have := World.cell?_spot h0
    simpa [Addr.add] using this
  subst hs
  have ha : ∀ j, (⟨b, off, none⟩ : Addr).add j = ⟨b, off + j, none⟩ := fun j => by unfold Addr.add; split <;> simp_all
  refine ⟨b, off, e, ?_, ?_, ?_, ?_, ?_, ?_⟩
  · rw [ha] at h0; exact h0
  · have := hc 1 (.int .u8 p.line) (by rw [valsP_cons]; rfl); rwa [ha] at this
  · have := hc 2 (.int .u8 p.col) (by rw [valsP_cons]; rfl); rwa [ha] at this
  · have := hc 3 (.string p.name) (by rw [valsP_cons]; rfl); rwa [ha] at this
  · have := hc 4 (.int .i64 p.n) (by rw [valsP_cons]; rfl); rwa [ha] at this
  · have := hc 5 (.int .u8 p.kids) (by rw [valsP_cons]; rfl); rwa [ha] at this

set_option maxHeartbeats 1600000 in
theorem grow_0 (l : List Pc) (A : Option Addr) (c : Nat) (w : World) : Calls Tryd.prog 10 #[.slice A l.length c, .int .i64 0] w (GrowR w (.no, 0)) := by
  cases l with
  | nil =>
    go_enter Tryd.func10, Tryd.ntmps10
    go_wp2
    go_ret2
    exact ⟨_, rfl, Below.refl _ _, .inl ⟨rfl, rfl⟩⟩
  | cons p l =>
    have hz : (((p :: l).length : Int) == 0) = false := by simp; omega
    have hz2 : ((p :: l).length == 0) = false := by simp
    go_enter Tryd.func10, Tryd.ntmps10
    generalize (p :: l).length = n at *
    go_wp2
    go_ret2
    exact ⟨_, rfl, Below.refl _ _, .inl ⟨rfl, rfl⟩⟩
set_option maxHeartbeats 1600000 in
theorem grow_nil (A : Option Addr) (c : Nat) (z : Int) (w : World) : Calls Tryd.prog 10 #[.slice A 0 c, .int .i64 z] w (GrowR w (.no, 0)) := by
  go_enter Tryd.func10, Tryd.ntmps10
  go_wp2
  go_ret2
  exact ⟨_, rfl, Below.refl _ _, .inl ⟨rfl, rfl⟩⟩

set_option maxRecDepth 100000 in
set_option maxHeartbeats 12800000 in
theorem grow_any : ∀ (deep : Nat) (l : List Pc) (A : Option Addr) (c : Nat) (w : World), deep ≤ 1000 → l.length ≤ 1000000 → l.length ≤ c → c ≤ 9223372036854775807 → okL l → Reads w w.heap.size 6 A l.length (valsP l) →
    Calls Tryd.prog 10 #[.slice A l.length c, .int .i64 (deep : Nat)] w (GrowR w (grow deep l)) := by
  intro deep
  induction deep with
  | zero => intro l A c w _ _ _ _ _ _; exact grow_0 l A c w
  | succ deep ih =>
    intro l A c w hd hl hc hc2 hok hR
    cases l with
    | nil => exact grow_nil A c _ w
    | cons p l =>
      obtain ⟨b, off, rfl, a0, a1, a2, a3, a4, a5⟩ := head_cells hR
      have hp := hok p (by simp)
      have hg : grow (deep + 1) (p :: l) = (.node (ndP p) (kidsG (grow deep) (p.kids % 5) (p :: l) 1 .no).1 .no, (kidsG (grow deep) (p.kids % 5) (p :: l) 1 .no).2) := rfl
      obtain ⟨L, hL⟩ : ∃ L, L = p :: l := ⟨_, rfl⟩
      have hn0 : (L.length == 0) = false := by rw [hL]; simp
      have hn1 : ((L.length : Int) == 0) = false := by rw [hL]; simp; omega
      have hn2 : 1 ≤ L.length := by rw [hL]; simp
      rw [← hL] at hg hR hok hc hl ⊢
      have HG := Lib.hid hg
      have HR := Lib.hid hR
      have HOK := Lib.hid hok
      have IH := Lib.hid ih
      have c1 := fun w' => Pl.Of_any (p.line : Int) (p.col : Int) w'
      unfold Pl.C at c1
      have C1 := Lib.hid c1
      obtain ⟨q1, q2, q3, q4⟩ := hp
      obtain ⟨i0, hi, hz0, hz1, hz2⟩ := info_parts info25
      have hdz : (((deep + 1 : Nat) : Int) == 0) = false := by simp; omega
      have hdz2 : ((deep : Int) + 1 == 0) = false := by simp; omega
      clear hg hR hok ih c1 hL
      go_enter Tryd.func10, Tryd.ntmps10
      go_wp2
      have b0 := (Blk.new w 51 #[.int .u8 p.kind, .int .u8 p.line, .int .u8 p.col, .string p.name, .int .i64 p.n, .int .u8 p.kids]).cell
      have m0 := b0 0
      have m1 := b0 1
      have m2 := b0 2
      have m3 := b0 3
      have m4 := b0 4
      have m5 := b0 5
      have hsz : (w.alloc (.cells #[.int .u8 p.kind, .int .u8 p.line, .int .u8 p.col, .string p.name, .int .i64 p.n, .int .u8 p.kids] 51)).heap.size = w.heap.size + 1 := by simp
      have hbw : Below w.heap.size w (w.alloc (.cells #[.int .u8 p.kind, .int .u8 p.line, .int .u8 p.col, .string p.name, .int .i64 p.n, .int .u8 p.kids] 51)) := (Below.refl _ _).alloc (Nat.le_refl _) _
      simp only [List.getElem?_toArray, List.getElem?_cons_zero, List.getElem?_cons_succ] at m0 m1 m2 m3 m4 m5
      clear b0 a0 a1 a2 a3 a4 a5
      generalize w.alloc (.cells #[.int .u8 p.kind, .int .u8 p.line, .int .u8 p.col, .string p.name, .int .i64 p.n, .int .u8 p.kids] 51) = wa at *
      have HSZ := Lib.hid hsz
      have HBW := Lib.hid hbw
      clear hsz hbw
      have HD0 : wa.drew.cell? ⟨w.heap.size, 0, none⟩ = some (.int .u8 p.kind) ∧ wa.drew.cell? ⟨w.heap.size, 1, none⟩ = some (.int .u8 p.line) ∧ wa.drew.cell? ⟨w.heap.size, 2, none⟩ = some (.int .u8 p.col) ∧ wa.drew.cell? ⟨w.heap.size, 3, none⟩ = some (.string p.name) ∧ wa.drew.cell? ⟨w.heap.size, 4, none⟩ = some (.int .i64 p.n) := ⟨m0, m1, m2, m3, m4⟩
      have HM5 := Lib.hid m5
      have hwl : IntKind.i64.wrap (p.line : Int) = (p.line : Int) := IntWalk.i64_in _ (by omega)
      have hwc : IntKind.i64.wrap (p.col : Int) = (p.col : Int) := IntWalk.i64_in _ (by omega)
      clear m5
      go_region_held3 (fun w' => w'.cell? ⟨w.heap.size, 0, none⟩ = some (.int .u8 p.kind) ∧ w'.cell? ⟨w.heap.size, 1, none⟩ = some (.int .u8 p.line) ∧ w'.cell? ⟨w.heap.size, 2, none⟩ = some (.int .u8 p.col) ∧ w'.cell? ⟨w.heap.size, 3, none⟩ = some (.string p.name) ∧ w'.cell? ⟨w.heap.size, 4, none⟩ = some (.int .i64 p.n))
        ((first | (with_reducible exact HD0) | (with_reducible assumption) | (go_split_ands; exact ⟨alloc_cell (by assumption), alloc_cell (by assumption), alloc_cell (by assumption), alloc_cell (by assumption), alloc_cell (by assumption)⟩)))
        ((first | (go_at_call 25; (with_reducible refine (C1.out _).mono ?_); rintro e w' ⟨rfl, rfl⟩)))
      clear m0 m1 m2 m3 m4 HD0 hwl hwc
      go_wp2
      rename_i hHeld K0 aK
      clear hHeld
      obtain ⟨kk, hkk⟩ : ∃ kk, kk = p.kids % 5 := ⟨_, rfl⟩
      have hk1 : (p.kids : Int) % 5 = (kk : Int) := by omega
      have hk2 : kk ≤ 4 := by omega
      have HKK := Lib.hid hkk
      clear hkk
      go_loopw [8, 9] (fun t i wr => ∃ (j a : Nat) (sv : Value) (g : Fo) (xs : List Value), j ≤ kk ∧ i = .int .i64 j ∧ t = .int .i64 a ∧ a ≤ L.length ∧ xs.length ≤ j ∧ Hid (Bld (fun _ => False) wa wr wa.heap.size (ndP p) sv g xs) ∧ Hid (kidsG (grow deep) kk L 1 .no = kidsG (grow deep) (kk - j) L a g) ∧ Hid (wr.cell? ⟨w.heap.size, 5, none⟩ = some (.int .u8 p.kids)) ∧ Hid (Reads wr w.heap.size 6 (some ⟨b, off, none⟩) L.length (valsP L))) (fun _ i _ => kk - (intOf i).toNat)
      case atStart =>
        have hst : Below wa.heap.size wa (wa.alloc (.cells (cellsN (ndP p) (.slice none 0 0)) 46)).drew := ((Below.refl _ _).alloc (Nat.le_refl _) _).drew
        refine ⟨0, 1, .slice none 0 0, .no, [], Nat.zero_le _, rfl, rfl, hn2, Nat.le_refl _, Lib.hid (Bld.start (Blk.new wa 46 _) (Nat.le_refl _) hst), Lib.hid rfl, Lib.hid ?_, Lib.hid ?_⟩
        · exact (hst.cell (p := ⟨w.heap.size, 5, none⟩) (cell_lt HM5.out)).trans HM5.out
        · exact (HR.out.below HBW.out).below (hst.mono (by rw [HSZ.out]; omega))
      case round =>
        obtain ⟨j, a, sv, g, xs, hj, rfl, rfl, ha, hxs, HB, HF, H5, HR2⟩ := hrel
        obtain ⟨z4, z4f, hbl2⟩ := HB.out.sv
        have h5 := H5.out
        by_cases hlt : j < kk
        · have hsl := fun w => run_cut w (some ⟨b, off, none⟩) L.length c a ha
          have hR3 := (Reads.cut HR2.out ha hc).more (B' := wr.heap.size) (by have := HB.out.bel.size; rw [HSZ.out] at this; omega)
          rw [valsP_drop] at hR3
          have c2 := IH.out (L.drop a) (cutA (some ⟨b, off, none⟩) c a) (c - a) wr (by omega) (by rw [List.length_drop]; omega) (by rw [List.length_drop]; omega) (by omega) (HOK.out.drop a) (by rw [List.length_drop]; exact hR3)
          rw [List.length_drop] at c2
          have C2 := Lib.hid c2
          have HS := Lib.hid hsl
          clear c2 hR3 hsl
          have hgr := grow_one deep (L.drop a)
          have hgl := grow_le deep (L.drop a)
          rw [List.length_drop] at hgl
          have HF2 := Lib.hid (show kidsG (grow deep) (kk - j) L a g = match grow deep (L.drop a) with
            | (.no, _) => (g, a)
            | (.node d k _, m) => kidsG (grow deep) (kk - j - 1) L (a + m) (g.snoc d k) by
              obtain ⟨q, hq⟩ : ∃ q, kk - j = q + 1 := ⟨kk - j - 1, by omega⟩
              rw [hq]; rfl)
          generalize grow deep (L.drop a) = tt at *
          obtain ⟨tf, tm⟩ := tt
          simp only at hgr hgl
          have hsl := HS.out
          generalize cutA (some ⟨b, off, none⟩) c a = A' at *
          rcases hgr with rfl | ⟨d1, k1, rfl⟩
          · go_wp2_with fail
            ((with_reducible refine C2.out.mono ?_); rintro e x ⟨u, rfl, hb, hor⟩)
            rcases hor with ⟨_, rfl⟩ | hor
            · have HB2 := Lib.hid (HB.out.below hb)
              clear hb
              go_wp2
              go_ret2
              exact ⟨.pointer (some ⟨wa.heap.size, 0, none⟩), by rw [HG.out, ← HKK.out, HF.out, HF2.out]; rfl, HBW.out.trans (HB2.out.bel.mono (by rw [HSZ.out]; omega)), .inr (by rw [HG.out, ← HKK.out, HF.out, HF2.out]; exact HB2.out.done.more fun y hy _ => by rcases hy with h | h; exact h.elim; rw [HSZ.out] at h; omega)⟩
            · exact absurd hor (by unfold RepS; simp)
          · go_wp2_with fail
            ((with_reducible refine C2.out.mono ?_); rintro e x ⟨u, rfl, hb, hor⟩)
            rcases hor with ⟨h0, _⟩ | hor
            · cases h0
            · obtain ⟨b2, _, _, _, rfl, _⟩ := hor.rep.one
              have HBX := Lib.hid (HB.out.below hb)
              have X := Lib.hid (And.intro hb hor)
              clear hb hor z4 z4f h5
              obtain ⟨t4, t4f, _⟩ := HBX.out.sv
              have Q := copy_facts HBX.out (j := xs.length) rfl (by omega) (u' := .pointer (some ⟨b2, 0, none⟩)) rfl
              go_wp2_with (at_builtin; refine wpList_append_lies _ rfl _ _ _ rfl wa.heap.size 25 i0 (.pointer none) 1 8 Tryd.underlying42 hi hz0 hz1 hz2 rfl (by omega) sv xs.length xs rfl Q.out.2.2.2.2 ⟨x.heap.size, 0, none⟩ 1 1 [.pointer (some ⟨b2, 0, none⟩)] rfl rfl Q.out.1 Q.out.2.1 (by omega) Q.out.2.2.1 (by omega) Q.out.2.2.2.1 (x.heap.size + 1) (by simp) ?_)
              intro g' cap w1 hown1 hgrow hor hlt1
              obtain ⟨s4, s4f⟩ := Bld.after HBX.out hgrow
              have HO := Lib.hid (And.intro hown1 (And.intro hgrow hor))
              clear hown1 hgrow hor
              go_wp2
              go_roundw
              case rel =>
                have hsx := HBX.out.bel.size
                refine ⟨j + 1, a + tm, .slice (some ⟨g', 0, none⟩) (xs.length + 1) cap, g.snoc d1 k1, xs ++ [.pointer (some ⟨b2, 0, none⟩)], by omega, by go_num, by go_num, by omega, by simp; omega, Lib.hid ?_, Lib.hid ?_, Lib.hid ?_, Lib.hid ?_⟩
                · exact Bld.step (HBX.out.below ((Below.refl _ _).alloc (Nat.le_refl _) (.cells #[.pointer (some ⟨b2, 0, none⟩)] 25))) ((HB.out.newer X.out.2).below ((Below.refl _ _).alloc (Nat.le_refl _) (.cells #[.pointer (some ⟨b2, 0, none⟩)] 25))) HO.out.1 HO.out.2.1 (by rcases HO.out.2.2 with h | h; exact .inl h; exact .inr (by rw [h]; simp))
                · rw [HF.out, HF2.out, Nat.sub_sub]
                · have hx5 := (X.out.1.cell (p := ⟨w.heap.size, 5, none⟩) (cell_lt H5.out)).trans H5.out
                  exact (World.cell?_of_block (keep_old HBX.out HO.out.2.1 (x := w.heap.size) (by rw [HSZ.out]; omega) (by rw [HSZ.out] at hsx; omega))).trans hx5
                · refine (HR2.out.below (X.out.1.mono (by have := HB.out.bel.size; rw [HSZ.out] at this; omega))).keep fun q hq => World.cell?_of_block ?_
                  exact keep_old HBX.out HO.out.2.1 (by rw [HSZ.out]; omega) (by rw [HSZ.out] at hsx; omega)
              case measure => simp [intOf]; omega
        · have HE := Lib.hid (show kidsG (grow deep) kk L 1 .no = (g, a) by rw [HF.out, show kk - j = 0 by omega]; rfl)
          clear HF
          go_wp2
          go_ret2
          exact ⟨.pointer (some ⟨wa.heap.size, 0, none⟩), by rw [HG.out, ← HKK.out, HE.out]; rfl, HBW.out.trans (HB.out.bel.mono (by rw [HSZ.out]; omega)), .inr (by rw [HG.out, ← HKK.out, HE.out]; exact HB.out.done.more fun y hy _ => by rcases hy with h | h; exact h.elim; rw [HSZ.out] at h; omega)⟩
end Go.Proofs.YtdpdoigmjnkmdaaDoor.Tr
