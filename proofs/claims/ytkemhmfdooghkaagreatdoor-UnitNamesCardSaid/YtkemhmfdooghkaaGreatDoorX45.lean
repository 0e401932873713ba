import Derived.Test.YtkemhmfdooghkaaGreatDoorX44
set_option linter.unusedSimpArgs false
set_option linter.unusedVariables false
set_option maxRecDepth 100000
set_option maxHeartbeats 6400000
namespace Go.Proofs.YtkemhmfdooghkaaGreatDoor
namespace Rn
open Lx (Tk noTk lex bt)
open Ex
open St (Prt PFit textP text_ok lex_bx)
theorem row_unit {g k : Nat} {l : List Nat} {q : List (Prt × Value)} (hq : PFit (q.map (·.1))) (hn : rowP (srcX k l q) ≠ []) (hg : (rowP (srcX k l q)).length < g) : ∃ x, Whole g (rowP (srcX k l q)) x ∧ x.1.name = nM := by
 have hs : (srcX k l q).length ≤ 16384 := by
  rcases Nat.lt_or_ge 16384 (srcX k l q).length with h | h
  ·exfalso
   apply hn
   unfold rowP Lx.scanL
   rw [if_pos h]
  ·exact h
 obtain ⟨h1, _⟩ := text_ok 3 5 _ hq
 have h2 := row_some hs (lex_unit (k % 4) (lex_ty (typeP 4 l).1) (lex_bx _ h1))
 have hl : (rowP (srcX k l q)).length = (unitT (k % 4) (typeP 4 l).1.toks (textP 3 5 (q.map (·.1))).1.toks).length := by rw [← h2, List.length_map]
 have h3 : AtT (rowP (srcX k l q)) 0 (unitT (k % 4) (typeP 4 l).1.toks (textP 3 5 (q.map (·.1))).1.toks) := atT_of _ [] 0 fun j hj => by
  rw [tk_map, h2, Nat.zero_add, List.append_nil]
 obtain ⟨x, h4, h5⟩ := unit_all (k % 4) hg (type_ok 4 l).1 h1 h3 hl
 exact ⟨x, ⟨hg, h4⟩, h5⟩
end Rn
namespace Un
open Go.RowKit
open Tr (Nd Fo RepS RepN Rep cellsN)
open Lx (Tk noTk Blk run_store_complexL TokAt scanL scanF flat scanEnd at_ lex EnvS)
open Fl
open Ex
open St (TkS Good2 isWd6 sEnd ret_)
attribute [local go_sem] run_store_complexL run_field1 run_field3
def unFB : Fo → List T1
 | .no => []
 | .node d k r => (d, k) :: unFB r
theorem unF_forestB : ∀ l : List T1, unFB (forest l) = l
 | [] => by unfold forest; rfl
 | x :: l => by
   show unFB (.node x.1 x.2 (forest l)) = _
   unfold unFB
   rw [unF_forestB l]
theorem rep_lenB {S : Nat → Prop} {w : World} : ∀ {f : Fo} {vs : List Value}, RepS S w f vs → vs.length = (unFB f).length
 | .no, vs, h => by unfold RepS at h; subst h; rfl
 | .node d k r, vs, h => by
   unfold RepS at h
   obtain ⟨b, A, c, ks, vs', rfl, _, _, _, _, _, h7⟩ := h
   unfold unFB
   simp only [List.length_cons, rep_lenB h7]
theorem rep_getB {S : Nat → Prop} {w : World} : ∀ {f : Fo} {vs : List Value}, RepS S w f vs → ∀ (i : Nat) (hi : i < (unFB f).length), ∃ b, vs[i]? = some (.pointer (some ⟨b, 0, none⟩)) ∧ RepS S w (.node ((unFB f)[i]).1 ((unFB f)[i]).2 .no) [.pointer (some ⟨b, 0, none⟩)]
 | .no, vs, h, i, hi => by unfold unFB at hi; simp at hi
 | .node d k r, vs, h, i, hi => by
   unfold RepS at h
   obtain ⟨b, A, c, ks, vs', rfl, h2, h3, h4, h5, h6, h7⟩ := h
   cases i with
   | zero =>
     refine ⟨b, rfl, ?_⟩
     show RepS S w (.node d k .no) _
     unfold RepS
     exact ⟨b, A, c, ks, [], rfl, h2, h3, h4, h5, h6, by unfold RepS; rfl⟩
   | succ i =>
     unfold unFB at hi
     obtain ⟨b', g1, g2⟩ := rep_getB h7 i (by simpa using hi)
     exact ⟨b', by simpa using g1, g2⟩
theorem node_atB {S : Nat → Prop} {w : World} {d : Nd} {f : Fo} {b : Nat} (h : RepS S w (.node d f .no) [.pointer (some ⟨b, 0, none⟩)]) :
 ∃ A c, b < w.heap.size ∧ w.cell? ⟨b, 0, none⟩ = some (.int .u8 d.kind) ∧ w.cell? ⟨b, 2, none⟩ = some (.string d.name) ∧ w.cell? ⟨b, 4, none⟩ = some (.slice A (unFB f).length c) ∧
  ∀ i (hi : i < (unFB f).length), ∃ g off bi, A = some ⟨g, off, none⟩ ∧ w.cell? ⟨g, off + i, none⟩ = some (.pointer (some ⟨bi, 0, none⟩)) ∧ RepS S w (.node ((unFB f)[i]).1 ((unFB f)[i]).2 .no) [.pointer (some ⟨bi, 0, none⟩)] := by
 unfold RepS at h
 obtain ⟨b', A, c, ks, vs', e, h2, ⟨h30, h31, h32, h33, h34⟩, h4, h5, h6, h7⟩ := h
 injection e with e _
 injection e with e
 injection e with e
 injection e with e
 subst e
 have hl := rep_lenB h6
 refine ⟨A, c, Tr.cell_lt h30, h30, h32, by rw [← hl]; exact h34, fun i hi => ?_⟩
 obtain ⟨g, off, rfl, _, _⟩ := h4 (by omega)
 obtain ⟨bi, q1, q2⟩ := rep_getB h6 i hi
 obtain ⟨ad, e2, _, hc⟩ := h5.2 (by omega)
 injection e2 with e2
 subst e2
 refine ⟨g, off, bi, rfl, ?_, q2⟩
 have := hc i _ q1
 rwa [show (⟨g, off, none⟩ : Addr).add i = ⟨g, off + i, none⟩ by unfold Addr.add; split <;> simp_all] at this
theorem carB {w wr : World} {a : Addr} {v : Value} (hB : Below w.heap.size w wr) (h : w.cell? a = some v) : wr.cell? a = some v := (hB.cell (World.block_lt_of_cell? w _ h)).trans h
theorem imports_0 {w : World} {d : Nd} {l : List T1} {b : Nat} (h : RepS (fun _ => True) w (.node d (forest l) .no) [.pointer (some ⟨b, 0, none⟩)]) (hk1 : 50 ≤ d.kind) (hk2 : d.kind ≤ 52) (hl : l.length ≤ 1000) (hkk : ∀ k ∈ l, k.1.kind ≠ 53 ∧ k.1.kind ≠ 54) :
 Calls Tryz.prog 15 #[.pointer (some ⟨b, 0, none⟩)] w fun e w' => e = .returned (.slice none 0 0) ∧ Below w.heap.size w w' := by
 obtain ⟨A, c, hb, z0, z2, z4, hks⟩ := node_atB h
 rw [unF_forestB] at z4
 have HKS := qh (fun (i : Nat) (hi : i < l.length) => show ∃ g off bi, A = some ⟨g, off, none⟩ ∧ w.cell? ⟨g, off + i, none⟩ = some (.pointer (some ⟨bi, 0, none⟩)) ∧ RepS (fun _ => True) w (.node (l[i]).1 (l[i]).2 .no) [.pointer (some ⟨bi, 0, none⟩)] from by
  obtain ⟨g, off, bi, e1, e2, e3⟩ := hks i (by rw [unF_forestB]; exact hi)
  simp only [unF_forestB] at e3
  exact ⟨g, off, bi, e1, e2, e3⟩)
 have HKK := qh hkk
 have x1 : ¬ ((d.kind : Int) < 50) := by omega
 have x2 : ¬ (52 < (d.kind : Int)) := by omega
 have hmf : ∀ (fn : Fn) (first cap : Array Value) (w : World), (Instr.makeFunc fn first cap).run Tryz.prog w = .ok (.func fn first cap) w := fun _ _ _ _ => rfl
 have HN := qh (Blk.new w 44 #[.slice none 0 0])
 have HB := qh (show Below w.heap.size w (w.alloc (.cells #[.slice none 0 0] 44)) from (Below.refl _ _).alloc nl _)
 clear h hks hkk z2
 go_enter Tryz.func15, Tryz.ntmps15
 go_wp2_with fail
 go_loopg [30] l.length (fun gh iv wr => ∃ (i : Nat), iv = .int .i64 (i : Nat) ∧ i ≤ l.length ∧ l.length - i ≤ gh ∧ Hid (Blk wr w.heap.size 44 #[.slice none 0 0]) ∧ Hid (Below w.heap.size w wr))
 case atStart => exact ⟨0, rfl, by omega, by omega, HN, HB⟩
 case round =>
  clear HN HB
  obtain ⟨i, rfl, hi, hgh, HN, HB⟩ := hrel
  have hmb : w.heap.size < wr.heap.size := HN.out.lt
  by_cases hlt : i < l.length
  ·have x3 : (i : Int) < (l.length : Int) := by omega
   obtain ⟨g, off, bi, rfl, zr, HR⟩ := HKS.out i hlt
   obtain ⟨A2, c2, hbi, q0, q2, q4, hgs⟩ := node_atB HR
   replace zr := carB HB.out zr
   replace q0 := carB HB.out q0
   have hbi' : bi < wr.heap.size := Nat.lt_of_lt_of_le hbi HB.out.size
   have hk3 := HKK.out l[i] (List.getElem_mem hlt)
   clear HR hgs q2 q4
   generalize l[i] = k at *
   obtain ⟨⟨kk, kp, kn, km⟩, kf⟩ := k
   simp only at q0 hk3
   have h54' : ¬ (kk : Int) = 54 := by omega
   have h53' : ¬ (kk : Int) = 53 := by omega
   clear hk3
   go_wp2
   go_roundg (l.length - i - 1)
   case rel => exact ⟨i + 1, by rfl, by omega, by omega, HN, HB⟩
   case measure => omega
  ·have x3 : ¬ (i : Int) < (l.length : Int) := by omega
   have m0 : wr.cell? ⟨w.heap.size, 0, none⟩ = some (.slice none 0 0) := HN.out.cell 0
   have f0 := HN.out.frozen 0
   go_wp2
   have zz := World.cell?_setCell_same wr ⟨w.heap.size, 0, none⟩ (.slice none 0 0) m0
   exact bodyPost_ret (v := .slice none 0 0) (by simp [results, Tryz.results15, go_sem, zz]) rfl ⟨rfl, HB.out.setCell (p := ⟨w.heap.size, 0, none⟩) nl _⟩
def chkB1 (s : List UInt8) : Bool := match scanL s with
 | .ok l => match parseU (l.length + 1) (rowT s l) 0 with | .ok ((d, .node d0 _ .no), _) => decide (d.kind = 52) && decide (d0.kind = 45) | _ => false
 | .error _ => false
def chkB2 (s : List UInt8) : Bool := match scanL s with
 | .ok l => match parseU (l.length + 1) (rowT s l) 0 with | .error k => decide (k < l.length) && decide ((tk (rowT s l) k).2.1 = (1, 15)) | _ => false
 | .error _ => false
abbrev wuB1 : ByteArray := ⟨#[77, 79, 68, 85, 76, 69, 32, 97, 59, 32, 69, 78, 68, 32, 97, 46]⟩
abbrev wuB2 : ByteArray := ⟨#[77, 79, 68, 85, 76, 69, 32, 97, 59, 32, 69, 78, 68, 32, 98, 46]⟩
theorem ckB1 : chkB1 wuB1.data.toList = true := by decide +kernel
theorem ckB2 : chkB2 wuB2.data.toList = true := by decide +kernel
theorem readB1 {w : World} (E : EnvS w) : ∃ L d d0 k0 j, d.kind = 52 ∧ d0.kind = 45 ∧ Calls Tryz.prog 13 #[.string wuB1] w (ReadR w L (.ok ((d, .node d0 k0 .no), j))) := by
 have h := ckB1
 unfold chkB1 at h
 split at h
 ·rename_i l hl
  have hll := Ex.scanL_len hl
  split at h
  ·rename_i d d0 k0 j hx
   rw [Bool.and_eq_true, decide_eq_true_iff, decide_eq_true_iff] at h
   refine ⟨rowT wuB1.data.toList l, d, d0, k0, j, h.1, h.2, ?_⟩
   rw [← hx]
   exact Read_ok wuB1 E hl (fun k e => by rw [hx] at e; cases e) fun w A c h => Parse_all h (by rw [rowT_len]; omega) c
  ·cases h
 ·cases h
theorem readB2 {w : World} (E : EnvS w) : Calls Tryz.prog 13 #[.string wuB2] w fun e w' => e = .returned (.tuple #[.pointer none, .complex .f64 (fl 1) (fl 15), .int .i64 60]) ∧ Below w.heap.size w w' := by
 have h := ckB2
 unfold chkB2 at h
 split at h
 ·rename_i l hl
  have hll := Ex.scanL_len hl
  split at h
  ·rename_i k hx
   rw [Bool.and_eq_true, decide_eq_true_iff, decide_eq_true_iff] at h
   have := Read_ok wuB2 E hl (r := parseU (l.length + 1) (rowT wuB2.data.toList l) 0) (fun k' e => by rw [hx] at e; injection e with e; subst e; exact h.1) fun w A c h => Parse_all h (by rw [rowT_len]; omega) c
   rw [hx] at this
   refine this.mono fun e w' ⟨h1, h2⟩ => ⟨?_, h2⟩
   rw [h1, h.2]
  ·cases h
 ·cases h
theorem works_all {w : World} (E : EnvS w) : Calls Tryz.prog 7 #[] w fun e w' => e = .returned (.bool true) ∧ Below w.heap.size w w' := by
 obtain ⟨L, d, d0, k0, j, hd, hd0, d1⟩ := readB1 E
 have D1 := qh d1
 have HE := qh E
 have HPS := qh (fun (w : World) => show Calls Tryz.prog 16 #[.agg #[.int .i64 1, .int .i64 15]] w fun e w' => e = .returned (.complex .f64 (fl 1) (fl 15)) ∧ Below w.heap.size w w' from Lx.pos_at (q := (1, 15)) rfl w)
 have sp : ((FloatKind.f64.format.order (fl 1) (fl 1) == some .eq) && (FloatKind.f64.format.order (fl 15) (fl 15) == some .eq)) = true := by
  rw [fl_order _ _ (by omega) (by omega), fl_order _ _ (by omega) (by omega)]; rfl
 clear d1 E
 go_enter Tryz.func7, Tryz.ntmps7
 go_wp2_with fail
 ((with_reducible refine D1.out.mono ?_); rintro e w1 ⟨b, rfl, hr, hb⟩)
 have HB := qh hb
 have HR := qh (hr.more (S' := fun _ => True) fun _ _ _ => trivial)
 have D2 := qh (readB2 (HE.out.below nl hb))
 clear hr hb D1
 go_wp2_with fail
 ((with_reducible refine D2.out.mono ?_); rintro e w2 ⟨rfl, hb⟩)
 have HB := qh (HB.out.trans (hb.mono HB.out.size))
 have HR := qh (HR.out.below hb)
 clear hb D2
 obtain ⟨A, c, hbl, z0, _, z4, hks⟩ := node_atB HR.out
 obtain ⟨g, off, bi, rfl, zr, hr0⟩ := hks 0 (by unfold unFB; simp)
 obtain ⟨_, _, hbi, y0, _, _, _⟩ := node_atB hr0
 have hr0' : (unFB (.node d0 k0 .no)).length = 1 := by unfold unFB unFB; rfl
 rw [hr0'] at z4
 rw [show ((unFB (.node d0 k0 .no))[0]'(by rw [hr0']; omega)).1.kind = 45 from hd0] at y0
 rw [hd] at z0
 rw [Nat.add_zero] at zr
 have DI := qh (fun (w : World) (hr : RepS (fun _ => True) w (.node d (.node d0 k0 .no) .no) [.pointer (some ⟨b, 0, none⟩)]) => imports_0 (w := w) (d := d) (l := [(d0, k0)]) hr (by omega) (by omega) (by simp) (fun k hk => by rw [List.mem_singleton] at hk; subst hk; exact ⟨fun e => absurd (hd0.symm.trans e) (by decide), fun e => absurd (hd0.symm.trans e) (by decide)⟩))
 clear hks hr0 hr0'
 go_wp2_with fail
 ((with_reducible refine (HPS.out w2).mono ?_); rintro e w3 ⟨rfl, hb⟩)
 have HB := qh (HB.out.trans (hb.mono HB.out.size))
 have HR := qh (HR.out.below hb)
 have hbl3 : b < w3.heap.size := Nat.lt_of_lt_of_le hbl hb.size
 clear hb
 go_wp2_with fail
 ((with_reducible refine (DI.out w3 HR.out).mono ?_); rintro e w4 ⟨rfl, hb⟩)
 have HB := qh (HB.out.trans (hb.mono HB.out.size))
 clear hb
 go_wp2
 go_ret
 exact ⟨rfl, HB.out⟩
end Un
namespace Rn
open Go.RowKit
open Lx (Tk noTk bt)
open Fl
open Ex
open St (Prt PFit textP text_ok text_len lenB Parts)
theorem unitX_len (k : Nat) (t x : List UInt8) : (unitX k t x).length ≤ t.length + 2 * x.length + 2000 := by
 have hc : b_u0a.length ≤ 200 ∧ b_u0b.length ≤ 200 ∧ b_u1a.length ≤ 200 ∧ b_u1b.length ≤ 200 ∧ b_u1c.length ≤ 200 ∧ b_u1d.length ≤ 200 ∧ b_u2a.length ≤ 200 ∧ b_u2b.length ≤ 200 ∧ b_u3a.length ≤ 200 ∧ b_u3d.length ≤ 200 := by decide
 unfold unitX
 obtain ⟨c0, c1, c2, c3, c4, c5, c6, c7, c8, c9⟩ := hc
 split <;> simp only [List.length_append, List.length_cons, List.length_nil] <;> omega
theorem src_size {k : Nat} {l : List Nat} {q : List (Prt × Value)} (hq : PFit (q.map (·.1))) (h10 : q.length ≤ 10) : (bt (srcX k l q)).size ≤ 1000000 := by
 have ht := (type_ok 4 l).2.2
 have h1 := text_len 3 5 _ hq
 have h2 := (text_ok 3 5 _ hq).2
 have h5 := unitX_len (k % 4) (typeP 4 l).1.text (textP 3 5 (q.map (·.1))).1.text
 rw [List.length_map] at h2
 have h3 : lenB 3 = 19500 := rfl
 have h4 : (2 : Nat) ^ 4 = 16 := rfl
 rw [h3] at h1
 rw [h4] at ht
 show (srcX k l q).toArray.size ≤ 1000000
 rw [List.size_toArray]
 show (unitX _ _ _).length ≤ _
 omega
abbrev RowO (w : World) (B : Nat) (v : Value) (L : List PT) : Prop := w.ownsRow B 40 5 v L.length (flatP L)
theorem RowO.at_ {w : World} {B : Nat} {v : Value} {L : List PT} (h : RowO w B v L) (hl : L.length ≤ 20000) : ∃ A c, v = .slice A L.length c ∧ RowAt w A L := by
 obtain ⟨A, c, e, hr⟩ := own_form h
 subst e
 refine ⟨A, c, rfl, hr, fun ad e => ?_, hl⟩
 subst e
 exact (World.ownsRow.lt h ad.block rfl).2
theorem flatP_app (L M : List PT) : flatP (L ++ M) = flatP L ++ flatP M := List.flatMap_append
theorem vals_one (L : List PT) : ∀ u ∈ flatP L, u.oneCell' = true := fun u hu => by
 obtain ⟨t, _, h⟩ := List.mem_flatMap.1 hu
 unfold PT.vals Lx.Tk.vals at h
 simp only [List.mem_cons, List.not_mem_nil, or_false] at h
 rcases h with rfl | rfl | rfl | rfl | rfl <;> rfl
theorem run_row {w : World} {ty : TypeId} {B : Nat} {v : Value} {L M : List PT} (hown : RowO w B v L) (hB : B ≤ w.heap.size) {ad : Addr} {c : Nat} (hn : ∀ j u, (flatP M)[j]? = some u → w.cell? (ad.add j) = some u) (hl : L.length + M.length ≤ 20000) :
 ∃ v' w', (Builtin.append_ #[28, 28] ty #[v, .slice (some ad) M.length c]).run Tryz.prog w = .ok v' w' ∧ RowO w' B v' (L ++ M) ∧ w.grownBy w' v.ownBlock := by
 obtain ⟨i0, hi, hz0, hz1, hz2⟩ := info_parts Lx.info40
 obtain ⟨v', w', h1, h2, h3, _⟩ := run_append_own (P := Tryz.prog) w B 28 ty 40 i0 _ 5 64 Tryz.underlying28 hi hz0 hz1 hz2 rfl (by omega) v L.length (flatP L) hown ad M.length c (flatP M) (flatP_len M) hn (vals_one M) (by simp only [maxLen]; omega) (by omega) hB
 exact ⟨v', w', h1, by show w'.ownsRow _ _ _ _ _ _; rw [List.length_append, flatP_app]; exact h2, h3⟩
theorem RowO.bel {w w' : World} {B : Nat} {v : Value} {L : List PT} (h : RowO w B v L) (hB : B ≤ w.heap.size) (hg : w.grownBy w' v.ownBlock) : Below B w w' :=
 ⟨hg.os, hg.tape, hg.output, hg.size, fun k hk => hg.block k (by omega) (fun e => by have := (World.ownsRow.lt h k e.symm).1; omega)⟩
theorem step_row {ops : Array Oper} {o : Oper} {a : Act} {w : World} {K : Act → World → Prop} {Q : Exit → Act → World → Prop} {E : Prop} (hgd : o.guard = none) (s x : Operand)
 (ho : o.op = .call { callee := .builtin .append, args := #[s, x], argTypes := #[28, 28] }) (B : Nat) {v : Value} {L M : List PT} (hs : a.eval s = v) (hown : RowO w B v L) (hB : B ≤ w.heap.size)
 {ad : Addr} {c : Nat} (hx : a.eval x = .slice (some ad) M.length c) (hn : ∀ j u, (flatP M)[j]? = some u → w.cell? (ad.add j) = some u) (hl : L.length + M.length ≤ 20000)
 (h : ∀ v' w', RowO w' B v' (L ++ M) → w.grownBy w' v.ownBlock → Below B w w' → K (a.put o.dst v') w') :
 if Region.wanted o (yielded ops a.tmps) = true then Oper.wp Tryz.prog o a w K Q else E := by
 have hw : Region.wanted o (yielded ops a.tmps) = true := by simp [Region.wanted, hgd]
 rw [if_pos hw]
 obtain ⟨v', w', hr, h2, h3⟩ := run_row (ty := o.type) (c := c) hown hB hn hl
 unfold Oper.wp
 simp [execOp, ho, resolve, invoke, builtin, hs, hx, hr, Result.andThen]
 exact h v' w' h2 h3 (hown.bel hB h3)
theorem wpList_row {ops : Array Oper} {rest : List Oper} {o : Oper} {a : Act} {w : World} {Q : Exit → Act → World → Prop} (hgd : o.guard = none) (s x : Operand)
 (ho : o.op = .call { callee := .builtin .append, args := #[s, x], argTypes := #[28, 28] }) (B : Nat) {v : Value} {L M : List PT} (hs : a.eval s = v) (hown : RowO w B v L) (hB : B ≤ w.heap.size)
 {ad : Addr} {c : Nat} (hx : a.eval x = .slice (some ad) M.length c) (hn : ∀ j u, (flatP M)[j]? = some u → w.cell? (ad.add j) = some u) (hl : L.length + M.length ≤ 20000)
 (h : ∀ v' w', RowO w' B v' (L ++ M) → w.grownBy w' v.ownBlock → Below B w w' → wpList Tryz.prog ops Q rest (a.put o.dst v') w') : wpList Tryz.prog ops Q (o :: rest) a w :=
 wpList_plain hgd fun K hK => by
  obtain ⟨v', w', hr, h2, h3⟩ := run_row (ty := o.type) (c := c) hown hB hn hl
  unfold Oper.wp
  simp [execOp, ho, resolve, invoke, builtin, hs, hx, hr, Result.andThen]
  exact hK _ _ (h v' w' h2 h3 (hown.bel hB h3))
theorem RowO.nil (w : World) (B : Nat) : RowO w B (.slice none 0 0) [] := World.ownsRow_nil w B _ _
theorem RowAt.spot {w : World} {A : Option Addr} {L : List PT} (h : RowAt w A L) {i : Nat} (hi : i < L.length) : ∃ b off, A = some ⟨b, off, none⟩ ∧ b < w.heap.size ∧
 w.cell? ⟨b, off + i * 5, none⟩ = some (.int .u8 L[i].1.kind) ∧ w.cell? ⟨b, off + i * 5 + 1, none⟩ = some (.complex .f64 (fl L[i].2.1.1) (fl L[i].2.1.2)) ∧ w.cell? ⟨b, off + i * 5 + 2, none⟩ = some (.complex .f64 (fl L[i].2.2.1) (fl L[i].2.2.2)) ∧
 w.cell? ⟨b, off + i * 5 + 3, none⟩ = some (.string L[i].1.text) ∧ w.cell? ⟨b, off + i * 5 + 4, none⟩ = some (.int .i64 L[i].1.n) := by
 obtain ⟨⟨b, off, sp⟩, e, hb, hc⟩ := h.reads.2 (by omega)
 have hs : sp = none := by
  have h0 := hc (0 * 5 + 0) _ ((flatP_at L 0 0 (by omega) (by omega)).trans rfl)
  have := World.cell?_spot h0
  simpa [Addr.add] using this
 subst hs
 have cc : ∀ j u, j < 5 → (PT.vals L[i])[j]? = some u → w.cell? ⟨b, off + i * 5 + j, none⟩ = some u := fun j u hj hu => by
  have := hc (i * 5 + j) u ((flatP_at L i j hi hj).trans hu)
  rw [Addr.add_lit] at this
  rwa [show off + (i * 5 + j) = off + i * 5 + j by omega] at this
 exact ⟨b, off, e, hb, cc 0 _ (by omega) rfl, cc 1 _ (by omega) rfl, cc 2 _ (by omega) rfl, cc 3 _ (by omega) rfl, cc 4 _ (by omega) rfl⟩
end Rn
namespace Rn
open Go.RowKit
open Tr (Nd Fo RepS)
open Lx (Tk noTk bt)
open Fl
open Ex
abbrev behS : ByteArray := ⟨#[97, 32, 59, 32, 46, 32, 69, 78, 68, 32, 49]⟩
theorem beh_row (w : World) : ∃ T : List PT, T.length = 5 ∧ (∀ t ∈ T, t.1.kind ≠ 0) ∧ Calls Tryz.prog 8 #[.string behS] w (RowR w T) :=
 ⟨_, show (rowP behS.data.toList).length = 5 by decide +kernel, show ∀ t ∈ rowP behS.data.toList, t.1.kind ≠ 0 by decide +kernel, row_any behS (by decide) w⟩
section
variable {g : Nat} {w : World} {A : Option Addr} {L : List PT} {x : T1}
theorem parse_ok (h : RowAt w A L) (hg : L.length < g) {j : Nat} (hp : Un.parseU g L 0 = .ok (x, j)) (c : Nat) : Calls Tryz.prog 10 #[.slice A L.length c] w fun e w' => ∃ b, e = .returned (.tuple #[.pointer (some ⟨b, 0, none⟩), .int .i64 0, .int .i64 0]) ∧ w'.cell? ⟨b, 2, none⟩ = some (.string x.1.name) ∧ Below w.heap.size w w' := by
 have h1 := Un.Parse_all h hg c
 rw [hp] at h1
 refine h1.mono fun e w' ⟨b, e1, hr, hb⟩ => ⟨b, e1, ?_, hb⟩
 obtain ⟨_, _, _, _, h2, _⟩ := Un.node_atB hr
 exact h2
theorem parse_err (h : RowAt w A L) (hg : L.length < g) {k : Nat} (hp : Un.parseU g L 0 = .error k) (c : Nat) : Calls Tryz.prog 10 #[.slice A L.length c] w fun e w' => e = .returned (.tuple #[.pointer none, .int .i64 k, .int .i64 60]) ∧ Below w.heap.size w w' := by
 have h1 := Un.Parse_all h hg c
 rw [hp] at h1
 exact h1
end
end Rn
namespace Rn
open Go.RowKit
open Lx (Tk noTk bt Blk EnvS run_store_complexL)
open Fl
open Ex
open St (Prt Parts)
attribute [local go_sem] run_store_complexL
section
variable {k : Nat} {l : List Nat} {A1 A2 : Option Addr} {c1 c2 : Nat} {q : List (Prt × Value)} {w : World}
abbrev madeO (k : Nat) (A1 : Option Addr) (n1 c1 : Nat) (A2 : Option Addr) (n2 c2 : Nat) : Obj := .cells (madeV k A1 n1 c1 A2 n2 c2) 25
theorem news_take {w5 w' : World} {L : List PT} {ad : Addr} (h : RowAt w5 (some ad) L) (hb : Below w5.heap.size w5 w') {m : Nat} (hm : m ≤ L.length) : ∀ j u, (flatP (L.take m))[j]? = some u → w'.cell? (ad.add j) = some u := fun j u hu => by
 have h1 := (h.below hb).take hm
 have h2 := h1.reads.1
 rcases Nat.eq_zero_or_pos (L.take m).length with h0 | h0
 ·rw [List.length_eq_zero_iff.1 h0] at hu
  cases hu
 ·obtain ⟨ad', e, _, hc⟩ := h1.reads.2 h0
  injection e with e
  subst e
  exact hc j u hu
end
end Rn
end Go.Proofs.YtkemhmfdooghkaaGreatDoor
