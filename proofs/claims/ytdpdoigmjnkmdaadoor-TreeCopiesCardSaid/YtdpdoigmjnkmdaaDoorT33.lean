/- The walk of the law TreeTells. -/
import Derived.Test.YtdpdoigmjnkmdaaDoorT32
import Derived.Outline
set_option linter.unusedSimpArgs false
set_option linter.unusedVariables false
namespace Go.Proofs.YtdpdoigmjnkmdaaDoor.Tr
open Go.RowKit
open Fl

/-- Pieces that came in: in memory. -/
structure Pcs (w : World) (A : Option Addr) (c : Nat) (l : List Pc) : Prop where
  rd : Reads w w.heap.size 6 A l.length (valsP l)
  ok : okL l
  rg : ∀ p ∈ l, inR p.n
  nm : ∀ p ∈ l, p.name.size ≤ 9007199254740992
  lc : l.length ≤ c
  cm : c ≤ 9223372036854775807
theorem Pcs.below {w w' : World} {A : Option Addr} {c : Nat} {l : List Pc} (h : Pcs w A c l) (hb : Below w.heap.size w w') : Pcs w' A c l :=
  ⟨(h.rd.below hb).more hb.size, h.ok, h.rg, h.nm, h.lc, h.cm⟩
theorem names_le {l : List Pc} (p : Pc) (h : p ∈ l) : p.name.size ≤ namesN l := by
  unfold namesN
  induction l with
  | nil => cases h
  | cons q r ih =>
    simp only [List.map_cons, List.sum_cons]
    rcases List.mem_cons.1 h with rfl | h
    · omega
    · have := ih h; omega
theorem Pcs.fine {w : World} {A : Option Addr} {c : Nat} {l : List Pc} (h : Pcs w A c l) (hn : namesN l ≤ 4096) : ∀ p ∈ l, p.fine := fun p hp =>
  ⟨h.ok p hp, h.rg p hp, by have := names_le p hp; omega⟩
/-- What a law needs to know of a tree that was grown. -/
structure Grown (deep n : Nat) (f : Fo) : Prop where
  al : f.all Nd.fine
  ct : f.count ≤ n
  dp : f.deep ≤ deep
theorem grown_of {l : List Pc} (h : ∀ p ∈ l, p.fine) (deep : Nat) : Grown deep l.length (grow deep l).1 := by
  have := grow_all (P := Nd.fine) (Q := Pc.fine) fine_piece deep l h
  have h2 := grow_le deep l
  exact ⟨this.1, by omega, this.2.2⟩
theorem grow_call (deep : Nat) (l : List Pc) (A : Option Addr) (c : Nat) (w : World) (h : Pcs w A c l) (hd : deep ≤ 1000) (hl : l.length ≤ 1000000) :
    Calls Tryd.prog 10 #[.slice A l.length c, .int .i64 (deep : Nat)] w fun e w' => ∃ u, e = .returned (.tuple #[u, .int .i64 ((grow deep l).2 : Nat)]) ∧ Below w.heap.size w w' ∧ (((grow deep l).1 = .no ∧ u = .pointer none) ∨ RepS (fun x => w.heap.size ≤ x) w' (grow deep l).1 [u]) :=
  grow_any deep l A c w hd hl h.lc h.cm h.ok h.rd
theorem grow20 (l : List Pc) (A : Option Addr) (c : Nat) (w : World) (h : Pcs w A c l) (hl : l.length ≤ 1000000) :
    Calls Tryd.prog 10 #[.slice A l.length c, .int .i64 20] w fun e w' => ∃ u, e = .returned (.tuple #[u, .int .i64 ((grow 20 l).2 : Nat)]) ∧ Below w.heap.size w w' ∧ (((grow 20 l).1 = .no ∧ u = .pointer none) ∨ RepS (fun x => w.heap.size ≤ x) w' (grow 20 l).1 [u]) := by
  have := grow_call 20 l A c w h (by omega) hl
  rwa [show ((20 : Nat) : Int) = 20 from rfl] at this
theorem one_grow {deep : Nat} {l : List Pc} {S : Nat → Prop} {w : World} {u : Value} (h : ((grow deep l).1 = .no ∧ u = .pointer none) ∨ RepS S w (grow deep l).1 [u]) : One w (grow deep l).1 u := by
  rcases grow_one deep l with h0 | ⟨d, k, h0⟩
  · rw [h0] at h ⊢
    rcases h with ⟨_, h⟩ | h
    · exact .inl ⟨rfl, h⟩
    · unfold RepS at h; cases h
  · rw [h0] at h ⊢
    rcases h with ⟨h, _⟩ | h
    · cases h
    · exact One.some_ h
theorem one_copy {f : Fo} {S : Nat → Prop} {w w0 : World} {u v : Value} (h0 : One w0 f v) (h : (f = .no ∧ u = .pointer none) ∨ RepS S w f [u]) : One w f u := by
  rcases h with ⟨rfl, rfl⟩ | h
  · exact One.none_ w
  · rcases h0 with ⟨rfl, _⟩ | ⟨d, k, rfl, _⟩
    · unfold RepS at h; cases h
    · exact One.some_ h

set_option maxRecDepth 100000 in
set_option maxHeartbeats 6400000 in
theorem tells_law (l m : List Pc) (A A' : Option Addr) (c c' : Nat) (w : World) (hE : EnvW w) (hl : Pcs w A c l) (hm : Pcs w A' c' m) :
    Calls Tryd.prog 3 #[.slice A l.length c, .slice A' m.length c'] w fun e w' => e = .returned (.bool true) ∧ Below w.heap.size w w' := by
  have HE := Lib.hid hE
  have HL := Lib.hid hl
  have HM := Lib.hid hm
  have ll := hl.lc
  have lm := hm.lc
  have cl := hl.cm
  have cm := hm.cm
  clear hE hl hm
  go_enter Tryd.func3, Tryd.ntmps3
  go_wp2_with fail
  ((with_reducible refine (heavy_any l A c w (by omega) HL.out.nm HL.out.rd).mono ?_); rintro e w1 ⟨z1, rfl, rfl, h1⟩)
  have H1 := Lib.hid h1
  clear h1
  cases z1
  case' true =>
    go_wp2_with fail
    ((with_reducible refine (works_any _ HE.out).mono ?_); rintro e w1 ⟨rfl, hb⟩)
    go_wp2
    go_ret
    exact ⟨rfl, hb⟩
  go_wp2_with fail
  ((with_reducible refine (heavy_any m A' c' _ (by omega) HM.out.nm HM.out.rd).mono ?_); rintro e w1 ⟨z2, rfl, rfl, h2⟩)
  have H2 := Lib.hid h2
  clear h2
  cases z2
  case' true =>
    go_wp2_with fail
    ((with_reducible refine (works_any _ HE.out).mono ?_); rintro e w1 ⟨rfl, hb⟩)
    go_wp2
    go_ret
    exact ⟨rfl, hb⟩
  obtain ⟨h1, n1⟩ := H1.out (by simp)
  obtain ⟨h2, n2⟩ := H2.out (by simp)
  have GL := Lib.hid (grown_of (HL.out.fine n1) 20)
  have GM := Lib.hid (grown_of (HM.out.fine n2) 20)
  clear n1 n2 H1 H2
  have g1 := Lib.hid (fun w' (h : Pcs w' A c l) => grow20 l A c w' h (by omega))
  have g2 := Lib.hid (fun w' (h : Pcs w' A' c' m) => grow20 m A' c' w' h (by omega))
  go_wp2_with fail
  ((with_reducible refine (g1.out _ HL.out).mono ?_); rintro e w1 ⟨a, rfl, hb1, hr1⟩)
  have A1 := Lib.hid (one_grow hr1)
  have B1 := Lib.hid hb1
  clear hr1 hb1
  have hn1 := grow_le 20 l
  generalize (grow 20 l).2 = na at *
  go_wp2_with fail
  ((with_reducible refine (g2.out _ (HM.out.below B1.out)).mono ?_); rintro e w2 ⟨b, rfl, hb2, hr2⟩)
  have A2 := Lib.hid (A1.out.below hb2)
  have D2 := Lib.hid (one_grow hr2)
  have B2 := Lib.hid (B1.out.trans (hb2.mono B1.out.size))
  clear hr2 hb2
  generalize (grow 20 m).2 = nb at *
  have hct : (grow 20 l).1.count ≤ 1000000 := by have := GL.out.ct; omega
  have hok := Lib.hid (all_ok GL.out.al)
  have hln : (txtT (grow 20 l).1).length ≤ 1000000000 := by have := txtT_len GL.out.al; have := GL.out.ct; omega
  have cS := Lib.hid (fun (w' : World) (v v' : Value) => same1 (grow 20 l).1 (grow 20 m).1 v v' w' hct)
  have cR := Lib.hid (fun (w' : World) (v v' : Value) => same1r (grow 20 l).1 (grow 20 m).1 v v' w' hct)
  have cF := fun (w' : World) (v v' : Value) => same1 (grow 20 l).1 (grow 20 l).1 v v' w' hct
  rw [Fo.same_refl] at cF
  have CF := Lib.hid cF
  have cC := Lib.hid (fun (w' : World) (v : Value) => copy1r (grow 20 l).1 v w' hct)
  have cN := Lib.hid (fun (w' : World) (v : Value) => count1 (grow 20 l).1 v w' hct)
  have cM := Lib.hid (fun (w' : World) (v : Value) => count1r (grow 20 l).1 v w' hct)
  have cD := Lib.hid (fun (w' : World) (v : Value) => deep1 (grow 20 l).1 v w' hct)
  have cE := Lib.hid (fun (w' : World) (v : Value) => deep1r (grow 20 l).1 v w' hct)
  have cT := Lib.hid (fun (w' : World) (v : Value) => text1 (grow 20 l).1 v w' hct hok.out hln)
  have cU := Lib.hid (fun (w' : World) (v : Value) => text1r (grow 20 l).1 v w' hct hok.out hln)
  clear cF hct hln
  generalize (⟨(txtT (grow 20 l).1).toArray⟩ : ByteArray) = tb at *
  generalize (grow 20 l).1.count = nc at *
  generalize (grow 20 l).1.deep = nd at *
  generalize (grow 20 l).1.same (grow 20 m).1 = zs at *
  go_wp2_with fail
  ((with_reducible refine (cS.out _ _ _ A2.out D2.out).mono ?_); rintro e w3 ⟨rfl, hb⟩)
  have B3 := Lib.hid (B2.out.trans (hb.mono B2.out.size))
  have A3 := Lib.hid (A2.out.below hb)
  have D3 := Lib.hid (D2.out.below hb)
  clear hb
  go_wp2_with fail
  ((with_reducible refine (cR.out _ _ _ A3.out D3.out).mono ?_); rintro e w4 ⟨rfl, hb⟩)
  have B4 := Lib.hid (B3.out.trans (hb.mono B3.out.size))
  have A4 := Lib.hid (A3.out.below hb)
  clear hb
  go_wp2_with fail
  ((with_reducible refine (cC.out _ _ A4.out).mono ?_); rintro e w5 ⟨u, rfl, hb, hu⟩)
  have B5 := Lib.hid (B4.out.trans (hb.mono B4.out.size))
  have A5 := Lib.hid (A4.out.below hb)
  have U5 := Lib.hid (one_copy A4.out hu)
  clear hb hu
  go_wp2_with fail
  ((with_reducible refine (CF.out _ _ _ A5.out U5.out).mono ?_); rintro e w6 ⟨rfl, hb⟩)
  have B6 := Lib.hid (B5.out.trans (hb.mono B5.out.size))
  have A6 := Lib.hid (A5.out.below hb)
  clear hb
  go_wp2_with fail
  ((with_reducible refine (cN.out _ _ A6.out).mono ?_); rintro e w7 ⟨rfl, hb⟩)
  have B7 := Lib.hid (B6.out.trans (hb.mono B6.out.size))
  have A7 := Lib.hid (A6.out.below hb)
  clear hb
  go_wp2_with fail
  ((with_reducible refine (cM.out _ _ A7.out).mono ?_); rintro e w8 ⟨rfl, hb⟩)
  have B8 := Lib.hid (B7.out.trans (hb.mono B7.out.size))
  have A8 := Lib.hid (A7.out.below hb)
  clear hb
  go_wp2_with fail
  ((with_reducible refine (cD.out _ _ A8.out).mono ?_); rintro e w9 ⟨rfl, hb⟩)
  have B9 := Lib.hid (B8.out.trans (hb.mono B8.out.size))
  have A9 := Lib.hid (A8.out.below hb)
  clear hb
  go_wp2_with fail
  ((with_reducible refine (cE.out _ _ A9.out).mono ?_); rintro e w10 ⟨rfl, hb⟩)
  have B10 := Lib.hid (B9.out.trans (hb.mono B9.out.size))
  have A10 := Lib.hid (A9.out.below hb)
  clear hb
  go_wp2_with fail
  ((with_reducible refine (cT.out _ _ (HE.out.below B10.out).tab A10.out).mono ?_); rintro e w11 ⟨rfl, hb⟩)
  have B11 := Lib.hid (B10.out.trans (hb.mono B10.out.size))
  have A11 := Lib.hid (A10.out.below hb)
  clear hb
  go_wp2_with fail
  ((with_reducible refine (cU.out _ _ A11.out).mono ?_); rintro e w12 ⟨rfl, hb⟩)
  have B12 := Lib.hid (B11.out.trans (hb.mono B11.out.size))
  clear hb
  go_wp2_with fail
  ((with_reducible refine (works_any _ (HE.out.below B12.out)).mono ?_); rintro e w13 ⟨rfl, hb⟩)
  have B13 := Lib.hid (B12.out.trans (hb.mono B12.out.size))
  clear hb
  go_wp2
  go_ret
  exact ⟨rfl, B13.out⟩
end Go.Proofs.YtdpdoigmjnkmdaaDoor.Tr
