/- Read of no text, and of a tree's own; what is read is within the bounds. -/
import Derived.Test.YtdpdoigmjnkmdaaDoorT33
import Derived.Laws.EntriesVeiled
import Derived.Lib.ConvBytes
import Derived.Laws.BitsAllLaws
import Derived.Deep.Cut
import Derived.Deep.RegionHeld3
import Derived.BigQuiet
import Derived.Deep.RegionWith
import Derived.Outline
set_option linter.unusedSimpArgs false
set_option linter.unusedVariables false

namespace Go.Proofs.YtdpdoigmjnkmdaaDoor.Tr
open Go.RowKit
open Fl

set_option maxRecDepth 100000 in
set_option maxHeartbeats 1600000 in
theorem node_nil (rv nv q : Nat) (n : Int) (w : World) (hx : Cx w rv nv q) (hr : Rd w q [] n) :
    Calls Tryd.prog 30 #[.int .i64 1, .pointer (some ⟨rv, 0, none⟩), .pointer (some ⟨nv, 0, none⟩)] w fun e w' => e = .returned (.tuple #[.pointer none, .int .i64 7]) ∧ w = w' := by
  have HN := Lib.hid (show ∀ r, ([] : List UInt8) ≠ 40 :: r by simp)
  have hx1 := hx.1
  have HR := Lib.hid hr
  clear hx hr
  go_enter Tryd.func30, Tryd.ntmps30
  go_wp2_with fail
  ((with_reducible refine (eat_n q [] n 40 w HR.out HN.out).mono ?_); rintro e w7 ⟨rfl, rfl⟩)
  go_wp2
  go_ret2
  exact ⟨rfl, rfl⟩
set_option maxRecDepth 100000 in
set_option maxHeartbeats 6400000 in
theorem read_nil (w : World) : Calls Tryd.prog 20 #[.string ⟨#[]⟩] w fun e w' => e = .returned (.tuple #[.pointer none, .int .i64 7]) ∧ Below w.heap.size w w' := by
  go_enter Tryd.func20, Tryd.ntmps20
  go_wp2_with fail
  have HW : Hid (Below w.heap.size w (((w.alloc (Obj.cells #[Value.string ⟨#[]⟩, Value.int IntKind.i64 0] 62)).alloc (Obj.cells #[Value.pointer (some ⟨w.heap.size, 0, none⟩)] 60)).alloc (Obj.cells #[Value.func (Fn.func 30) #[] #[.pointer (some ⟨w.heap.size + 1, 0, none⟩), .pointer (some ⟨w.heap.size + 1 + 1, 0, none⟩)]] 63))) :=
    Lib.hid ((((Below.refl _ _).alloc (Nat.le_refl _) _).alloc (by simp) _).alloc (by simp; omega) _)
  have HX : Hid (Cx (((w.alloc (Obj.cells #[Value.string ⟨#[]⟩, Value.int IntKind.i64 0] 62)).alloc (Obj.cells #[Value.pointer (some ⟨w.heap.size, 0, none⟩)] 60)).alloc (Obj.cells #[Value.func (Fn.func 30) #[] #[.pointer (some ⟨w.heap.size + 1, 0, none⟩), .pointer (some ⟨w.heap.size + 1 + 1, 0, none⟩)]] 63)) (w.heap.size + 1) (w.heap.size + 1 + 1) w.heap.size) := by
    have b1 := (Blk.new (w.alloc (Obj.cells #[Value.string ⟨#[]⟩, Value.int IntKind.i64 0] 62)) 60 #[Value.pointer (some ⟨w.heap.size, 0, none⟩)]).alloc (Obj.cells #[Value.func (Fn.func 30) #[] #[.pointer (some ⟨w.heap.size + 1, 0, none⟩), .pointer (some ⟨w.heap.size + 1 + 1, 0, none⟩)]] 63)
    have b2 := Blk.new ((w.alloc (Obj.cells #[Value.string ⟨#[]⟩, Value.int IntKind.i64 0] 62)).alloc (Obj.cells #[Value.pointer (some ⟨w.heap.size, 0, none⟩)] 60)) 63 #[Value.func (Fn.func 30) #[] #[.pointer (some ⟨w.heap.size + 1, 0, none⟩), .pointer (some ⟨w.heap.size + 1 + 1, 0, none⟩)]]
    rw [show (w.alloc (Obj.cells #[Value.string ⟨#[]⟩, Value.int IntKind.i64 0] 62)).heap.size = w.heap.size + 1 by simp] at b1
    rw [show ((w.alloc (Obj.cells #[Value.string ⟨#[]⟩, Value.int IntKind.i64 0] 62)).alloc (Obj.cells #[Value.pointer (some ⟨w.heap.size, 0, none⟩)] 60)).heap.size = w.heap.size + 1 + 1 by simp] at b2
    exact Lib.hid ⟨b1.cell 0, b2.cell 0, by omega, by omega⟩
  have HR : Hid (Rd (((w.alloc (Obj.cells #[Value.string ⟨#[]⟩, Value.int IntKind.i64 0] 62)).alloc (Obj.cells #[Value.pointer (some ⟨w.heap.size, 0, none⟩)] 60)).alloc (Obj.cells #[Value.func (Fn.func 30) #[] #[.pointer (some ⟨w.heap.size + 1, 0, none⟩), .pointer (some ⟨w.heap.size + 1 + 1, 0, none⟩)]] 63)) w.heap.size [] 0) :=
    Lib.hid (((Blk.new w 62 #[Value.string ⟨#[]⟩, Value.int IntKind.i64 0]).alloc _).alloc _)
  generalize (((w.alloc (Obj.cells #[Value.string ⟨#[]⟩, Value.int IntKind.i64 0] 62)).alloc (Obj.cells #[Value.pointer (some ⟨w.heap.size, 0, none⟩)] 60)).alloc (Obj.cells #[Value.func (Fn.func 30) #[] #[.pointer (some ⟨w.heap.size + 1, 0, none⟩), .pointer (some ⟨w.heap.size + 1 + 1, 0, none⟩)]] 63)) = W at *
  ((with_reducible refine (node_nil (w.heap.size + 1) (w.heap.size + 1 + 1) w.heap.size 0 W HX.out HR.out).mono ?_); rintro e w5 ⟨rfl, rfl⟩)
  go_wp2
  go_ret2
  exact ⟨rfl, HW.out⟩
/-- A tree's text is read as that tree. -/
theorem read_tree (d : Nd) (k : Fo) (w : World) (h : EnvW w) (h1 : d.nrm) (h2 : k.nrm) (hl : (txt1 d k).length ≤ 1000000000) (hd : 1 + k.deep ≤ 100) (hc : cnt1 k ≤ 8192) :
    Calls Tryd.prog 20 #[.string ⟨(txt1 d k).toArray⟩] w fun e w' => ∃ b, e = .returned (.tuple #[.pointer (some ⟨b, 0, none⟩), .int .i64 0]) ∧ Below w.heap.size w w' ∧ RepS (fun x => w.heap.size ≤ x) w' (.node d k .no) [.pointer (some ⟨b, 0, none⟩)] := by
  refine (read_any (txt1 d k) w hl h.mx h.tabs h.sz).mono fun e w' hr => ?_
  rcases hr with ⟨d', k', u, he, g1, g2, g3, _, _, g4, g5⟩ | ⟨c, he, hc', _, herr⟩
  · obtain ⟨rfl, rfl, _⟩ := txt1_part (x := []) (y := []) h1 g1 h2 g2 (by rw [g3])
    obtain ⟨b, _, _, _, rfl, _⟩ := g5.rep.one
    exact ⟨b, he, g4, g5⟩
  · exfalso
    rcases herr d k h1 h2 rfl with ⟨_, h⟩ | ⟨_, h⟩ <;> omega
theorem nrm_ok (d : Nd) (h : d.nrm) (hl : d.name.size ≤ 1000000000) : d.ok := by
  obtain ⟨h1, h2, h3, h4⟩ := h
  have : d.pos.1 < 4294967296 ∧ d.pos.2 < 4294967296 := by
    rcases h2 with h2 | h2
    · rw [h2]; simp
    · have := Pl.isN_bd h2; omega
  exact ⟨h1, this.1, this.2, hl, h3.1, h3.2⟩
theorem ndT_ge (d : Nd) : d.name.size ≤ (ndT d).length := by
  unfold ndT
  have hn : d.name.data.toList.length = d.name.size := by simp
  simp only [List.length_append, List.length_cons, List.length_nil, hn]
  omega
theorem nrm_okF : ∀ {f : Fo}, f.nrm → f.txt.length ≤ 1000000000 → f.ok
  | .no, _, _ => trivial
  | .node d k r, h, hl => by
    rw [txt_node] at hl
    simp only [txt1, List.length_cons, List.length_append] at hl
    have := ndT_ge d
    exact ⟨nrm_ok d h.1 (by omega), nrm_okF h.2.1 (by omega), nrm_okF h.2.2 (by omega)⟩
theorem nrm_ok1 {d : Nd} {k : Fo} (h1 : d.nrm) (h2 : k.nrm) (hl : (txt1 d k).length ≤ 900000000) : (Fo.node d k .no).ok :=
  nrm_okF (f := .node d k .no) ⟨h1, h2, trivial⟩ (by rw [txt_node]; simp only [Fo.txt, List.length_cons, List.length_append, List.length_nil]; omega)
end Go.Proofs.YtdpdoigmjnkmdaaDoor.Tr

namespace Go.Proofs.YtdpdoigmjnkmdaaDoor.Tr
open Go.RowKit
open Fl

theorem info9 : (Tryd.prog.info? 9).map (fun i => (i.zero, i.size, i.bytes)) = some (some (.string ⟨#[]⟩), 1, 16) := by kernel_rfl
def strV (l : List UInt8) : Value := .string ⟨l.toArray⟩
theorem bytes_facts (u : World) (t : List UInt8) : (∀ j (hj : j < t.length), (Lib.bytesWorld u 5 ⟨t.toArray⟩).cell? ⟨u.heap.size, j, none⟩ = some (.int .u8 (t[j].toNat : Int))) ∧ (∀ j, j < t.length → (Lib.bytesWorld u 5 ⟨t.toArray⟩).frozen? ⟨u.heap.size, j, none⟩ = false) ∧ Below u.heap.size u (Lib.bytesWorld u 5 ⟨t.toArray⟩) := by
  refine ⟨fun j hj => ?_, fun j hj => ?_, Lib.bytesWorld_below _ _ _⟩
  · rw [Lib.bytesWorld_cell u 5 ⟨t.toArray⟩ j (by rw [bsize]; exact hj)]
    simp [List.getD, List.getElem?_eq_getElem hj]
  · unfold World.frozen?
    rw [Lib.bytesWorld_at_new]
    have : t.length ≤ (Lib.bytesCells u 5 ⟨t.toArray⟩).size := by
      unfold Lib.bytesCells; simp
    simp; omega
/-- The bytes of a row whose k-th one is another now. -/
theorem set_facts {W : World} {g k : Nat} {t : List UInt8} {n : Nat} (hn : n < 256) (hk : k < t.length) (h : ∀ j (hj : j < t.length), W.cell? ⟨g, j, none⟩ = some (.int .u8 (t[j].toNat : Int))) :
    ∀ j (hj : j < (t.set k (UInt8.ofNat n)).length), (W.setCell ⟨g, k, none⟩ (.int .u8 (n : Int))).cell? ((⟨g, 0, none⟩ : Addr).add j) = some (.int .u8 ((t.set k (UInt8.ofNat n))[j].toNat : Int)) := by
  intro j hj
  have ha : (⟨g, 0, none⟩ : Addr).add j = ⟨g, j, none⟩ := by unfold Addr.add; split <;> simp_all
  rw [ha]
  rw [List.length_set] at hj
  by_cases e : j = k
  · subst e
    rw [World.cell?_setCell_same _ _ _ (h j hk)]
    simp [List.getElem_set_self]; omega
  · rw [World.cell?_setCell_other _ _ _ _ (by simp <;> omega), h j hj, List.getElem_set_ne (by omega)]
/-- Texts in a row. -/
def Txs (w : World) (g n : Nat) : Prop := ∀ j, j < n → ∃ l : List UInt8, l.length ≤ 900000 ∧ w.cell? ⟨g, j, none⟩ = some (.string ⟨l.toArray⟩)
theorem Txs.below {w w' : World} {g n : Nat} (h : Txs w g n) (hb : Below w.heap.size w w') : Txs w' g n := fun j hj => by
  obtain ⟨l, h1, h2⟩ := h j hj
  exact ⟨l, h1, (hb.cell (p := ⟨g, j, none⟩) (cell_lt h2)).trans h2⟩
theorem held_kj {x y B : World} {b o : Nat} {v : Value} (h : x.cell? ⟨b, o, none⟩ = some v ∧ Below B.heap.size B x) (hb : Below x.heap.size x y) : y.cell? ⟨b, o, none⟩ = some v ∧ Below B.heap.size B y :=
  ⟨(hb.cell (p := ⟨b, o, none⟩) (cell_lt h.1)).trans h.1, h.2.trans (hb.mono h.2.size)⟩
theorem held_bx2 {x B : World} {b o : Nat} {v : Value} (h : x.cell? ⟨b, o, none⟩ = some v ∧ Below B.heap.size B x) : Below B.heap.size B x := h.2
set_option maxRecDepth 100000 in
set_option maxHeartbeats 6400000 in
theorem back_tree (l : List Pc) (A : Option Addr) (c : Nat) (s : List UInt8) (ai : Nat) (by_ : Nat) (w : World) (hE : EnvW w) (hl : Pcs w A c l) (hs : s.length ≤ 9223372036854775807) (ha : ai < 65536) (hby : by_ < 256) (d : Nd) (k : Fo) (hg : (grow 20 l).1 = .node d k .no) :
    Calls Tryd.prog 4 #[.slice A l.length c, .string ⟨s.toArray⟩, .int .u16 ai, .int .u8 by_] w fun e w' => e = .returned (.bool true) ∧ Below w.heap.size w w' := by
  have HE := Lib.hid hE
  have HL := Lib.hid hl
  have HGR := Lib.hid hg
  have ll := hl.lc
  have cl := hl.cm
  have hsz := bsize s
  clear hE hl hg
  generalize hsb : (⟨s.toArray⟩ : ByteArray) = sb at *
  have HSB := Lib.hid hsb
  clear hsb
  go_enter Tryd.func4, Tryd.ntmps4
  go_wp2_with fail
  ((with_reducible refine (heavy_any l A c w (by omega) HL.out.nm HL.out.rd).mono ?_); rintro e w1 ⟨z1, rfl, rfl, h1⟩)
  have H1 := Lib.hid h1
  clear h1
  cases z1
  case' true =>
    go_wp2_with fail
    ((with_reducible refine (works_any _ HE.out).mono ?_); rintro e w1 ⟨rfl, hb⟩)
    go_wp2
    go_ret
    exact ⟨rfl, hb⟩
  by_cases hs4 : 4096 < s.length
  case' pos =>
    go_wp2_with fail
    ((with_reducible refine (works_any _ HE.out).mono ?_); rintro e w1 ⟨rfl, hb⟩)
    go_wp2
    go_ret
    exact ⟨rfl, hb⟩
  obtain ⟨h1, n1⟩ := H1.out (by simp)
  have GL := Lib.hid (grown_of (HL.out.fine n1) 20)
  clear n1 H1
  have g1 := fun w' (h : Pcs w' A c l) => grow20 l A c w' h (by omega)
  rw [HGR.out] at g1 GL
  have G1 := Lib.hid g1
  clear g1
  go_wp2_with fail
  ((with_reducible refine (G1.out _ HL.out).mono ?_); rintro e w2 ⟨a, rfl, hb, hr⟩)
  have hr2 : RepS (fun x => w.heap.size ≤ x) w2 (.node d k .no) [a] := by
    rcases hr with ⟨h, _⟩ | h
    · cases h
    · exact h
  obtain ⟨ba, _, _, _, rfl, -⟩ := hr2.rep.one
  have A2 := Lib.hid hr2.rep
  have B2 := Lib.hid hb
  clear hr hb hr2
  generalize (grow 20 l).2 = na at *
  have hct : (Fo.node d k .no).count ≤ 200 := by have := GL.out.ct; omega
  have hdp : (Fo.node d k .no).deep ≤ 20 := GL.out.dp
  have hok := Lib.hid (all_ok GL.out.al)
  have hnr := Lib.hid (all_nrm GL.out.al)
  have hfi := Lib.hid (all_fits GL.out.al)
  have hln : (txt1 d k).length ≤ 860000 := by have := txtT_len GL.out.al; unfold txtT at this; simp only at this; omega
  have hl0 : 0 < (txt1 d k).length := by unfold txt1; simp; omega
  have cT := Lib.hid (text_any d k (.pointer (some ⟨ba, 0, none⟩)) w2 (by omega) hok.out (by show (txt1 d k).length ≤ _; omega) (HE.out.below B2.out).tab A2.out)
  have cX := fun (v : Value) (w' : World) h h' => (exact_any _ d k d k (.pointer (some ⟨ba, 0, none⟩)) v w' (Nat.le_refl _) (by omega) hfi.out hfi.out h h').mono fun e w' h => bool_draw (P := True) h
  rw [Fo.exact_refl] at cX
  have CX := Lib.hid cX
  have cR := Lib.hid (fun w' h => read_tree d k w' h hnr.out.1 hnr.out.2.1 (by omega) (by simp only [Fo.deep] at hdp; omega) (by simp only [Fo.count] at hct; unfold cnt1; omega))
  clear cX hok hfi
  have hts := bsize (txt1 d k)
  obtain ⟨t, ht⟩ : ∃ t, t = txt1 d k := ⟨_, rfl⟩
  rw [show ndT d ++ k.txt ++ [41] = txt1 d k from rfl] at cT
  rw [← ht] at cT cR hts hln hl0
  have HT := Lib.hid ht
  clear ht
  generalize htb : (⟨t.toArray⟩ : ByteArray) = tb at *
  have HTB := Lib.hid htb
  clear htb
  go_wp2_with fail
  ((with_reducible refine cT.out.mono ?_); rintro e w3 ⟨rfl, hb⟩)
  have B3 := Lib.hid (B2.out.trans (hb.mono B2.out.size))
  have A3 := Lib.hid (A2.out.below hb)
  clear hb
  go_wp2_with fail
  ((with_reducible refine (cR.out _ (HE.out.below B3.out)).mono ?_); rintro e w4 ⟨bx, rfl, hb, hr⟩)
  have B4 := Lib.hid (B3.out.trans (hb.mono B3.out.size))
  have A4 := Lib.hid (A3.out.below hb)
  have X4 := Lib.hid hr.rep
  clear hb hr
  go_wp2_with fail
  ((with_reducible refine (CX.out _ _ A4.out X4.out).mono ?_); rintro e w5 ⟨rfl, hb⟩)
  have B5 := Lib.hid (B4.out.trans (hb.mono B4.out.size))
  clear hb A2 A3 A4 X4 B2 B3 B4 G1 cT cR CX
  have hcv := fun w => Lib.run_convert_string_bytes (P := Tryd.prog) w 9 38 5 tb Tryd.underlying9 Tryd.underlying38 Tryd.underlying5
  have hemp : (!tb.toList.isEmpty) = true := by rw [← HTB.out, ByteArray.toList_eq]; simp; intro e; rw [e] at hl0; simp at hl0
  go_upto_region 11 with (fail)
  have hown := World.ownsRow_lit (base := w5.heap.size) (e := 9) (size := 1) w5 #[Value.string sb, Value.string tb] 2 (Nat.le_refl _) (by unfold maxLen; omega) rfl
  obtain ⟨f1, f2, f3⟩ := bytes_facts (w5.alloc (Obj.cells #[Value.string sb, Value.string tb] 9)) t
  rw [HTB.out] at f1 f2 f3
  have hgs : (w5.alloc (Obj.cells #[Value.string sb, Value.string tb] 9)).heap.size = w5.heap.size + 1 := by simp
  rw [hgs] at f1 f2
  have hb6 : Below w5.heap.size w5 (w5.alloc (Obj.cells #[Value.string sb, Value.string tb] 9)) := (Below.refl _ _).alloc (Nat.le_refl _) _
  have hown7 := hown.kept (grown_below f3 none) (by simp [Value.ownBlock])
  have B7 := Lib.hid (B5.out.trans ((hb6.trans (f3.mono (by simp))).mono B5.out.size))
  have hlt7 : w5.heap.size + 1 < (Lib.bytesWorld (w5.alloc (Obj.cells #[Value.string sb, Value.string tb] 9)) 5 tb).heap.size := by rw [Lib.bytesWorld_size]; simp
  generalize hcap : grownCap (w5.alloc (Obj.cells #[Value.string sb, Value.string tb] 9)) t.length 0 5 = cap at *
  generalize Lib.bytesWorld (w5.alloc (Obj.cells #[Value.string sb, Value.string tb] 9)) 5 tb = w7 at *
  clear hcap hcv hown hgs hb6 f3
  have hlow := B5.out.size
  generalize w5.heap.size = g5 at *
  obtain ⟨k0, hk0⟩ : ∃ k0, k0 = ai % t.length := ⟨_, rfl⟩
  have hk0l : k0 < t.length := by rw [hk0]; exact Nat.mod_lt _ hl0
  have hrem : (ai : Int) % (t.length : Int) = (k0 : Int) := by rw [hk0]; rfl
  have hc0 := f1 k0 hk0l
  have hfz := f2 k0 hk0l
  have hx := u8_xor_nat (t[k0].toNat) by_ (by have := t[k0].toNat_lt; omega) hby
  have hx2 : t[k0].toNat ^^^ by_ < 256 := Nat.xor_lt_two_pow (n := 8) (by have := t[k0].toNat_lt; omega) (by omega)
  have F1 := Lib.hid (set_facts (n := t[k0].toNat ^^^ by_) hx2 hk0l f1)
  generalize t[k0].toNat ^^^ by_ = nb at *
  clear f1 f2 hk0
  go_upto_region 13 with (fail)
  have hown8 := hown7.kept (setCell_grown w7 ⟨g5 + 1, k0, none⟩ (.int .u8 (nb : Int))) (.inr (by simp [Value.ownBlock]))
  have B8 := Lib.hid (B7.out.setCell (p := ⟨g5 + 1, k0, none⟩) (by show _ ≤ g5 + 1; omega) (.int .u8 (nb : Int)))
  have hlt8 : g5 + 1 < (w7.setCell ⟨g5 + 1, k0, none⟩ (.int .u8 (nb : Int))).heap.size := by simpa using hlt7
  have hcb := run_convert_bytes_back (P := Tryd.prog) (w7.setCell ⟨g5 + 1, k0, none⟩ (.int .u8 (nb : Int))) 38 9 5 ⟨g5 + 1, 0, none⟩ cap (t.set k0 (UInt8.ofNat nb)) Tryd.underlying38 Tryd.underlying5 Tryd.underlying9 F1.out
  have ht2 : (t.set k0 (UInt8.ofNat nb)).length = t.length := List.length_set
  rw [ht2] at hcb
  clear hown7 B7 hc0 hfz hx hlt7 hrem
  generalize w7.setCell ⟨g5 + 1, k0, none⟩ (.int .u8 (nb : Int)) = w8 at *
  obtain ⟨t2, ht2e⟩ : ∃ t2, t2 = t.set k0 (UInt8.ofNat nb) := ⟨_, rfl⟩
  rw [← ht2e] at hcb ht2
  have HT2 := Lib.hid ht2
  clear ht2 ht2e F1
  generalize ht2b : (⟨t2.toArray⟩ : ByteArray) = t2b at *
  have HT2B := Lib.hid ht2b
  clear ht2b
  have hs1 := World.news_of_block (cs := #[Value.string t2b]) (t := 9) (fr := (0, 0)) (heap_alloc_new w8 _)
  have q2 : ∀ u ∈ [Value.string t2b], u.oneCell' = true := by simp [Value.oneCell']
  have hown9 := hown8.alloc (.cells #[Value.string t2b] 9)
  have Q := Lib.hid (And.intro hs1 (And.intro q2 hown9))
  obtain ⟨i0, hi, hz0, hz1, hz2⟩ := info_parts info9
  clear hs1 q2 hown9 hown8
  go_wp2_with (at_builtin; refine wpList_append_lies _ rfl _ _ _ rfl g5 9 i0 (.string ⟨#[]⟩) 1 16 Tryd.underlying37 hi hz0 hz1 hz2 rfl (by omega) (.slice (some ⟨g5, 0, none⟩) 2 2) 2 [Value.string sb, Value.string tb] rfl Q.out.2.2 ⟨w8.heap.size, 0, none⟩ 1 1 [.string t2b] rfl rfl Q.out.1 Q.out.2.1 (by omega) (by unfold maxLen; omega) (by omega) (by simp; omega) (w8.heap.size + 1) (by simp) ?_)
  intro gx cp w9 hown1 hgrow hor hlt1
  have B9 := Lib.hid ((B8.out.alloc (by have := B8.out.size; omega) (.cells #[Value.string t2b] 9)).grown hgrow (by simp; have := B8.out.size; omega) (fun k hk => by simp [Value.ownBlock] at hk; omega))
  have TX9 : Hid (Txs w9 gx 3) := Lib.hid (fun j hj => by
    have hc := hown1.cells (g := gx) rfl j
    have ha : (⟨gx, 0, none⟩ : Addr).add j = ⟨gx, j, none⟩ := by unfold Addr.add; split <;> simp_all
    rw [ha] at hc
    match j, hj with
    | 0, _ => exact ⟨s, by omega, by rw [HSB.out]; exact hc _ rfl⟩
    | 1, _ => exact ⟨t, by omega, by rw [HTB.out]; exact hc _ rfl⟩
    | 2, _ => exact ⟨t2, by have := HT2.out; omega, by rw [HT2B.out]; exact hc _ rfl⟩)
  clear hown1 hgrow hor hlt1 B8 Q hcb
  go_wp2
  go_loopw [17] (fun i wr => ∃ j : Nat, j ≤ 3 ∧ i = .int .i64 j ∧ Hid (Below w.heap.size w wr) ∧ Hid (Txs wr gx 3)) (fun i _ => 3 - (intOf i).toNat)
  case atStart => exact ⟨0, by omega, rfl, B9, TX9⟩
  case round =>
    obtain ⟨j, hj, rfl, HB, HTX⟩ := hrel
    by_cases hlt : j < 3
    case' neg =>
      go_wp2_with fail
      ((with_reducible refine (works_any _ (HE.out.below HB.out)).mono ?_); rintro e w9' ⟨rfl, hb⟩)
      have BZ := Lib.hid (HB.out.trans (hb.mono HB.out.size))
      clear hb
      go_wp2
      go_ret
      exact ⟨rfl, BZ.out⟩
    obtain ⟨lt, hltl, hcj⟩ := HTX.out j hlt
    have cR := Lib.hid (fun w' (h : EnvW w') => read_any lt w' (by omega) h.mx h.tabs h.sz)
    have hb9 := bsize lt
    generalize hlb : (⟨lt.toArray⟩ : ByteArray) = lb at *
    have HLB := Lib.hid hlb
    clear hlb
    have hj0 : (0 : Int) ≤ (j : Int) := by omega
    have hj1 : (j : Int) < 3 := by omega
    have hj2 : (j : Int) < ((3 : Nat) : Int) := by omega
    go_wp2_with fail
    ((with_reducible refine (cR.out _ (HE.out.below HB.out)).mono ?_); rintro e wx hres)
    rcases hres with ⟨d2, k2, u2, rfl, q1, q2, q3, q4, q5, hb, hr⟩ | ⟨cc, rfl, hcc, hb, _⟩
    case' inr =>
      have BX := Lib.hid (HB.out.trans (hb.mono HB.out.size))
      have TXX := Lib.hid (HTX.out.below hb)
      clear hb hcj
      rcases hcc with rfl | rfl | rfl
      all_goals
        go_wp2
        go_quiet (fail)
        go_wp2
        go_roundw
        case rel => exact ⟨j + 1, by omega, by go_num, Lib.hid (below_drewN BX.out _), Lib.hid (TXX.out.below (below_drewN (Below.refl _ _) _))⟩
        case measure => simp [intOf]; omega
    obtain ⟨b2, _, _, _, rfl, -⟩ := hr.rep.one
    have hcx : wx.cell? ⟨gx, j, none⟩ = some (.string lb) := (hb.cell (p := ⟨gx, j, none⟩) (cell_lt hcj)).trans hcj
    have BX := Lib.hid (HB.out.trans (hb.mono HB.out.size))
    have TXX := Lib.hid (HTX.out.below hb)
    have RX := Lib.hid hr.rep
    have hok2 := nrm_ok1 q1 q2 (by rw [← q3]; omega)
    have hct2 : (Fo.node d2 k2 .no).count ≤ 1000000 := by simp only [Fo.count]; unfold cnt1 at q5; omega
    have cT2 := fun w' h h' => text_any d2 k2 (.pointer (some ⟨b2, 0, none⟩)) w' hct2 hok2 (by show (txt1 d2 k2).length ≤ _; rw [← q3]; omega) h h'
    rw [show ndT d2 ++ k2.txt ++ [41] = txt1 d2 k2 from rfl, ← q3, HLB.out] at cT2
    have CT2 := Lib.hid cT2
    clear hb hr hcj q1 q2 q3 q4 q5 hok2 hct2 cT2 cR
    go_wp2
    refine wp_region_held_drew (S := (fun x => x.cell? ⟨gx, j, none⟩ = some (.string lb) ∧ Below wx.heap.size wx x)) (by kernel_rfl) ⟨hcx, (Below.refl _ _).drew⟩ (fun hHeld => ?_)
    refine wpAnyH_take (i := 0) (oi := ({ dst := some 100, op := Op.move (Operand.tmp 19), type := 34, pos := _, after := _, guard := none } : Oper)) (v := ?v0) rfl (by kernel_rfl) (by kernel_rfl) (by kernel_rfl) (fun _ _ _ h => h) (Or.inl ⟨by rfl, ?y0⟩) (by assumption) ?r0
    case y0 => (intro w0 hSw; go_split_ands; go_simp; try with_reducible rfl)
    try simp only [Act.put, List.setIfInBounds_toArray, List.set_cons_zero, List.set_cons_succ]
    refine wpAnyH_take (i := 1) (oi := ({ dst := some 101, op := Op.binOp BinOp.eql 34 (Operand.tmp 100) (Operand.const (Value.int IntKind.i64 0)) 34, type := 4, pos := _, after := _, guard := none } : Oper)) (v := ?v1) rfl (by kernel_rfl) (by kernel_rfl) (by kernel_rfl) (fun _ _ _ h => h) (Or.inl ⟨by rfl, ?y1⟩) (by assumption) ?r1
    case y1 => (intro w0 hSw; go_split_ands; go_simp; try with_reducible rfl)
    try simp only [Act.put, List.setIfInBounds_toArray, List.set_cons_zero, List.set_cons_succ]
    refine wpAnyH_take (i := 2) (oi := ({ dst := some 102, op := Op.move (Operand.tmp 101), type := 4, pos := _, after := _, guard := none } : Oper)) (v := ?v2) rfl (by kernel_rfl) (by kernel_rfl) (by kernel_rfl) (fun _ _ _ h => h) (Or.inl ⟨by rfl, ?y2⟩) (by assumption) ?r2
    case y2 => (intro w0 hSw; go_split_ands; go_simp; try with_reducible rfl)
    try simp only [Act.put, List.setIfInBounds_toArray, List.set_cons_zero, List.set_cons_succ]
    refine wpAnyH_take (i := 3) (oi := ({ dst := some 103, op := Op.move (Operand.tmp 18), type := 25, pos := _, after := _, guard := some (2, true) } : Oper)) (v := ?v3) rfl (by kernel_rfl) (by kernel_rfl) (by kernel_rfl) (fun _ _ _ h => h) (Or.inl ⟨by rfl, ?y3⟩) (by assumption) ?r3
    case y3 => (intro w0 hSw; go_split_ands; go_simp; try with_reducible rfl)
    try simp only [Act.put, List.setIfInBounds_toArray, List.set_cons_zero, List.set_cons_succ]
    refine wpAnyH_take (i := 4) (oi := ({ dst := some 104, op := Op.binOp BinOp.eql 25 (Operand.tmp 103) (Operand.const (Value.pointer none)) 25, type := 4, pos := _, after := _, guard := some (2, true) } : Oper)) (v := ?v4) rfl (by kernel_rfl) (by kernel_rfl) (by kernel_rfl) (fun _ _ _ h => h) (Or.inl ⟨by rfl, ?y4⟩) (by assumption) ?r4
    case y4 => (intro w0 hSw; go_split_ands; go_simp; try with_reducible rfl)
    try simp only [Act.put, List.setIfInBounds_toArray, List.set_cons_zero, List.set_cons_succ]
    refine wpAnyH_take (i := 5) (oi := ({ dst := some 105, op := Op.move (Operand.tmp 104), type := 4, pos := _, after := _, guard := some (2, true) } : Oper)) (v := ?v5) rfl (by kernel_rfl) (by kernel_rfl) (by kernel_rfl) (fun _ _ _ h => h) (Or.inl ⟨by rfl, ?y5⟩) (by assumption) ?r5
    case y5 => (intro w0 hSw; go_split_ands; go_simp; try with_reducible rfl)
    try simp only [Act.put, List.setIfInBounds_toArray, List.set_cons_zero, List.set_cons_succ]
    refine wpAnyH_take (i := 6) (oi := ({ dst := some 106, op := Op.move (Operand.tmp 18), type := 25, pos := _, after := _, guard := some (5, false) } : Oper)) (v := ?v6) rfl (by kernel_rfl) (by kernel_rfl) (by kernel_rfl) (fun _ _ _ h => h) (Or.inl ⟨by rfl, ?y6⟩) (by assumption) ?r6
    case y6 => (intro w0 hSw; go_split_ands; go_simp; try with_reducible rfl)
    try simp only [Act.put, List.setIfInBounds_toArray, List.set_cons_zero, List.set_cons_succ]
    refine wpAnyH_take (i := 8) (oi := ({ dst := some 108, op := Op.move (Operand.tmp 14), type := 37, pos := _, after := _, guard := some (5, false) } : Oper)) (v := ?v8) rfl (by kernel_rfl) (by kernel_rfl) (by kernel_rfl) (fun _ _ _ h => h) (Or.inl ⟨by rfl, ?y8⟩) (by assumption) ?r8
    case y8 => (intro w0 hSw; go_split_ands; go_simp; try with_reducible rfl)
    try simp only [Act.put, List.setIfInBounds_toArray, List.set_cons_zero, List.set_cons_succ]
    refine wpAnyH_take (i := 9) (oi := ({ dst := some 109, op := Op.move (Operand.tmp 17), type := 3, pos := _, after := _, guard := some (5, false) } : Oper)) (v := ?v9) rfl (by kernel_rfl) (by kernel_rfl) (by kernel_rfl) (fun _ _ _ h => h) (Or.inl ⟨by rfl, ?y9⟩) (by assumption) ?r9
    case y9 => (intro w0 hSw; go_split_ands; go_simp; try with_reducible rfl)
    try simp only [Act.put, List.setIfInBounds_toArray, List.set_cons_zero, List.set_cons_succ]
    refine wpAnyH_take (i := 10) (oi := ({ dst := some 110, op := Op.indexAddr 37 (Operand.tmp 108) (Operand.tmp 109), type := 0, pos := _, after := _, guard := some (5, false) } : Oper)) (v := ?v10) rfl (by kernel_rfl) (by kernel_rfl) (by kernel_rfl) (fun _ _ _ h => h) (Or.inl ⟨by rfl, ?y10⟩) (by assumption) ?r10
    case y10 => (intro w0 hSw; go_split_ands; go_simp; try with_reducible rfl)
    try simp only [Act.put, List.setIfInBounds_toArray, List.set_cons_zero, List.set_cons_succ]
    refine wpAnyH_take (i := 11) (oi := ({ dst := some 111, op := Op.load 9 (Operand.tmp 110), type := 9, pos := _, after := _, guard := some (5, false) } : Oper)) (v := ?v11) rfl (by kernel_rfl) (by kernel_rfl) (by kernel_rfl) (fun _ _ _ h => h) (Or.inl ⟨by rfl, ?y11⟩) (by assumption) ?r11
    case y11 => (intro w0 hSw; go_split_ands; go_simp; try with_reducible rfl)
    try simp only [Act.put, List.setIfInBounds_toArray, List.set_cons_zero, List.set_cons_succ]
    have hh := hHeld
    refine wpAnyH_ready (rs := [7]) (by kernel_rfl) (by simp) ?_
    refine AllReadyH.cons (o := ({ dst := some 107, op := Op.call { callee := Callee.value (Operand.func 18), args := #[Operand.tmp 106], argTypes := #[25] }, type := 9, pos := _, after := _, guard := some (5, false) } : Oper)) rfl (fun K hK => ?_) AllReadyH.nil
    go_simp
    ((with_reducible refine (CT2.out _ (HE.out.below (BX.out.trans (hh.2.mono BX.out.size))).tab (RX.out.below hh.2)).mono ?_); rintro e w' ⟨rfl, hbb⟩)
    refine hK.out _ _ (held_kj hh hbb) (fun hHeld => ?_)
    clear hK K
    try simp only [Act.put, List.setIfInBounds_toArray, List.set_cons_zero, List.set_cons_succ]
    clear hh
    refine wpAnyH_take (i := 12) (oi := ({ dst := some 112, op := Op.binOp BinOp.neq 9 (Operand.tmp 107) (Operand.tmp 111) 9, type := 4, pos := _, after := _, guard := some (5, false) } : Oper)) (v := ?v12) rfl (by kernel_rfl) (by kernel_rfl) (by kernel_rfl) (fun _ _ _ h => h) (Or.inl ⟨by rfl, ?y12⟩) (by assumption) ?r12
    case y12 => (intro w0 hSw; go_split_ands; go_simp; try with_reducible rfl)
    try simp only [Act.put, List.setIfInBounds_toArray, List.set_cons_zero, List.set_cons_succ]
    refine wpAnyH_take (i := 13) (oi := ({ dst := some 113, op := Op.pick (Operand.tmp 105) (Operand.const (Value.bool true)) (Operand.tmp 112), type := 4, pos := _, after := _, guard := some (2, true) } : Oper)) (v := ?v13) rfl (by kernel_rfl) (by kernel_rfl) (by kernel_rfl) (fun _ _ _ h => h) (Or.inl ⟨by rfl, ?y13⟩) (by assumption) ?r13
    case y13 => (intro w0 hSw; go_split_ands; go_simp; try with_reducible rfl)
    try simp only [Act.put, List.setIfInBounds_toArray, List.set_cons_zero, List.set_cons_succ]
    refine wpAnyH_take (i := 14) (oi := ({ dst := some 114, op := Op.pick (Operand.tmp 102) (Operand.tmp 113) (Operand.const (Value.bool false)), type := 4, pos := _, after := _, guard := none } : Oper)) (v := ?v14) rfl (by kernel_rfl) (by kernel_rfl) (by kernel_rfl) (fun _ _ _ h => h) (Or.inl ⟨by rfl, ?y14⟩) (by assumption) ?r14
    case y14 => (intro w0 hSw; go_split_ands; go_simp; try with_reducible rfl)
    try simp only [Act.put, List.setIfInBounds_toArray, List.set_cons_zero, List.set_cons_succ]
    refine wpAnyH_take (i := 15) (oi := ({ dst := some 115, op := Op.move (Operand.tmp 114), type := 4, pos := _, after := _, guard := none } : Oper)) (v := ?v15) rfl (by kernel_rfl) (by kernel_rfl) (by kernel_rfl) (fun _ _ _ h => h) (Or.inl ⟨by rfl, ?y15⟩) (by assumption) ?r15
    case y15 => (intro w0 hSw; go_split_ands; go_simp; try with_reducible rfl)
    try simp only [Act.put, List.setIfInBounds_toArray, List.set_cons_zero, List.set_cons_succ]
    refine wpAnyH_take (i := 16) (oi := ({ dst := some 116, op := Op.move (Operand.tmp 19), type := 34, pos := _, after := _, guard := some (15, false) } : Oper)) (v := ?v16) rfl (by kernel_rfl) (by kernel_rfl) (by kernel_rfl) (fun _ _ _ h => h) (Or.inl ⟨by rfl, ?y16⟩) (by assumption) ?r16
    case y16 => (intro w0 hSw; go_split_ands; go_simp; try with_reducible rfl)
    try simp only [Act.put, List.setIfInBounds_toArray, List.set_cons_zero, List.set_cons_succ]
    refine wpAnyH_take (i := 17) (oi := ({ dst := some 117, op := Op.binOp BinOp.neq 34 (Operand.tmp 116) (Operand.const (Value.int IntKind.i64 0)) 34, type := 4, pos := _, after := _, guard := some (15, false) } : Oper)) (v := ?v17) rfl (by kernel_rfl) (by kernel_rfl) (by kernel_rfl) (fun _ _ _ h => h) (Or.inl ⟨by rfl, ?y17⟩) (by assumption) ?r17
    case y17 => (intro w0 hSw; go_split_ands; go_simp; try with_reducible rfl)
    try simp only [Act.put, List.setIfInBounds_toArray, List.set_cons_zero, List.set_cons_succ]
    refine wpAnyH_take (i := 18) (oi := ({ dst := some 118, op := Op.move (Operand.tmp 117), type := 4, pos := _, after := _, guard := some (15, false) } : Oper)) (v := ?v18) rfl (by kernel_rfl) (by kernel_rfl) (by kernel_rfl) (fun _ _ _ h => h) (Or.inl ⟨by rfl, ?y18⟩) (by assumption) ?r18
    case y18 => (intro w0 hSw; go_split_ands; go_simp; try with_reducible rfl)
    try simp only [Act.put, List.setIfInBounds_toArray, List.set_cons_zero, List.set_cons_succ]
    refine wpAnyH_take (i := 19) (oi := ({ dst := some 119, op := Op.move (Operand.tmp 18), type := 25, pos := _, after := _, guard := some (18, true) } : Oper)) (v := undef) rfl (by kernel_rfl) (by kernel_rfl) (by kernel_rfl) (fun _ _ _ h => h) (Or.inr ⟨by rfl, rfl⟩) (by assumption) ?_
    try simp only [Act.put, List.setIfInBounds_toArray, List.set_cons_zero, List.set_cons_succ]
    refine wpAnyH_take (i := 20) (oi := ({ dst := some 120, op := Op.binOp BinOp.neq 25 (Operand.tmp 119) (Operand.const (Value.pointer none)) 25, type := 4, pos := _, after := _, guard := some (18, true) } : Oper)) (v := undef) rfl (by kernel_rfl) (by kernel_rfl) (by kernel_rfl) (fun _ _ _ h => h) (Or.inr ⟨by rfl, rfl⟩) (by assumption) ?_
    try simp only [Act.put, List.setIfInBounds_toArray, List.set_cons_zero, List.set_cons_succ]
    refine wpAnyH_take (i := 21) (oi := ({ dst := some 121, op := Op.pick (Operand.tmp 118) (Operand.tmp 120) (Operand.const (Value.bool false)), type := 4, pos := _, after := _, guard := some (15, false) } : Oper)) (v := ?v21) rfl (by kernel_rfl) (by kernel_rfl) (by kernel_rfl) (fun _ _ _ h => h) (Or.inl ⟨by rfl, ?y21⟩) (by assumption) ?r21
    case y21 => (intro w0 hSw; go_split_ands; go_simp; try with_reducible rfl)
    try simp only [Act.put, List.setIfInBounds_toArray, List.set_cons_zero, List.set_cons_succ]
    refine wpAnyH_take (i := 22) (oi := ({ dst := some 122, op := Op.pick (Operand.tmp 115) (Operand.const (Value.bool true)) (Operand.tmp 121), type := 4, pos := _, after := _, guard := none } : Oper)) (v := ?v22) rfl (by kernel_rfl) (by kernel_rfl) (by kernel_rfl) (fun _ _ _ h => h) (Or.inl ⟨by rfl, ?y22⟩) (by assumption) ?r22
    case y22 => (intro w0 hSw; go_split_ands; go_simp; try with_reducible rfl)
    try simp only [Act.put, List.setIfInBounds_toArray, List.set_cons_zero, List.set_cons_succ]
    refine wpAnyH_done (by kernel_rfl) ?_ _
    have hH := held_bx2 (by assumption)
    rename_i hHeld
    clear hHeld hcx
    have BY := Lib.hid (BX.out.trans (hH.mono BX.out.size))
    have TXY := Lib.hid (TXX.out.below hH)
    clear hH
    go_wp2
    go_roundw
    case rel => exact ⟨j + 1, by omega, by go_num, BY, TXY⟩
    case measure => simp [intOf]; omega
end Go.Proofs.YtdpdoigmjnkmdaaDoor.Tr

namespace Go.Proofs.YtdpdoigmjnkmdaaDoor.Tr
open Go.RowKit
open Fl

set_option maxRecDepth 100000 in
set_option maxHeartbeats 6400000 in
theorem back_none (l : List Pc) (A : Option Addr) (c : Nat) (s : List UInt8) (ai : Nat) (by_ : Nat) (w : World) (hE : EnvW w) (hl : Pcs w A c l) (hs : s.length ≤ 9223372036854775807) (hg : (grow 20 l).1 = .no) :
    Calls Tryd.prog 4 #[.slice A l.length c, .string ⟨s.toArray⟩, .int .u16 ai, .int .u8 by_] w fun e w' => e = .returned (.bool true) ∧ Below w.heap.size w w' := by
  have HE := Lib.hid hE
  have HL := Lib.hid hl
  have HGR := Lib.hid hg
  have ll := hl.lc
  have cl := hl.cm
  have hsz := bsize s
  clear hE hl hg
  generalize hsb : (⟨s.toArray⟩ : ByteArray) = sb at *
  have HSB := Lib.hid hsb
  clear hsb
  go_enter Tryd.func4, Tryd.ntmps4
  go_wp2_with fail
  ((with_reducible refine (heavy_any l A c w (by omega) HL.out.nm HL.out.rd).mono ?_); rintro e w1 ⟨z1, rfl, rfl, h1⟩)
  have H1 := Lib.hid h1
  clear h1
  cases z1
  case' true =>
    go_wp2_with fail
    ((with_reducible refine (works_any _ HE.out).mono ?_); rintro e w1 ⟨rfl, hb⟩)
    go_wp2
    go_ret
    exact ⟨rfl, hb⟩
  by_cases hs4 : 4096 < s.length
  case' pos =>
    go_wp2_with fail
    ((with_reducible refine (works_any _ HE.out).mono ?_); rintro e w1 ⟨rfl, hb⟩)
    go_wp2
    go_ret
    exact ⟨rfl, hb⟩
  obtain ⟨h1, n1⟩ := H1.out (by simp)
  clear n1 H1
  have g1 := fun w' (h : Pcs w' A c l) => grow20 l A c w' h (by omega)
  rw [HGR.out] at g1
  have G1 := Lib.hid g1
  clear g1
  go_wp2_with fail
  ((with_reducible refine (G1.out _ HL.out).mono ?_); rintro e w2 ⟨a, rfl, hb, hr⟩)
  have ha : a = .pointer none := by
    rcases hr with ⟨_, h⟩ | h
    · exact h
    · unfold RepS at h; cases h
  subst ha
  have B2 := Lib.hid hb
  clear hr hb
  generalize (grow 20 l).2 = na at *
  go_wp2_with fail
  ((with_reducible refine (text1_n _).mono ?_); rintro e w3 ⟨rfl, hb⟩)
  have B3 := Lib.hid (B2.out.trans (hb.mono B2.out.size))
  clear hb
  go_wp2_with fail
  ((with_reducible refine (read_nil _).mono ?_); rintro e w5 ⟨rfl, hb⟩)
  have B5 := Lib.hid (B3.out.trans (hb.mono B3.out.size))
  clear hb B2 B3 G1
  go_wp2
  have hown1 := World.ownsRow_lit (base := w5.heap.size) (e := 9) (size := 1) w5 #[Value.string sb, Value.string ⟨#[]⟩] 2 (Nat.le_refl _) (by unfold maxLen; omega) rfl
  have B9 := Lib.hid (B5.out.alloc B5.out.size (.cells #[Value.string sb, Value.string ⟨#[]⟩] 9))
  generalize w5.alloc (.cells #[Value.string sb, Value.string ⟨#[]⟩] 9) = w9 at *
  generalize w5.heap.size = gx at *
  have TX9 : Hid (Txs w9 gx 2) := Lib.hid (fun j hj => by
    have hc := hown1.cells (g := gx) rfl j
    have ha : (⟨gx, 0, none⟩ : Addr).add j = ⟨gx, j, none⟩ := by unfold Addr.add; split <;> simp_all
    rw [ha] at hc
    match j, hj with
    | 0, _ => exact ⟨s, by omega, by rw [HSB.out]; exact hc _ rfl⟩
    | 1, _ => exact ⟨[], by simp, hc _ rfl⟩)
  clear hown1 B5
  go_loopw [17] (fun i wr => ∃ j : Nat, j ≤ 2 ∧ i = .int .i64 j ∧ Hid (Below w.heap.size w wr) ∧ Hid (Txs wr gx 2)) (fun i _ => 2 - (intOf i).toNat)
  case atStart => exact ⟨0, by omega, rfl, B9, TX9⟩
  case round =>
    obtain ⟨j, hj, rfl, HB, HTX⟩ := hrel
    by_cases hlt : j < 2
    case' neg =>
      go_wp2_with fail
      ((with_reducible refine (works_any _ (HE.out.below HB.out)).mono ?_); rintro e w9' ⟨rfl, hb⟩)
      have BZ := Lib.hid (HB.out.trans (hb.mono HB.out.size))
      clear hb
      go_wp2
      go_ret
      exact ⟨rfl, BZ.out⟩
    obtain ⟨lt, hltl, hcj⟩ := HTX.out j hlt
    have cR := Lib.hid (fun w' (h : EnvW w') => read_any lt w' (by omega) h.mx h.tabs h.sz)
    have hb9 := bsize lt
    generalize hlb : (⟨lt.toArray⟩ : ByteArray) = lb at *
    have HLB := Lib.hid hlb
    clear hlb
    have hj0 : (0 : Int) ≤ (j : Int) := by omega
    have hj1 : (j : Int) < 2 := by omega
    have hj2 : (j : Int) < ((2 : Nat) : Int) := by omega
    go_wp2_with fail
    ((with_reducible refine (cR.out _ (HE.out.below HB.out)).mono ?_); rintro e wx hres)
    rcases hres with ⟨d2, k2, u2, rfl, q1, q2, q3, q4, q5, hb, hr⟩ | ⟨cc, rfl, hcc, hb, _⟩
    case' inr =>
      have BX := Lib.hid (HB.out.trans (hb.mono HB.out.size))
      have TXX := Lib.hid (HTX.out.below hb)
      clear hb hcj
      rcases hcc with rfl | rfl | rfl
      all_goals
        go_wp2
        go_quiet (fail)
        go_wp2
        go_roundw
        case rel => exact ⟨j + 1, by omega, by go_num, Lib.hid (below_drewN BX.out _), Lib.hid (TXX.out.below (below_drewN (Below.refl _ _) _))⟩
        case measure => simp [intOf]; omega
    obtain ⟨b2, _, _, _, rfl, -⟩ := hr.rep.one
    have hcx : wx.cell? ⟨gx, j, none⟩ = some (.string lb) := (hb.cell (p := ⟨gx, j, none⟩) (cell_lt hcj)).trans hcj
    have BX := Lib.hid (HB.out.trans (hb.mono HB.out.size))
    have TXX := Lib.hid (HTX.out.below hb)
    have RX := Lib.hid hr.rep
    have hok2 := nrm_ok1 q1 q2 (by rw [← q3]; omega)
    have hct2 : (Fo.node d2 k2 .no).count ≤ 1000000 := by simp only [Fo.count]; unfold cnt1 at q5; omega
    have cT2 := fun w' h h' => text_any d2 k2 (.pointer (some ⟨b2, 0, none⟩)) w' hct2 hok2 (by show (txt1 d2 k2).length ≤ _; rw [← q3]; omega) h h'
    rw [show ndT d2 ++ k2.txt ++ [41] = txt1 d2 k2 from rfl, ← q3, HLB.out] at cT2
    have CT2 := Lib.hid cT2
    clear hb hr hcj q1 q2 q3 q4 q5 hok2 hct2 cT2 cR
    go_wp2
    refine wp_region_held_drew (S := (fun x => x.cell? ⟨gx, j, none⟩ = some (.string lb) ∧ Below wx.heap.size wx x)) (by kernel_rfl) ⟨hcx, (Below.refl _ _).drew⟩ (fun hHeld => ?_)
    refine wpAnyH_take (i := 0) (oi := ({ dst := some 100, op := Op.move (Operand.tmp 19), type := 34, pos := _, after := _, guard := none } : Oper)) (v := ?v0) rfl (by kernel_rfl) (by kernel_rfl) (by kernel_rfl) (fun _ _ _ h => h) (Or.inl ⟨by rfl, ?y0⟩) (by assumption) ?r0
    case y0 => (intro w0 hSw; go_split_ands; go_simp; try with_reducible rfl)
    try simp only [Act.put, List.setIfInBounds_toArray, List.set_cons_zero, List.set_cons_succ]
    refine wpAnyH_take (i := 1) (oi := ({ dst := some 101, op := Op.binOp BinOp.eql 34 (Operand.tmp 100) (Operand.const (Value.int IntKind.i64 0)) 34, type := 4, pos := _, after := _, guard := none } : Oper)) (v := ?v1) rfl (by kernel_rfl) (by kernel_rfl) (by kernel_rfl) (fun _ _ _ h => h) (Or.inl ⟨by rfl, ?y1⟩) (by assumption) ?r1
    case y1 => (intro w0 hSw; go_split_ands; go_simp; try with_reducible rfl)
    try simp only [Act.put, List.setIfInBounds_toArray, List.set_cons_zero, List.set_cons_succ]
    refine wpAnyH_take (i := 2) (oi := ({ dst := some 102, op := Op.move (Operand.tmp 101), type := 4, pos := _, after := _, guard := none } : Oper)) (v := ?v2) rfl (by kernel_rfl) (by kernel_rfl) (by kernel_rfl) (fun _ _ _ h => h) (Or.inl ⟨by rfl, ?y2⟩) (by assumption) ?r2
    case y2 => (intro w0 hSw; go_split_ands; go_simp; try with_reducible rfl)
    try simp only [Act.put, List.setIfInBounds_toArray, List.set_cons_zero, List.set_cons_succ]
    refine wpAnyH_take (i := 3) (oi := ({ dst := some 103, op := Op.move (Operand.tmp 18), type := 25, pos := _, after := _, guard := some (2, true) } : Oper)) (v := ?v3) rfl (by kernel_rfl) (by kernel_rfl) (by kernel_rfl) (fun _ _ _ h => h) (Or.inl ⟨by rfl, ?y3⟩) (by assumption) ?r3
    case y3 => (intro w0 hSw; go_split_ands; go_simp; try with_reducible rfl)
    try simp only [Act.put, List.setIfInBounds_toArray, List.set_cons_zero, List.set_cons_succ]
    refine wpAnyH_take (i := 4) (oi := ({ dst := some 104, op := Op.binOp BinOp.eql 25 (Operand.tmp 103) (Operand.const (Value.pointer none)) 25, type := 4, pos := _, after := _, guard := some (2, true) } : Oper)) (v := ?v4) rfl (by kernel_rfl) (by kernel_rfl) (by kernel_rfl) (fun _ _ _ h => h) (Or.inl ⟨by rfl, ?y4⟩) (by assumption) ?r4
    case y4 => (intro w0 hSw; go_split_ands; go_simp; try with_reducible rfl)
    try simp only [Act.put, List.setIfInBounds_toArray, List.set_cons_zero, List.set_cons_succ]
    refine wpAnyH_take (i := 5) (oi := ({ dst := some 105, op := Op.move (Operand.tmp 104), type := 4, pos := _, after := _, guard := some (2, true) } : Oper)) (v := ?v5) rfl (by kernel_rfl) (by kernel_rfl) (by kernel_rfl) (fun _ _ _ h => h) (Or.inl ⟨by rfl, ?y5⟩) (by assumption) ?r5
    case y5 => (intro w0 hSw; go_split_ands; go_simp; try with_reducible rfl)
    try simp only [Act.put, List.setIfInBounds_toArray, List.set_cons_zero, List.set_cons_succ]
    refine wpAnyH_take (i := 6) (oi := ({ dst := some 106, op := Op.move (Operand.tmp 18), type := 25, pos := _, after := _, guard := some (5, false) } : Oper)) (v := ?v6) rfl (by kernel_rfl) (by kernel_rfl) (by kernel_rfl) (fun _ _ _ h => h) (Or.inl ⟨by rfl, ?y6⟩) (by assumption) ?r6
    case y6 => (intro w0 hSw; go_split_ands; go_simp; try with_reducible rfl)
    try simp only [Act.put, List.setIfInBounds_toArray, List.set_cons_zero, List.set_cons_succ]
    refine wpAnyH_take (i := 8) (oi := ({ dst := some 108, op := Op.move (Operand.tmp 14), type := 37, pos := _, after := _, guard := some (5, false) } : Oper)) (v := ?v8) rfl (by kernel_rfl) (by kernel_rfl) (by kernel_rfl) (fun _ _ _ h => h) (Or.inl ⟨by rfl, ?y8⟩) (by assumption) ?r8
    case y8 => (intro w0 hSw; go_split_ands; go_simp; try with_reducible rfl)
    try simp only [Act.put, List.setIfInBounds_toArray, List.set_cons_zero, List.set_cons_succ]
    refine wpAnyH_take (i := 9) (oi := ({ dst := some 109, op := Op.move (Operand.tmp 17), type := 3, pos := _, after := _, guard := some (5, false) } : Oper)) (v := ?v9) rfl (by kernel_rfl) (by kernel_rfl) (by kernel_rfl) (fun _ _ _ h => h) (Or.inl ⟨by rfl, ?y9⟩) (by assumption) ?r9
    case y9 => (intro w0 hSw; go_split_ands; go_simp; try with_reducible rfl)
    try simp only [Act.put, List.setIfInBounds_toArray, List.set_cons_zero, List.set_cons_succ]
    refine wpAnyH_take (i := 10) (oi := ({ dst := some 110, op := Op.indexAddr 37 (Operand.tmp 108) (Operand.tmp 109), type := 0, pos := _, after := _, guard := some (5, false) } : Oper)) (v := ?v10) rfl (by kernel_rfl) (by kernel_rfl) (by kernel_rfl) (fun _ _ _ h => h) (Or.inl ⟨by rfl, ?y10⟩) (by assumption) ?r10
    case y10 => (intro w0 hSw; go_split_ands; go_simp; try with_reducible rfl)
    try simp only [Act.put, List.setIfInBounds_toArray, List.set_cons_zero, List.set_cons_succ]
    refine wpAnyH_take (i := 11) (oi := ({ dst := some 111, op := Op.load 9 (Operand.tmp 110), type := 9, pos := _, after := _, guard := some (5, false) } : Oper)) (v := ?v11) rfl (by kernel_rfl) (by kernel_rfl) (by kernel_rfl) (fun _ _ _ h => h) (Or.inl ⟨by rfl, ?y11⟩) (by assumption) ?r11
    case y11 => (intro w0 hSw; go_split_ands; go_simp; try with_reducible rfl)
    try simp only [Act.put, List.setIfInBounds_toArray, List.set_cons_zero, List.set_cons_succ]
    have hh := hHeld
    refine wpAnyH_ready (rs := [7]) (by kernel_rfl) (by simp) ?_
    refine AllReadyH.cons (o := ({ dst := some 107, op := Op.call { callee := Callee.value (Operand.func 18), args := #[Operand.tmp 106], argTypes := #[25] }, type := 9, pos := _, after := _, guard := some (5, false) } : Oper)) rfl (fun K hK => ?_) AllReadyH.nil
    go_simp
    ((with_reducible refine (CT2.out _ (HE.out.below (BX.out.trans (hh.2.mono BX.out.size))).tab (RX.out.below hh.2)).mono ?_); rintro e w' ⟨rfl, hbb⟩)
    refine hK.out _ _ (held_kj hh hbb) (fun hHeld => ?_)
    clear hK K
    try simp only [Act.put, List.setIfInBounds_toArray, List.set_cons_zero, List.set_cons_succ]
    clear hh
    refine wpAnyH_take (i := 12) (oi := ({ dst := some 112, op := Op.binOp BinOp.neq 9 (Operand.tmp 107) (Operand.tmp 111) 9, type := 4, pos := _, after := _, guard := some (5, false) } : Oper)) (v := ?v12) rfl (by kernel_rfl) (by kernel_rfl) (by kernel_rfl) (fun _ _ _ h => h) (Or.inl ⟨by rfl, ?y12⟩) (by assumption) ?r12
    case y12 => (intro w0 hSw; go_split_ands; go_simp; try with_reducible rfl)
    try simp only [Act.put, List.setIfInBounds_toArray, List.set_cons_zero, List.set_cons_succ]
    refine wpAnyH_take (i := 13) (oi := ({ dst := some 113, op := Op.pick (Operand.tmp 105) (Operand.const (Value.bool true)) (Operand.tmp 112), type := 4, pos := _, after := _, guard := some (2, true) } : Oper)) (v := ?v13) rfl (by kernel_rfl) (by kernel_rfl) (by kernel_rfl) (fun _ _ _ h => h) (Or.inl ⟨by rfl, ?y13⟩) (by assumption) ?r13
    case y13 => (intro w0 hSw; go_split_ands; go_simp; try with_reducible rfl)
    try simp only [Act.put, List.setIfInBounds_toArray, List.set_cons_zero, List.set_cons_succ]
    refine wpAnyH_take (i := 14) (oi := ({ dst := some 114, op := Op.pick (Operand.tmp 102) (Operand.tmp 113) (Operand.const (Value.bool false)), type := 4, pos := _, after := _, guard := none } : Oper)) (v := ?v14) rfl (by kernel_rfl) (by kernel_rfl) (by kernel_rfl) (fun _ _ _ h => h) (Or.inl ⟨by rfl, ?y14⟩) (by assumption) ?r14
    case y14 => (intro w0 hSw; go_split_ands; go_simp; try with_reducible rfl)
    try simp only [Act.put, List.setIfInBounds_toArray, List.set_cons_zero, List.set_cons_succ]
    refine wpAnyH_take (i := 15) (oi := ({ dst := some 115, op := Op.move (Operand.tmp 114), type := 4, pos := _, after := _, guard := none } : Oper)) (v := ?v15) rfl (by kernel_rfl) (by kernel_rfl) (by kernel_rfl) (fun _ _ _ h => h) (Or.inl ⟨by rfl, ?y15⟩) (by assumption) ?r15
    case y15 => (intro w0 hSw; go_split_ands; go_simp; try with_reducible rfl)
    try simp only [Act.put, List.setIfInBounds_toArray, List.set_cons_zero, List.set_cons_succ]
    refine wpAnyH_take (i := 16) (oi := ({ dst := some 116, op := Op.move (Operand.tmp 19), type := 34, pos := _, after := _, guard := some (15, false) } : Oper)) (v := ?v16) rfl (by kernel_rfl) (by kernel_rfl) (by kernel_rfl) (fun _ _ _ h => h) (Or.inl ⟨by rfl, ?y16⟩) (by assumption) ?r16
    case y16 => (intro w0 hSw; go_split_ands; go_simp; try with_reducible rfl)
    try simp only [Act.put, List.setIfInBounds_toArray, List.set_cons_zero, List.set_cons_succ]
    refine wpAnyH_take (i := 17) (oi := ({ dst := some 117, op := Op.binOp BinOp.neq 34 (Operand.tmp 116) (Operand.const (Value.int IntKind.i64 0)) 34, type := 4, pos := _, after := _, guard := some (15, false) } : Oper)) (v := ?v17) rfl (by kernel_rfl) (by kernel_rfl) (by kernel_rfl) (fun _ _ _ h => h) (Or.inl ⟨by rfl, ?y17⟩) (by assumption) ?r17
    case y17 => (intro w0 hSw; go_split_ands; go_simp; try with_reducible rfl)
    try simp only [Act.put, List.setIfInBounds_toArray, List.set_cons_zero, List.set_cons_succ]
    refine wpAnyH_take (i := 18) (oi := ({ dst := some 118, op := Op.move (Operand.tmp 117), type := 4, pos := _, after := _, guard := some (15, false) } : Oper)) (v := ?v18) rfl (by kernel_rfl) (by kernel_rfl) (by kernel_rfl) (fun _ _ _ h => h) (Or.inl ⟨by rfl, ?y18⟩) (by assumption) ?r18
    case y18 => (intro w0 hSw; go_split_ands; go_simp; try with_reducible rfl)
    try simp only [Act.put, List.setIfInBounds_toArray, List.set_cons_zero, List.set_cons_succ]
    refine wpAnyH_take (i := 19) (oi := ({ dst := some 119, op := Op.move (Operand.tmp 18), type := 25, pos := _, after := _, guard := some (18, true) } : Oper)) (v := undef) rfl (by kernel_rfl) (by kernel_rfl) (by kernel_rfl) (fun _ _ _ h => h) (Or.inr ⟨by rfl, rfl⟩) (by assumption) ?_
    try simp only [Act.put, List.setIfInBounds_toArray, List.set_cons_zero, List.set_cons_succ]
    refine wpAnyH_take (i := 20) (oi := ({ dst := some 120, op := Op.binOp BinOp.neq 25 (Operand.tmp 119) (Operand.const (Value.pointer none)) 25, type := 4, pos := _, after := _, guard := some (18, true) } : Oper)) (v := undef) rfl (by kernel_rfl) (by kernel_rfl) (by kernel_rfl) (fun _ _ _ h => h) (Or.inr ⟨by rfl, rfl⟩) (by assumption) ?_
    try simp only [Act.put, List.setIfInBounds_toArray, List.set_cons_zero, List.set_cons_succ]
    refine wpAnyH_take (i := 21) (oi := ({ dst := some 121, op := Op.pick (Operand.tmp 118) (Operand.tmp 120) (Operand.const (Value.bool false)), type := 4, pos := _, after := _, guard := some (15, false) } : Oper)) (v := ?v21) rfl (by kernel_rfl) (by kernel_rfl) (by kernel_rfl) (fun _ _ _ h => h) (Or.inl ⟨by rfl, ?y21⟩) (by assumption) ?r21
    case y21 => (intro w0 hSw; go_split_ands; go_simp; try with_reducible rfl)
    try simp only [Act.put, List.setIfInBounds_toArray, List.set_cons_zero, List.set_cons_succ]
    refine wpAnyH_take (i := 22) (oi := ({ dst := some 122, op := Op.pick (Operand.tmp 115) (Operand.const (Value.bool true)) (Operand.tmp 121), type := 4, pos := _, after := _, guard := none } : Oper)) (v := ?v22) rfl (by kernel_rfl) (by kernel_rfl) (by kernel_rfl) (fun _ _ _ h => h) (Or.inl ⟨by rfl, ?y22⟩) (by assumption) ?r22
    case y22 => (intro w0 hSw; go_split_ands; go_simp; try with_reducible rfl)
    try simp only [Act.put, List.setIfInBounds_toArray, List.set_cons_zero, List.set_cons_succ]
    refine wpAnyH_done (by kernel_rfl) ?_ _
    have hH := held_bx2 (by assumption)
    rename_i hHeld
    clear hHeld hcx
    have BY := Lib.hid (BX.out.trans (hH.mono BX.out.size))
    have TXY := Lib.hid (TXX.out.below hH)
    clear hH
    go_wp2
    go_roundw
    case rel => exact ⟨j + 1, by omega, by go_num, BY, TXY⟩
    case measure => simp [intOf]; omega
theorem back_law (l : List Pc) (A : Option Addr) (c : Nat) (s : ByteArray) (ai by_ : Int) (w : World) (hE : EnvW w) (hl : Pcs w A c l) (hs : s.size ≤ 9223372036854775807) (ha : 0 ≤ ai ∧ ai < 65536) (hby : 0 ≤ by_ ∧ by_ < 256) :
    Calls Tryd.prog 4 #[.slice A l.length c, .string s, .int .u16 ai, .int .u8 by_] w fun e w' => e = .returned (.bool true) ∧ Below w.heap.size w w' := by
  obtain ⟨an, rfl⟩ : ∃ n : Nat, ai = n := ⟨ai.toNat, by omega⟩
  obtain ⟨bn, rfl⟩ : ∃ n : Nat, by_ = n := ⟨by_.toNat, by omega⟩
  have e : s = ⟨s.data.toList.toArray⟩ := by simp
  have hl2 : s.data.toList.length = s.size := by simp
  rw [e]
  rcases grow_one 20 l with h | ⟨d, k, h⟩
  · exact back_none l A c _ an bn w hE hl (by omega) h
  · exact back_tree l A c _ an bn w hE hl (by omega) (by omega) (by omega) d k h
theorem wf_u16' {n : Int} (h : (Lit.int .u16 n).wf = true) : 0 ≤ n ∧ n < 65536 := by
  have : 0 ≤ n ∧ n ≤ 65535 := by simpa [Lit.wf, IntKind.min, IntKind.max, IntKind.signed, IntKind.bits] using h
  omega
theorem wf_u8' {n : Int} (h : (Lit.int .u8 n).wf = true) : 0 ≤ n ∧ n < 256 := by
  have : 0 ≤ n ∧ n ≤ 255 := by simpa [Lit.wf, IntKind.min, IntKind.max, IntKind.signed, IntKind.bits] using h
  omega
end Go.Proofs.YtdpdoigmjnkmdaaDoor.Tr
