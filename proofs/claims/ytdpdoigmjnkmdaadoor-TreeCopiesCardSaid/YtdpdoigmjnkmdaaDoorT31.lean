/- What is grown is small; the document's example. -/
import Derived.Test.YtdpdoigmjnkmdaaDoorT30
import Derived.Test.YtdpdoigmjnkmdaaDoorT12
set_option linter.unusedSimpArgs false
set_option linter.unusedVariables false
namespace Go.Proofs.YtdpdoigmjnkmdaaDoor.Tr
open Go.RowKit
open Fl

def Fo.all (P : Nd → Prop) : Fo → Prop
  | .no => True
  | .node d k r => P d ∧ k.all P ∧ r.all P
theorem Fo.all_snoc {P : Nd → Prop} : ∀ {f : Fo} {d : Nd} {k : Fo}, f.all P → P d → k.all P → (f.snoc d k).all P
  | .no, d, k, _, h1, h2 => ⟨h1, h2, trivial⟩
  | .node d' k' r, d, k, h, h1, h2 => ⟨h.1, h.2.1, Fo.all_snoc h.2.2 h1 h2⟩
theorem Fo.snoc_count (f : Fo) (d : Nd) (k : Fo) : (f.snoc d k).count = f.count + (1 + k.count) := by
  rw [Fo.snoc_is, Fo.app_count]; simp [Fo.count]
theorem Fo.snoc_deep (f : Fo) (d : Nd) (k : Fo) : (f.snoc d k).deep = max f.deep (k.deep + 1) := by
  rw [Fo.snoc_is, Fo.app_deep]; simp [Fo.deep]
theorem kidsG_all {P : Nd → Prop} {Q : Pc → Prop} {D : Nat} (g : List Pc → Fo × Nat) (hg : ∀ l, (∀ p ∈ l, Q p) → (g l).1.all P ∧ (g l).1.count ≤ (g l).2 ∧ (g l).1.deep ≤ D) :
    ∀ (n : Nat) (l : List Pc) (a : Nat) (acc : Fo), (∀ p ∈ l, Q p) → acc.all P → 1 + acc.count ≤ a → acc.deep ≤ D → (kidsG g n l a acc).1.all P ∧ 1 + (kidsG g n l a acc).1.count ≤ (kidsG g n l a acc).2 ∧ (kidsG g n l a acc).1.deep ≤ D
  | 0, l, a, acc, hl, h1, h2, h3 => ⟨h1, h2, h3⟩
  | n + 1, l, a, acc, hl, h1, h2, h3 => by
    unfold kidsG
    have := hg (l.drop a) (fun p hp => hl p (List.mem_of_mem_drop hp))
    split
    · exact ⟨h1, h2, h3⟩
    · rename_i d k r m e
      rw [e] at this
      simp only [Fo.all, Fo.count, Fo.deep] at this
      exact kidsG_all g hg n l _ _ hl (Fo.all_snoc h1 this.1.1 this.1.2.1) (by rw [Fo.snoc_count]; omega) (by rw [Fo.snoc_deep]; omega)
theorem grow_all {P : Nd → Prop} {Q : Pc → Prop} (h : ∀ p, Q p → P (ndP p)) : ∀ (deep : Nat) (l : List Pc), (∀ p ∈ l, Q p) → (grow deep l).1.all P ∧ (grow deep l).1.count ≤ (grow deep l).2 ∧ (grow deep l).1.deep ≤ deep
  | 0, l, _ => ⟨trivial, Nat.le_refl _, Nat.le_refl _⟩
  | deep + 1, [], _ => ⟨trivial, Nat.le_refl _, Nat.zero_le _⟩
  | deep + 1, p :: l, hl => by
    have := kidsG_all (grow deep) (grow_all h deep) (p.kids % 5) (p :: l) 1 .no hl trivial (by simp [Fo.count]) (by simp [Fo.deep])
    refine ⟨⟨h p (hl p (by simp)), this.1, trivial⟩, ?_, ?_⟩
    · have := this.2.1; simp only [grow, Fo.count]; omega
    · have := this.2.2; simp only [grow, Fo.deep]; omega
/-- A piece that a law plays. -/
def Pc.fine (p : Pc) : Prop := p.ok ∧ inR p.n ∧ p.name.size ≤ 4096
def Nd.fine (d : Nd) : Prop := d.nrm ∧ d.ok ∧ (d.kind < 256 ∧ d.pos.1 < 4294967296 ∧ d.pos.2 < 4294967296 ∧ d.name.size ≤ 4096)
theorem fine_piece (p : Pc) (h : p.fine) : (ndP p).fine := by
  obtain ⟨⟨h1, h2, h3, h4⟩, h5, h6⟩ := h
  have hb := Pl.ofN_le p.line p.col
  have hp : Pl.ofN p.line p.col = (0, 0) ∨ Pl.isN (Pl.ofN p.line p.col) = true := by
    by_cases hr : Pl.isR (p.line : Int) (p.col : Int) = true
    · right
      rw [Pl.ofN_in hr]
      have := Pl.isR_in hr
      unfold Pl.isN Pl.inN; simp; omega
    · left; exact Pl.ofN_out (by simpa using hr)
  have h7 : inR (p.name.size : Int) := by unfold inR; omega
  exact ⟨⟨h1, hp, h5, h7⟩, ⟨h1, hb.1, hb.2, by show p.name.size ≤ _; omega, h5.1, h5.2⟩, h1, hb.1, hb.2, h6⟩
theorem all_nrm : ∀ {f : Fo}, f.all Nd.fine → f.nrm
  | .no, _ => trivial
  | .node d k r, h => ⟨h.1.1, all_nrm h.2.1, all_nrm h.2.2⟩
theorem all_ok : ∀ {f : Fo}, f.all Nd.fine → f.ok
  | .no, _ => trivial
  | .node d k r, h => ⟨h.1.2.1, all_ok h.2.1, all_ok h.2.2⟩
theorem all_fits : ∀ {f : Fo}, f.all Nd.fine → f.fits
  | .no, _ => trivial
  | .node d k r, h => ⟨h.1.2.2.1, h.1.2.2.2.1, h.1.2.2.2.2.1, by have := h.1.2.2.2.2.2; omega, all_fits h.2.1, all_fits h.2.2⟩
theorem all_len : ∀ {f : Fo}, f.all Nd.fine → f.txt.length ≤ f.count * 4300
  | .no, _ => by simp [Fo.txt]
  | .node d k r, h => by
    have h1 := ndT_len d h.1.2.1
    have h2 := h.1.2.2.2.2.2
    have i1 := all_len h.2.1
    have i2 := all_len h.2.2
    rw [txt_node]
    simp only [txt1, Fo.count, List.length_cons, List.length_append, List.length_nil, Nat.add_mul]
    omega
theorem txtT_len {f : Fo} (h : f.all Nd.fine) : (txtT f).length ≤ f.count * 4300 := by
  cases f with
  | no => simp [txtT]
  | node d k r =>
    have := all_len h
    rw [txt_node] at this
    simp only [txtT, List.length_cons, List.length_append] at this ⊢
    omega
/-- The world of a law: the variables that are read. -/
structure EnvW (w : World) : Prop where
  mx : Mx w
  tabs : Pl.Tabs w
  sz : 6 ≤ w.heap.size
theorem EnvW.below {w w' : World} (h : EnvW w) (hb : Below w.heap.size w w') : EnvW w' := ⟨mx_below h.mx hb, Pl.tabs_below h.tabs hb, by have := hb.size; have := h.sz; omega⟩

/-! ### The example -/
def dX : Nd := ⟨1, (1, 1), ⟨#[97, 98]⟩, 0⟩
def dY : Nd := ⟨2, (0, 0), ⟨#[]⟩, -3⟩
def kY : Fo := .node dX .no (.node zeroN .no .no)
theorem it_small (n : Nat) (h : ¬ 9 < n) : Lib.itoa (n : Int) = [UInt8.ofNat (48 + n)] := by
  unfold Lib.itoa; rw [if_neg (by omega), Int.toNat_natCast]; exact Num.dec_small n h
theorem it_0 : Lib.itoa 0 = [48] := it_small 0 (by omega)
theorem it_1 : Lib.itoa 1 = [49] := it_small 1 (by omega)
theorem it_2 : Lib.itoa 2 = [50] := it_small 2 (by omega)
theorem it_m3 : Lib.itoa (-3) = [45, 51] := by
  unfold Lib.itoa; rw [if_pos (by omega)]
  show 45 :: Lib.decDigits 3 = _
  rw [Num.dec_small 3 (by omega)]; rfl
theorem pos_11 : posT (1, 1) = [49, 58, 49] := by
  have h : Pl.isN (1, 1) = true := by decide
  unfold posT
  rw [if_pos h, Pl.textN_in h]
  show Lib.decDigits 1 ++ 58 :: Lib.decDigits 1 = _
  rw [Num.dec_small 1 (by omega)]; rfl
theorem pos_00 : posT (0, 0) = [45] := by decide
theorem txt_x : txt1 dX .no = [40, 49, 32, 49, 58, 49, 32, 50, 58, 97, 98, 32, 48, 41] := by
  unfold txt1 ndT dX
  simp only [Fo.txt]
  rw [show ((1 : Nat) : Int) = 1 from rfl, show (((⟨#[97, 98]⟩ : ByteArray).size : Nat) : Int) = 2 from rfl, it_1, it_2, it_0, pos_11]
  rfl
theorem txt_z : txt1 zeroN .no = [40, 48, 32, 45, 32, 48, 58, 32, 48, 41] := by
  unfold txt1 ndT zeroN
  simp only [Fo.txt]
  rw [show ((0 : Nat) : Int) = 0 from rfl, show (((⟨#[]⟩ : ByteArray).size : Nat) : Int) = 0 from rfl, it_0, pos_00]
  rfl
theorem txt_y : txt1 dY kY = [40, 50, 32, 45, 32, 48, 58, 32, 45, 51, 32, 40, 49, 32, 49, 58, 49, 32, 50, 58, 97, 98, 32, 48, 41, 32, 40, 48, 32, 45, 32, 48, 58, 32, 48, 41, 41] := by
  unfold txt1 ndT kY
  rw [txt_node, txt_node, txt_x, txt_z]
  unfold dY
  simp only [Fo.txt]
  rw [show ((2 : Nat) : Int) = 2 from rfl, show (((⟨#[]⟩ : ByteArray).size : Nat) : Int) = 0 from rfl, it_2, it_0, it_m3, pos_00]
  rfl
theorem zero_fine : zeroN.fine := by
  refine ⟨⟨by decide, .inl rfl, by unfold inR zeroN; simp, by unfold inR; decide⟩, ⟨by decide, by decide, by decide, by decide, by decide, by decide⟩, by decide, by decide, by decide, by decide⟩
theorem dX_fine : dX.fine := by
  refine ⟨⟨by decide, .inr (by decide), by unfold inR dX; simp, by unfold inR; decide⟩, ⟨by decide, by decide, by decide, by decide, by decide, by decide⟩, by decide, by decide, by decide, by decide⟩
theorem dY_fine : dY.fine := by
  refine ⟨⟨by decide, .inl rfl, by unfold inR dY; simp, by unfold inR; decide⟩, ⟨by decide, by decide, by decide, by decide, by decide, by decide⟩, by decide, by decide, by decide, by decide⟩
theorem yAll : (Fo.node dY kY .no).all Nd.fine := ⟨dY_fine, ⟨dX_fine, trivial, zero_fine, trivial, trivial⟩, trivial⟩
end Go.Proofs.YtdpdoigmjnkmdaaDoor.Tr
