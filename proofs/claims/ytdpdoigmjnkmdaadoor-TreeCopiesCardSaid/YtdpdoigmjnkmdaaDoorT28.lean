/- The walk of the function in Read that reads a node. -/
import Derived.Test.YtdpdoigmjnkmdaaDoorT27
import Derived.Outline
set_option linter.unusedSimpArgs false
set_option linter.unusedVariables false
namespace Go.Proofs.YtdpdoigmjnkmdaaDoor.Tr
open Go.RowKit
open Fl

/-- The variables that the function has caught: the reader (in block q), itself. -/
def Cx (w : World) (rv nv q : Nat) : Prop := w.cell? ⟨rv, 0, none⟩ = some (.pointer (some ⟨q, 0, none⟩)) ∧ w.cell? ⟨nv, 0, none⟩ = some (.func (.func 30) #[] #[.pointer (some ⟨rv, 0, none⟩), .pointer (some ⟨nv, 0, none⟩)]) ∧ rv ≠ q ∧ nv ≠ q
theorem Cx.keep {w w' : World} {rv nv q : Nat} (h : Cx w rv nv q) (hg : w.grownBy w' (some q)) : Cx w' rv nv q := by
  obtain ⟨h1, h2, h3, h4⟩ := h
  exact ⟨hg.cell h1 (by simpa using h3), hg.cell h2 (by simpa using h4), h3, h4⟩
def cnt1 (k : Fo) : Nat := 1 + k.count
def NodeOK (w : World) (q deep : Nat) (l : List UInt8) (n : Nat) (e : Ending) (w' : World) : Prop :=
  ∃ d k rest u, e = .returned (.tuple #[u, .int .i64 0]) ∧ d.nrm ∧ k.nrm ∧ l = txt1 d k ++ rest ∧ deep + k.deep ≤ 100 ∧ n + cnt1 k ≤ 8192 ∧ RS w w' q rest ((n + cnt1 k : Nat) : Int) ∧ RepS (fun x => w.heap.size ≤ x) w' (.node d k .no) [u]
def NodeErr (w : World) (q deep : Nat) (l : List UInt8) (n : Nat) (e : Ending) (w' : World) : Prop :=
  ∃ c : Int, e = .returned (.tuple #[.pointer none, .int .i64 c]) ∧ (c = 7 ∨ c = 50 ∨ c = 51) ∧ w.grownBy w' (some q) ∧
    ∀ d k rest, d.nrm → k.nrm → l = txt1 d k ++ rest → (c = 50 ∧ 100 < deep + k.deep) ∨ (c = 51 ∧ 8192 < n + cnt1 k)
def NodeR (w : World) (q deep : Nat) (l : List UInt8) (n : Nat) (e : Ending) (w' : World) : Prop := NodeOK w q deep l n e w' ∨ NodeErr w q deep l n e w'
theorem txt1_40 {l : List UInt8} (h : ∀ r, l ≠ 40 :: r) (d : Nd) (k : Fo) (rest : List UInt8) : l ≠ txt1 d k ++ rest := by
  rw [txt1_hd]; exact h _
theorem RepS.len {S : Nat → Prop} {w : World} {f : Fo} {vs : List Value} (h : RepS S w f vs) : vs.length = f.len := h.rep.len
/-- How much of the text is left. -/
def szOf (w : World) (q : Nat) : Nat := match w.cell? ⟨q, 0, none⟩ with
  | some (.string s) => s.size
  | _ => 0
theorem szOf_rd {w : World} {q : Nat} {l : List UInt8} {n : Int} (h : Rd w q l n) : szOf w q = l.length := by
  have := Blk.cell h 0
  simp only [List.getElem?_toArray, List.getElem?_cons_zero] at this
  unfold szOf; rw [this]; exact bsize l
/-- A loop that reads kids: where it stands. -/
structure LoopR (w : World) (q deep n : Nat) (u : Nat) (d : Nd) (l1 : List UInt8) (wr : World) (sv : Value) (f : Fo) (xs : List Value) (lc : List UInt8) : Prop where
  br : BR w wr q u d sv f xs
  rs : RS w wr q lc ((n + 1 + f.count : Nat) : Int)
  nrm : f.nrm
  eq : l1 = hdT d ++ (f.txt ++ lc)
  dp : deep + f.deep ≤ 100
  cn : n + 1 + f.count ≤ 8192
  en : ends (f.txt ++ lc)
theorem BR.len {w0 w : World} {q b : Nat} {d : Nd} {sv : Value} {f : Fo} {xs : List Value} (h : BR w0 w q b d sv f xs) : xs.length = f.len := by
  obtain ⟨_, _, h, _⟩ := h; exact h.len
theorem Fo.len_le : ∀ f : Fo, f.len ≤ f.count
  | .no => Nat.le_refl _
  | .node d k r => by have := Fo.len_le r; simp only [Fo.len, Fo.count]; omega

theorem ends_app (f : Fo) {x : List UInt8} (h : ends x) : ends (f.txt ++ x) := by
  cases f with
  | no => exact h
  | node d k r => exact ⟨32, txt1 d k ++ r.txt ++ x, by rw [txt_node]; rfl, .inl rfl⟩
/-- Two ways to read the same text behind a bracket. -/
theorem same_head {d d' : Nd} {f k' : Fo} {x y : List UInt8} (h1 : d.nrm) (h2 : d'.nrm) (hx : ends x) (h : hdT d ++ (f.txt ++ x) = hdT d' ++ (k'.txt ++ 41 :: y)) : d = d' ∧ f.txt ++ x = k'.txt ++ 41 :: y := by
  have e1 := hd_mk d _ h1 (ends_app f hx)
  rw [h, hd_at d' k' y h2] at e1
  simp only [Option.some.injEq, Prod.mk.injEq] at e1
  exact ⟨e1.1.symm, e1.2.symm⟩
/-- An error of a kid is one of its node. -/
theorem kid_err {d : Nd} {f : Fo} {l1 l2 : List UInt8} {deep n : Nat} {c : Int} (hd : d.nrm) (hf : f.nrm) (he : l1 = hdT d ++ (f.txt ++ 32 :: l2))
    (h : ∀ d2 k2 r2, d2.nrm → k2.nrm → l2 = txt1 d2 k2 ++ r2 → (c = 50 ∧ 100 < deep + 1 + k2.deep) ∨ (c = 51 ∧ 8192 < n + 1 + f.count + cnt1 k2)) :
    ∀ d' k' rest, d'.nrm → k'.nrm → 40 :: l1 = txt1 d' k' ++ rest → (c = 50 ∧ 100 < deep + k'.deep) ∨ (c = 51 ∧ 8192 < n + cnt1 k') := by
  intro d' k' rest h1 h2 h3
  rw [txt1_hd, List.cons.injEq, he] at h3
  obtain ⟨rfl, h4⟩ := same_head hd h1 ⟨32, l2, rfl, .inl rfl⟩ h3.2
  obtain ⟨g, rfl, h5⟩ := Fo.rest f k' l2 rest hf h2 h4
  cases g with
  | no => simp [Fo.txt] at h5
  | node d2 k2 r2 =>
    rw [txt_node] at h5
    simp only [List.cons_append, List.append_assoc, List.cons.injEq, true_and] at h5
    rw [Fo.app_nrm] at h2
    rcases h d2 k2 _ h2.2.1 h2.2.2.1 h5 with ⟨e, hh⟩ | ⟨e, hh⟩
    · refine .inl ⟨e, ?_⟩
      rw [Fo.app_deep]; simp only [Fo.deep]; omega
    · refine .inr ⟨e, ?_⟩
      unfold cnt1 at hh ⊢
      rw [Fo.app_count]; simp only [Fo.count]; omega
/-- Where neither a kid nor a bracket follows, there is no tree. -/
theorem end_err {d : Nd} {f : Fo} {l1 lc : List UInt8} {P : Prop} (hd : d.nrm) (hf : f.nrm) (h32 : ∀ r, lc ≠ 32 :: r) (h41 : ∀ r, lc ≠ 41 :: r) (he : l1 = hdT d ++ (f.txt ++ lc)) (h0 : ends (f.txt ++ lc)) :
    ∀ d' k' rest, d'.nrm → k'.nrm → 40 :: l1 = txt1 d' k' ++ rest → P := by
  intro d' k' rest h1 h2 h3
  rw [txt1_hd, List.cons.injEq, he] at h3
  have e1 := hd_mk d _ hd h0
  rw [h3.2, hd_at d' k' rest h1] at e1
  simp only [Option.some.injEq, Prod.mk.injEq] at e1
  refine (Fo.rest_no f k' lc rest hf h2 ?_ e1.2.symm).elim
  rintro ⟨c, r, hc, rfl | rfl⟩
  · exact h32 r hc
  · exact h41 r hc
theorem br_facts {w0 x : World} {q b : Nat} {d : Nd} {sv u' : Value} {f : Fo} {xs : List Value} (h : BR w0 x q b d sv f xs) (hj : xs.length ≤ 1000000) (hu : u'.oneCell' = true) :
    Hid ((∀ i v, [u'][i]? = some v → (x.alloc (.cells #[u'] 25)).cell? ((⟨x.heap.size, 0, none⟩ : Addr).add i) = some v) ∧ (∀ v ∈ [u'], v.oneCell' = true) ∧ xs.length + 1 ≤ maxLen ∧ w0.heap.size ≤ (x.alloc (.cells #[u'] 25)).heap.size ∧ (x.alloc (.cells #[u'] 25)).ownsRow w0.heap.size 25 1 sv xs.length xs) := by
  refine Lib.hid ⟨World.news_of_block (cs := #[u']) (t := 25) (fr := (0, 0)) (heap_alloc_new x _), fun v hv => ?_, by unfold maxLen; omega, ?_, h.own.alloc _⟩
  · simp only [List.mem_singleton] at hv; subst hv; exact hu
  · have := h.on.size; simp; omega
theorem BR.after {w0 w w1 : World} {q b : Nat} {d : Nd} {sv : Value} {f : Fo} {xs : List Value} {o : Obj} (h : BR w0 w q b d sv f xs) (hg : (w.alloc o).grownBy w1 sv.ownBlock) : w1.cell? ⟨b, 4, none⟩ = some sv ∧ w1.frozen? ⟨b, 4, none⟩ = false := by
  obtain ⟨h1, h2, _⟩ := h
  have h6 := (h1.alloc o).grown hg (fun e => own_blk_ne h2 h1 (by decide) e.symm)
  exact ⟨h6.cell 4, h6.frozen 4⟩
/-- The reader behind an append to a node's kids, and the store of what it gave. -/
theorem BR.reader {w0 w w1 : World} {q b : Nat} {d : Nd} {sv u : Value} {f : Fo} {xs : List Value} {o : Obj} {l : List UInt8} {n : Int} (h : BR w0 w q b d sv f xs) (hr : RS w0 w q l n) (hg : (w.alloc o).grownBy w1 sv.ownBlock) : Rd (w1.setCell ⟨b, 4, none⟩ u) q l n := by
  obtain ⟨h1, h2, h3, h4, h5, h6⟩ := h
  have r1 : Rd (w.alloc o) q l n := hr.rd.below ((Below.refl _ _).alloc (Nat.le_refl _) o)
  have r2 : Rd w1 q l n := Blk.grown r1 hg (fun e => by have := (h2.lt q e.symm).1; omega)
  exact Blk.far r2 (p := ⟨b, 4, none⟩) (by simp; omega) u

set_option maxRecDepth 100000 in
set_option maxHeartbeats 6400000 in
theorem node_any (N : Nat) : ∀ (l : List UInt8) (deep n rv nv q : Nat) (w : World), l.length ≤ N → l.length ≤ 1000000000 → 1 ≤ deep → deep ≤ 101 → n ≤ 8192 → Cx w rv nv q → Rd w q l n → Env w q →
    Calls Tryd.prog 30 #[.int .i64 deep, .pointer (some ⟨rv, 0, none⟩), .pointer (some ⟨nv, 0, none⟩)] w (NodeR w q deep l n) := by
  induction N with
  | zero =>
    intro l deep n rv nv q w hN hl hd1 hd2 hn hx hr he
    obtain rfl : l = [] := List.eq_nil_of_length_eq_zero (by omega)
    have HN := Lib.hid (show ∀ r, ([] : List UInt8) ≠ 40 :: r by simp)
    have hx1 := hx.1
    have HR := Lib.hid hr
    clear hx hr he
    go_enter Tryd.func30, Tryd.ntmps30
    go_wp2_with fail
    ((with_reducible refine (eat_n q [] n 40 w HR.out HN.out).mono ?_); rintro e w7 ⟨rfl, rfl⟩)
    go_wp2
    go_ret2
    exact .inr ⟨7, rfl, .inl rfl, World.grownBy.refl w _, fun d k rest _ _ h => absurd h (txt1_40 HN.out d k rest)⟩
  | succ N ih =>
    intro l deep n rv nv q w hN hl hd1 hd2 hn hx hr he
    obtain ⟨i0, hi, hz0, hz1, hz2⟩ := info_parts info25
    have hx1 := hx.1
    have HX := Lib.hid hx
    have HR := Lib.hid hr
    have HE := Lib.hid he
    have IH := Lib.hid ih
    have hq : q < w.heap.size := Blk.lt hr
    clear hx hr he ih
    by_cases h40 : ∃ l1, l = 40 :: l1
    case' neg =>
      have HN := Lib.hid (not_cons h40)
      clear h40
      go_enter Tryd.func30, Tryd.ntmps30
      go_wp2_with fail
      ((with_reducible refine (eat_n q l n 40 w HR.out HN.out).mono ?_); rintro e w7 ⟨rfl, rfl⟩)
      go_wp2
      go_ret2
      exact .inr ⟨7, rfl, .inl rfl, World.grownBy.refl w _, fun d k rest _ _ h => absurd h (txt1_40 HN.out d k rest)⟩
    obtain ⟨l1, rfl⟩ := h40
    have hl1 : l1.length ≤ N := by simp at hN; omega
    have hl1b : l1.length ≤ 1000000000 := by simp at hl; omega
    clear hN hl
    go_enter Tryd.func30, Tryd.ntmps30
    go_wp2_with fail
    ((with_reducible refine (eat_y q l1 n 40 w HR.out HE.out).mono ?_); rintro e w1 ⟨rfl, hs⟩)
    have HS := Lib.hid hs
    have hx1 := (HX.out.keep hs.on).1
    have hc1 := Blk.cell hs.rd 1
    have hf1 := Blk.frozen hs.rd 1
    simp only [List.getElem?_toArray, List.getElem?_cons_zero, List.getElem?_cons_succ] at hc1
    clear hs
    by_cases hd : 100 < deep
    case' pos =>
      go_wp2
      go_ret2
      have HS2 := HS.out.set_n (((n : Int) + 1))
      exact .inr ⟨50, rfl, .inr (.inl rfl), HS2.on, fun d k rest _ _ h => .inl ⟨rfl, by omega⟩⟩
    by_cases hm : 8192 < n + 1
    case' pos =>
      go_wp2
      go_ret2
      have HS2 := HS.out.set_n (((n : Int) + 1))
      exact .inr ⟨51, rfl, .inr (.inr rfl), HS2.on, fun d k rest _ _ h => .inr ⟨rfl, by unfold cnt1; omega⟩⟩
    have HS2 := Lib.hid (HS.out.set_n ((n : Int) + 1))
    have hx2 := (HX.out.keep HS2.out.on).1
    have hc2 := Blk.cell HS2.out.rd 1
    have hne : rv ≠ q := HX.out.2.2.1
    simp only [List.getElem?_toArray, List.getElem?_cons_zero, List.getElem?_cons_succ] at hc2
    go_wp2_with fail
    ((with_reducible refine (head_any q l1 ((n : Int) + 1) _ hl1b HS2.out.rd HS2.out.env).mono ?_); rintro e w3 hh)
    clear hc1 hf1 hx1 hc2 hx2
    rcases hh with ⟨h0, rfl, l', hs3, _⟩ | ⟨d, r, h0, u, rfl, hs3, hbk, hul⟩
    case' inl =>
      have H0 := Lib.hid h0
      have H3 := Lib.hid (HS2.out.trans hs3)
      clear h0 hs3
      go_wp2
      go_ret2
      exact .inr ⟨7, rfl, .inl rfl, H3.out.on, fun d k rest h1 _ h => by
        rw [txt1_hd, List.cons.injEq] at h
        have := hd_at d k rest h1
        rw [← h.2, H0.out] at this
        cases this⟩
    obtain ⟨hdn, hl1e, hde⟩ := hd_some h0
    have H0 := Lib.hid hl1e
    have HDN := Lib.hid hdn
    have HDE := Lib.hid hde
    have H3 := Lib.hid (HS2.out.trans hs3)
    have hul2 : w.heap.size ≤ u := by have := HS2.out.on.size; omega
    have HB0 := Lib.hid (BR.start (q := q) hbk hul2 hq H3.out.on)
    clear h0 hs3 hbk hl1e hdn hde hul
    have hrl : r.length ≤ N := by have := H0.out; rw [this] at hl1; simp at hl1; omega
    have hrl2 : r.length ≤ 1000000000 := by have := H0.out; rw [this] at hl1b; simp at hl1b; omega
    go_wp2
    go_loopw [8] (fun _ wr => ∃ sv f xs lc, Hid (LoopR w q deep n u d l1 wr sv f xs lc) ∧ lc.length ≤ N ∧ lc.length ≤ 1000000000) (fun _ wr => szOf wr q)
    case atStart => exact ⟨.slice none 0 0, .no, [], r, Lib.hid ⟨HB0.out, by simpa [Fo.count] using H3.out, trivial, by simpa [Fo.txt] using H0.out, by simp [Fo.deep]; omega, by simp [Fo.count]; omega, HDE.out⟩, hrl, hrl2⟩
    case round =>
      obtain ⟨sv, f, xs, lc, HL, hlc, hlc2⟩ := hrel
      have hxr := (HX.out.keep HL.out.br.on).1
      have hxr2 := (HX.out.keep HL.out.br.on).2.1
      by_cases h32 : ∃ l2, lc = 32 :: l2
      case' pos =>
        obtain ⟨l2, rfl⟩ := h32
        have hsz := szOf_rd HL.out.rs.rd
        go_wp2_with fail
        ((with_reducible refine (eat_y q l2 _ 32 wr HL.out.rs.rd HL.out.rs.env).mono ?_); rintro e w4 ⟨rfl, hs4⟩)
        have hx4 := ((HX.out.keep HL.out.br.on).keep hs4.on).2.1
        have H4 := Lib.hid hs4
        have HB4 := Lib.hid (HL.out.br.keep hs4.on)
        have HX4 := Lib.hid ((HX.out.keep HL.out.br.on).keep hs4.on)
        have hl2 : l2.length ≤ N := by simp at hlc; omega
        have hl2b : l2.length ≤ 1000000000 := by simp at hlc2; omega
        have HCN := HL.out.cn
        have HDP := HL.out.dp
        clear hs4
        go_wp2_with fail
        have hdd : ((deep : Int) + 1) = ((deep + 1 : Nat) : Int) := by omega
        rw [hdd]
        clear hdd
        ((with_reducible refine (IH.out l2 (deep + 1) (n + 1 + f.count) rv nv q w4 hl2 hl2b (by omega) (by omega) HCN HX4.out H4.out.rd H4.out.env).mono ?_); rintro e w5 hres)
        rcases hres with ⟨d2, k2, rest, u2, rfl, h1, h2, h3, h4, h5, h6, h7⟩ | ⟨c, rfl, hc, hg, herr⟩
        case' inr =>
          have HG := Lib.hid (on_trans HB4.out.on hg)
          have HER := Lib.hid (kid_err HDN.out HL.out.nrm HL.out.eq herr)
          clear herr hg
          rcases hc with rfl | rfl | rfl
          all_goals
            go_wp2
            go_ret2
            exact .inr ⟨_, rfl, by simp, HG.out, by simpa using HER.out⟩
        obtain ⟨b2, _, _, _, rfl, _⟩ := h7.rep.one
        have HB5 := Lib.hid (HB4.out.keep h6.on)
        have HK5 := Lib.hid (HB4.out.newer h7)
        have HR5 := Lib.hid ((HL.out.rs.trans H4.out).trans h6)
        have HX5 := Lib.hid (HX4.out.keep h6.on)
        have HE5 := Lib.hid h3
        have HN5 := Lib.hid (And.intro h1 h2)
        clear h6 h7 h3 h1 h2 hxr hxr2 hx4
        have hxl : xs.length ≤ 1000000 := by have := HL.out.br.len; have := Fo.len_le f; omega
        have Q := br_facts HB5.out hxl (u' := .pointer (some ⟨b2, 0, none⟩)) rfl
        obtain ⟨z4, z4f, hub⟩ := HB5.out.sv
        go_wp2_with (at_builtin; refine wpList_append_lies _ rfl _ _ _ rfl w.heap.size 25 i0 (.pointer none) 1 8 Tryd.underlying42 hi hz0 hz1 hz2 rfl (by omega) sv xs.length xs rfl Q.out.2.2.2.2 ⟨w5.heap.size, 0, none⟩ 1 1 [.pointer (some ⟨b2, 0, none⟩)] rfl rfl Q.out.1 Q.out.2.1 (by omega) Q.out.2.2.1 (by omega) Q.out.2.2.2.1 (w5.heap.size + 1) (by simp) ?_)
        intro g' cap w6 hown1 hgrow hor hlt1
        obtain ⟨s4, s4f⟩ := BR.after HB5.out hgrow
        have HO := Lib.hid (And.intro hown1 (And.intro hgrow hor))
        clear hown1 hgrow hor z4 z4f
        go_wp2
        have hbs := BR.step (HB5.out.keep (grown_below ((Below.refl _ _).alloc (Nat.le_refl _) (.cells #[.pointer (some ⟨b2, 0, none⟩)] 25)) _)) (HK5.out.below ((Below.refl _ _).alloc (Nat.le_refl _) (.cells #[.pointer (some ⟨b2, 0, none⟩)] 25))) HO.out.1 HO.out.2.1 (by rcases HO.out.2.2 with h | h; exact .inl h; exact .inr (by rw [h]; simp))
        have hrd := BR.reader (u := .slice (some ⟨g', 0, none⟩) (xs.length + 1) cap) HB5.out HR5.out HO.out.2.1
        have HLN : LoopR w q deep n u d l1 (w6.setCell ⟨u, 4, none⟩ (.slice (some ⟨g', 0, none⟩) (xs.length + 1) cap)) (.slice (some ⟨g', 0, none⟩) (xs.length + 1) cap) (f.snoc d2 k2) (xs ++ [.pointer (some ⟨b2, 0, none⟩)]) rest := by
          have ec : (f.snoc d2 k2).count = f.count + cnt1 k2 := by rw [Fo.snoc_is, Fo.app_count]; simp [Fo.count, cnt1]
          have et : (f.snoc d2 k2).txt ++ rest = f.txt ++ 32 :: l2 := by rw [Fo.snoc_is, Fo.app_txt, txt_node, HE5.out]; simp [Fo.txt]
          refine ⟨hbs, ⟨?_, hbs.on, HE.out.keep hbs.on⟩, ?_, ?_, ?_, ?_, ?_⟩
          · rw [ec, ← Nat.add_assoc]; exact hrd
          · rw [Fo.snoc_is, Fo.app_nrm]; exact ⟨HL.out.nrm, HN5.out.1, HN5.out.2, trivial⟩
          · rw [HL.out.eq, et]
          · rw [Fo.snoc_is, Fo.app_deep]; simp only [Fo.deep]; omega
          · rw [ec]; omega
          · rw [et]; exact HL.out.en
        have hrl3 : rest.length ≤ l2.length := by rw [HE5.out]; simp
        have hsz2 := szOf_rd HLN.rs.rd
        have HLH := Lib.hid HLN
        clear HLN hbs hrd
        go_roundw
        case rel => exact ⟨_, _, _, rest, HLH, by omega, by omega⟩
        case measure => rw [hsz, hsz2]; simp; omega
      have HN32 := Lib.hid (not_cons h32)
      clear h32
      go_wp2_with fail
      ((with_reducible refine (eat_n q lc _ 32 wr HL.out.rs.rd HN32.out).mono ?_); rintro e w4 ⟨rfl, rfl⟩)
      by_cases h41 : ∃ l2, lc = 41 :: l2
      case' pos =>
        obtain ⟨l2, rfl⟩ := h41
        go_wp2_with fail
        ((with_reducible refine (eat_y q l2 _ 41 _ HL.out.rs.rd HL.out.rs.env).mono ?_); rintro e w5 ⟨rfl, hs5⟩)
        have HS5 := Lib.hid hs5
        clear hs5
        go_wp2
        go_ret2
        refine .inl ⟨d, f, l2, _, rfl, HDN.out, HL.out.nrm, ?_, HL.out.dp, by have := HL.out.cn; unfold cnt1; omega, ?_, (HL.out.br.keep HS5.out.on).done⟩
        · rw [txt1_hd, HL.out.eq]
        · have := HL.out.rs.trans HS5.out
          unfold cnt1
          rw [← Nat.add_assoc]; exact this
      have HN41 := Lib.hid (not_cons h41)
      clear h41
      go_wp2_with fail
      ((with_reducible refine (eat_n q lc _ 41 _ HL.out.rs.rd HN41.out).mono ?_); rintro e w4 ⟨rfl, rfl⟩)
      go_wp2
      go_ret2
      exact .inr ⟨7, rfl, .inl rfl, HL.out.rs.on, fun d' k' rest a b h => (end_err (P := False) HDN.out HL.out.nrm HN32.out HN41.out HL.out.eq HL.out.en d' k' rest a b h).elim⟩
end Go.Proofs.YtdpdoigmjnkmdaaDoor.Tr
