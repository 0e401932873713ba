/- The walk of writes. -/
import Derived.Test.YtdpdoigmjnkmdaaDoorT16
set_option linter.unusedSimpArgs false
set_option linter.unusedVariables false
namespace Go.Proofs.YtdpdoigmjnkmdaaDoor.Tr
open Go.RowKit
open Fl

theorem bld_below {B b : Nat} {bs : List Value} {w w' : World} (h : Lib.IsBuilder 55 5 B b bs w) (hb : Below w.heap.size w w') : Lib.IsBuilder 55 5 B b bs w' := by
  have one : ∀ p, Lib.BuilderAt 55 5 B b p bs w → Lib.BuilderAt 55 5 B b p bs w' := by
    intro p h
    have hlt := h.lt
    obtain ⟨h1, v, h2, h3, h4⟩ := h
    refine ⟨h1, v, (hb.block b hlt).trans h2, h3.kept (grown_below hb none) ?_, h4⟩
    rcases h : v.ownBlock with _ | g
    · exact .inl rfl
    · exact .inr (by simp)
  rcases h with h | h
  · exact .inl (one _ h)
  · exact .inr (one _ h)
theorem itoa_call (z : Int) (w : World) (h0 : -9223372036854775808 ≤ z) (h1 : z ≤ 9223372036854775807) (ht : Pl.Tab w) : Calls Tryd.prog 35 #[.int .i64 z] w fun e w' => e = .returned (.string ⟨(Lib.itoa z).toArray⟩) ∧ Below w.heap.size w w' :=
  (Tryd.strconv_Itoa z h0 h1 w ht).mono fun e w' ⟨he, k, os, hw⟩ => ⟨he, by subst hw; exact Lib.below_grow _ _ (Nat.le_refl _) _ _⟩
theorem format_call (z : Int) (w : World) (h0 : -9223372036854775808 ≤ z) (h1 : z ≤ 9223372036854775807) (ht : Pl.Tab w) : Calls Tryd.prog 36 #[.int .i64 z, .int .i64 10] w fun e w' => e = .returned (.string ⟨(Lib.itoa z).toArray⟩) ∧ Below w.heap.size w w' :=
  (Tryd.strconv_FormatInt_10 z h0 h1 w ht).mono fun e w' ⟨he, k, os, hw⟩ => ⟨he, by subst hw; exact Lib.below_grow _ _ (Nat.le_refl _) _ _⟩
/-- What a walk behind wB holds of a node that lay there. -/
def Nh (wB x : World) (b : Nat) (kind : Int) (nm : ByteArray) (n : Int) : Prop := x.cell? ⟨b, 0, none⟩ = some (.int .u8 kind) ∧ x.cell? ⟨b, 2, none⟩ = some (.string nm) ∧ x.cell? ⟨b, 3, none⟩ = some (.int .i64 n) ∧ Below wB.heap.size wB x
theorem held_b {wB x y : World} {b : Nat} (hb : b < wB.heap.size) {v0 v2 v3 : Value} (h : x.cell? ⟨b, 0, none⟩ = some v0 ∧ x.cell? ⟨b, 2, none⟩ = some v2 ∧ x.cell? ⟨b, 3, none⟩ = some v3 ∧ Below wB.heap.size wB x) (hy : Below wB.heap.size x y) :
    y.cell? ⟨b, 0, none⟩ = some v0 ∧ y.cell? ⟨b, 2, none⟩ = some v2 ∧ y.cell? ⟨b, 3, none⟩ = some v3 ∧ Below wB.heap.size wB y := by
  obtain ⟨h0, h2, h3, h4⟩ := h
  exact ⟨(hy.cell (p := ⟨b, 0, none⟩) hb).trans h0, (hy.cell (p := ⟨b, 2, none⟩) hb).trans h2, (hy.cell (p := ⟨b, 3, none⟩) hb).trans h3, h4.trans hy⟩
theorem held_tab {wB x : World} {P0 P2 P3 : Prop} (ht : Pl.Tab wB) (h : P0 ∧ P2 ∧ P3 ∧ Below wB.heap.size wB x) : Pl.Tab x := Pl.tab_below ht h.2.2.2
theorem held_sz {wB x : World} {P0 P2 P3 : Prop} (h : P0 ∧ P2 ∧ P3 ∧ Below wB.heap.size wB x) : wB.heap.size ≤ x.heap.size := h.2.2.2.size
theorem held_l {wB x : World} {P0 P2 P3 : Prop} (h : P0 ∧ P2 ∧ P3 ∧ Below wB.heap.size wB x) : Below wB.heap.size wB x := h.2.2.2
/-- What writes leaves. -/
def WrR (wB w : World) (b : Nat) (l : List UInt8) (e : Ending) (w' : World) : Prop := e = .returned (.tuple #[]) ∧ Lib.IsBuilder 55 5 wB.heap.size b (Lib.byteCells l) w' ∧ Below wB.heap.size w w'
theorem repS_low {B : Nat} {w w' : World} {f : Fo} {vs : List Value} (hb : Below B w w') (h : RepS (fun x => x < B) w f vs) : RepS (fun x => x < B) w' f vs :=
  h.keep hb.size (fun x hx _ => hb.block x hx) (fun _ h _ => h)
theorem reads_low {w : World} {B : Nat} {A : Option Addr} {ks : List Value} (h : Reads w w.heap.size 1 A ks.length ks) (hr : 0 < ks.length → ∃ g off, A = some ⟨g, off, none⟩ ∧ g < B ∧ g < w.heap.size) : Reads w B 1 A ks.length ks :=
  ⟨h.1, fun h0 => by
    obtain ⟨g, off, e, hg, _⟩ := hr h0
    obtain ⟨ad, e2, _, hc⟩ := h.2 h0
    refine ⟨ad, e2, ?_, hc⟩
    rw [e] at e2
    injection e2 with e2
    subst e2
    exact hg⟩
theorem byteCells_mk (l : List UInt8) (m : List UInt8) : Lib.byteCells l ++ Lib.strCells ⟨m.toArray⟩ = Lib.byteCells (l ++ m) := by
  rw [Lib.strCells_eq, Lib.byteCells_append]


set_option maxRecDepth 100000 in
set_option maxHeartbeats 12800000 in
theorem writes_any (N : Nat) : ∀ (d : Nd) (k : Fo) (v : Value) (b : Nat) (l : List UInt8) (wB w : World), (Fo.node d k .no).count ≤ N → (Fo.node d k .no).count ≤ 1000000 → (Fo.node d k .no).ok → l.length + (ndT d ++ k.txt ++ [41]).length ≤ 1000000000 → Pl.Tab wB → Below wB.heap.size wB w → Lib.IsBuilder 55 5 wB.heap.size b (Lib.byteCells l) w → RepS (fun x => x < wB.heap.size) w (.node d k .no) [v] →
    Calls Tryd.prog 26 #[.pointer (some ⟨b, 0, none⟩), v] w (WrR wB w b (l ++ (ndT d ++ k.txt ++ [41]))) := by
  induction N with
  | zero => intro d k v b l wB w h; simp [Fo.count] at h
  | succ N ih =>
    intro d k v b l wB w hN hc0 hok hlen hT hw hB hr
    have hr0 := hr
    unfold RepS at hr
    obtain ⟨bx, A, c, ks, vs', hv, hbx, hat, hrow, hA, hk, _⟩ := hr
    simp only [List.cons.injEq] at hv
    obtain ⟨rfl, rfl⟩ := hv
    have hle := Reads.len_le (B := 0) (A := none) hk.rep
    simp only [Fo.count] at hN hc0
    obtain ⟨hd, hko, _⟩ := hok
    have hnl := ndT_len d hd
    obtain ⟨p0, p1, p2, p3, p4, p5⟩ := hd
    have hl1 : l.length + (ndT d).length ≤ 1000000000 := by simp only [List.length_append] at hlen; omega
    have ct := fun w' h => Pl.Text_any d.pos w' p1 p2 h
    have c1 := fun w' h => itoa_call (d.kind : Int) w' (by omega) (by omega) h
    have c3 := fun w' h => itoa_call (d.name.size : Int) w' (by omega) (by omega) h
    have c4 := fun w' h => format_call d.n w' p4 p5 h
    have hnb := nd_bytes d
    have hnsz : (⟨(ndT d).toArray⟩ : ByteArray).size = (ndT d).length := bsize _
    have s1 : (⟨(Lib.itoa d.kind).toArray⟩ : ByteArray).size ≤ 20 := by rw [bsize]; exact itoa_len _ (by omega) (by omega)
    have s2 : (⟨(posT d.pos).toArray⟩ : ByteArray).size ≤ 50 := by rw [bsize]; exact posT_len _
    have s3 : (⟨(Lib.itoa d.name.size).toArray⟩ : ByteArray).size ≤ 20 := by rw [bsize]; exact itoa_len _ (by omega) (by omega)
    have s4 : (⟨(Lib.itoa d.n).toArray⟩ : ByteArray).size ≤ 20 := by rw [bsize]; exact itoa_len _ p4 p5
    have hpt : (⟨(posT d.pos).toArray⟩ : ByteArray) = if Pl.isN d.pos then ⟨(Pl.textN d.pos).toArray⟩ else ⟨#[45]⟩ := by unfold posT; split <;> rfl
    have hte : Pl.isN d.pos = false → Pl.textN d.pos = [] := fun h => Pl.textN_out h
    have htn : Pl.isN d.pos = true → Pl.textN d.pos ≠ [] := fun h => by rw [Pl.textN_in h]; simp
    cases hz : Pl.isN d.pos
    · rw [hz] at hpt
      rw [hte hz] at ct
      have hpt2 : (⟨(posT d.pos).toArray⟩ : ByteArray) = ⟨#[45]⟩ := by rw [hpt]; rfl
      rw [hpt2] at hnb s2
      clear hte htn hz hpt hpt2
      generalize (ByteArray.mk (Lib.itoa d.kind).toArray) = b1 at *
      generalize (ByteArray.mk (Lib.itoa d.name.size).toArray) = b3 at *
      generalize (ByteArray.mk (Lib.itoa d.n).toArray) = b4 at *
      have hwk : IntKind.i64.wrap (d.kind : Int) = (d.kind : Int) := IntWalk.i64_in _ (by omega)
      have HAT := Lib.hid hat
      obtain ⟨a0, a1, a2, a3, a4⟩ := hat
      unfold C at a1
      unfold Pl.C at ct
      have HAL := Lib.hid (reads_low hA hrow)
      have HK := Lib.hid hk
      have IH := Lib.hid ih
      have CT := Lib.hid ct
      have C1 := Lib.hid c1
      have C3 := Lib.hid c3
      have C4 := Lib.hid c4
      have HLEN := Lib.hid hlen
      have HOK := Lib.hid hko
      have HT := Lib.hid hT
      have HW := Lib.hid hw
      have HB := Lib.hid hB
      have HBX := Lib.hid hbx
      clear hA hk hr0 hrow ih ct c1 c3 c4 hlen hko hT hw hB hbx
      generalize hTX : l ++ (ndT d ++ k.txt ++ [41]) = TX
      have HTX := Lib.hid hTX
      clear hTX
      obtain ⟨hd, hhd⟩ : ∃ hd : ByteArray, hd = ⟨(ndT d).toArray⟩ := ⟨_, rfl⟩
      rw [← hhd] at hnb hnsz
      have HHD := Lib.hid hhd
      have hnsz2 : l.length + hd.size ≤ 1000000000 := by omega
      clear hhd hnsz hl1 hnl
      generalize d.name = nm at *
      go_enter Tryd.func26, Tryd.ntmps26
      go_wp2_with fail
      ((with_reducible refine (CT.out _ (Pl.tab_below HT.out HW.out)).mono ?_); rintro e x1 ⟨rfl, y1⟩)
      have y1' : Below wB.heap.size w x1 := y1.mono HW.out.size
      have HB1 := Lib.hid (bld_below HB.out y1)
      have g0 := (y1.cell (p := ⟨bx, 0, none⟩) (cell_lt a0)).trans a0
      have g2 := (y1.cell (p := ⟨bx, 2, none⟩) (cell_lt a2)).trans a2
      have g3 := (y1.cell (p := ⟨bx, 3, none⟩) (cell_lt a3)).trans a3
      have HW1 := Lib.hid (HW.out.trans y1')
      have Y1 := Lib.hid y1
      clear y1 y1' a0 a1 a2 a3 a4
      go_wp2
      have HD0 : x1.drew.cell? ⟨bx, 0, none⟩ = some (.int .u8 d.kind) ∧ x1.drew.cell? ⟨bx, 2, none⟩ = some (.string nm) ∧ x1.drew.cell? ⟨bx, 3, none⟩ = some (.int .i64 d.n) ∧ Below wB.heap.size wB x1.drew := ⟨g0, g2, g3, HW1.out.drew⟩
      have HB2 := Lib.hid (bld_below HB1.out (below_drewN (Below.refl x1.heap.size x1) 1))
      have hB2 : Lib.IsBuilder 55 5 wB.heap.size b (Lib.byteCells l) x1.drew := HB2.out
      have HB3 := Lib.hid hB2
      clear hB2 HB2
      have q1 : ¬ 9223372036854775807 < 1 + b1.size := by omega
      have q2 : ¬ 9223372036854775807 < 1 + b1.size + 1 := by omega
      have q3 : ¬ 9223372036854775807 < 1 + b1.size + 1 + 1 := by omega
      have q4 : ¬ 9223372036854775807 < 1 + b1.size + 1 + 1 + 1 := by omega
      have q5 : ¬ 9223372036854775807 < 1 + b1.size + 1 + 1 + 1 + b3.size := by omega
      have q6 : ¬ 9223372036854775807 < 1 + b1.size + 1 + 1 + 1 + b3.size + 1 := by omega
      have q7 : ¬ 9223372036854775807 < 1 + b1.size + 1 + 1 + 1 + b3.size + 1 + nm.size := by omega
      have q8 : ¬ 9223372036854775807 < 1 + b1.size + 1 + 1 + 1 + b3.size + 1 + nm.size + 1 := by omega
      have q9 : ¬ 9223372036854775807 < 1 + b1.size + 1 + 1 + 1 + b3.size + 1 + nm.size + 1 + b4.size := by omega
      go_region_held3 (fun w' => w'.cell? ⟨bx, 0, none⟩ = some (.int .u8 d.kind) ∧ w'.cell? ⟨bx, 2, none⟩ = some (.string nm) ∧ w'.cell? ⟨bx, 3, none⟩ = some (.int .i64 d.n) ∧ Below wB.heap.size wB w')
        ((first | (with_reducible exact HD0) | (with_reducible assumption) | (refine held_b HBX.out ?_ (by assumption) <;> assumption)))
        ((first
          | (go_at_call 35; (with_reducible refine (C1.out _ (held_tab HT.out (by assumption))).mono ?_); rintro e x2 ⟨rfl, y2⟩; have B2 := Lib.hid (bld_below HB3.out y2); have z2 := y2.mono (held_sz (by assumption)); clear y2)
          | (go_at_call 35; (with_reducible refine (C3.out _ (held_tab HT.out (by assumption))).mono ?_); rintro e x3 ⟨rfl, y3⟩; have B3 := Lib.hid (bld_below B2.out y3); have z3 := y3.mono (held_sz (by assumption)); clear y3)
          | (go_at_call 36; (with_reducible refine (C4.out _ (held_tab HT.out (by assumption))).mono ?_); rintro e x4 ⟨rfl, y4⟩; have B4 := Lib.hid (bld_below B3.out y4); have z4 := y4.mono (held_sz (by assumption)); clear y4)
          | (go_at_call 34; (with_reducible refine (write_any wB.heap.size b (Lib.byteCells l) hd _ B4.out (by rw [Lib.byteCells_length]; exact hnsz2) (held_sz (by assumption))).mono ?_); rintro e x5 ⟨rfl, y5, z5⟩; have B5 := Lib.hid y5; clear y5)))
      have hb5 : Below wB.heap.size w x5 := (((((Y1.out.mono HW.out.size).drew).trans z2).trans z3).trans z4).trans z5
      have BE := Lib.hid hb5
      have BL := Lib.hid (show Lib.IsBuilder 55 5 wB.heap.size b (Lib.byteCells (l ++ ndT d)) x5 by have := B5.out; rw [HHD.out, byteCells_mk] at this; exact this)
      have m4 := (hb5.cell (p := ⟨bx, 4, none⟩) HBX.out).trans HAT.out.2.2.2.2
      have R0 := Lib.hid (repS_low hb5 HK.out)
      have A0 := Lib.hid (HAL.out.below hb5)
      rename_i hHeld
      clear hHeld z2 z3 z4 z5 hb5 q1 q2 q3 q4 q5 q6 q7 q8 q9 HD0 g0 g2 g3 s1 s2 s3 s4 hnb hwk
      go_wp2
      go_loopw [52] (fun i wr => ∃ (j : Nat) (f : Fo) (pre : List UInt8), j ≤ ks.length ∧ i = .int .i64 j ∧ f.count ≤ k.count ∧ Hid (k.txt = pre ++ f.txt) ∧ Hid f.ok ∧ Hid (RepS (fun x => x < wB.heap.size) wr f (ks.drop j)) ∧ Hid (Reads wr wB.heap.size 1 A ks.length ks) ∧ Hid (Lib.IsBuilder 55 5 wB.heap.size b (Lib.byteCells (l ++ ndT d ++ pre)) wr) ∧ Hid (Below wB.heap.size w wr)) (fun i _ => ks.length - (intOf i).toNat)
      case atStart => exact ⟨0, k, [], Nat.zero_le _, rfl, Nat.le_refl _, Lib.hid rfl, HOK, Lib.hid R0.out, A0, Lib.hid (by rw [List.append_nil]; exact BL.out), BE⟩
      case round =>
        obtain ⟨j, f, pre, hj, rfl, hfc, HF, HQ, HR, HR2, HBB, HE⟩ := hrel
        have hlen2 := HLEN.out
        rw [HF.out] at hlen2
        simp only [List.length_append, List.length_cons, List.length_nil] at hlen2
        have hws := fun (W : World) (l' : List UInt8) (s : ByteArray) (h : Lib.IsBuilder 55 5 wB.heap.size b (Lib.byteCells l') W) (hl : l'.length + s.size ≤ 1000000000) (hb : wB.heap.size ≤ W.heap.size) => write_any wB.heap.size b (Lib.byteCells l') s W h (by rw [Lib.byteCells_length]; exact hl) hb
        have hsz : wB.heap.size ≤ wr.heap.size := by have := HW.out.size; have := HE.out.size; omega
        by_cases hlt : j < ks.length
        · obtain ⟨d1, k1, r1, rfl, g1, g2⟩ := HR.out.at_ hlt
          obtain ⟨b1', off, rfl, hcell⟩ := Reads.nth HR2.out hlt
          obtain ⟨b2', _, _, _, hu, _⟩ := g1.rep.one
          simp only [Fo.count] at hfc
          have hft : (Fo.node d1 k1 r1).txt = [32] ++ (ndT d1 ++ k1.txt ++ [41]) ++ r1.txt := rfl
          have hftl := congrArg List.length hft
          simp only [List.length_append, List.length_cons, List.length_nil] at hftl
          obtain ⟨o1, o2, o3⟩ := HQ.out
          have c5 := Lib.hid (hws wr _ ⟨#[32]⟩ HBB.out (by simp only [List.length_append]; show _ + 1 ≤ _; omega) hsz)
          have c6 := Lib.hid (fun (W : World) (hW : Below wB.heap.size wB W) (hB : Lib.IsBuilder 55 5 wB.heap.size b (Lib.byteCells (l ++ ndT d ++ pre ++ [32])) W) (hr : RepS (fun x => x < wB.heap.size) W (.node d1 k1 .no) [ks[j]]) => IH.out d1 k1 ks[j] b (l ++ ndT d ++ pre ++ [32]) wB W (by simp [Fo.count]; omega) (by simp [Fo.count]; omega) ⟨o1, o2, trivial⟩ (by simp only [List.length_append, List.length_cons, List.length_nil]; omega) HT.out hW hB hr)
          have G1 := Lib.hid g1
          have G2 := Lib.hid g2
          have O3 := Lib.hid o3
          rw [hu] at hcell c6 G1
          clear g1 g2 HR o1 o2 o3 HQ hft hftl hlen2 hu hws
          go_wp2_with fail
          ((with_reducible refine c5.out.mono ?_); rintro e x ⟨rfl, y6, z6⟩)
          have B6 := Lib.hid (show Lib.IsBuilder 55 5 wB.heap.size b (Lib.byteCells (l ++ ndT d ++ pre ++ [32])) x by have := y6; rw [show (⟨#[32]⟩ : ByteArray) = ⟨([32] : List UInt8).toArray⟩ from rfl, byteCells_mk] at this; exact this)
          have Z6 := Lib.hid z6
          clear y6 z6
          go_wp2_with fail
          ((with_reducible refine (c6.out _ (HW.out.trans (HE.out.trans Z6.out)) B6.out (repS_low Z6.out G1.out)).mono ?_); rintro e y ⟨rfl, y7, z7⟩)
          have B7 := Lib.hid y7
          have Z7 := Lib.hid (Z6.out.trans z7)
          clear y7 z7
          go_wp2
          go_roundw
          case rel =>
            refine ⟨j + 1, r1, pre ++ ([32] ++ (ndT d1 ++ k1.txt ++ [41])), by omega, by go_num, by omega, Lib.hid ?_, O3, Lib.hid (repS_low Z7.out G2.out), Lib.hid (HR2.out.below Z7.out), Lib.hid ?_, Lib.hid (HE.out.trans Z7.out)⟩
            · rw [HF.out]; simp [Fo.txt]
            · have := B7.out
              simpa using this
          case measure => simp [intOf]; omega
        · have he := HR.out.rep.end_ hlt
          subst he
          have HX := Lib.hid (show k.txt = pre by rw [HF.out]; simp [Fo.txt])
          have c5 := Lib.hid (hws wr _ ⟨#[41]⟩ HBB.out (by simp only [List.length_append]; show _ + 1 ≤ _; omega) hsz)
          clear HR HF hlen2 hws
          go_wp2_with fail
          ((with_reducible refine c5.out.mono ?_); rintro e x ⟨rfl, y6, z6⟩)
          have B6 := Lib.hid y6
          have Z6 := Lib.hid z6
          clear y6 z6
          go_wp2
          go_end0
          refine ⟨rfl, ?_, HE.out.trans Z6.out⟩
          have := B6.out
          rw [show (⟨#[41]⟩ : ByteArray) = ⟨([41] : List UInt8).toArray⟩ from rfl, byteCells_mk] at this
          rw [← HTX.out, HX.out]
          simpa using this
    · rw [hz] at hpt
      rw [if_pos rfl] at hpt
      have hne := htn hz
      rw [← hpt] at ct
      have hnb2 : (⟨(posT d.pos).toArray⟩ : ByteArray).toList ≠ [] := by rw [hpt, ByteArray.toList_eq]; simpa using hne
      clear hte htn hne hz hpt
      generalize (ByteArray.mk (Lib.itoa d.kind).toArray) = b1 at *
      generalize (ByteArray.mk (posT d.pos).toArray) = b2 at *
      generalize (ByteArray.mk (Lib.itoa d.name.size).toArray) = b3 at *
      generalize (ByteArray.mk (Lib.itoa d.n).toArray) = b4 at *
      have hwk : IntKind.i64.wrap (d.kind : Int) = (d.kind : Int) := IntWalk.i64_in _ (by omega)
      have HAT := Lib.hid hat
      obtain ⟨a0, a1, a2, a3, a4⟩ := hat
      unfold C at a1
      unfold Pl.C at ct
      have HAL := Lib.hid (reads_low hA hrow)
      have HK := Lib.hid hk
      have IH := Lib.hid ih
      have CT := Lib.hid ct
      have C1 := Lib.hid c1
      have C3 := Lib.hid c3
      have C4 := Lib.hid c4
      have HLEN := Lib.hid hlen
      have HOK := Lib.hid hko
      have HT := Lib.hid hT
      have HW := Lib.hid hw
      have HB := Lib.hid hB
      have HBX := Lib.hid hbx
      have e1 : b2.toList.isEmpty = false := by cases h : b2.toList with
        | nil => exact absurd h hnb2
        | cons x y => rfl
      clear hA hk hr0 hrow ih ct c1 c3 c4 hlen hko hT hw hB hbx
      generalize hTX : l ++ (ndT d ++ k.txt ++ [41]) = TX
      have HTX := Lib.hid hTX
      clear hTX
      obtain ⟨hd, hhd⟩ : ∃ hd : ByteArray, hd = ⟨(ndT d).toArray⟩ := ⟨_, rfl⟩
      rw [← hhd] at hnb hnsz
      have HHD := Lib.hid hhd
      have hnsz2 : l.length + hd.size ≤ 1000000000 := by omega
      clear hhd hnsz hl1 hnl
      generalize d.name = nm at *
      go_enter Tryd.func26, Tryd.ntmps26
      go_wp2_with fail
      ((with_reducible refine (CT.out _ (Pl.tab_below HT.out HW.out)).mono ?_); rintro e x1 ⟨rfl, y1⟩)
      have y1' : Below wB.heap.size w x1 := y1.mono HW.out.size
      have HB1 := Lib.hid (bld_below HB.out y1)
      have g0 := (y1.cell (p := ⟨bx, 0, none⟩) (cell_lt a0)).trans a0
      have g2 := (y1.cell (p := ⟨bx, 2, none⟩) (cell_lt a2)).trans a2
      have g3 := (y1.cell (p := ⟨bx, 3, none⟩) (cell_lt a3)).trans a3
      have HW1 := Lib.hid (HW.out.trans y1')
      have Y1 := Lib.hid y1
      clear y1 y1' a0 a1 a2 a3 a4
      go_wp2
      have HD0 : x1.drew.cell? ⟨bx, 0, none⟩ = some (.int .u8 d.kind) ∧ x1.drew.cell? ⟨bx, 2, none⟩ = some (.string nm) ∧ x1.drew.cell? ⟨bx, 3, none⟩ = some (.int .i64 d.n) ∧ Below wB.heap.size wB x1.drew := ⟨g0, g2, g3, HW1.out.drew⟩
      have HB2 := Lib.hid (bld_below HB1.out (below_drewN (Below.refl x1.heap.size x1) 1))
      have hB2 : Lib.IsBuilder 55 5 wB.heap.size b (Lib.byteCells l) x1.drew := HB2.out
      have HB3 := Lib.hid hB2
      clear hB2 HB2
      have q1 : ¬ 9223372036854775807 < 1 + b1.size := by omega
      have q2 : ¬ 9223372036854775807 < 1 + b1.size + 1 := by omega
      have q3 : ¬ 9223372036854775807 < 1 + b1.size + 1 + b2.size := by omega
      have q4 : ¬ 9223372036854775807 < 1 + b1.size + 1 + b2.size + 1 := by omega
      have q5 : ¬ 9223372036854775807 < 1 + b1.size + 1 + b2.size + 1 + b3.size := by omega
      have q6 : ¬ 9223372036854775807 < 1 + b1.size + 1 + b2.size + 1 + b3.size + 1 := by omega
      have q7 : ¬ 9223372036854775807 < 1 + b1.size + 1 + b2.size + 1 + b3.size + 1 + nm.size := by omega
      have q8 : ¬ 9223372036854775807 < 1 + b1.size + 1 + b2.size + 1 + b3.size + 1 + nm.size + 1 := by omega
      have q9 : ¬ 9223372036854775807 < 1 + b1.size + 1 + b2.size + 1 + b3.size + 1 + nm.size + 1 + b4.size := by omega
      go_region_held3 (fun w' => w'.cell? ⟨bx, 0, none⟩ = some (.int .u8 d.kind) ∧ w'.cell? ⟨bx, 2, none⟩ = some (.string nm) ∧ w'.cell? ⟨bx, 3, none⟩ = some (.int .i64 d.n) ∧ Below wB.heap.size wB w')
        ((first | (with_reducible exact HD0) | (with_reducible assumption) | (refine held_b HBX.out ?_ (by assumption) <;> assumption)))
        ((first
          | (go_at_call 35; (with_reducible refine (C1.out _ (held_tab HT.out (by assumption))).mono ?_); rintro e x2 ⟨rfl, y2⟩; have B2 := Lib.hid (bld_below HB3.out y2); have z2 := y2.mono (held_sz (by assumption)); clear y2)
          | (go_at_call 35; (with_reducible refine (C3.out _ (held_tab HT.out (by assumption))).mono ?_); rintro e x3 ⟨rfl, y3⟩; have B3 := Lib.hid (bld_below B2.out y3); have z3 := y3.mono (held_sz (by assumption)); clear y3)
          | (go_at_call 36; (with_reducible refine (C4.out _ (held_tab HT.out (by assumption))).mono ?_); rintro e x4 ⟨rfl, y4⟩; have B4 := Lib.hid (bld_below B3.out y4); have z4 := y4.mono (held_sz (by assumption)); clear y4)
          | (go_at_call 34; (with_reducible refine (write_any wB.heap.size b (Lib.byteCells l) hd _ B4.out (by rw [Lib.byteCells_length]; exact hnsz2) (held_sz (by assumption))).mono ?_); rintro e x5 ⟨rfl, y5, z5⟩; have B5 := Lib.hid y5; clear y5)))
      have hb5 : Below wB.heap.size w x5 := (((((Y1.out.mono HW.out.size).drew).trans z2).trans z3).trans z4).trans z5
      have BE := Lib.hid hb5
      have BL := Lib.hid (show Lib.IsBuilder 55 5 wB.heap.size b (Lib.byteCells (l ++ ndT d)) x5 by have := B5.out; rw [HHD.out, byteCells_mk] at this; exact this)
      have m4 := (hb5.cell (p := ⟨bx, 4, none⟩) HBX.out).trans HAT.out.2.2.2.2
      have R0 := Lib.hid (repS_low hb5 HK.out)
      have A0 := Lib.hid (HAL.out.below hb5)
      rename_i hHeld
      clear hHeld z2 z3 z4 z5 hb5 q1 q2 q3 q4 q5 q6 q7 q8 q9 HD0 g0 g2 g3 s1 s2 s3 s4 hnb hwk e1 hnb2
      go_wp2
      go_loopw [52] (fun i wr => ∃ (j : Nat) (f : Fo) (pre : List UInt8), j ≤ ks.length ∧ i = .int .i64 j ∧ f.count ≤ k.count ∧ Hid (k.txt = pre ++ f.txt) ∧ Hid f.ok ∧ Hid (RepS (fun x => x < wB.heap.size) wr f (ks.drop j)) ∧ Hid (Reads wr wB.heap.size 1 A ks.length ks) ∧ Hid (Lib.IsBuilder 55 5 wB.heap.size b (Lib.byteCells (l ++ ndT d ++ pre)) wr) ∧ Hid (Below wB.heap.size w wr)) (fun i _ => ks.length - (intOf i).toNat)
      case atStart => exact ⟨0, k, [], Nat.zero_le _, rfl, Nat.le_refl _, Lib.hid rfl, HOK, Lib.hid R0.out, A0, Lib.hid (by rw [List.append_nil]; exact BL.out), BE⟩
      case round =>
        obtain ⟨j, f, pre, hj, rfl, hfc, HF, HQ, HR, HR2, HBB, HE⟩ := hrel
        have hlen2 := HLEN.out
        rw [HF.out] at hlen2
        simp only [List.length_append, List.length_cons, List.length_nil] at hlen2
        have hws := fun (W : World) (l' : List UInt8) (s : ByteArray) (h : Lib.IsBuilder 55 5 wB.heap.size b (Lib.byteCells l') W) (hl : l'.length + s.size ≤ 1000000000) (hb : wB.heap.size ≤ W.heap.size) => write_any wB.heap.size b (Lib.byteCells l') s W h (by rw [Lib.byteCells_length]; exact hl) hb
        have hsz : wB.heap.size ≤ wr.heap.size := by have := HW.out.size; have := HE.out.size; omega
        by_cases hlt : j < ks.length
        · obtain ⟨d1, k1, r1, rfl, g1, g2⟩ := HR.out.at_ hlt
          obtain ⟨b1', off, rfl, hcell⟩ := Reads.nth HR2.out hlt
          obtain ⟨b2', _, _, _, hu, _⟩ := g1.rep.one
          simp only [Fo.count] at hfc
          have hft : (Fo.node d1 k1 r1).txt = [32] ++ (ndT d1 ++ k1.txt ++ [41]) ++ r1.txt := rfl
          have hftl := congrArg List.length hft
          simp only [List.length_append, List.length_cons, List.length_nil] at hftl
          obtain ⟨o1, o2, o3⟩ := HQ.out
          have c5 := Lib.hid (hws wr _ ⟨#[32]⟩ HBB.out (by simp only [List.length_append]; show _ + 1 ≤ _; omega) hsz)
          have c6 := Lib.hid (fun (W : World) (hW : Below wB.heap.size wB W) (hB : Lib.IsBuilder 55 5 wB.heap.size b (Lib.byteCells (l ++ ndT d ++ pre ++ [32])) W) (hr : RepS (fun x => x < wB.heap.size) W (.node d1 k1 .no) [ks[j]]) => IH.out d1 k1 ks[j] b (l ++ ndT d ++ pre ++ [32]) wB W (by simp [Fo.count]; omega) (by simp [Fo.count]; omega) ⟨o1, o2, trivial⟩ (by simp only [List.length_append, List.length_cons, List.length_nil]; omega) HT.out hW hB hr)
          have G1 := Lib.hid g1
          have G2 := Lib.hid g2
          have O3 := Lib.hid o3
          rw [hu] at hcell c6 G1
          clear g1 g2 HR o1 o2 o3 HQ hft hftl hlen2 hu hws
          go_wp2_with fail
          ((with_reducible refine c5.out.mono ?_); rintro e x ⟨rfl, y6, z6⟩)
          have B6 := Lib.hid (show Lib.IsBuilder 55 5 wB.heap.size b (Lib.byteCells (l ++ ndT d ++ pre ++ [32])) x by have := y6; rw [show (⟨#[32]⟩ : ByteArray) = ⟨([32] : List UInt8).toArray⟩ from rfl, byteCells_mk] at this; exact this)
          have Z6 := Lib.hid z6
          clear y6 z6
          go_wp2_with fail
          ((with_reducible refine (c6.out _ (HW.out.trans (HE.out.trans Z6.out)) B6.out (repS_low Z6.out G1.out)).mono ?_); rintro e y ⟨rfl, y7, z7⟩)
          have B7 := Lib.hid y7
          have Z7 := Lib.hid (Z6.out.trans z7)
          clear y7 z7
          go_wp2
          go_roundw
          case rel =>
            refine ⟨j + 1, r1, pre ++ ([32] ++ (ndT d1 ++ k1.txt ++ [41])), by omega, by go_num, by omega, Lib.hid ?_, O3, Lib.hid (repS_low Z7.out G2.out), Lib.hid (HR2.out.below Z7.out), Lib.hid ?_, Lib.hid (HE.out.trans Z7.out)⟩
            · rw [HF.out]; simp [Fo.txt]
            · have := B7.out
              simpa using this
          case measure => simp [intOf]; omega
        · have he := HR.out.rep.end_ hlt
          subst he
          have HX := Lib.hid (show k.txt = pre by rw [HF.out]; simp [Fo.txt])
          have c5 := Lib.hid (hws wr _ ⟨#[41]⟩ HBB.out (by simp only [List.length_append]; show _ + 1 ≤ _; omega) hsz)
          clear HR HF hlen2 hws
          go_wp2_with fail
          ((with_reducible refine c5.out.mono ?_); rintro e x ⟨rfl, y6, z6⟩)
          have B6 := Lib.hid y6
          have Z6 := Lib.hid z6
          clear y6 z6
          go_wp2
          go_end0
          refine ⟨rfl, ?_, HE.out.trans Z6.out⟩
          have := B6.out
          rw [show (⟨#[41]⟩ : ByteArray) = ⟨([41] : List UInt8).toArray⟩ from rfl, byteCells_mk] at this
          rw [← HTX.out, HX.out]
          simpa using this
end Go.Proofs.YtdpdoigmjnkmdaaDoor.Tr
