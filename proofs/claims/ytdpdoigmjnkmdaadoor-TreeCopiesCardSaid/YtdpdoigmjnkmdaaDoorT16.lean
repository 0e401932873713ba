/- Trees' texts; the walk of the reference's Text. -/
import Derived.Test.YtdpdoigmjnkmdaaDoorT15
set_option linter.unusedSimpArgs false
set_option linter.unusedVariables false
namespace Go.Proofs.YtdpdoigmjnkmdaaDoor.Tr
open Go.RowKit
open Fl

/-- A node's text, up to its kids. -/
def ndT (d : Nd) : List UInt8 := [40] ++ Lib.itoa d.kind ++ [32] ++ posT d.pos ++ [32] ++ Lib.itoa d.name.size ++ [58] ++ d.name.data.toList ++ [32] ++ Lib.itoa d.n
/-- A row's text: a blank and a tree, and so on. -/
def Fo.txt : Fo → List UInt8
  | .no => []
  | .node d k r => [32] ++ (ndT d ++ k.txt ++ [41]) ++ r.txt
theorem itoa_len (z : Int) (h0 : -9223372036854775808 ≤ z) (h1 : z ≤ 9223372036854775807) : (Lib.itoa z).length ≤ 20 := by
  by_cases hz : z = 0
  · subst hz; rw [itoa_zero]; simp
  · by_cases hp : 0 < z
    · obtain ⟨n, rfl⟩ : ∃ n : Nat, z = n := ⟨z.toNat, by omega⟩
      rw [itoa_pos n (by omega)]
      have := digN_len n (by omega); omega
    · obtain ⟨n, rfl⟩ : ∃ n : Nat, z = -(n : Int) := ⟨(-z).toNat, by omega⟩
      rw [itoa_neg n (by omega)]
      have := digN_len n (by omega); simp; omega
theorem posT_len (p : Nat × Nat) : (posT p).length ≤ 50 := by
  unfold posT
  split
  · rename_i h
    have bd := Pl.isN_bd h
    rw [Pl.textN_in h]
    have h1 := digN_len p.1 (by omega)
    have h2 := digN_len p.2 (by omega)
    unfold Pl.digN at h1 h2
    rw [if_neg (by omega)] at h1 h2
    simp; omega
  · simp
theorem bsize (l : List UInt8) : (⟨l.toArray⟩ : ByteArray).size = l.length := by show l.toArray.size = _; simp
/-- A node's numbers are within the bounds of their types, its name is not too long. -/
def Nd.ok (d : Nd) : Prop := d.kind < 256 ∧ d.pos.1 < 4294967296 ∧ d.pos.2 < 4294967296 ∧ d.name.size ≤ 1000000000 ∧ -9223372036854775808 ≤ d.n ∧ d.n ≤ 9223372036854775807
def Fo.ok : Fo → Prop
  | .no => True
  | .node d k r => d.ok ∧ k.ok ∧ r.ok
theorem nd_bytes (d : Nd) : (⟨#[40]⟩ ++ ⟨(Lib.itoa d.kind).toArray⟩ ++ ⟨#[32]⟩ ++ ⟨(posT d.pos).toArray⟩ ++ ⟨#[32]⟩ ++ ⟨(Lib.itoa d.name.size).toArray⟩ ++ ⟨#[58]⟩ ++ d.name ++ ⟨#[32]⟩ ++ ⟨(Lib.itoa d.n).toArray⟩ : ByteArray) = ⟨(ndT d).toArray⟩ := by
  apply ByteArray.ext
  unfold ndT
  simp [ByteArray.data_append]
theorem add_bytes (l : List UInt8) (m : List UInt8) : (⟨l.toArray⟩ ++ ⟨m.toArray⟩ : ByteArray) = ⟨(l ++ m).toArray⟩ := ByteArray.mk_append_mk l m
theorem ndT_len (d : Nd) (h : d.ok) : (ndT d).length ≤ d.name.size + 120 := by
  obtain ⟨h1, h2, h3, h4, h5, h6⟩ := h
  unfold ndT
  have a := itoa_len d.kind (by omega) (by omega)
  have b := posT_len d.pos
  have c := itoa_len d.name.size (by omega) (by omega)
  have e := itoa_len d.n h5 h6
  have hn : d.name.data.toList.length = d.name.size := by simp
  simp only [List.length_append, List.length_cons, List.length_nil, hn]
  omega
theorem held_four {x y : World} {b : Nat} {v0 v1 v2 v3 v4 : Value} {B : World} (h : x.cell? ⟨b, 0, none⟩ = some v0 ∧ x.cell? ⟨b, 1, none⟩ = some v1 ∧ x.cell? ⟨b, 2, none⟩ = some v2 ∧ x.cell? ⟨b, 3, none⟩ = some v3 ∧ x.cell? ⟨b, 4, none⟩ = some v4 ∧ Below B.heap.size B x) (hb : Below x.heap.size x y) :
    y.cell? ⟨b, 0, none⟩ = some v0 ∧ y.cell? ⟨b, 1, none⟩ = some v1 ∧ y.cell? ⟨b, 2, none⟩ = some v2 ∧ y.cell? ⟨b, 3, none⟩ = some v3 ∧ y.cell? ⟨b, 4, none⟩ = some v4 ∧ Below B.heap.size B y := by
  obtain ⟨h0, h1, h2, h3, h4, h5⟩ := h
  have hl := cell_lt h0
  exact ⟨(hb.cell (p := ⟨b, 0, none⟩) hl).trans h0, (hb.cell (p := ⟨b, 1, none⟩) hl).trans h1, (hb.cell (p := ⟨b, 2, none⟩) hl).trans h2, (hb.cell (p := ⟨b, 3, none⟩) hl).trans h3, (hb.cell (p := ⟨b, 4, none⟩) hl).trans h4, h5.trans (hb.mono h5.size)⟩
theorem held_four_bel {P0 P1 P2 P3 P4 : Prop} {B x : World} (h : P0 ∧ P1 ∧ P2 ∧ P3 ∧ P4 ∧ Below B.heap.size B x) : P4 ∧ Below B.heap.size B x := h.2.2.2.2

set_option maxRecDepth 100000 in
set_option maxHeartbeats 6400000 in
theorem rtext_any (N : Nat) : ∀ (d : Nd) (k : Fo) (v : Value) (w : World), (Fo.node d k .no).count ≤ N → (Fo.node d k .no).count ≤ 1000000 → (Fo.node d k .no).ok → (ndT d ++ k.txt ++ [41]).length ≤ 1000000000 → Rep w (.node d k .no) [v] →
    Calls Tryd.prog 19 #[v] w fun e w' => e = .returned (.string ⟨(ndT d ++ k.txt ++ [41]).toArray⟩) ∧ Below w.heap.size w w' := by
  induction N with
  | zero => intro d k v w h; simp [Fo.count] at h
  | succ N ih =>
    intro d k v w hN hc0 hok hlen hr
    obtain ⟨b, A, c, ks, rfl, hat, hA, hk⟩ := hr.one
    have hle := Reads.len_le (B := 0) (A := none) hk
    simp only [Fo.count] at hN hc0
    obtain ⟨hd, hko, _⟩ := hok
    have hnl := ndT_len d hd
    obtain ⟨p0, p1, p2, p3, p4, p5⟩ := hd
    have c1 := fun w' => number_any (d.kind : Int) w' (by omega) (by omega)
    have c2 := fun w' => place_any d.pos w' p1 p2
    have c3 := fun w' => number_any (d.name.size : Int) w' (by omega) (by omega)
    have c4 := fun w' => number_any d.n w' p4 p5
    have hnb := nd_bytes d
    have s1 : (⟨(Lib.itoa d.kind).toArray⟩ : ByteArray).size ≤ 20 := by rw [bsize]; exact itoa_len _ (by omega) (by omega)
    have s2 : (⟨(posT d.pos).toArray⟩ : ByteArray).size ≤ 50 := by rw [bsize]; exact posT_len _
    have s3 : (⟨(Lib.itoa d.name.size).toArray⟩ : ByteArray).size ≤ 20 := by rw [bsize]; exact itoa_len _ (by omega) (by omega)
    have s4 : (⟨(Lib.itoa d.n).toArray⟩ : ByteArray).size ≤ 20 := by rw [bsize]; exact itoa_len _ p4 p5
    generalize (ByteArray.mk (Lib.itoa d.kind).toArray) = b1 at *
    generalize (ByteArray.mk (posT d.pos).toArray) = b2 at *
    generalize (ByteArray.mk (Lib.itoa d.name.size).toArray) = b3 at *
    generalize (ByteArray.mk (Lib.itoa d.n).toArray) = b4 at *
    have hwk : IntKind.i64.wrap (d.kind : Int) = (d.kind : Int) := IntWalk.i64_in _ (by omega)
    obtain ⟨a0, a1, a2, a3, a4⟩ := hat
    unfold C at a1 c2
    have HA := Lib.hid hA
    have HK := Lib.hid hk
    have IH := Lib.hid ih
    have C1 := Lib.hid c1
    have C2 := Lib.hid c2
    have C3 := Lib.hid c3
    have C4 := Lib.hid c4
    have HLEN := Lib.hid hlen
    have HOK := Lib.hid hko
    clear hA hk hr ih c1 c2 c3 c4 hlen hko hnl
    generalize d.name = nm at *
    have q1 : ¬ 9223372036854775807 < 1 + b1.size := by omega
    have q2 : ¬ 9223372036854775807 < 1 + b1.size + 1 := by omega
    have q3 : ¬ 9223372036854775807 < 1 + b1.size + 1 + b2.size := by omega
    have q4 : ¬ 9223372036854775807 < 1 + b1.size + 1 + b2.size + 1 := by omega
    have q5 : ¬ 9223372036854775807 < 1 + b1.size + 1 + b2.size + 1 + b3.size := by omega
    have q6 : ¬ 9223372036854775807 < 1 + b1.size + 1 + b2.size + 1 + b3.size + 1 := by omega
    have q7 : ¬ 9223372036854775807 < 1 + b1.size + 1 + b2.size + 1 + b3.size + 1 + nm.size := by omega
    have q8 : ¬ 9223372036854775807 < 1 + b1.size + 1 + b2.size + 1 + b3.size + 1 + nm.size + 1 := by omega
    have q9 : ¬ 9223372036854775807 < 1 + b1.size + 1 + b2.size + 1 + b3.size + 1 + nm.size + 1 + b4.size := by omega
    go_enter Tryd.func19, Tryd.ntmps19
    go_wp2
    have HD0 : w.drew.cell? ⟨b, 0, none⟩ = some (.int .u8 d.kind) ∧ w.drew.cell? ⟨b, 1, none⟩ = some (.complex .f64 (fl d.pos.1) (fl d.pos.2)) ∧ w.drew.cell? ⟨b, 2, none⟩ = some (.string nm) ∧ w.drew.cell? ⟨b, 3, none⟩ = some (.int .i64 d.n) ∧ w.drew.cell? ⟨b, 4, none⟩ = some (.slice A ks.length c) ∧ Below w.heap.size w w.drew := ⟨a0, a1, a2, a3, a4, (Below.refl _ _).drew⟩
    go_region_held3 (fun w' => w'.cell? ⟨b, 0, none⟩ = some (.int .u8 d.kind) ∧ w'.cell? ⟨b, 1, none⟩ = some (.complex .f64 (fl d.pos.1) (fl d.pos.2)) ∧ w'.cell? ⟨b, 2, none⟩ = some (.string nm) ∧ w'.cell? ⟨b, 3, none⟩ = some (.int .i64 d.n) ∧ w'.cell? ⟨b, 4, none⟩ = some (.slice A ks.length c) ∧ Below w.heap.size w w')
      ((first | (with_reducible exact HD0) | (with_reducible assumption) | (refine held_four ?_ (by assumption) <;> assumption)))
      ((first
        | (go_at_call 29; (with_reducible refine (C2.out _).mono ?_); rintro e w' ⟨rfl, hbb⟩)
        | (go_at_call 28; (with_reducible refine (C1.out _).mono ?_); rintro e w' ⟨rfl, hbb⟩)
        | (go_at_call 28; (with_reducible refine (C3.out _).mono ?_); rintro e w' ⟨rfl, hbb⟩)
        | (go_at_call 28; (with_reducible refine (C4.out _).mono ?_); rintro e w' ⟨rfl, hbb⟩)))
    have hH := held_four_bel (by assumption)
    rename_i hHeld
    clear hHeld HD0 q1 q2 q3 q4 q5 q6 q7 q8 q9 a0 a1 a2 a3 a4 hnb s1 s2 s3 s4 hwk
    obtain ⟨h4, hbl⟩ := hH
    have H4 := Lib.hid h4
    have HBL := Lib.hid hbl
    clear h4 hbl
    go_wp2
    go_loopw [3, 4] (fun t i wr => ∃ (j : Nat) (f : Fo) (pre : List UInt8) (sb : ByteArray), j ≤ ks.length ∧ i = .int .i64 j ∧ t = .string sb ∧ Hid (sb = ⟨(ndT d ++ pre).toArray⟩) ∧ f.count ≤ k.count ∧ Hid (k.txt = pre ++ f.txt) ∧ Hid f.ok ∧ Hid (Rep wr f (ks.drop j)) ∧ Hid (Reads wr wr.heap.size 1 A ks.length ks) ∧ Hid (wr.cell? ⟨b, 4, none⟩ = some (.slice A ks.length c)) ∧ Hid (Below w.heap.size w wr)) (fun _ i _ => ks.length - (intOf i).toNat)
    case atStart => exact ⟨0, k, [], _, Nat.zero_le _, rfl, rfl, Lib.hid (by simp), Nat.le_refl _, Lib.hid rfl, HOK, Lib.hid (HK.out.below HBL.out), Lib.hid ((HA.out.below HBL.out).more HBL.out.size), H4, HBL⟩
    case round =>
      obtain ⟨j, f, pre, sb, hj, rfl, rfl, HSB, hfc, HF, HQ, HR, HR2, HC, HB⟩ := hrel
      have hc4 := HC.out
      have hlen2 := HLEN.out
      rw [HF.out] at hlen2
      have hsbl : sb.size = (ndT d).length + pre.length := by rw [HSB.out, bsize]; simp
      simp only [List.length_append, List.length_cons, List.length_nil] at hlen2
      by_cases hlt : j < ks.length
      · obtain ⟨d1, k1, r1, rfl, g1, g2⟩ := HR.out.at_ hlt
        obtain ⟨b1', off, rfl, hcell⟩ := Reads.nth HR2.out hlt
        simp only [Fo.count] at hfc
        have hft : (Fo.node d1 k1 r1).txt = [32] ++ (ndT d1 ++ k1.txt ++ [41]) ++ r1.txt := rfl
        have hftl := congrArg List.length hft
        simp only [List.length_append, List.length_cons, List.length_nil] at hftl
        obtain ⟨o1, o2, o3⟩ := HQ.out
        have c1 := IH.out d1 k1 ks[j] wr (by simp [Fo.count]; omega) (by simp [Fo.count]; omega) ⟨o1, o2, trivial⟩ (by simp only [List.length_append, List.length_cons, List.length_nil]; omega) g1
        have htb : (⟨(ndT d1 ++ k1.txt ++ [41]).toArray⟩ : ByteArray).size = (ndT d1).length + k1.txt.length + 1 := by rw [bsize]; simp; omega
        obtain ⟨tb, hTB⟩ : ∃ tb : ByteArray, tb = ⟨(ndT d1 ++ k1.txt ++ [41]).toArray⟩ := ⟨_, rfl⟩
        rw [← hTB] at c1 htb
        have HTB := Lib.hid hTB
        have C5 := Lib.hid c1
        have G2 := Lib.hid g2
        have O3 := Lib.hid o3
        have q1 : ¬ 9223372036854775807 < sb.size + 1 := by omega
        have q2 : ¬ 9223372036854775807 < sb.size + 1 + tb.size := by omega
        have hi0 : (0 : Int) ≤ (j : Int) := by omega
        have hi1 : (j : Int) < (ks.length : Int) := by omega
        clear c1 g1 g2 HR o1 o2 o3 HQ hTB hft hftl hlen2 hsbl htb
        generalize ks[j] = u at *
        go_wp2_with fail
        ((with_reducible refine C5.out.mono ?_); rintro e x ⟨rfl, g1⟩)
        go_wp2
        go_roundw
        case rel =>
          refine ⟨j + 1, r1, pre ++ ([32] ++ (ndT d1 ++ k1.txt ++ [41])), _, by omega, by go_num, rfl, Lib.hid ?_, by omega, Lib.hid ?_, O3, Lib.hid (G2.out.below g1), Lib.hid ((HR2.out.below g1).more g1.size), Lib.hid ((g1.cell (p := ⟨b, 4, none⟩) (cell_lt HC.out)).trans HC.out), Lib.hid (HB.out.trans (g1.mono HB.out.size))⟩
          · rw [HSB.out, HTB.out, show (⟨#[32]⟩ : ByteArray) = ⟨([32] : List UInt8).toArray⟩ from rfl, add_bytes, add_bytes]; simp
          · rw [HF.out]; simp [Fo.txt]
        case measure => simp [intOf]; omega
      · have he := HR.out.end_ hlt
        subst he
        have HE := Lib.hid (show k.txt = pre by rw [HF.out]; simp [Fo.txt])
        have q1 : ¬ 9223372036854775807 < sb.size + 1 := by omega
        clear HR HF hlen2 hsbl
        go_wp2
        go_ret
        refine ⟨?_, HB.out⟩
        rw [HE.out]
        show Ending.returned (.string (sb ++ ⟨#[41]⟩)) = _
        rw [HSB.out, show (⟨#[41]⟩ : ByteArray) = ⟨([41] : List UInt8).toArray⟩ from rfl, add_bytes]
end Go.Proofs.YtdpdoigmjnkmdaaDoor.Tr
