import Derived.Test.YtkemhmfdooghkaaGreatDoorV45
import Derived.Deep.Slices
import Derived.Deep.Fields
import Derived.ChangeSame
import Derived.ChangeSlices
import Derived.Test.YtkemhmfdooghkaaGreatDoorCards
import Derived.Test.YtkemhmfdooghkaaGreatDoorTie
import Derived.Lib.LaidTab
import Derived.Stop.LaidErr
set_option linter.unusedSimpArgs false
set_option linter.unusedVariables false
set_option maxRecDepth 100000
set_option maxHeartbeats 6400000
namespace Go.Proofs.YtkemhmfdooghkaaGreatDoor
namespace Rn
open Go.RowKit
open Tr (Nd Fo RepS)
open Lx (Tk noTk bt)
open Fl
open Ex
abbrev cutS : ByteArray := ⟨#[97, 32, 49, 32, 39, 120, 39, 32, 59, 32, 44, 32, 41, 32, 58, 61, 32, 69, 78, 68, 32, 66, 69, 71, 73, 78, 32, 84, 72, 69, 78, 32, 46, 32, 61, 32, 91, 32, 55, 67, 32, 79, 70]⟩
theorem cut_row (w : World) : ∃ T : List PT, T.length = 15 ∧ Calls Tryz.prog 8 #[.string cutS] w (RowR w T) :=
 ⟨_, show (rowP cutS.data.toList).length = 15 by decide +kernel, row_any cutS (by decide) w⟩
section
variable {g : Nat} {w : World} {A : Option Addr} {L : List PT} {x : T1}
theorem parse_ok (h : RowAt w A L) (hg : L.length < g) {j : Nat} (hp : Un.parseU g L 0 = .ok (x, j)) (c : Nat) : Calls Tryz.prog 10 #[.slice A L.length c] w fun e w' => ∃ b, e = .returned (.tuple #[.pointer (some ⟨b, 0, none⟩), .int .i64 0, .int .i64 0]) ∧ w'.cell? ⟨b, 2, none⟩ = some (.string x.1.name) ∧ Below w.heap.size w w' := by
 have h1 := Un.Parse_all h hg c
 rw [hp] at h1
 refine h1.mono fun e w' ⟨b, e1, hr, hb⟩ => ⟨b, e1, ?_, hb⟩
 obtain ⟨_, _, _, _, h2, _⟩ := Un.node_atB hr
 exact h2
theorem parse_err (h : RowAt w A L) (hg : L.length < g) {k : Nat} (hp : Un.parseU g L 0 = .error k) (c : Nat) : Calls Tryz.prog 10 #[.slice A L.length c] w fun e w' => e = .returned (.tuple #[.pointer none, .int .i64 k, .int .i64 60]) ∧ Below w.heap.size w w' := by
 have h1 := Un.Parse_all h hg c
 rw [hp] at h1
 exact h1
theorem parse_any (h : RowAt w A L) (hg : L.length < g) {m : Nat} (hp : match Un.parseU g L 0 with | .ok _ => True | .error k => k = m ∨ k = m + 1) (c : Nat) : Calls Tryz.prog 10 #[.slice A L.length c] w fun e w' => ∃ v j f, e = .returned (.tuple #[.pointer v, .int .i64 j, .int .i64 f]) ∧ (f = 0 ∨ f = 60 ∧ (j = (m : Int) ∨ j = (m : Int) + 1)) ∧ Below w.heap.size w w' := by
 have h1 := Un.Parse_all h hg c
 refine h1.mono fun e w' h2 => ?_
 cases hx : Un.parseU g L 0 with
 | ok r =>
   rw [hx] at h2
   obtain ⟨b, e1, _, hb⟩ := h2
   exact ⟨_, _, _, e1, .inl rfl, hb⟩
 | error k =>
   rw [hx] at h2 hp
   obtain ⟨e1, hb⟩ := h2
   exact ⟨_, _, _, e1, .inr ⟨rfl, hp.imp (fun e => by rw [e]) (fun e => by rw [e]; rfl)⟩, hb⟩
end
end Rn
namespace Rn
open Go.RowKit
open Lx (Tk noTk bt Blk EnvS run_store_complexL)
open Fl
open Ex
open St (Prt Parts)
attribute [local go_sem] run_store_complexL
section
variable {k : Nat} {l : List Nat} {A1 A2 : Option Addr} {c1 c2 : Nat} {q : List (Prt × Value)} {w : World}
abbrev madeO (k : Nat) (A1 : Option Addr) (n1 c1 : Nat) (A2 : Option Addr) (n2 c2 : Nat) : Obj := .cells (madeV k A1 n1 c1 A2 n2 c2) 25
theorem cuts_big (cut other : Int) (h : 20 < l.length ∨ 10 < q.length) (E : EnvS w) : Calls Tryz.prog 3 #[.agg (madeV k A1 l.length c1 A2 q.length c2), .int .u16 cut, .int .u8 other] w fun e w' => e = .returned (.bool true) ∧ Below w.heap.size w w' := by
 have hb0 : Below w.heap.size w (w.alloc (madeO k A1 l.length c1 A2 q.length c2)) := (Below.refl _ _).alloc nl _
 have HWK := qh (Un.works_all (E.below nl hb0))
 have HB0 := qh hb0
 have HK := qh (Blk.new w 25 (madeV k A1 l.length c1 A2 q.length c2))
 clear hb0 E
 have v1 : (w.alloc (madeO k A1 l.length c1 A2 q.length c2)).cell? ⟨w.heap.size, 1, none⟩ = some (.slice A1 l.length c1) := HK.out.cell 1
 have v2 : (w.alloc (madeO k A1 l.length c1 A2 q.length c2)).cell? ⟨w.heap.size, 2, none⟩ = some (.slice A2 q.length c2) := HK.out.cell 2
 by_cases h1 : 20 < l.length
 ·have x1 : (20 : Int) < (l.length : Int) := by omega
  clear h
  go_enter Tryz.func3, Tryz.ntmps3
  go_wp2_with fail
  ((with_reducible refine HWK.out.mono ?_); rintro e w1 ⟨rfl, hb⟩)
  have HB := qh (HB0.out.trans (hb.mono HB0.out.size))
  clear hb
  go_wp2
  go_ret
  exact ⟨rfl, HB.out⟩
 ·have x1 : ¬ (20 : Int) < (l.length : Int) := by omega
  have x2 : (10 : Int) < (q.length : Int) := by omega
  clear h
  go_enter Tryz.func3, Tryz.ntmps3
  go_wp2_with fail
  ((with_reducible refine HWK.out.mono ?_); rintro e w1 ⟨rfl, hb⟩)
  have HB := qh (HB0.out.trans (hb.mono HB0.out.size))
  clear hb
  go_wp2
  go_ret
  exact ⟨rfl, HB.out⟩
theorem news_take {w5 w' : World} {L : List PT} {ad : Addr} (h : RowAt w5 (some ad) L) (hb : Below w5.heap.size w5 w') {m : Nat} (hm : m ≤ L.length) : ∀ j u, (flatP (L.take m))[j]? = some u → w'.cell? (ad.add j) = some u := fun j u hu => by
 have h1 := (h.below hb).take hm
 have h2 := h1.reads.1
 rcases Nat.eq_zero_or_pos (L.take m).length with h0 | h0
 ·rw [List.length_eq_zero_iff.1 h0] at hu
  cases hu
 ·obtain ⟨ad', e, _, hc⟩ := h1.reads.2 h0
  injection e with e
  subst e
  exact hc j u hu
theorem cuts_walk (hk : k < 256) (hl : Bys w A1 c1 l) (hq : Parts w A2 c2 q) {cut other : Nat} (hcut : cut < 65536) (hoth : other < 256) (E : EnvS w) : Calls Tryz.prog 3 #[.agg (madeV k A1 l.length c1 A2 q.length c2), .int .u16 cut, .int .u8 other] w fun e w' => e = .returned (.bool true) ∧ Below w.heap.size w w' := by
 by_cases hbig : 20 < l.length ∨ 10 < q.length
 ·exact cuts_big cut other hbig E
 have x1 : ¬ (20 : Int) < (l.length : Int) := by omega
 have x1b : decide ((20 : Int) < (l.length : Int)) = false := decide_eq_false x1
 have x2 : ¬ (10 : Int) < (q.length : Int) := by omega
 have hfit := hq.fit
 have xc1 : (0 : Int) ≤ (cut : Int) := by omega
 have xc2 : (cut : Int) ≤ 65535 := by omega
 have xo1 : (0 : Int) ≤ (other : Int) := by omega
 have xo2 : (other : Int) ≤ 255 := by omega
 have hq10 : q.length ≤ 10 := by omega
 have hb0 : Below w.heap.size w (w.alloc (madeO k A1 l.length c1 A2 q.length c2)) := (Below.refl _ _).alloc nl _
 have HE := qh (E.below nl hb0)
 have HB0 := qh hb0
 have HK := qh (Blk.new w 25 (madeV k A1 l.length c1 A2 q.length c2))
 have DS := qh (source_any hk (hl.below hb0) (hq.below hb0) hq10)
 have HSZ := qh (src_size (k := k) (l := l) hfit hq10)
 have HW := qh (fun g hn hg => row_unit (g := g) (k := k) (l := l) hfit hn hg)
 clear hb0 E hl hq hbig hfit
 generalize hs : srcX k l q = src at *
 clear hs
 have v1 : (w.alloc (madeO k A1 l.length c1 A2 q.length c2)).cell? ⟨w.heap.size, 1, none⟩ = some (.slice A1 l.length c1) := HK.out.cell 1
 have v2 : (w.alloc (madeO k A1 l.length c1 A2 q.length c2)).cell? ⟨w.heap.size, 2, none⟩ = some (.slice A2 q.length c2) := HK.out.cell 2
 have v0 : (w.alloc (madeO k A1 l.length c1 A2 q.length c2)).cell? ⟨w.heap.size, 0, none⟩ = some (.int .u8 k) := HK.out.cell 0
 go_enter Tryz.func3, Tryz.ntmps3
 go_wp2_with fail
 ((with_reducible refine DS.out.mono ?_); rintro e w1 ⟨rfl, hb⟩)
 have HB := qh (HB0.out.trans (hb.mono HB0.out.size))
 have HE := qh (HE.out.below nl hb)
 have DR := qh (row_any (bt src) (by have := HSZ.out; omega) w1)
 clear hb DS HB0 HK v0 v1 v2
 go_wp2_with fail
 ((with_reducible refine DR.out.mono ?_); rintro e w2 ⟨A, c, rfl, hc, hr, hb⟩)
 have hbs : (bt src).data.toList = src := rfl
 rw [hbs] at hc hr ⊢
 clear hbs
 have HB := qh (HB.out.trans (hb.mono HB.out.size))
 have HE := qh (HE.out.below nl hb)
 have HR := qh hr
 clear hb DR hr
 have hlr := rowP_len src
 generalize hL : rowP src = L at *
 by_cases h0 : L = []
 ·have HWK := qh (Un.works_all HE.out)
  have hl0 : L.length = 0 := by rw [h0]; rfl
  have x0 : ((L.length : Int) == 0) = true := by rw [hl0]; rfl
  clear hl0 h0
  go_wp2_with fail
  ((with_reducible refine HWK.out.mono ?_); rintro e w3 ⟨rfl, hb⟩)
  have HB := qh (HB.out.trans (hb.mono HB.out.size))
  clear hb
  go_wp2
  go_ret
  exact ⟨rfl, HB.out⟩
 ·have hl0 : 0 < L.length := List.length_pos_iff.2 h0
  have x0 : ((L.length : Int) == 0) = false := by simp only [beq_eq_false_iff_ne, ne_eq]; omega
  obtain ⟨x, hw, hn⟩ := HW.out (L.length + 2) h0 (by omega)
  clear hL HW h0
  have DP := qh (parse_ok HR.out (g := L.length + 2) (by omega) hw.parse c)
  have HWh := qh hw
  have HN := qh hn
  clear hw hn
  go_wp2_with fail
  ((with_reducible refine DP.out.mono ?_); rintro e w3 ⟨b, rfl, z2, hb⟩)
  rw [HN.out] at z2
  have HB := qh (HB.out.trans (hb.mono HB.out.size))
  have HE := qh (HE.out.below nl hb)
  have HR := qh (HR.out.below hb)
  have e1 : (cut : Int) % (L.length : Int) = ((cut % L.length : Nat) : Int) := (Int.natCast_emod _ _).symm
  have e2 : Int.tmod (cut : Int) (L.length : Int) = ((cut % L.length : Nat) : Int) := Int.ofNat_tmod _ _
  have hm : cut % L.length < L.length := Nat.mod_lt _ hl0
  generalize cut % L.length = m at *
  have DC := qh (parse_err (HR.out.take (Nat.le_of_lt hm)) (g := L.length + 2) (by rw [Ex.take_len (Nat.le_of_lt hm)]; omega) (HWh.out.cut hm) c)
  rw [Ex.take_len (Nat.le_of_lt hm)] at DC
  have hSl : ∀ w', (Instr.slice 28 (.slice A L.length c) none (some (.int .i64 m)) none).run Tryz.prog w' = .ok (.slice A m c) w' := fun w' => by
   have h0 : (0 : Int) ≤ (m : Int) := by omega
   have h1 : (m : Int) ≤ (L.length : Int) := by omega
   have h2 : (m : Int) ≤ (c : Int) := by omega
   simp [go_sem, h0, h1, h2, sliced, Result.andThen]
  clear hb DP
  go_wp2_with fail
  ((with_reducible refine DC.out.mono ?_); rintro e w4 ⟨rfl, hb⟩)
  have HB := qh (HB.out.trans (hb.mono HB.out.size))
  have HE := qh (HE.out.below nl hb)
  have HR := qh (HR.out.below hb)
  obtain ⟨T, hT, dT⟩ := cut_row w4
  have DT := qh dT
  clear dT hb DC
  go_wp2_with fail
  ((with_reducible refine DT.out.mono ?_); rintro e w5 ⟨AT, ct, rfl, hct, hrt, hb⟩)
  have HB := qh (HB.out.trans (hb.mono HB.out.size))
  have HE := qh (HE.out.below nl hb)
  have HR := qh (HR.out.below hb)
  have e3 : Int.tmod (other : Int) (T.length : Int) = ((other % T.length : Nat) : Int) := Int.ofNat_tmod _ _
  have ho : other % T.length < T.length := Nat.mod_lt _ (by omega)
  generalize other % T.length = o at *
  obtain ⟨gb, go, rfl, hgb, p0, p1, p2, p3, p4⟩ := RowAt.spot hrt ho
  generalize T[o] = tk at *
  have xT : (0 : Int) < (T.length : Int) := by omega
  have hTn : T ≠ [] := fun e => by rw [e] at ho; simp at ho
  have hwr : IntKind.i64.wrap (other : Int) = (other : Int) := IntWalk.i64_in _ (by omega)
  have xo3 : (0 : Int) ≤ (o : Int) := by omega
  have xo4 : (o : Int) < (T.length : Int) := by omega
  clear hb DT hrt hT
  obtain ⟨ad, rfl, _, hcell⟩ := HR.out.reads.2 hl0
  have HNW := qh (fun (w' : World) (hb : Below w5.heap.size w5 w') => news_take HR.out hb (Nat.le_of_lt hm))
  obtain ⟨M, hM, hMl⟩ : ∃ M, M = L.take m ∧ M.length = m := ⟨_, rfl, Ex.take_len (Nat.le_of_lt hm)⟩
  have HOT := qh (fun t => HWh.out.other hm t)
  rw [← hM] at HNW HOT
  have HM := qh hMl
  have hm2 : M.length < L.length := by omega
  clear hM hMl hcell hm
  have hw5 : w5.heap.size ≤ w5.heap.size := Nat.le_refl _
  go_wp2_with fail
  go_region_law (first
   | (refine step_row (by rfl) _ _ (by rfl) w5.heap.size (L := []) (M := M) (ad := ad) (c := c) (by rfl) (RowO.nil _ _) (by simp) (by rw [HM.out]; simp [Act.eval, Act.put]) (HNW.out _ (by repeat first | exact Below.refl _ _ | apply Below.drew | (refine Below.alloc ?_ (by simp) _))) (by simp; omega) ?_; intro v1 w6 ho1 hg1 hb0; have hb1 : Below w5.heap.size w5 w6 := Below.trans (by repeat first | exact Below.refl _ _ | apply Below.drew | (refine Below.alloc ?_ (by simp) _)) hb0; have hz6 : w5.heap.size ≤ w6.heap.size := hb1.size; clear hb0; have q0 := (hb1.cell (p := ⟨gb, go + o * 5, none⟩) hgb).trans p0; have q1 := (hb1.cell (p := ⟨gb, go + o * 5 + 1, none⟩) hgb).trans p1; have q2 := (hb1.cell (p := ⟨gb, go + o * 5 + 2, none⟩) hgb).trans p2; have q3 := (hb1.cell (p := ⟨gb, go + o * 5 + 3, none⟩) hgb).trans p3; have q4 := (hb1.cell (p := ⟨gb, go + o * 5 + 4, none⟩) hgb).trans p4)
   | (refine step_row (by rfl) _ _ (by rfl) w5.heap.size (L := M) (M := [tk]) (by rfl) (by first | exact ho1 | exact World.ownsRow.alloc ho1 _) (by first | exact hz6 | (simp; omega)) (by rfl) (by first | exact World.news_of_block (heap_alloc_new _ _) | exact World.news_of_block ((hg1.block _ (by simp) (by simp [Value.ownBlock])).trans (heap_alloc_new _ _))) (by simp; omega) ?_; intro v2 w7 ho2 hg2 hb2))
  all_goals
   have hb7 : Below w5.heap.size w5 w7 := hb1.trans (Below.trans (by repeat first | exact Below.refl _ _ | apply Below.drew | (refine Below.alloc ?_ (by first | exact hz6 | (simp; omega)) _)) hb2)
   obtain ⟨A7, c7, rfl, hr7⟩ := ho2.at_ (by simp; omega)
   have HB7 := qh (HB.out.trans (hb7.mono HB.out.size))
   have HE7 := qh (HE.out.below nl hb7)
   have DO := qh (parse_any hr7 (g := L.length + 2) (by simp; omega) (HOT.out tk) c7)
   rw [List.length_append, List.length_singleton, HM.out] at DO
   rw [List.length_append, List.length_singleton, HM.out]
   clear hb7 hb1 hb2 hg1 hg2 ho1 ho2 hr7 p0 p1 p2 p3 p4 q0 q1 q2 q3 q4 HNW HOT hSl
   go_wp2_with fail
   ((with_reducible refine DO.out.mono ?_); rintro e w8 ⟨v, j, f, rfl, hc, hb⟩)
   have HB8 := qh (HB7.out.trans (hb.mono HB7.out.size))
   have HWK := qh (Un.works_all (HE7.out.below nl hb))
   clear hb DO
   have xm1 : (0 : Int) ≤ (m : Int) := by omega
   have xm2 : (m : Int) ≤ 16384 := by have := HM.out; omega
   clear e1 e2 e3 hcut hoth xc1 xc2 xo1 xo2 xo3 xo4 xT hTn hwr hz6 hm2 hlr hgb hct ho x0 x1b x1 x2 hk hq10 hw5
   rcases hc with rfl | ⟨rfl, rfl | rfl⟩
   all_goals
    go_wp2_with fail
    ((with_reducible refine HWK.out.mono ?_); rintro e w9 ⟨rfl, hb⟩)
    have HB9 := qh (HB8.out.trans (hb.mono HB8.out.size))
    clear hb
    go_wp2
    go_ret
    exact ⟨rfl, HB9.out⟩
end
end Rn
namespace St
open Ex
open Go.RowKit Go.ChangeShapes Go.WideShapes Go.Deep
section
variable {H : Type} {enc : TypeId × Value → H} {P : Program} {w : World} {base : Nat} {spare : Nat → Bool} {held : Bool}
theorem open_slice_fields {t e : TypeId} {fs : Array Field} {fuel : Nat} {cs : List Value} {x : DataW H × List MemPlace} (ht : P.underlying t = some (.slice e)) (he : P.underlying e = some (.struct fs))
 (hone : oneCellFields P fs = true) (hC : P.cellsOf e = fs.size) (h : DataW.trod enc P w base spare held fuel t cs = some x) :
 (cs = [.slice none 0 0] ∧ x = (.nil, [])) ∨
 ∃ (a : Addr) (len cap m : Nat) (D : Nat → DataW H) (Pl : Nat → List MemPlace), cs = [.slice (some a) len cap] ∧ base ≤ a.block ∧ len ≤ cap ∧ cap ≤ maxLen ∧ m = (if spare a.block then cap else len) ∧
  x = (.slice ((List.range len).map D) ((List.range (m - len)).map fun j => D (len + j)), MemPlace.row a (m * fs.size) ++ (List.range m).flatMap Pl) ∧
  ∀ i, i < m → ∃ (ys : List (DataW H × List MemPlace)) (n : Nat), D i = .agg (ys.map (·.1)) ∧ Pl i = ys.flatMap (·.2) ∧ ys.length = fs.size ∧
   ∀ (j : Nat) (f : Field), fs[j]? = some f → ∃ (v : Value) (y : DataW H × List MemPlace), w.cell? (a.add (i * fs.size + j)) = some v ∧ ys[j]? = some y ∧ DataW.trod enc P w base spare held n f.type [v] = some y := by
 rcases open_slice ht h with h0 | ⟨a, len, cap, m, n, D, Pl, hcs, hb, hl, hm, hmm, hx, hi⟩
 ·exact .inl h0
 ·refine .inr ⟨a, len, cap, m, D, Pl, hcs, hb, hl, hm, hmm, by rw [hC] at hx; exact hx, fun i him => ?_⟩
  obtain ⟨cs', hc, ht'⟩ := hi i him
  rw [hC] at hc
  obtain ⟨ys, n', hn', hy, hlen, hyl, hf⟩ := DataW.trod_struct he ht'
  obtain ⟨_, hcl, hat⟩ := World.cells?_some hc
  simp only [Prod.mk.injEq] at hy
  refine ⟨ys, n', hy.1, hy.2, hyl, fun j f hj => ?_⟩
  obtain ⟨ho, hk⟩ := hone_of hone j f hj
  have hjl : j < fs.size := (Array.getElem?_eq_some_iff.1 hj).1
  have hcell := hat j hjl
  have hv : cs'[j]? = some (cs'[j]'(by omega)) := List.getElem?_eq_getElem (by omega)
  have h1 := hf j f hj
  rw [ho, hk] at h1
  have hone' : (cs'.drop j).take 1 = [cs'[j]'(by omega)] := by
   rw [List.drop_eq_getElem_cons (by omega)]
   rfl
  rw [hone'] at h1
  have hys : ys[j]? = some (ys[j]'(by omega)) := List.getElem?_eq_getElem (by omega)
  refine ⟨_, _, ?_, hys, h1.trans hys⟩
  rw [← Go.Deep.add_add, hcell, hv]
end
theorem cells95 : Tryz.prog.cellsOf 95 = 2 := by kernel_rfl
theorem oneSeed : ∃ fs, Tryz.prog.underlying 95 = some (.struct fs) ∧ oneCellFields Tryz.prog fs = true ∧ fs.size = 2 ∧ fs.toList.map (·.type) = [5, 26] := ⟨_, Tryz.underlying95, by kernel_rfl, by kernel_rfl, by kernel_rfl⟩
theorem seed_at (p : Nat × Nat) (r : Nat) (h : r < 2) : (seedV p)[r]? = some (match r with | 0 => .int .u8 p.1 | _ => .int .u16 p.2) := by
 match r, h with
 | 0, _ => rfl
 | 1, _ => rfl
theorem seedsV_at (l : List (Nat × Nat)) (i r : Nat) (hi : i < l.length) (hr : r < 2) : (seedsV l)[i * 2 + r]? = (seedV l[i])[r]? := by
 rw [← List.getElem?_drop, ← seedsV_drop, List.drop_eq_getElem_cons hi]
 simp only [seedsV, List.flatMap_cons]
 rw [List.getElem?_append_left (by simp [seedV]; omega)]
theorem open_seeds1 {H : Type} {enc : TypeId × Value → H} {W : World} {v : Value} {fuel : Nat} {x : DataW H × List MemPlace} (hf : DataW.trod enc Tryz.prog W 0 (fun _ => true) true fuel 77 [v] = some x) :
 ∃ A c l, v = .slice A l.length c ∧ Seeds W A c l := by
 obtain ⟨fs, hu, hone, hsz, hty⟩ := oneSeed
 rcases open_slice_fields Tryz.underlying77 hu hone (by rw [hsz]; exact cells95) hf with ⟨h1, h2⟩ | ⟨a, len, cap, m, D, Pl, h1, _, h3, h4, h5, h6, h7⟩
 ·have e : v = .slice none 0 0 := by simpa using h1
  exact ⟨none, 0, [], by simpa using e, ⟨⟨by simp [seedsV], fun h => absurd h (by simp)⟩, by simp, by omega, fun p hp => by simp at hp⟩⟩
 ·have e : v = .slice (some a) len cap := by simpa using h1
  rw [if_pos rfl] at h5
  subst h5
  have hex : ∀ i, ∃ q : Nat × Nat, i < len → (∀ r, r < 2 → W.cell? (a.add (i * 2 + r)) = (seedV q)[r]?) ∧ q.1 < 256 ∧ q.2 ≤ 65535 := by
   intro i
   by_cases hi : i < len
   ·obtain ⟨ys, n, g1, _, g3, g4⟩ := h7 i (by omega)
    rw [hsz] at g4
    have ft : ∀ j (hj : j < 2), ∃ f, fs[j]? = some f ∧ [5, 26][j]? = some f.type := by
     intro j hj
     have hj' : j < fs.size := by omega
     refine ⟨fs[j], Array.getElem?_eq_getElem hj', ?_⟩
     rw [← hty]
     simp [List.getElem?_map, hj']
    have get : ∀ j (hj : j < 2), ∃ v y t, W.cell? (a.add (i * 2 + j)) = some v ∧ ys[j]? = some y ∧ [5, 26][j]? = some t ∧ DataW.trod enc Tryz.prog W 0 (fun _ => true) true n t [v] = some y := by
     intro j hj
     obtain ⟨f, f1, f2⟩ := ft j hj
     obtain ⟨v, y, q1, q2, q3⟩ := g4 j f f1
     exact ⟨v, y, f.type, q1, q2, f2, q3⟩
    obtain ⟨v0, y0, t0, c0, _, e0, k0⟩ := get 0 (by omega)
    obtain ⟨v1, y1, t1, c1, _, e1, k1⟩ := get 1 (by omega)
    simp only [List.getElem?_cons_zero, List.getElem?_cons_succ, Option.some.injEq] at e0 e1
    subst e0 e1
    obtain ⟨n0, r0, _, w0⟩ := DataW.trod_int Tryz.underlying5 k0
    obtain ⟨n1, r1, _, w1⟩ := DataW.trod_int Tryz.underlying26 k1
    simp only [List.cons.injEq, and_true] at r0 r1
    subst r0 r1
    have u0 := bounds_u8 w0
    have u1 := bounds_u16 w1
    refine ⟨(n0.toNat, n1.toNat), fun _ => ⟨fun r hr => ?_, by simp only; omega, by simp only; omega⟩⟩
    rw [seed_at _ _ hr]
    match r, hr with
    | 0, _ => rw [c0]; simp; omega
    | 1, _ => rw [c1]; simp; omega
   ·exact ⟨(0, 0), fun h => absurd h hi⟩
  obtain ⟨f, hfq⟩ : ∃ f : Nat → Nat × Nat, ∀ i, i < len → (∀ r, r < 2 → W.cell? (a.add (i * 2 + r)) = (seedV (f i))[r]?) ∧ (f i).1 < 256 ∧ (f i).2 ≤ 65535 :=
   ⟨fun i => Classical.choose (hex i), fun i hi => Classical.choose_spec (hex i) hi⟩
  have hll : ((List.range len).map f).length = len := by simp
  refine ⟨some a, m, (List.range len).map f, by rw [e, hll], ⟨⟨by rw [seedsV_len], fun h0 => ?_⟩, by rw [hll]; exact h3, by unfold maxLen at h4; omega, ?_⟩⟩
  ·rw [hll] at h0
   refine ⟨a, rfl, ?_, fun j u hu => ?_⟩
   ·have h00 := (hfq 0 h0).1 0 (by omega)
    rw [seed_at _ _ (by omega)] at h00
    have := World.block_lt_of_cell? W _ h00
    rwa [block_of_add] at this
   ·have hj : j < len * 2 := by
     have := (List.getElem?_eq_some_iff.1 hu).1
     rw [seedsV_len, hll] at this; exact this
    have ej : j = j / 2 * 2 + j % 2 := by omega
    have hq : j / 2 < ((List.range len).map f).length := by rw [hll]; omega
    rw [ej, seedsV_at _ _ _ hq (by omega)] at hu
    rw [ej, (hfq (j / 2) (by omega)).1 (j % 2) (by omega), ← hu]
    simp
  ·intro q hq
   obtain ⟨i, hi, rfl⟩ := List.mem_map.1 hq
   exact (hfq i (by simpa using hi)).2
theorem cells79 : Tryz.prog.cellsOf 79 = 2 := by kernel_rfl
theorem onePart : ∃ fs, Tryz.prog.underlying 79 = some (.struct fs) ∧ oneCellFields Tryz.prog fs = true ∧ fs.size = 2 ∧ fs.toList.map (·.type) = [5, 77] := ⟨_, Tryz.underlying79, by kernel_rfl, by kernel_rfl, by kernel_rfl⟩
theorem prt_at (p : Prt × Value) (r : Nat) (h : r < 2) : (prtV p)[r]? = some (match r with | 0 => .int .u8 p.1.1 | _ => p.2) := by
 match r, h with
 | 0, _ => rfl
 | 1, _ => rfl
theorem prtV_at (l : List (Prt × Value)) (i r : Nat) (hi : i < l.length) (hr : r < 2) : (l.flatMap prtV)[i * 2 + r]? = (prtV l[i])[r]? := by
 rw [← List.getElem?_drop, ← prtV_drop, List.drop_eq_getElem_cons hi]
 simp only [List.flatMap_cons]
 rw [List.getElem?_append_left (by simp [prtV]; omega)]
theorem open_parts1 {H : Type} {enc : TypeId × Value → H} {W : World} {v : Value} {fuel : Nat} {x : DataW H × List MemPlace} (hf : DataW.trod enc Tryz.prog W 0 (fun _ => true) true fuel 23 [v] = some x) :
 ∃ A c q, v = .slice A q.length c ∧ Parts W A c q := by
 obtain ⟨fs, hu, hone, hsz, hty⟩ := onePart
 rcases open_slice_fields Tryz.underlying23 hu hone (by rw [hsz]; exact cells79) hf with ⟨h1, h2⟩ | ⟨a, len, cap, m, D, Pl, h1, _, h3, h4, h5, h6, h7⟩
 ·have e : v = .slice none 0 0 := by simpa using h1
  exact ⟨none, 0, [], by simpa using e, ⟨⟨by simp, fun h => absurd h (by simp)⟩, by simp, by omega, fun p hp => by simp at hp⟩⟩
 ·have e : v = .slice (some a) len cap := by simpa using h1
  rw [if_pos rfl] at h5
  subst h5
  have hex : ∀ i, ∃ q : Prt × Value, i < len → (∀ r, r < 2 → W.cell? (a.add (i * 2 + r)) = (prtV q)[r]?) ∧ q.1.1 < 256 ∧ ∃ A' c', q.2 = .slice A' q.1.2.length c' ∧ Seeds W A' c' q.1.2 := by
   intro i
   by_cases hi : i < len
   ·obtain ⟨ys, n, g1, _, g3, g4⟩ := h7 i (by omega)
    rw [hsz] at g4
    have ft : ∀ j (hj : j < 2), ∃ f, fs[j]? = some f ∧ [5, 77][j]? = some f.type := by
     intro j hj
     have hj' : j < fs.size := by omega
     refine ⟨fs[j], Array.getElem?_eq_getElem hj', ?_⟩
     rw [← hty]
     simp [List.getElem?_map, hj']
    have get : ∀ j (hj : j < 2), ∃ v y t, W.cell? (a.add (i * 2 + j)) = some v ∧ ys[j]? = some y ∧ [5, 77][j]? = some t ∧ DataW.trod enc Tryz.prog W 0 (fun _ => true) true n t [v] = some y := by
     intro j hj
     obtain ⟨f, f1, f2⟩ := ft j hj
     obtain ⟨v, y, q1, q2, q3⟩ := g4 j f f1
     exact ⟨v, y, f.type, q1, q2, f2, q3⟩
    obtain ⟨v0, y0, t0, c0, _, e0, k0⟩ := get 0 (by omega)
    obtain ⟨v1, y1, t1, c1, _, e1, k1⟩ := get 1 (by omega)
    simp only [List.getElem?_cons_zero, List.getElem?_cons_succ, Option.some.injEq] at e0 e1
    subst e0 e1
    obtain ⟨n0, r0, _, w0⟩ := DataW.trod_int Tryz.underlying5 k0
    simp only [List.cons.injEq, and_true] at r0
    subst r0
    have u0 := bounds_u8 w0
    obtain ⟨A', c', l', rfl, hS⟩ := open_seeds1 k1
    refine ⟨((n0.toNat, l'), .slice A' l'.length c'), fun _ => ⟨fun r hr => ?_, by simp only; omega, A', c', rfl, hS⟩⟩
    rw [prt_at _ _ hr]
    match r, hr with
    | 0, _ => rw [c0]; simp; omega
    | 1, _ => rw [c1]; rfl
   ·exact ⟨((0, []), .slice none 0 0), fun h => absurd h hi⟩
  obtain ⟨f, hfq⟩ : ∃ f : Nat → Prt × Value, ∀ i, i < len → (∀ r, r < 2 → W.cell? (a.add (i * 2 + r)) = (prtV (f i))[r]?) ∧ (f i).1.1 < 256 ∧ ∃ A' c', (f i).2 = .slice A' (f i).1.2.length c' ∧ Seeds W A' c' (f i).1.2 :=
   ⟨fun i => Classical.choose (hex i), fun i hi => Classical.choose_spec (hex i) hi⟩
  have hll : ((List.range len).map f).length = len := by simp
  refine ⟨some a, m, (List.range len).map f, by rw [e, hll], ⟨⟨by rw [prtV_len], fun h0 => ?_⟩, by rw [hll]; exact h3, by unfold maxLen at h4; omega, ?_⟩⟩
  ·rw [hll] at h0
   refine ⟨a, rfl, ?_, fun j u hu => ?_⟩
   ·have h00 := (hfq 0 h0).1 0 (by omega)
    rw [prt_at _ _ (by omega)] at h00
    have := World.block_lt_of_cell? W _ h00
    rwa [block_of_add] at this
   ·have hj : j < len * 2 := by
     have := (List.getElem?_eq_some_iff.1 hu).1
     rw [prtV_len, hll] at this; exact this
    have ej : j = j / 2 * 2 + j % 2 := by omega
    have hq : j / 2 < ((List.range len).map f).length := by rw [hll]; omega
    rw [ej, prtV_at _ _ _ hq (by omega)] at hu
    rw [ej, (hfq (j / 2) (by omega)).1 (j % 2) (by omega), ← hu]
    simp
  ·intro q hq
   obtain ⟨i, hi, rfl⟩ := List.mem_map.1 hq
   exact (hfq i (by simpa using hi)).2
end St
namespace Rn
open Go.RowKit Go.ChangeShapes Go.WideShapes Go.Deep
open St (Prt Parts)
theorem bnd_u8 {n : Int} (h : (Lit.int .u8 n).wf = true) : 0 ≤ n ∧ n < 256 := by
 have := bounds_u8 h
 omega
theorem open_bytes1 {H : Type} {enc : TypeId × Value → H} {W : World} {v : Value} {fuel : Nat} {x : DataW H × List MemPlace} (hf : DataW.trod enc Tryz.prog W 0 (fun _ => true) true fuel 22 [v] = some x) :
 ∃ A c l, v = .slice A l.length c ∧ Bys W A c l := by
 rcases open_ints Tryz.underlying22 Tryz.underlying5 (by kernel_rfl) hf with ⟨hcs, _⟩ | ⟨a, n, c, zs, hcs, _, hl, hm, hz, _, hcell, hwz⟩
 ·have e : v = .slice none 0 0 := by simpa using hcs
  exact ⟨none, 0, [], by simpa using e, ⟨⟨by simp [byV], fun h => absurd h (by simp)⟩, by simp, by omega, fun n hn => by simp at hn⟩⟩
 ·have e : v = .slice (some a) n c := by simpa using hcs
  rw [if_pos rfl] at hz
  have hbn : ∀ z ∈ zs, 0 ≤ z ∧ z < 256 := fun z hz => bnd_u8 (hwz z hz)
  have hll : ((zs.take n).map Int.toNat).length = n := by rw [List.length_map, List.length_take]; omega
  refine ⟨some a, c, (zs.take n).map Int.toNat, by rw [e, hll], ⟨⟨by simp [byV], fun h0 => ?_⟩, by rw [hll]; exact hl, by unfold maxLen at hm; omega, ?_⟩⟩
  ·rw [hll] at h0
   refine ⟨a, rfl, ?_, fun j u hu => ?_⟩
   ·have := World.block_lt_of_cell? W _ (hcell 0 (by omega))
    rwa [block_of_add] at this
   ·have hj : j < n := by
     have := (List.getElem?_eq_some_iff.1 hu).1
     unfold byV at this
     rw [List.length_map, hll] at this; exact this
    have hjz : j < zs.length := by omega
    rw [hcell j hjz, ← hu]
    unfold byV
    rw [List.getElem?_map, List.getElem?_map, List.getElem?_take, if_pos hj, List.getElem?_eq_getElem hjz, List.getD_eq_getElem?_getD, List.getElem?_eq_getElem hjz]
    have := hbn zs[j] (List.getElem_mem _)
    simp only [Option.map_some, Option.getD_some]
    rw [Int.toNat_of_nonneg this.1]
  ·intro x hx
   obtain ⟨z, hz2, rfl⟩ := List.mem_map.1 hx
   have := hbn z (List.mem_of_mem_take hz2)
   omega
theorem oneMade : ∃ fs, Tryz.prog.underlying 25 = some (.struct fs) ∧ oneCellFields Tryz.prog fs = true ∧ fs.size = 3 ∧ fs.toList.map (·.type) = [5, 22, 23] := ⟨_, Tryz.underlying25, by kernel_rfl, by kernel_rfl, by kernel_rfl⟩
theorem cells25 : Tryz.prog.cellsOf 25 = 3 := by kernel_rfl
theorem open_made {H : Type} {enc : TypeId × Value → H} {W : World} {v : Value} {d : DataW H} {p : List MemPlace} {base : Nat} (h : DataW.Trod enc Tryz.prog W 0 (fun _ => true) true 25 v d p) (hval : Value.okWide Tryz.prog W .any base 25 v) :
 ∃ k A1 l c1 A2 q c2, v = .agg (madeV k A1 l.length c1 A2 q.length c2) ∧ k < 256 ∧ Bys W A1 c1 l ∧ Parts W A2 c2 q := by
 obtain ⟨fs, hu, hone, hsz, hty⟩ := oneMade
 obtain ⟨cs, rfl, hcs⟩ := okWide_struct hu hval
 rw [cells25] at hcs
 obtain ⟨fuel, hf⟩ := h
 obtain ⟨ys, n, _, _, _, hys, hat⟩ := DataW.trod_struct hu hf
 obtain ⟨v0, v1, v2, rfl⟩ : ∃ v0 v1 v2, cs = #[v0, v1, v2] := by
  refine ⟨cs[0]'(by omega), cs[1]'(by omega), cs[2]'(by omega), ?_⟩
  apply Array.ext
  ·exact hcs
  ·intro i h1 h2
   rcases (show i = 0 ∨ i = 1 ∨ i = 2 by omega) with rfl | rfl | rfl <;> rfl
 have hc : (Value.agg #[v0, v1, v2]).cells.toList = [v0, v1, v2] := rfl
 have get : ∀ j (hj : j < 3), ∃ t, [5, 22, 23][j]? = some t ∧ DataW.trod enc Tryz.prog W 0 (fun _ => true) true n t (([v0, v1, v2].drop j).take 1) = ys[j]? ∧ j < ys.length := by
  intro j hj
  have hj' : j < fs.size := by omega
  have hfj : fs[j]? = some fs[j] := Array.getElem?_eq_getElem hj'
  obtain ⟨ho, hk⟩ := hone_of hone j _ hfj
  have := hat j _ hfj
  rw [ho, hk, hc] at this
  refine ⟨fs[j].type, ?_, this, by omega⟩
  rw [← hty]
  simp [List.getElem?_map, hj']
 obtain ⟨t0, e0, k0, y0⟩ := get 0 (by omega)
 obtain ⟨t1, e1, k1, y1⟩ := get 1 (by omega)
 obtain ⟨t2, e2, k2, y2⟩ := get 2 (by omega)
 simp only [List.getElem?_cons_zero, List.getElem?_cons_succ, Option.some.injEq] at e0 e1 e2
 subst e0 e1 e2
 rw [List.getElem?_eq_getElem y0] at k0
 rw [List.getElem?_eq_getElem y1] at k1
 rw [List.getElem?_eq_getElem y2] at k2
 obtain ⟨n0, r0, _, w0⟩ := DataW.trod_int Tryz.underlying5 k0
 obtain rfl : v0 = .int .u8 n0 := by simpa using r0
 obtain ⟨A1, c1, l, rfl, h1⟩ := open_bytes1 k1
 obtain ⟨A2, c2, q, rfl, h2⟩ := St.open_parts1 k2
 have hb := bnd_u8 w0
 refine ⟨n0.toNat, A1, l, c1, A2, q, c2, ?_, by omega, h1, h2⟩
 rw [show (madeV n0.toNat A1 l.length c1 A2 q.length c2) = #[.int .u8 (n0.toNat : Int), .slice A1 l.length c1, .slice A2 q.length c2] from rfl, Int.toNat_of_nonneg hb.1]
end Rn
namespace Un
open Go.RowKit
open Lx (EnvS)
theorem gSyn : Tryz.prog.globalNamed "strconv.ErrSyntax" = some 0 := by kernel_rfl
theorem gSynType : (Tryz.prog.globals[0]?).map (·.type) = some 128 := by kernel_rfl
theorem gRan : Tryz.prog.globalNamed "strconv.ErrRange" = some 1 := by kernel_rfl
theorem gRanType : (Tryz.prog.globals[1]?).map (·.type) = some 128 := by kernel_rfl
theorem cellsErr : Tryz.prog.cellsOf 171 = 1 := by kernel_rfl
theorem cellsStr : Tryz.prog.cellsOf 9 = 1 := by kernel_rfl
theorem star : "*" ++ "errors.errorString" = "*errors.errorString" := by decide
theorem rowErr (u : TypeId) (h : Tryz.prog.typeName? 3 u = some "*errors.errorString") : u = 169 :=
 typeName_ptr_named (nm := "errors.errorString") (by rw [star]; kernel_rfl) (by kernel_rfl) (by decide) u (by rw [star]; exact h)
theorem cell_of_var {P : Program} {w : World} {name : String} {g : Nat} {v : Value} (hg : P.globalNamed name = some g) (h : w.var? P name = some #[v]) : w.cell? ⟨g, 0, none⟩ = some v := by
 unfold World.var? at h
 rw [hg] at h
 simp only [Option.bind_some] at h
 unfold World.cell?
 split at h
 ·rename_i cs t fz hb
  injection h with h
  subst h
  rw [hb]
  rfl
 ·cases h
theorem envS {W : World} (h : laidMetH Tryz.prog Rows.unitCutsRow.laid W) (hS : W.ShapedOpen Tryz.prog) : EnvS W := by
 have h' : laidMet Tryz.prog [("math/bits.deBruijn32tab", Rows.laid_math_bits_deBruijn32tab), ("math/bits.deBruijn64tab", Rows.laid_math_bits_deBruijn64tab), ("internal/strconv.uint64pow10", Rows.laid_internal_strconv_uint64pow10), ("strconv.ErrRange", Rows.laid_strconv_ErrRange), ("strconv.ErrSyntax", Rows.laid_strconv_ErrSyntax)] W := h
 have h3 := h'.tail.tail
 obtain ⟨a, s, ha, _⟩ := laid_sentinel h3.tail gRan gRanType Tryz.underlying128 rowErr Tryz.underlying169 Tryz.underlying171 rfl rfl Tryz.underlying9 cellsErr cellsStr
 obtain ⟨b, s', hb, _⟩ := laid_sentinel h3.tail.tail gSyn gSynType Tryz.underlying128 rowErr Tryz.underlying169 Tryz.underlying171 rfl rfl Tryz.underlying9 cellsErr cellsStr
 exact ⟨Tryz.laysM144.s1_3 W hS, ⟨_, _, cell_of_var gSyn hb⟩, ⟨_, _, cell_of_var gRan ha⟩⟩
def litCells : DataW Unit → Array Value
 | .agg l => (l.map fun | .lit (.int k z) => Value.int k z | _ => .bool false).toArray
 | _ => #[]
def put (cs : Array Value) : Obj → Obj
 | .cells _ t frozen => .cells cs t frozen
 | o => o
noncomputable def low : Nat := (World.holding Tryz.prog default ⟨#[], #[], []⟩).heap.size
def dtxt : DataW Unit → ByteArray
 | .iface _ (.ptr (.agg [.lit (.string l)])) => ⟨l.toArray⟩
 | _ => ⟨#[]⟩
noncomputable def witBlocks : Array Obj := #[.cells #[.string (dtxt Rows.laid_strconv_ErrSyntax)] 171, .cells #[.string (dtxt Rows.laid_strconv_ErrRange)] 171]
noncomputable def laidWorld (os : Os) : World :=
 { World.holding Tryz.prog os ⟨witBlocks, #[], []⟩ with heap := (((((World.holding Tryz.prog os ⟨witBlocks, #[], []⟩).heap.modify 0 (put #[.iface 169 (.pointer (some ⟨low, 0, none⟩))])).modify 1 (put #[.iface 169 (.pointer (some ⟨low + 1, 0, none⟩))])).modify 3 (put (litCells Rows.laid_internal_strconv_uint64pow10))).modify 4 (put (litCells Rows.laid_math_bits_deBruijn32tab))).modify 5 (put (litCells Rows.laid_math_bits_deBruijn64tab)) }
theorem laid_met (os : Os) (args : Array Value) : laidMet Tryz.prog Rows.unitCutsRow.laid ((laidWorld os).forCall (fun _ _ => 0) ⟨#[], args, []⟩).memory :=
 laidMet_of_run' 8 (by kernel_rfl) (by kernel_rfl)
end Un
end Go.Proofs.YtkemhmfdooghkaaGreatDoor
