import Derived.Test.YtkemhmfdooghkaaGreatDoorX18
import Derived.Laws.EntriesVeiled
set_option linter.unusedSimpArgs false
set_option linter.unusedVariables false
set_option maxRecDepth 100000
set_option maxHeartbeats 6400000
namespace Go.Proofs.YtkemhmfdooghkaaGreatDoor
namespace Ex
open Go.RowKit
open Tr (Nd Fo RepS RepN Rep)
open Lx (Tk noTk Blk run_store_complexL TokAt)
open Fl
open St (Good2 g2_max)
attribute [local go_sem] run_store_complexL run_field1 run_field3
theorem ins_g (l l' : List ByteArray) (s : ByteArray) (hl : l' = l ++ [s]) (hs : (l.any fun x => decide (x = s)) = false) (W : World) (m : Nat) (hm : W.heap.size = m) : (Instr.mapUpdate 154 (.map (some m)) (.string s) (.bool true)).run Tryz.prog (W.alloc (mapO (trues l))) = .ok () (W.alloc (mapO (trues l'))) := by
 subst hl
 have := run_ins Tryz.underlying154 Tryz.underlying9 (trues l) (.string s) (.bool true) (by simp [MapKept.IsKey]) ((find_trues s l 0 0).2 hs) W m hm
 rw [this]
 simp [trues]
abbrev lvW (w : World) (br : Nat) : World := (((((((w.alloc (.cells #[.pointer (some ⟨br, 0, none⟩)] 143)).alloc (mapO (trues [⟨#[61]⟩, ⟨#[35]⟩, ⟨#[60]⟩, ⟨#[60, 61]⟩, ⟨#[62]⟩, ⟨#[62, 61]⟩, ⟨#[73, 78]⟩]))).alloc (mapO (trues [⟨#[43]⟩, ⟨#[45]⟩, ⟨#[79, 82]⟩]))).alloc (mapO (trues [⟨#[42]⟩, ⟨#[47]⟩, ⟨#[68, 73, 86]⟩, ⟨#[77, 79, 68]⟩, ⟨#[65, 78, 68]⟩]))).alloc (.cells #[.map (some (w.heap.size + 1)), .map (some (w.heap.size + 1 + 1)), .map (some (w.heap.size + 1 + 1 + 1))] 154)).alloc (.cells #[.slice (some ⟨w.heap.size + 1 + 1 + 1 + 1, 0, none⟩) 3 3] 155)).alloc (.cells #[.func (.func 141) #[] #[.pointer (some ⟨w.heap.size + 1 + 1 + 1 + 1 + 1, 0, none⟩), .pointer (some ⟨w.heap.size, 0, none⟩), .pointer (some ⟨w.heap.size + 1 + 1 + 1 + 1 + 1 + 1, 0, none⟩)]] 156))
theorem lv_made (w : World) (br : Nat) (hbr : br < w.heap.size) : Lv (lvW w br) (w.heap.size + 1 + 1 + 1 + 1 + 1) (w.heap.size + 1 + 1 + 1 + 1) (w.heap.size + 1) (w.heap.size + 1 + 1) (w.heap.size + 1 + 1 + 1) w.heap.size (w.heap.size + 1 + 1 + 1 + 1 + 1 + 1) br := by
 have hn : ∀ (W : World) (o : Obj) (m : Nat), W.heap.size = m → (W.alloc o).heap[m]? = some o := fun W o m h => by rw [← h]; exact heap_alloc_new W o
 have ho : ∀ {W : World} {o o' : Obj} {m : Nat}, W.heap[m]? = some o' → (W.alloc o).heap[m]? = some o' := fun {W o o' m} h => (Below.heap_alloc W o m (obj_lt h)).trans h
 refine ⟨?_, ?_, ?_, ?_, ?_, ?_, ?_, by omega⟩
 ·exact ho (hn _ _ _ (by simp [World.size_alloc]))
 ·exact ho (ho (hn _ _ _ (by simp [World.size_alloc])))
 ·exact ho (ho (ho (ho (ho (hn _ _ _ (by simp [World.size_alloc]))))))
 ·exact ho (ho (ho (ho (hn _ _ _ (by simp [World.size_alloc])))))
 ·exact ho (ho (ho (hn _ _ _ (by simp [World.size_alloc]))))
 ·exact ho (ho (ho (ho (ho (ho (hn _ _ _ rfl))))))
 ·exact hn _ _ _ (by simp [World.size_alloc])
theorem bel_made (w : World) (br : Nat) : Below w.heap.size w (lvW w br) := by
 have ha : ∀ {W : World} (h : Below w.heap.size w W) (o : Obj), Below w.heap.size w (W.alloc o) := fun h o => h.alloc h.size o
 exact ha (ha (ha (ha (ha (ha (ha (Below.refl _ _) _) _) _) _) _) _) _
theorem lev3_y {g : Nat} {w0 : World} {br c : Nat} {A : Option Addr} {L : List PT} (ht : Toks w0 br A L) (hgL : L.length < g) {bl bs m0 m1 m2 b2 b3 : Nat} {f : Nat} {lo : Nat} (HF : Hid (TyE 142 (factF g f) lo w0 br A c L)) (i : Nat) (hlo : lo ≤ i) (hi : i ≤ L.length) (w : World) (h : PInv w0 w br A c L i) (hv : Lv w bl bs m0 m1 m2 b2 b3 br) :
 Calls Tryz.prog 141 #[.int .i64 3, .pointer (some ⟨bl, 0, none⟩), .pointer (some ⟨b2, 0, none⟩), .pointer (some ⟨b3, 0, none⟩)] w (TreeR w.heap.size w0 w br A c L (factF g f L i)) := by
 have hbr := h.row.lt
 have H0 := qh h
 have HT := qh ht
 obtain ⟨res, hs0⟩ : ∃ r, r = factF g f L i := ⟨_, rfl⟩
 rw [← hs0]
 have S := qh (S1.start h hi hs0)
 clear h ht hs0 hi
 go_enter Tryz.func141, Tryz.ntmps141
 have S := qh (S.out.of (bind_pure _ _ _))
 have t3 : ((3 : Int) == 3) = true := rfl
 obtain ⟨v1, v2, v3, v4, v5, v6⟩ := hv.facts
 obtain ⟨l1, l2, l3, l4⟩ := hv.lts
 clear hv
 have HZ := qh S.out.pg.2.size
 go_wp2_with fail
 (with_reducible refine S.out.tree (HF.out _ (by omega) S.out.le _ S.out.pg.1) (St.g2_of (fact_gs g f).1) ?_ ?_)
 ·intro k w1 h hg; go_wp2; exact ⟨rfl, S1.errT h.out hg.out _⟩
 clear S
 intro x bx j wx hj S hg Hx
 have Hx := qh (Hx.out.more (S' := fun y => w.heap.size ≤ y) fun y hy _ => Nat.le_trans HZ.out hy)
 clear HZ
 go_wp2
 go_ret
 exact S.out.doneT Hx.out
theorem levels_y {g : Nat} {w0 : World} {br c : Nat} {A : Option Addr} {L : List PT} (ht : Toks w0 br A L) (hgL : L.length < g) {bl bs m0 m1 m2 b2 b3 : Nat} {f : Nat} {lo : Nat} (HF : Hid (TyE 142 (factF g f) lo w0 br A c L)) (i : Nat) (hlo : lo ≤ i) (hi : i ≤ L.length) (w : World) (h : PInv w0 w br A c L i) (hv : Lv w bl bs m0 m1 m2 b2 b3 br) :
 Calls Tryz.prog 141 #[.int .i64 0, .pointer (some ⟨bl, 0, none⟩), .pointer (some ⟨b2, 0, none⟩), .pointer (some ⟨b3, 0, none⟩)] w (TreeR w.heap.size w0 w br A c L (exprK g f L i)) :=
 have hg := fun d => St.g2_of (good_levF g (fact_gs g f).1 d)
 lev_y (k := 0) ht hgL (hg 2) (by omega) (fun j hj hjl w h hv => lev_y (k := 1) ht hgL (hg 1) (by omega) (fun j hj hjl w h hv => lev_y (k := 2) ht hgL (hg 0) (by omega) (fun j hj hjl w h hv => lev3_y ht hgL HF j hj hjl w h hv) j hj hjl w h hv) j hj hjl w h hv) i hlo hi w h hv
theorem expr_y {g : Nat} {w0 : World} {br c : Nat} {A : Option Addr} {L : List PT} (ht : Toks w0 br A L) (hgL : L.length < g) {f : Nat} {lo : Nat} (HF : Hid (TyE 142 (factF g f) lo w0 br A c L)) (i : Nat) (hlo : lo ≤ i) (hi : i ≤ L.length) (w : World) (h : PInv w0 w br A c L i) :
 Calls Tryz.prog 120 #[.pointer (some ⟨br, 0, none⟩)] w (TreeR w.heap.size w0 w br A c L (exprK g f L i)) := by
 have hbr := h.row.lt
 have H0 := qh h
 have HT := qh ht
 obtain ⟨res, hs0⟩ : ∃ r, r = exprK g f L i := ⟨_, rfl⟩
 rw [← hs0]
 have S := qh (S1.start h hi hs0)
 clear h ht hs0 hi
 go_enter Tryz.func120, Tryz.ntmps120
 have hmk := @run_makeMap Tryz.prog
 have hmf : ∀ (fn : Fn) (first cap : Array Value) (w : World), (Instr.makeFunc fn first cap).run Tryz.prog w = .ok (.func fn first cap) w := fun _ _ _ _ => rfl
 have i00 : ∀ (W : World) (m : Nat), W.heap.size = m → (Instr.mapUpdate 154 (.map (some m)) (.string ⟨#[61]⟩) (.bool true)).run Tryz.prog (W.alloc (.map #[] 0)) = .ok () (W.alloc (mapO (trues [⟨#[61]⟩]))) := ins_g [] [⟨#[61]⟩] ⟨#[61]⟩ rfl rfl
 have i01 := ins_g [⟨#[61]⟩] [⟨#[61]⟩, ⟨#[35]⟩] ⟨#[35]⟩ rfl (by decide)
 have i02 := ins_g [⟨#[61]⟩, ⟨#[35]⟩] [⟨#[61]⟩, ⟨#[35]⟩, ⟨#[60]⟩] ⟨#[60]⟩ rfl (by decide)
 have i03 := ins_g [⟨#[61]⟩, ⟨#[35]⟩, ⟨#[60]⟩] [⟨#[61]⟩, ⟨#[35]⟩, ⟨#[60]⟩, ⟨#[60, 61]⟩] ⟨#[60, 61]⟩ rfl (by decide)
 have i04 := ins_g [⟨#[61]⟩, ⟨#[35]⟩, ⟨#[60]⟩, ⟨#[60, 61]⟩] [⟨#[61]⟩, ⟨#[35]⟩, ⟨#[60]⟩, ⟨#[60, 61]⟩, ⟨#[62]⟩] ⟨#[62]⟩ rfl (by decide)
 have i05 := ins_g [⟨#[61]⟩, ⟨#[35]⟩, ⟨#[60]⟩, ⟨#[60, 61]⟩, ⟨#[62]⟩] [⟨#[61]⟩, ⟨#[35]⟩, ⟨#[60]⟩, ⟨#[60, 61]⟩, ⟨#[62]⟩, ⟨#[62, 61]⟩] ⟨#[62, 61]⟩ rfl (by decide)
 have i06 := ins_g [⟨#[61]⟩, ⟨#[35]⟩, ⟨#[60]⟩, ⟨#[60, 61]⟩, ⟨#[62]⟩, ⟨#[62, 61]⟩] [⟨#[61]⟩, ⟨#[35]⟩, ⟨#[60]⟩, ⟨#[60, 61]⟩, ⟨#[62]⟩, ⟨#[62, 61]⟩, ⟨#[73, 78]⟩] ⟨#[73, 78]⟩ rfl (by decide)
 have i10 : ∀ (W : World) (m : Nat), W.heap.size = m → (Instr.mapUpdate 154 (.map (some m)) (.string ⟨#[43]⟩) (.bool true)).run Tryz.prog (W.alloc (.map #[] 0)) = .ok () (W.alloc (mapO (trues [⟨#[43]⟩]))) := ins_g [] [⟨#[43]⟩] ⟨#[43]⟩ rfl rfl
 have i11 := ins_g [⟨#[43]⟩] [⟨#[43]⟩, ⟨#[45]⟩] ⟨#[45]⟩ rfl (by decide)
 have i12 := ins_g [⟨#[43]⟩, ⟨#[45]⟩] [⟨#[43]⟩, ⟨#[45]⟩, ⟨#[79, 82]⟩] ⟨#[79, 82]⟩ rfl (by decide)
 have i20 : ∀ (W : World) (m : Nat), W.heap.size = m → (Instr.mapUpdate 154 (.map (some m)) (.string ⟨#[42]⟩) (.bool true)).run Tryz.prog (W.alloc (.map #[] 0)) = .ok () (W.alloc (mapO (trues [⟨#[42]⟩]))) := ins_g [] [⟨#[42]⟩] ⟨#[42]⟩ rfl rfl
 have i21 := ins_g [⟨#[42]⟩] [⟨#[42]⟩, ⟨#[47]⟩] ⟨#[47]⟩ rfl (by decide)
 have i22 := ins_g [⟨#[42]⟩, ⟨#[47]⟩] [⟨#[42]⟩, ⟨#[47]⟩, ⟨#[68, 73, 86]⟩] ⟨#[68, 73, 86]⟩ rfl (by decide)
 have i23 := ins_g [⟨#[42]⟩, ⟨#[47]⟩, ⟨#[68, 73, 86]⟩] [⟨#[42]⟩, ⟨#[47]⟩, ⟨#[68, 73, 86]⟩, ⟨#[77, 79, 68]⟩] ⟨#[77, 79, 68]⟩ rfl (by decide)
 have i24 := ins_g [⟨#[42]⟩, ⟨#[47]⟩, ⟨#[68, 73, 86]⟩, ⟨#[77, 79, 68]⟩] [⟨#[42]⟩, ⟨#[47]⟩, ⟨#[68, 73, 86]⟩, ⟨#[77, 79, 68]⟩, ⟨#[65, 78, 68]⟩] ⟨#[65, 78, 68]⟩ rfl (by decide)
 have S := qh ((S.out.of (bind_pure _ _ _)).below (bel_made w br))
 have HL := qh (lv_made w br hbr)
 have HZ := qh S.out.pg.2.size
 go_wp2_with fail
 (with_reducible refine S.out.tree (levels_y HT.out hgL HF _ hlo S.out.le _ S.out.pg.1 HL.out) (St.g2_of (good_levF g (fact_gs g f).1 3)) ?_ ?_)
 ·intro k w1 h hg; go_wp2; exact ⟨rfl, S1.errT h.out hg.out _⟩
 clear S
 intro x bx j wx hj S hg Hx
 have Hx := qh (Hx.out.more (S' := fun y => w.heap.size ≤ y) fun y hy _ => Nat.le_trans HZ.out hy)
 go_wp2
 go_ret
 exact S.out.doneT Hx.out
section
variable {g : Nat} {w0 : World} {br c : Nat} {A : Option Addr} {L : List PT} (ht : Toks w0 br A L) (hgL : L.length < g)
include ht hgL
theorem fact_all : ∀ f lo, L.length < lo + f → TyE 142 (factF g f) lo w0 br A c L
 | 0, lo, h => fun j hj hjl => by omega
 | f + 1, lo, h => fun j hj hjl w hw =>
   have hF := fact_all f (j + 1) (by omega)
   fact_y ht hgL hF (fun i hi hil w h => expr_y ht hgL (qh hF) i hi hil w h) j nl hjl w hw
theorem exprAll : TyE 120 (exprF g) 0 w0 br A c L := fun i hi hil w h => expr_y ht hgL (qh (fact_all ht hgL g 0 (by omega))) i hi hil w h
theorem designAll : TyE 158 (designF (exprF g) g) 0 w0 br A c L := fun i hi hil w h => design_y ht hgL (St.g2_of (good_exprF g)) (qh (exprAll ht hgL)) i (Nat.zero_le _) hil w h
theorem elemAll : TyE 157 (elemF (exprF g)) 0 w0 br A c L := fun i hi hil w h => elem_y ht (St.g2_of (good_exprF g)) (qh (exprAll ht hgL)) i hi hil w h
end
theorem labels_y {g : Nat} {w0 : World} {br c : Nat} {A : Option Addr} {L : List PT} (ht : Toks w0 br A L) (hgL : L.length < g) (i : Nat) (hi : i ≤ L.length) (w : World) (h : PInv w0 w br A c L i) :
 Calls Tryz.prog 155 #[.pointer (some ⟨br, 0, none⟩)] w (TreeR w.heap.size w0 w br A c L (labelsF g L i)) := by
 have hbr := h.row.lt
 have H0 := qh h
 have HT := qh ht
 obtain ⟨res, hs0⟩ : ∃ r, r = labelsF g L i := ⟨_, rfl⟩
 rw [← hs0]
 have S := qh (S1.start h hi hs0)
 clear h ht hs0 hi
 go_enter Tryz.func155, Tryz.ntmps155
 unfold labelsF at S
 have hmf : ∀ (fn : Fn) (first cap : Array Value) (w : World), (Instr.makeFunc fn first cap).run Tryz.prog w = .ok (.func fn first cap) w := fun _ _ _ _ => rfl
 have g2_el : Good2 (elemF (exprF g)) := St.g2_of (good_elemF (good_exprF g) (strict_exprF g))
 go_wp2_with fail
 (with_reducible refine S.out.now HT.out ?_)
 clear S
 intro k_p p1 p2 q3_p q4_p t_p n_p wx HPp S hg
 have hlen := HT.out.len
 have HZ := qh S.out.pg.2.size
 go_wp2_with fail
 (with_reducible refine S.out.list (many_y HT.out hgL (by intro _ _; kernel_rfl) g2_el (qh (elemAll HT.out hgL)) _ (Nat.zero_le _) S.out.le _ S.out.pg.1) (g2_manyE g2_el) ?_ ?_)
 ·intro k w1 h hg; go_wp2; exact ⟨rfl, S1.errT h.out hg.out _⟩
 clear S
 intro l sv xs j2 wx HEl hj2 S hg HG
 have HG := qh (HG.out.lower HZ.out)
 clear HZ
 have hn := many_n g2_el HEl.out
 have hjl := S.out.le
 obtain ⟨A7, c7, rfl, _⟩ := HG.out.form
 have NW := qh (new_lg (B := w.heap.size) (w := wx) S.out.pg.2.size 29 29 rfl p1 p2 sNil 0 HG.out (by omega))
 go_wp2_with fail
 ((with_reducible refine NW.out.mono ?_); rintro e wy ⟨b, rfl, hb, hr⟩)
 have Hb := qh hr
 have S := qh (S.out.below hb)
 clear hb hr NW
 go_wp2
 go_ret
 exact S.out.doneT Hb.out
end Ex
namespace Lx
open Go.RowKit
open Pl Fl
attribute [local go_sem] run_store_complexL
attribute [local go_sem ↓] Go.wp_at_zero Go.wp_at_succ
theorem rScan_any (s : ByteArray) (hs : s.size ≤ 9223372036854775800) (w : World) :
 Calls Tryz.prog 11 #[.string s] w fun e w' => scanEnd w s.data.toList (scanL s.data.toList) e w' := by
 have hal : w.heap.size < (w.alloc (.cells #[.int .i64 1, .int .i64 1] 56)).heap.size := by rw [World.size_alloc]; exact Nat.lt_succ_self _
 have hab : Below w.heap.size w (w.alloc (.cells #[.int .i64 1, .int .i64 1] 56)) := (Below.refl w.heap.size w).alloc nl _
 by_cases hbig : 16384 < s.size
 ·have HS := qh (show scanL s.data.toList = .error (0, 5) by unfold scanL; rw [if_pos (by simpa using hbig)])
  have hbig' : (16384 : Int) < (s.size : Int) := by omega
  have HAB := qh hab
  have HAL := qh hal
  clear hab hal
  go_enter Tryz.func11, Tryz.ntmps11
  go_wp2_with fail
  ((with_reducible refine (pos_one _).mono ?_); rintro e w1 ⟨rfl, hb⟩)
  have hb1 : Below w.heap.size w w1 := HAB.out.trans (hb.mono (Nat.le_of_lt HAL.out))
  go_wp2
  go_ret3
  rw [HS.out]
  exact ⟨rfl, hb1⟩
 have hbig' : ¬ (16384 : Int) < (s.size : Int) := by omega
 obtain ⟨src, hsrc⟩ : ∃ src, src = s.data.toList := ⟨_, rfl⟩
 have hsl0 : src.length = s.size := by rw [hsrc]; simp
 have HS := qh (show scanL src = scanAt src 0 by rw [scanL_eq, if_neg (by omega)])
 have hs16 : s.size ≤ 16384 := by omega
 have HAT := qh (at_is src (by omega))
 have HSRC := qh hsrc
 have HAB := qh hab
 have HBK0 := qh (show Blk (w.alloc (.cells #[.int .i64 1, .int .i64 1] 56)) w.heap.size 56 #[.int .i64 (at_ src 0).1, .int .i64 (at_ src 0).2] from Blk.new _ _ _)
 rw [← hsrc]
 clear hab hsrc
 go_enter Tryz.func11, Tryz.ntmps11
 go_wp2_with fail
 clear hbig hbig'
 go_loopw [0, 6] (fun sv av wr => ∃ (i : Nat) (acc : List Tok) (s' : ByteArray) (lv : Value), i + s'.size = s.size ∧ sv = .string s' ∧ lv = av ∧ w.heap.size < wr.heap.size ∧ acc.length ≤ i ∧ Hid (s'.data.toList = src.drop i) ∧ Hid (wr.ownsRow (w.heap.size + 1) 40 5 lv acc.length (flat src acc)) ∧ Hid (Blk wr w.heap.size 56 #[.int .i64 (at_ src i).1, .int .i64 (at_ src i).2]) ∧ Hid (Below w.heap.size w wr) ∧ Hid (scanL src = (scanAt src i).map (acc ++ ·))) (fun sv _ _ => strLen sv)
 case atStart =>
  refine ⟨0, [], s, _, by omega, rfl, rfl, hal, Nat.le_refl _, qh (by rw [HSRC.out]; rfl), qh ⟨rfl, .inl ⟨rfl, rfl⟩⟩, HBK0, HAB, qh ?_⟩
  rw [HS.out]
  all_goals (cases scanAt src 0 <;> rfl)
 case round =>
  obtain ⟨i, acc, s', lv, hi, rfl, rfl, hlt0, hacc, HSR, HO, HBK, HBL, HSC⟩ := hrel
  clear hal HBK0 HAB
  rcases Nat.eq_zero_or_pos s'.size with h0 | h0
  ·have hii : src.length ≤ i := by omega
   have hre : s'.toList.isEmpty = true := by rw [ByteArray.toList_eq, List.isEmpty_iff, empty_iff]; exact h0
   have hre2 : s'.toList = [] := by rw [ByteArray.toList_eq, empty_iff]; exact h0
   obtain ⟨pl, pc, hp⟩ : ∃ a b, at_ src i = (a, b) := ⟨_, _, rfl⟩
   have HF := qh (show scanL src = .ok (acc ++ [(noTk, i, i)]) by rw [HSC.out, scanAt_end hii]; rfl)
   have HV := qh (show flat src (acc ++ [(noTk, i, i)]) = flat src acc ++ [.int .u8 0, .complex .f64 (fl pl) (fl pc), .complex .f64 (fl pl) (fl pc), .string ⟨#[]⟩, .int .i64 0] by rw [flat_snoc]; simp only [Tok.vals, hp]; rfl)
   have PC := qh (fun w => pos_at (HAT.out i).1 w)
   have hz : PS w wr (at_ src i).1 (at_ src i).2 lv acc.length (flat src acc) := ⟨HBK.out, HO.out, HBL.out⟩
   rw [hp] at PC hz
   have HZ := qh hz.drew
   have haccn : acc.length ≤ 1000000 := by omega
   obtain ⟨m0, m1, f0, f1⟩ := hz.facts
   obtain ⟨i0, hi, hz0, hz1, hz2⟩ := info_parts info40
   clear hp hz HSC HBK HO HBL HS HSR HSRC HAT
   generalize hln : acc.length = an at *
   generalize hfl : flat src acc = xs at *
   have HLN := qh hln
   clear hfl hln
   go_wp2
   go_region_law (first
    | (go_simp; go_at_call 16; (with_reducible refine (PC.out _).mono ?_); rintro e x ⟨rfl, hb⟩; have HZ := qh (HZ.out.below hb); clear hb; obtain ⟨m0, m1, f0, f1⟩ := HZ.out.facts; have Q := app_facts HZ.out haccn #[.int .u8 0, .complex .f64 (fl pl) (fl pc), .complex .f64 (fl pl) (fl pc), .string ⟨#[]⟩, .int .i64 0] rfl)
    | (refine step_append_lies _ (by rfl) _ _ _ (by rfl) (w.heap.size + 1) 40 i0 _ 5 64 Tryz.underlying28 hi hz0 hz1 hz2 rfl (by omega) lv an xs (by rfl) Q.out.2.2.2.2 ⟨x.heap.size, 0, none⟩ 1 1 [.int .u8 0, .complex .f64 (fl pl) (fl pc), .complex .f64 (fl pl) (fl pc), .string ⟨#[]⟩, .int .i64 0] (by rfl) (by rfl) Q.out.1 Q.out.2.1 (by omega) Q.out.2.2.1 (by omega) Q.out.2.2.2.1 (x.heap.size + 1) (by simp) ?_; intro g' cap w1 hown1 hgrow hor hlt1; have HE := qh (And.intro hown1 (PS.appended HZ.out hown1 hgrow).bel); clear hown1 hgrow hor hlt1))
   all_goals
    go_wp2
    go_ret3
    rw [HF.out]
    have hl : (acc ++ [(noTk, i, i)]).length = an + 1 := by rw [List.length_append, HLN.out]; rfl
    refine ⟨g', cap, by rw [hl]; rfl, ?_, HE.out.2⟩
    rw [hl, HV.out]
    exact own_mono HE.out.1 (Nat.le_succ _)
  ·have hne : s'.toList.isEmpty = false := by rw [ByteArray.toList_eq, List.isEmpty_eq_false_iff, ne_eq, empty_iff]; omega
   have hne2 : ¬ s'.toList = [] := by rw [ByteArray.toList_eq, empty_iff]; omega
   have x0 : (0 : Int) < (s'.size : Int) := by omega
   have hil : i < src.length := by omega
   have HH : Hid ((src.drop i).head? = some s'[0]) := qh (by rw [← HSR.out]; exact head_at s' h0)
   obtain ⟨pl, pc, hp⟩ : ∃ a b, at_ src i = (a, b) := ⟨_, _, rfl⟩
   have hz : PS w wr (at_ src i).1 (at_ src i).2 lv acc.length (flat src acc) := ⟨HBK.out, HO.out, HBL.out⟩
   have PC := qh (fun w => pos_at (HAT.out i).1 w)
   rw [hp] at hz PC
   have HZ := qh hz
   have hlt1 := hz.lt
   have t9 : ((s'[0].toNat : Int) == 9) = (s'[0] == 9) := u8_eq s'[0] 9 (by omega)
   have t10 : ((s'[0].toNat : Int) == 10) = (s'[0] == 10) := u8_eq s'[0] 10 (by omega)
   have t13 : ((s'[0].toNat : Int) == 13) = (s'[0] == 13) := u8_eq s'[0] 13 (by omega)
   have t32 : ((s'[0].toNat : Int) == 32) = (s'[0] == 32) := u8_eq s'[0] 32 (by omega)
   have hB : isB s'[0] = (s'[0] == 9 || s'[0] == 10 || s'[0] == 13 || s'[0] == 32) := rfl
   clear HBK HO HBL hz
   generalize (s'[0] == 9) = e9 at *
   generalize (s'[0] == 10) = e10 at *
   generalize (s'[0] == 13) = e13 at *
   generalize (s'[0] == 32) = e32 at *
   by_cases hb : isB s'[0] = true
   ·have HNX := qh (show scanL src = (scanAt src (i + 1)).map (acc ++ ·) by
     rw [HSC.out, scanAt_blank hil (n := 1) (by unfold item; rw [HH.out, Option.getD_some, if_pos hb])])
    have hB' := hB.symm.trans hb
    clear hB HSC HH
    rcases e9 with _ | _
    ·rcases e10 with _ | _
     ·rcases e13 with _ | _
      ·rcases e32 with _ | _
       ·cases hB'
       ·have hsl := fun w => run_slice_string_h (P := Tryz.prog) (w := w) (t := 9) (s := s') Tryz.underlying9 .i64 1 (by omega) (by omega)
        have hsl2 := fun w => run_slice_string_l (P := Tryz.prog) (w := w) (t := 9) (s := s') Tryz.underlying9 .i64 1 (by omega) (by omega)
        rw [show (1 : Int).toNat = 1 from rfl] at hsl hsl2
        obtain ⟨ql, qc, hq⟩ : ∃ a b, at_ src (i + 1) = (a, b) := ⟨_, _, rfl⟩
        have bh := fun w => beh_at (q := at_ src (i + 1)) (s'.extract 0 (1)) (HAT.out i).1 (by rw [take_data, HSR.out]; exact at_add src i _) (by simp; omega) w
        rw [hp, hq] at bh
        have BH := qh bh
        obtain ⟨m0, m1, f0, f1⟩ := HZ.out.facts
        have HZ := qh HZ.out.drew
        have HSD := qh (show (s'.extract (1) s'.size).data.toList = src.drop (i + 1) by rw [ByteArray.data_extract, Array.toList_extract, List.extract_eq_take_drop, HSR.out, List.drop_drop, List.take_of_length_le (by rw [List.length_drop]; omega)])
        have HSZ := qh (show (s'.extract (1) s'.size).size = s'.size - (1) by simp)
        have HQ := qh hq
        clear bh hq
        go_wp2
        go_region_law (first
         | (go_simp; go_at_call 24; (with_reducible refine (BH.out _).mono ?_); rintro e x ⟨rfl, hb⟩; have HZ := qh (HZ.out.below hb); clear hb; obtain ⟨m0, m1, f0, f1⟩ := HZ.out.facts))
        all_goals
         go_wp2
         go_roundw
         case rel =>
          have hs := HZ.out.setPos ql qc
          refine ⟨i + 1, acc, s'.extract (1) s'.size, _, by rw [HSZ.out]; omega, rfl, rfl, hs.lt, by omega, qh HSD.out, qh ?_, qh (by rw [HQ.out]; exact hs.pos), qh hs.bel, qh HNX.out⟩
          exact hs.own
         case measure => (show strLen _ < strLen _); simp only [strLen]; rw [HSZ.out]; omega
      ·have hsl := fun w => run_slice_string_h (P := Tryz.prog) (w := w) (t := 9) (s := s') Tryz.underlying9 .i64 1 (by omega) (by omega)
       have hsl2 := fun w => run_slice_string_l (P := Tryz.prog) (w := w) (t := 9) (s := s') Tryz.underlying9 .i64 1 (by omega) (by omega)
       rw [show (1 : Int).toNat = 1 from rfl] at hsl hsl2
       obtain ⟨ql, qc, hq⟩ : ∃ a b, at_ src (i + 1) = (a, b) := ⟨_, _, rfl⟩
       have bh := fun w => beh_at (q := at_ src (i + 1)) (s'.extract 0 (1)) (HAT.out i).1 (by rw [take_data, HSR.out]; exact at_add src i _) (by simp; omega) w
       rw [hp, hq] at bh
       have BH := qh bh
       obtain ⟨m0, m1, f0, f1⟩ := HZ.out.facts
       have HZ := qh HZ.out.drew
       have HSD := qh (show (s'.extract (1) s'.size).data.toList = src.drop (i + 1) by rw [ByteArray.data_extract, Array.toList_extract, List.extract_eq_take_drop, HSR.out, List.drop_drop, List.take_of_length_le (by rw [List.length_drop]; omega)])
       have HSZ := qh (show (s'.extract (1) s'.size).size = s'.size - (1) by simp)
       have HQ := qh hq
       clear bh hq
       go_wp2
       go_region_law (first
        | (go_simp; go_at_call 24; (with_reducible refine (BH.out _).mono ?_); rintro e x ⟨rfl, hb⟩; have HZ := qh (HZ.out.below hb); clear hb; obtain ⟨m0, m1, f0, f1⟩ := HZ.out.facts))
       all_goals
        go_wp2
        go_roundw
        case rel =>
         have hs := HZ.out.setPos ql qc
         refine ⟨i + 1, acc, s'.extract (1) s'.size, _, by rw [HSZ.out]; omega, rfl, rfl, hs.lt, by omega, qh HSD.out, qh ?_, qh (by rw [HQ.out]; exact hs.pos), qh hs.bel, qh HNX.out⟩
         exact hs.own
        case measure => (show strLen _ < strLen _); simp only [strLen]; rw [HSZ.out]; omega
     ·have hsl := fun w => run_slice_string_h (P := Tryz.prog) (w := w) (t := 9) (s := s') Tryz.underlying9 .i64 1 (by omega) (by omega)
      have hsl2 := fun w => run_slice_string_l (P := Tryz.prog) (w := w) (t := 9) (s := s') Tryz.underlying9 .i64 1 (by omega) (by omega)
      rw [show (1 : Int).toNat = 1 from rfl] at hsl hsl2
      obtain ⟨ql, qc, hq⟩ : ∃ a b, at_ src (i + 1) = (a, b) := ⟨_, _, rfl⟩
      have bh := fun w => beh_at (q := at_ src (i + 1)) (s'.extract 0 (1)) (HAT.out i).1 (by rw [take_data, HSR.out]; exact at_add src i _) (by simp; omega) w
      rw [hp, hq] at bh
      have BH := qh bh
      obtain ⟨m0, m1, f0, f1⟩ := HZ.out.facts
      have HZ := qh HZ.out.drew
      have HSD := qh (show (s'.extract (1) s'.size).data.toList = src.drop (i + 1) by rw [ByteArray.data_extract, Array.toList_extract, List.extract_eq_take_drop, HSR.out, List.drop_drop, List.take_of_length_le (by rw [List.length_drop]; omega)])
      have HSZ := qh (show (s'.extract (1) s'.size).size = s'.size - (1) by simp)
      have HQ := qh hq
      clear bh hq
      go_wp2
      go_region_law (first
       | (go_simp; go_at_call 24; (with_reducible refine (BH.out _).mono ?_); rintro e x ⟨rfl, hb⟩; have HZ := qh (HZ.out.below hb); clear hb; obtain ⟨m0, m1, f0, f1⟩ := HZ.out.facts))
      all_goals
       go_wp2
       go_roundw
       case rel =>
        have hs := HZ.out.setPos ql qc
        refine ⟨i + 1, acc, s'.extract (1) s'.size, _, by rw [HSZ.out]; omega, rfl, rfl, hs.lt, by omega, qh HSD.out, qh ?_, qh (by rw [HQ.out]; exact hs.pos), qh hs.bel, qh HNX.out⟩
        exact hs.own
       case measure => (show strLen _ < strLen _); simp only [strLen]; rw [HSZ.out]; omega
    ·have hsl := fun w => run_slice_string_h (P := Tryz.prog) (w := w) (t := 9) (s := s') Tryz.underlying9 .i64 1 (by omega) (by omega)
     have hsl2 := fun w => run_slice_string_l (P := Tryz.prog) (w := w) (t := 9) (s := s') Tryz.underlying9 .i64 1 (by omega) (by omega)
     rw [show (1 : Int).toNat = 1 from rfl] at hsl hsl2
     obtain ⟨ql, qc, hq⟩ : ∃ a b, at_ src (i + 1) = (a, b) := ⟨_, _, rfl⟩
     have bh := fun w => beh_at (q := at_ src (i + 1)) (s'.extract 0 (1)) (HAT.out i).1 (by rw [take_data, HSR.out]; exact at_add src i _) (by simp; omega) w
     rw [hp, hq] at bh
     have BH := qh bh
     obtain ⟨m0, m1, f0, f1⟩ := HZ.out.facts
     have HZ := qh HZ.out.drew
     have HSD := qh (show (s'.extract (1) s'.size).data.toList = src.drop (i + 1) by rw [ByteArray.data_extract, Array.toList_extract, List.extract_eq_take_drop, HSR.out, List.drop_drop, List.take_of_length_le (by rw [List.length_drop]; omega)])
     have HSZ := qh (show (s'.extract (1) s'.size).size = s'.size - (1) by simp)
     have HQ := qh hq
     clear bh hq
     go_wp2
     go_region_law (first
      | (go_simp; go_at_call 24; (with_reducible refine (BH.out _).mono ?_); rintro e x ⟨rfl, hb⟩; have HZ := qh (HZ.out.below hb); clear hb; obtain ⟨m0, m1, f0, f1⟩ := HZ.out.facts))
     all_goals
      go_wp2
      go_roundw
      case rel =>
       have hs := HZ.out.setPos ql qc
       refine ⟨i + 1, acc, s'.extract (1) s'.size, _, by rw [HSZ.out]; omega, rfl, rfl, hs.lt, by omega, qh HSD.out, qh ?_, qh (by rw [HQ.out]; exact hs.pos), qh hs.bel, qh HNX.out⟩
       exact hs.own
      case measure => (show strLen _ < strLen _); simp only [strLen]; rw [HSZ.out]; omega
   ·have h4 : e9 = false ∧ e10 = false ∧ e13 = false ∧ e32 = false := by
     rw [hB] at hb
     revert hb
     cases e9 <;> cases e10 <;> cases e13 <;> cases e32 <;> simp
    obtain ⟨rfl, rfl, rfl, rfl⟩ := h4
    have HB := qh hb
    clear hB hb
    by_cases h2 : (src.drop i).take 2 = [40, 42]
    ·have hsz2 : (2 : Int) ≤ (s'.size : Int) := by
      have := congrArg List.length h2
      rw [List.length_take, List.length_drop] at this
      simp at this; omega
     have hsb : ((s'.extract 0 2).toList == [40, 42]) = true := by rw [ext_front, HSR.out, h2]; rfl
     have hci : item (src.drop i) = if cmt 0 0 (src.drop i) = 0 then .bad 43 else .blank (cmt 0 0 (src.drop i)) := by
      unfold item; rw [HH.out, Option.getD_some, if_neg HB.out, if_pos h2]
     have CM := qh (fun w => comment_any s' (by omega) w)
     rw [HSR.out] at CM
     clear h2
     generalize cmt 0 0 (src.drop i) = n at *
     obtain ⟨m0, m1, f0, f1⟩ := HZ.out.facts
     go_wp2_with fail
     ((with_reducible refine (CM.out _).mono ?_); rintro e w1 ⟨rfl, rfl⟩)
     by_cases hn : n = 0
     ·subst hn
      rw [if_pos rfl] at hci
      have HF := qh (show scanL src = .error (i, 43) by rw [HSC.out, scanAt_bad hil hci]; rfl)
      have HP := qh hp
      clear hci HSC CM HH HB hp
      go_wp2_with fail
      ((with_reducible refine (PC.out _).mono ?_); rintro e w1 ⟨rfl, hb⟩)
      have HE := qh (HZ.out.below hb).bel
      clear hb
      go_wp2
      go_ret3
      rw [HF.out]
      refine ⟨?_, HE.out⟩
      rw [HP.out]
      rfl
     ·rw [if_neg hn] at hci
      have HNX := qh (show scanL src = (scanAt src (i + n)).map (acc ++ ·) by rw [HSC.out, scanAt_blank hil hci])
      have hnb := (item_in hil).1 n hci
      have hn1 : (n : Int) ≤ (s'.size : Int) := by omega
      have hn0 : ((n : Int) == 0) = false := by simp only [beq_eq_false_iff_ne, ne_eq]; omega
      clear hci HSC CM HH HB hn m0 m1 f0 f1
      have hsl := fun w => run_slice_string_h (P := Tryz.prog) (w := w) (t := 9) (s := s') Tryz.underlying9 .i64 (n : Int) (by omega) (by omega)
      have hsl2 := fun w => run_slice_string_l (P := Tryz.prog) (w := w) (t := 9) (s := s') Tryz.underlying9 .i64 (n : Int) (by omega) (by omega)
      simp only [Int.toNat_natCast] at hsl hsl2
      obtain ⟨ql, qc, hq⟩ : ∃ a b, at_ src (i + n) = (a, b) := ⟨_, _, rfl⟩
      have bh := fun w => beh_at (q := at_ src (i + n)) (s'.extract 0 (n)) (HAT.out i).1 (by rw [take_data, HSR.out]; exact at_add src i _) (by simp; omega) w
      rw [hp, hq] at bh
      have BH := qh bh
      obtain ⟨m0, m1, f0, f1⟩ := HZ.out.facts
      have HZ := qh HZ.out.drew
      have HSD := qh (show (s'.extract (n) s'.size).data.toList = src.drop (i + n) by rw [ByteArray.data_extract, Array.toList_extract, List.extract_eq_take_drop, HSR.out, List.drop_drop, List.take_of_length_le (by rw [List.length_drop]; omega)])
      have HSZ := qh (show (s'.extract (n) s'.size).size = s'.size - (n) by simp)
      have HQ := qh hq
      clear bh hq
      go_wp2
      go_region_law (first
       | (go_simp; go_at_call 24; (with_reducible refine (BH.out _).mono ?_); rintro e x ⟨rfl, hb⟩; have HZ := qh (HZ.out.below hb); clear hb; obtain ⟨m0, m1, f0, f1⟩ := HZ.out.facts))
      all_goals
       go_wp2
       go_roundw
       case rel =>
        have hs := HZ.out.setPos ql qc
        refine ⟨i + n, acc, s'.extract (n) s'.size, _, by rw [HSZ.out]; omega, rfl, rfl, hs.lt, by omega, qh HSD.out, qh ?_, qh (by rw [HQ.out]; exact hs.pos), qh hs.bel, qh HNX.out⟩
        exact hs.own
       case measure => (show strLen _ < strLen _); simp only [strLen]; rw [HSZ.out]; omega
    ·have hsb : (s'.size < 2 ∨ ((s'.extract 0 2).toList == [40, 42]) = false) := by
      right; rw [ext_front, HSR.out]; simpa using h2
     have hci : item (src.drop i) = match oneN s'.data.toList with | .error e => .bad e | .ok (t, n) => .tok t n := by
      unfold item; rw [HH.out, Option.getD_some, if_neg HB.out, if_neg h2, HSR.out] <;> (cases oneN _ <;> rfl)
     have HCI := qh hci
     obtain ⟨m0, m1, f0, f1⟩ := HZ.out.facts
     clear hci h2 HB HH
     rcases Nat.lt_or_ge s'.size 2 with hsz | hsz
     case' inl =>
      have hz2 : ¬ (2 : Int) ≤ (s'.size : Int) := by omega
      have hz3 : decide ((2 : Int) ≤ (s'.size : Int)) = false := by simp; omega
      clear hsb hsz
      go_wp2_with fail
     case' inr =>
      have hz2 : (2 : Int) ≤ (s'.size : Int) := by omega
      have hz3 : decide ((2 : Int) ≤ (s'.size : Int)) = true := by simp; omega
      have hsb := hsb.resolve_left (by omega)
      clear hsz
      go_wp2_with fail
     all_goals
      ((with_reducible refine (One_any s' h0 (by omega) _).mono ?_); rintro e w1 ⟨he, hb⟩)
      have HZ := qh (HZ.out.below hb)
      have hlt2 := HZ.out.lt
      clear hb m0 m1 f0 f1
      obtain ⟨m0, m1, f0, f1⟩ := HZ.out.facts
      rcases hone : oneN s'.data.toList with k | ⟨⟨tk, tt, tn⟩, n⟩
      ·rw [hone] at he
       have hci := HCI.out
       rw [hone] at hci
       have hk := oneN_err _ _ hone
       have HF := qh (show scanL src = .error (i, k) by rw [HSC.out, scanAt_bad hil hci]; rfl)
       have hk0 : ((k : Int) == 0) = false := by simp only [beq_eq_false_iff_ne, ne_eq]; omega
       have hk1 : ((k : Int) != 0) = true := ne_of_eq hk0
       have HP := qh hp
       unfold oneEnd at he
       subst he
       clear hci HSC HCI hone hk hp
       simp only [Tk.val, Tk.vals, noTk, C, fl_0]
       go_wp2_with fail
       ((with_reducible refine (PC.out _).mono ?_); rintro e w2 ⟨rfl, hb⟩)
       have HE := qh ((HZ.out.tok (.int .u8 0) (.complex .f64 0 0) (.complex .f64 0 0) (.string ⟨#[]⟩) (.int .i64 0)).below hb).bel
       clear hb
       go_wp2
       go_ret3
       rw [HF.out]
       refine ⟨?_, HE.out⟩
       rw [HP.out]
       rfl
      ·rw [hone] at he
       have hci := HCI.out
       rw [hone] at hci
       have HNX := qh (show scanL src = (scanAt src (i + n)).map ((acc ++ [(⟨tk, tt, tn⟩, i, i + n)]) ++ ·) by
        rw [HSC.out, scanAt_tok hil hci, map_map_e]; congr 1; funext x; simp)
       have hnb := (item_in hil).2 _ n hci
       have hn1 : (n : Int) ≤ (s'.size : Int) := by omega
       unfold oneEnd at he
       subst he
       clear hci HSC HCI hone
       simp only [Tk.val, Tk.vals, C, fl_0]
       have HR := qh (HZ.out.tok (.int .u8 tk) (.complex .f64 0 0) (.complex .f64 0 0) (.string tt) (.int .i64 tn))
       clear HZ
       go_wp2_with fail
       ((with_reducible refine (PC.out _).mono ?_); rintro e w2 ⟨rfl, hb⟩)
       have hr := HR.out.below hb
       clear m0 m1 f0 f1 hb
       obtain ⟨m0, m1, f0, f1⟩ := hr.facts
       obtain ⟨c0, c1, c2, c3, c4, g0, g1, g2, g3, g4⟩ := hr.tok.tok
       have HR := qh (hr.set1 (.complex .f64 (fl pl) (fl pc)))
       clear hr
       go_wp2
       generalize w2.setCell ⟨w1.heap.size, 1, none⟩ (.complex .f64 (fl pl) (fl pc)) = w3 at *
       clear m0 m1 f0 f1 c0 c1 c2 c3 c4 g0 g1 g2 g3 g4
       obtain ⟨m0, m1, f0, f1⟩ := HR.out.facts
       obtain ⟨c0, c1, c2, c3, c4, g0, g1, g2, g3, g4⟩ := HR.out.tok.tok
       have hsl := fun w => run_slice_string_h (P := Tryz.prog) (w := w) (t := 9) (s := s') Tryz.underlying9 .i64 (n : Int) (by omega) (by omega)
       simp only [Int.toNat_natCast] at hsl
       obtain ⟨ql, qc, hq⟩ : ∃ a b, at_ src (i + n) = (a, b) := ⟨_, _, rfl⟩
       have bh := fun w => beh_at (q := at_ src (i + n)) (s'.extract 0 n) (HAT.out i).1 (by rw [take_data, HSR.out]; exact at_add src i _) (by simp; omega) w
       have PQ := qh (fun w => pos_at (HAT.out (i + n)).1 w)
       rw [hp, hq] at bh
       rw [hq] at PQ
       have BH := qh bh
       have HV := qh (show Tok.vals src (⟨tk, tt, tn⟩, i, i + n) = [.int .u8 tk, .complex .f64 (fl pl) (fl pc), .complex .f64 (fl ql) (fl qc), .string tt, .int .i64 tn] by simp only [Tok.vals, hp, hq]; rfl)
       have HR := qh HR.out.drew
       clear bh hq
       go_region_law (first
        | (go_simp; go_at_call 24; (with_reducible refine (BH.out _).mono ?_); rintro e x ⟨rfl, hb⟩; have HR := qh (HR.out.below hb); clear hb; obtain ⟨m0, m1, f0, f1⟩ := HR.out.facts; obtain ⟨c0, c1, c2, c3, c4, g0, g1, g2, g3, g4⟩ := HR.out.tok.tok)
        | (go_simp; go_at_call 16; (with_reducible refine (PQ.out _).mono ?_); rintro e x ⟨rfl, hb⟩; have HR := qh (HR.out.below hb); clear hb; obtain ⟨m0, m1, f0, f1⟩ := HR.out.facts; obtain ⟨c0, c1, c2, c3, c4, g0, g1, g2, g3, g4⟩ := HR.out.tok.tok))
       all_goals
        clear hsl
        have HR := qh (HR.out.set2 (.complex .f64 (fl ql) (fl qc)))
        generalize x.setCell ⟨w1.heap.size, 2, none⟩ (.complex .f64 (fl ql) (fl qc)) = w4 at *
        obtain ⟨m0, m1, f0, f1⟩ := HR.out.facts
        obtain ⟨c0, c1, c2, c3, c4, g0, g1, g2, g3, g4⟩ := HR.out.tok.tok
        obtain ⟨i0, hi0, hz0, hz1, hz2⟩ := info_parts info40
        have hacn : acc.length ≤ 1000000 := by omega
        have Q := app_facts HR.out.toPS hacn #[.int .u8 tk, .complex .f64 (fl pl) (fl pc), .complex .f64 (fl ql) (fl qc), .string tt, .int .i64 tn] rfl
        go_wp2_with (at_builtin; refine wpList_append_lies _ rfl _ _ _ rfl (w.heap.size + 1) 40 i0 _ 5 64 Tryz.underlying28 hi0 hz0 hz1 hz2 rfl (by omega) lv acc.length (flat src acc) rfl Q.out.2.2.2.2 ⟨w4.heap.size, 0, none⟩ 1 1 [.int .u8 tk, .complex .f64 (fl pl) (fl pc), .complex .f64 (fl ql) (fl qc), .string tt, .int .i64 tn] rfl rfl Q.out.1 Q.out.2.1 (by omega) Q.out.2.2.1 (by omega) Q.out.2.2.2.1 (w4.heap.size + 1) (by simp) ?_; intro g' cap w5 hown1 hgrow hor hlt5; have HZ := qh (PS.appended HR.out.toPS hown1 hgrow); clear hown1 hgrow hor hlt5)
        clear m0 m1 f0 f1 c0 c1 c2 c3 c4 g0 g1 g2 g3 g4 Q hi0 hz0 hz1 hz2
        have hsl := fun w => run_slice_string_h (P := Tryz.prog) (w := w) (t := 9) (s := s') Tryz.underlying9 .i64 (n : Int) (by omega) (by omega)
        have hsl2 := fun w => run_slice_string_l (P := Tryz.prog) (w := w) (t := 9) (s := s') Tryz.underlying9 .i64 (n : Int) (by omega) (by omega)
        simp only [Int.toNat_natCast] at hsl hsl2
        obtain ⟨ql, qc, hq⟩ : ∃ a b, at_ src (i + n) = (a, b) := ⟨_, _, rfl⟩
        have bh := fun w => beh_at (q := at_ src (i + n)) (s'.extract 0 (n)) (HAT.out i).1 (by rw [take_data, HSR.out]; exact at_add src i _) (by simp; omega) w
        rw [hp, hq] at bh
        have BH := qh bh
        obtain ⟨m0, m1, f0, f1⟩ := HZ.out.facts
        have HZ := qh HZ.out.drew
        have HSD := qh (show (s'.extract (n) s'.size).data.toList = src.drop (i + n) by rw [ByteArray.data_extract, Array.toList_extract, List.extract_eq_take_drop, HSR.out, List.drop_drop, List.take_of_length_le (by rw [List.length_drop]; omega)])
        have HSZ := qh (show (s'.extract (n) s'.size).size = s'.size - (n) by simp)
        have HQ := qh hq
        clear bh hq
        go_wp2
        go_region_law (first
         | (go_simp; go_at_call 24; (with_reducible refine (BH.out _).mono ?_); rintro e x ⟨rfl, hb⟩; have HZ := qh (HZ.out.below hb); clear hb; obtain ⟨m0, m1, f0, f1⟩ := HZ.out.facts))
        all_goals
         go_wp2
         go_roundw
         case rel =>
          have hs := HZ.out.setPos ql qc
          refine ⟨i + n, acc ++ [(⟨tk, tt, tn⟩, i, i + n)], s'.extract (n) s'.size, _, by rw [HSZ.out]; omega, rfl, rfl, hs.lt, by rw [List.length_append]; simp only [List.length_singleton]; omega, qh HSD.out, qh ?_, qh (by rw [HQ.out]; exact hs.pos), qh hs.bel, qh HNX.out⟩
          rw [flat_snoc, HV.out, List.length_append]; exact hs.own
         case measure => (show strLen _ < strLen _); simp only [strLen]; rw [HSZ.out]; omega
end Lx
end Go.Proofs.YtkemhmfdooghkaaGreatDoor
