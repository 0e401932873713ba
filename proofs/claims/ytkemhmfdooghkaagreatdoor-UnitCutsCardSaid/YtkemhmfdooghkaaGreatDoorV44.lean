import Derived.Test.YtkemhmfdooghkaaGreatDoorV43
import Derived.OwnWalkIn
import Derived.TacticsInMore
import Derived.RegionIn
import Derived.Stop.RegionWithIn
import Derived.LoopNIn
import Derived.LoopIn
import Derived.Sort.LoopGhostIn
import Derived.Maps.AppendAt
set_option linter.unusedSimpArgs false
set_option linter.unusedVariables false
set_option maxRecDepth 100000
set_option maxHeartbeats 6400000
namespace Go.Proofs.YtkemhmfdooghkaaGreatDoor
namespace Lx
open Go.RowKit
open Pl Fl
attribute [local go_sem] run_store_complexL
abbrev Yi := Tok × Nat
def Yi.enc (src : List UInt8) (x : Yi) : Array Value := #[x.1.1.val (at_ src x.1.2.1) (at_ src x.1.2.2), .int .i64 x.2]
def okY (src : List UInt8) (pre : List Yi) (x : Yi) : Prop := pre.length ≤ src.length ∧ (x.2 ≠ 0 → scanL src = .error (x.1.2.1, x.2))
def endY (src : List UInt8) (xs : List Yi) : Prop := (∀ x ∈ xs, x.2 = 0) → scanL src = .ok (xs.map (·.1))
def boxT (g : Nat) (_ r : Nat) (o : Obj) : Prop := r = g ∧ ∃ cs f, o = .cells cs 9 f
def KpS (n g : Nat) (A C : World) : Prop := Below n A C ∧ C.heap[g]? = A.heap[g]?
structure ItS (src : List UInt8) (w0 : World) (g : Nat) (J : List Yi → World → Prop) (B : Nat) (i : Nat) (pre : List Yi) (s : ByteArray) (wr : World) : Prop where
 txt : s.data.toList = src.drop i
 box : Blk wr g 9 #[.string s]
 bel : Below w0.heap.size w0 wr
 j : J pre wr
 len : pre.length ≤ i
 ok : ∀ x ∈ pre, x.2 = 0
 scan : scanL src = (scanAt src i).map (pre.map (·.1) ++ ·)
 big : B ≤ wr.heap.size
section
variable {src : List UInt8} {w0 wr : World} {g B i : Nat} {J Jx : List Yi → World → Prop} {pre : List Yi} {s : ByteArray}
theorem ItS.grown {w' : World} (h : ItS src w0 g J B i pre s wr) (hJ : AbT (boxT g B) J) (hw : w0.heap.size ≤ wr.heap.size) (hg : wr.grownBy w' none) : ItS src w0 g J B i pre s w' :=
 ⟨h.txt, h.box.grown hg (by simp), h.bel.grown hg (by omega) (fun k e => by cases e), hJ _ _ _ none h.j hg (fun r e => by cases e), h.len, h.ok, h.scan, Nat.le_trans h.big hg.size⟩
theorem ItS.step (h : ItS src w0 g J B i pre s wr) (hJ : AbT (boxT g B) J) (hg : w0.heap.size ≤ g) {n : Nat} (hn : n ≤ s.size) (hsc : scanL src = (scanAt src (i + n)).map (pre.map (·.1) ++ ·)) : ItS src w0 g J B (i + n) pre (s.extract n s.size) (wr.setCell ⟨g, 0, none⟩ (.string (s.extract n s.size))).drew := by
 have hg2 : wr.grownBy (wr.setCell ⟨g, 0, none⟩ (.string (s.extract n s.size))).drew (some g) :=
  ⟨rfl, rfl, rfl, by show wr.heap.size ≤ (wr.setCell _ _).heap.size; rw [World.size_setCell]; exact Nat.le_refl _, fun k _ hk => Below.heap_setCell wr _ _ k (fun e => hk (by rw [e]))⟩
 refine ⟨by rw [ext_drop, h.txt, List.drop_drop], ?_, (h.bel.setCell hg _).drew, hJ _ _ _ (some g) h.j hg2 (fun r e => ?_), Nat.le_trans h.len (Nat.le_add_right _ _), h.ok, hsc, Nat.le_trans h.big hg2.size⟩
 ·have := h.box.set_ 0 (.string (s.extract n s.size))
  exact this
 ·cases e
  exact ⟨_, h.box, rfl, _, _, rfl⟩
theorem ItS.next {w' : World} {x : Yi} (h : ItS src w0 g J B i pre s wr) (hJ : AbT (boxT g B) J) (hg : w0.heap.size ≤ g) (hk : KpS w0.heap.size g wr w') (hj : J (pre ++ [x]) w') (hx : x.2 = 0) {n : Nat} (hn1 : 1 ≤ n) (hn : n ≤ s.size) (hsc : scanL src = (scanAt src (i + n)).map ((pre ++ [x]).map (·.1) ++ ·)) : ItS src w0 g J B (i + n) (pre ++ [x]) (s.extract n s.size) (w'.setCell ⟨g, 0, none⟩ (.string (s.extract n s.size))).drew := by
 have hg2 : w'.grownBy (w'.setCell ⟨g, 0, none⟩ (.string (s.extract n s.size))).drew (some g) :=
  ⟨rfl, rfl, rfl, by show w'.heap.size ≤ (w'.setCell _ _).heap.size; rw [World.size_setCell]; exact Nat.le_refl _, fun k _ hk => Below.heap_setCell w' _ _ k (fun e => hk (by rw [e]))⟩
 have hb : Blk w' g 9 #[.string s] := hk.2.trans h.box
 refine ⟨by rw [ext_drop, h.txt, List.drop_drop], ?_, ((h.bel.trans hk.1).setCell hg _).drew, hJ _ _ _ (some g) hj hg2 (fun r e => ?_), ?_, ?_, hsc, Nat.le_trans (Nat.le_trans h.big hk.1.size) hg2.size⟩
 ·have := hb.set_ 0 (.string (s.extract n s.size))
  exact this
 ·cases e
  exact ⟨_, hb, rfl, _, _, rfl⟩
 ·have := h.len
  rw [List.length_append, List.length_singleton]
  omega
 ·intro y hy
  rcases List.mem_append.1 hy with hy | hy
  ·exact h.ok y hy
  ·rw [List.mem_singleton.1 hy]; exact hx
theorem _root_.Go.World.grownBy.setNew {w w' : World} {row : Option Nat} (h : w.grownBy w' row) (p : Addr) (hp : w.heap.size ≤ p.block) (v : Value) : w.grownBy (w'.setCell p v) row :=
 ⟨h.os, h.tape, h.output, by rw [World.size_setCell]; exact h.size, fun k hk hne => (Below.heap_setCell w' p v k (by omega)).trans (h.block k hk hne)⟩
theorem grown_below {w w' : World} (h : Below w.heap.size w w') : w.grownBy w' none := ⟨h.os, h.tape, h.output, h.size, fun k hk _ => h.block k hk⟩
end
theorem tokens_seq {w0 w : World} (E : EnvS w0) (src : ByteArray) (hsrc : src.size ≤ 16384) (g : Nat) (hg0 : w0.heap.size ≤ g) (hg : Blk w g 9 #[.string src]) (hb0 : Below w0.heap.size w0 w) :
 SeqT (boxT g) Tryz.prog 1 54 #[.pointer (some ⟨g, 0, none⟩)] (Yi.enc src.data.toList) (KpS w0.heap.size g) (endY src.data.toList) (fun _ => True) (okY src.data.toList) w := by
 intro l J Jx W hW hJ hJx hY h0
 have HAT := qh (at_is src.data.toList (by simpa using hsrc))
 have hsl : src.data.toList.length = src.size := by simp
 have HSL := qh (show scanL src.data.toList = scanAt src.data.toList 0 by rw [scanL_eq, if_neg (by omega)])
 have HS0 := qh (show ItS src.data.toList w0 g J W.heap.size 0 [] src W from ⟨rfl, hg.below hW hg.lt, hb0.trans (hW.mono hb0.size), h0, Nat.le_refl _, (by simp), (by rw [HSL.out] <;> (cases scanAt src.data.toList 0 <;> rfl)), Nat.le_refl _⟩)
 have HJ := qh hJ
 have HY := qh hY
 have HBG := qh (fun (w : World) => Begin_any w)
 generalize src.data.toList = tx at *
 clear hg hJ hJx hY h0
 refine callsIn_of_wp Tryz.func54 rfl trivial ?_ rfl
 simp only [Tryz.ntmps54, List.size_toArray, List.length_cons, List.length_nil, Nat.reduceAdd, Nat.reduceSub, Array.replicate_succ, Array.replicate_zero, List.push_toArray, List.append_toArray, List.nil_append, List.cons_append]
 gi_wp2_with fail
 refine ⟨trivial, (callsIn_wide.2 (HBG.out _)).mono ?_⟩
 rintro e w1 ⟨rfl, rfl⟩
 gi_wp2
 gi_loopg [3] (tx.length + 1) (fun gh av wr => ∃ (i : Nat) (pre : List Yi) (s : ByteArray), av = C (at_ tx i) ∧ i + s.size = tx.length ∧ s.size < gh ∧ Hid (ItS tx w0 g J W.heap.size i pre s wr))
 case atStart => exact ⟨0, [], src, rfl, by omega, by omega, HS0⟩
 case round =>
  obtain ⟨i, pre, s, rfl, hi, hgh, HS⟩ := hrel
  obtain ⟨pl, pc, hp⟩ : ∃ a b, at_ tx i = (a, b) := ⟨_, _, rfl⟩
  have hc := HS.out.box.cell 0
  have hfz := HS.out.box.frozen 0
  have hc : wr.cell? ⟨g, 0, none⟩ = some (.string s) := hc
  have hglt := HS.out.box.lt
  rw [hp]
  simp only [C]
  rcases Nat.eq_zero_or_pos s.size with h0 | h0
  ·have hre : s.toList.isEmpty = true := by rw [ByteArray.toList_eq, List.isEmpty_iff, empty_iff]; exact h0
   have hre2 : s.toList = [] := by rw [ByteArray.toList_eq, empty_iff]; exact h0
   have hii : tx.length ≤ i := by omega
   have hj := HS.out.j
   obtain ⟨fn, tmps, assign, body, hy, hR⟩ := HY.out pre ((noTk, i, i), 0) wr hj ⟨by have := HS.out.len; omega, fun h => absurd rfl h⟩
   have hE := qh (show endY tx (pre ++ [((noTk, i, i), 0)]) from fun _ => by rw [HS.out.scan, scanAt_end hii]; simp [Except.map])
   unfold Yi.enc at hy
   simp only [hp, Tk.val, Tk.vals, C, noTk, Int.cast_ofNat_Int] at hy
   clear HS HY HJ HSL HAT
   gi_wp2
   refine hR.mono ?_
   rintro e W3 (⟨rfl, hJ3, hk3⟩ | ⟨rfl, hJx3⟩)
   ·gi_wp2
    go_end0
    exact ⟨⟨_, rfl⟩, .inl ⟨_, hE.out, hJ3⟩⟩
   ·gi_wp2
    go_end0
    exact ⟨⟨_, rfl⟩, .inr ⟨_, trivial, hJx3⟩⟩
  ·have hne : s.toList.isEmpty = false := by rw [ByteArray.toList_eq, List.isEmpty_eq_false_iff, ne_eq, empty_iff]; omega
   have hne2 : ¬ s.toList = [] := by rw [ByteArray.toList_eq, empty_iff]; omega
   have hil : i < tx.length := by omega
   have HBC := qh (blank_cases hil)
   have HBL := qh (blank_any s (by omega) wr)
   rw [HS.out.txt] at HBL
   have hpn := (HAT.out i).1
   have hpb := (HAT.out i).2
   rw [hp] at hpn hpb
   have HBE := qh (fun (n : Nat) (ql qc : Nat) (hq : at_ tx (i + n) = (ql, qc)) (W : World) => (show Calls Tryz.prog 57 #[.complex .f64 (fl pl) (fl pc), .string (s.extract 0 n)] W fun e w' => e = .returned (.complex .f64 (fl ql) (fl qc)) ∧ W = w' by
    have := Behind_any (pl, pc) (s.extract 0 n) W (by show pl < _; have := hpb.1; dsimp only at this; omega) (by show pc < _; have := hpb.2; dsimp only at this; omega) (by rw [ByteArray.size_extract]; omega)
    rw [take_data, HS.out.txt, ← hp, at_add, hq] at this
    rw [hp] at this
    exact this))
   clear hpn hpb
   gi_wp2_with fail
   refine ⟨trivial, (callsIn_wide.2 HBL.out).mono ?_⟩
   rintro e w1 ⟨rfl, rfl⟩
   rcases HBC.out with ⟨n, hn1, hn2, hbe, hsc⟩ | ⟨hbe, hsc⟩ | ⟨hbe, hsc⟩
   ·rw [hbe]
    have n0 : ((n : Int) == 0) = false := by simp only [beq_eq_false_iff_ne, ne_eq]; omega
    clear HBC HBL hbe
    obtain ⟨ql, qc, hq⟩ : ∃ a b, at_ tx (i + n) = (a, b) := ⟨_, _, rfl⟩
    have HB := qh (HBE.out n ql qc hq)
    have y0 : (0 : Int) ≤ (n : Int) := by omega
    have y1 : (n : Int) ≤ (s.size : Int) := by omega
    clear HBE
    gi_wp2
    gi_region_with (refine ⟨trivial, ?_⟩; gi_at_call 57; refine (callsIn_wide.2 (HB.out _)).mono ?_; rintro e w2 ⟨rfl, rfl⟩)
    all_goals
     gi_wp2
     have HN := qh (HS.out.step HJ.out hg0 (n := n) (by omega) (by rw [HS.out.scan, hsc]) )
     gi_roundg (s.size - n + 1)
     case rel => exact ⟨i + n, pre, s.extract n s.size, by rw [hq]; rfl, by rw [ByteArray.size_extract]; omega, by rw [ByteArray.size_extract]; omega, HN⟩
     case measure => omega
   ·rw [hbe]
    obtain ⟨ql, qc, hq⟩ : ∃ a b, at_ tx (i + 0) = (a, b) := ⟨_, _, rfl⟩
    have hb0' := HBE.out 0 ql qc hq
    rw [show s.extract 0 0 = ByteArray.empty from by simp] at hb0'
    have HB := qh hb0'
    have y1 : (0 : Int) ≤ (s.size : Int) := by omega
    clear HBE HBC HBL hbe hb0'
    have HS2 := qh (HS.out.grown HJ.out (Nat.le_trans HS.out.bel.size nl) (World.grownBy_alloc wr (.cells #[.int .u8 0, .complex .f64 (fl pl) (fl pc), .complex .f64 (fl ql) (fl qc), .string ⟨#[]⟩, .int .i64 0] 40) none))
    have hj := HS2.out.j
    obtain ⟨fn, tmps, assign, body, hy, hR⟩ := HY.out pre ((noTk, i, i + 0), 43) _ hj ⟨by have := HS.out.len; omega, fun h => by rw [HS.out.scan, hsc]; rfl⟩
    have hE := qh (show endY tx (pre ++ [((noTk, i, i + 0), 43)]) from fun h => absurd (h _ (List.mem_append_right _ (List.mem_singleton.2 rfl))) (by simp))
    unfold Yi.enc at hy
    simp only [hp, hq, Tk.val, Tk.vals, C, noTk, Int.cast_ofNat_Int] at hy
    clear HS HY HJ HSL HAT hj
    gi_wp2_with fail
    refine ⟨trivial, ?_⟩
    with_reducible refine (callsIn_wide.2 (HB.out _)).mono ?_
    rintro e w2 ⟨rfl, rfl⟩
    gi_wp2
    refine hR.mono ?_
    rintro e W3 (⟨rfl, hJ3, hk3⟩ | ⟨rfl, hJx3⟩)
    ·gi_wp2
     refine bodyPost_ret (results_none rfl _ _ _) rfl ?_
     exact ⟨⟨_, rfl⟩, .inl ⟨_, hE.out, hJ3⟩⟩
    ·gi_wp2
     refine bodyPost_ret (results_none rfl _ _ _) rfl ?_
     exact ⟨⟨_, rfl⟩, .inr ⟨_, trivial, hJx3⟩⟩
   ·rw [hbe]
    have HTK := qh (fun (W : World) (E' : EnvS W) => token_any s h0 (by omega) E')
    have hal := World.grownBy_alloc wr (.cells #[.int .u8 0, .complex .f64 0 0, .complex .f64 0 0, .string ⟨#[]⟩, .int .i64 0] 40) none
    have HEN := qh (E.below nl ((HS.out.grown HJ.out HS.out.bel.size hal).bel))
    have HSC := qh hsc
    clear HBC HBL hbe hal hsc
    gi_wp2_with fail
    refine ⟨trivial, ?_⟩
    with_reducible refine (callsIn_wide.2 (HTK.out _ HEN.out)).mono ?_
    rintro e w3 ⟨ht, hb⟩
    rw [HS.out.txt] at ht
    obtain ⟨ka, kb, kc, n, k, he, hn, hk0, hk1⟩ : ∃ (ka : Nat) (kb : ByteArray) (kc : Int) (n k : Nat), e = .returned (.tuple #[.agg #[.int .u8 ka, .complex .f64 0 0, .complex .f64 0 0, .string kb, .int .i64 kc], .int .i64 n, .int .i64 k]) ∧ n ≤ s.size ∧
     (k ≠ 0 → scanAt tx i = .error (i, k)) ∧ (k = 0 → 1 ≤ n ∧ scanAt tx i = (scanAt tx (i + n)).map ((⟨ka, kb, kc⟩, i, i + n) :: ·)) := by
     have hln : (tx.drop i).length = s.size := by rw [← HS.out.txt]; simp
     have hdn := drop_ne hil
     have hsc := HSC.out
     cases ho : oneN (tx.drop i) with
     | error k =>
       rw [ho] at ht hsc
       obtain ⟨⟨a, b, c⟩, n, h1, h2⟩ := ht
       rw [tok_vals0] at h2
       refine ⟨a, b, c, n, k, h2, by omega, fun _ => hsc, fun h => ?_⟩
       have := oneN_err _ _ ho
       omega
     | ok x =>
       obtain ⟨⟨a, b, c⟩, n⟩ := x
       rw [ho] at ht hsc
       have h2 : e = _ := ht
       rw [tok_vals0] at h2
       have hbd := oneN_bd _ hdn _ _ ho
       exact ⟨a, b, c, n, 0, h2, by omega, fun h => absurd rfl h, fun _ => ⟨hbd.1, hsc⟩⟩
    subst he
    have hsz := hb.size
    rw [World.size_alloc] at hsz
    have hlt3 : wr.heap.size < w3.heap.size := by omega
    have hg3 : g < w3.heap.size := by omega
    have hne3 : ¬ g = wr.heap.size := by omega
    have hB0 := (Blk.new wr 40 #[.int .u8 0, .complex .f64 0 0, .complex .f64 0 0, .string ⟨#[]⟩, .int .i64 0]).below hb (by simp)
    have hgr : wr.grownBy w3 none := (World.grownBy_alloc wr _ none).trans ⟨hb.os, hb.tape, hb.output, hb.size, fun k hk _ => hb.block k hk⟩
    have HS3 := qh (HS.out.grown HJ.out HS.out.bel.size hgr)
    obtain ⟨m0, m1, m2, m3, m4, f0, f1, f2, f3, f4⟩ := hB0.tok
    have hc3 := HS3.out.box.cell 0
    have hc3 : w3.cell? ⟨g, 0, none⟩ = some (.string s) := hc3
    have hfz3 := HS3.out.box.frozen 0
    have HB0 := qh hB0
    have HK0 := qh hk0
    have HK1 := qh hk1
    have HGR := qh hgr
    obtain ⟨ql, qc, hq⟩ : ∃ a b, at_ tx (i + n) = (a, b) := ⟨_, _, rfl⟩
    have HB := qh (HBE.out n ql qc hq)
    have y0 : (0 : Int) ≤ (n : Int) := by omega
    have y1 : (n : Int) ≤ (s.size : Int) := by omega
    clear HBE HTK HEN ht hb hsz hB0 hgr hk0 hk1
    gi_wp2_with fail
    refine ⟨trivial, ?_⟩
    with_reducible refine (callsIn_wide.2 (HB.out _)).mono ?_
    rintro e w4 ⟨rfl, hw⟩
    have hB4 := tok_stored HB0.out (.int .u8 ka) (.complex .f64 0 0) (.complex .f64 0 0) (.string kb) (.int .i64 kc)
    have hg4 : wr.grownBy w4 none := by
     rw [← hw]
     exact ((((HGR.out.setNew _ nl _).setNew _ nl _).setNew _ nl _).setNew _ nl _).setNew _ nl _
    rw [hw] at hB4
    have hlt4 := hB4.lt
    obtain ⟨m0, m1, m2, m3, m4, f0, f1, f2, f3, f4⟩ := hB4.tok
    have HS5 := qh (HS.out.grown HJ.out HS.out.bel.size ((hg4.setNew ⟨wr.heap.size, 1, none⟩ nl (.complex .f64 (fl pl) (fl pc))).setNew ⟨wr.heap.size, 2, none⟩ nl (.complex .f64 (fl ql) (fl qc))))
    have hj := HS5.out.j
    obtain ⟨fn, tmps, assign, body, hy, hR⟩ := HY.out pre ((⟨ka, kb, kc⟩, i, i + n), k) _ hj ⟨by have := HS.out.len; omega, fun h => by rw [HS.out.scan, HK0.out h]; rfl⟩
    have HE1 := qh (show k ≠ 0 → endY tx (pre ++ [((⟨ka, kb, kc⟩, i, i + n), k)]) from fun hk h => absurd (h _ (List.mem_append_right _ (List.mem_singleton.2 rfl))) hk)
    unfold Yi.enc at hy
    simp only [hp, hq, Tk.val, Tk.vals, C] at hy
    clear HB0 hB4 hw hj hg4 hc3 hfz3 hlt3 hg3
    clear hc hfz
    gi_wp2
    refine hR.mono ?_
    rintro e W3 (⟨rfl, hJ3, hk3⟩ | ⟨rfl, hJx3⟩)
    ·by_cases hk : k = 0
     ·obtain ⟨hn1, hsc⟩ := HK1.out hk
      subst hk
      have HS6 := qh (HS5.out.next HJ.out hg0 hk3 hJ3 rfl hn1 hn (by rw [HS.out.scan, hsc]; cases scanAt tx (i + n) <;> simp [Except.map]))
      have hB6 : Blk W3 g 9 #[.string s] := hk3.2.trans HS5.out.box
      have hc6 := hB6.cell 0
      have hc6 : W3.cell? ⟨g, 0, none⟩ = some (.string s) := hc6
      have hfz6 := hB6.frozen 0
      clear HS5 HS hk3 hJ3 hB6 HK0 HK1 HE1 m0 m1 m2 m3 m4 f0 f1 f2 f3 f4 hy hlt4 hglt hne3
      gi_wp2
      gi_region_with (refine ⟨trivial, ?_⟩; gi_at_call 57; refine (callsIn_wide.2 (HB.out _)).mono ?_; rintro e w7 ⟨rfl, rfl⟩)
      all_goals
       gi_wp2
       gi_roundg (s.size - n + 1)
       case rel => exact ⟨i + n, _, s.extract n s.size, by rw [hq]; rfl, by rw [ByteArray.size_extract]; omega, by rw [ByteArray.size_extract]; omega, HS6⟩
       case measure => omega
     ·have hE := qh (HE1.out hk)
      have k0 : ((k : Int) != 0) = true := by simp only [bne_iff_ne, ne_eq]; omega
      clear HE1 HS5 HS hk3 HK0 HK1 m0 m1 m2 m3 m4 f0 f1 f2 f3 f4 hy hlt4 hglt hne3
      gi_wp2
      refine bodyPost_ret (results_none rfl _ _ _) rfl ?_
      exact ⟨⟨_, rfl⟩, .inl ⟨_, hE.out, hJ3⟩⟩
    ·clear HE1 HS5 HS HK0 HK1 m0 m1 m2 m3 m4 f0 f1 f2 f3 f4 hy hlt4 hglt hne3
     gi_wp2
     refine bodyPost_ret (results_none rfl _ _ _) rfl ?_
     exact ⟨⟨_, rfl⟩, .inr ⟨_, trivial, hJx3⟩⟩
end Lx
namespace Lx
open Go.RowKit
open Pl Fl
attribute [local go_sem] run_store_complexL
attribute [local go_sem] Oper.semAt_some
theorem tokens_any (s : ByteArray) (w : World) : Calls Tryz.prog 45 #[.string s] w fun e w' => e = .returned (.func (.func 54) #[] #[.pointer (some ⟨w.heap.size, 0, none⟩)]) ∧ w' = w.alloc (.cells #[.string s] 9) := by
 go_enter Tryz.func45, Tryz.ntmps45
 go_wp2
 go_ret
 exact ⟨rfl, rfl⟩
theorem scan_ret {fn : Func} {p q r : Tmp} (h : fn.results = #[.cell p 28, .cell q 35, .cell r 32]) (tmps : Array Value) (w : World) (b1 b2 b3 : Nat) (v1 v2 v3 : Value) (hp : tmps.getD p undef = .pointer (some ⟨b1, 0, none⟩)) (hq : tmps.getD q undef = .pointer (some ⟨b2, 0, none⟩)) (hr : tmps.getD r undef = .pointer (some ⟨b3, 0, none⟩))
 (h1 : w.cell? ⟨b1, 0, none⟩ = some v1) (h2 : w.cell? ⟨b2, 0, none⟩ = some v2) (h3 : w.cell? ⟨b3, 0, none⟩ = some v3) :
 (results fn tmps).run Tryz.prog w = .ok (.tuple #[v1, v2, v3]) w := by
 have hp' : tmps[p]?.getD undef = .pointer (some ⟨b1, 0, none⟩) := by simpa using hp
 have hq' : tmps[q]?.getD undef = .pointer (some ⟨b2, 0, none⟩) := by simpa using hq
 have hr' : tmps[r]?.getD undef = .pointer (some ⟨b3, 0, none⟩) := by simpa using hr
 have l1 : (loadVar 28 ⟨b1, 0, none⟩).run Tryz.prog w = .ok v1 w := by simp [loadVar, Sem.run_bind, Tryz.isAgg28, run_load, h1]
 have l2 : (loadVar 35 ⟨b2, 0, none⟩).run Tryz.prog w = .ok v2 w := by simp [loadVar, Sem.run_bind, Tryz.isAgg35, run_load, h2]
 have l3 : (loadVar 32 ⟨b3, 0, none⟩).run Tryz.prog w = .ok v3 w := by simp [loadVar, Sem.run_bind, Tryz.isAgg32, run_load, h3]
 simp [results, h, hp', hq', hr', asAddr, l1, l2, l3, Sem.run_bind]
structure ScI (src : List UInt8) (w : World) (pre : List Yi) (W : World) : Prop where
 row : ∃ lv, Boxed W w.heap.size 28 lv ∧ W.ownsRow (w.heap.size + 1 + 1 + 1 + 1) 40 5 lv pre.length (flat src (pre.map (·.1)))
 at_ : Boxed W (w.heap.size + 1) 35 (.complex .f64 0 0)
 er : Boxed W (w.heap.size + 1 + 1) 32 (.int .i64 0)
 bel : Below w.heap.size w W
 ok : ∀ x ∈ pre, x.2 = 0
structure ScX (src : List UInt8) (w : World) (c : Code) (W : World) : Prop where
 ret : c = .ret
 err : ∃ i k, scanL src = .error (i, k) ∧ Boxed W w.heap.size 28 (.slice none 0 0) ∧ Boxed W (w.heap.size + 1) 35 (.complex .f64 (fl (Lx.at_ src i).1) (fl (Lx.at_ src i).2)) ∧ Boxed W (w.heap.size + 1 + 1) 32 (.int .i64 (k : Nat))
 bel : Below w.heap.size w W
theorem scanF_ne : ∀ (f i : Nat) (s : List UInt8), scanF f i s ≠ .ok [] := by
 intro f
 induction f with
 | zero => intro i s; simp [scanF]
 | succ f ih =>
   intro i s
   unfold scanF
   split
   ·simp
   ·split
    ·simp
    ·exact ih _ _
    ·rename_i t n _
     intro e
     cases e3 : scanF f (i + n) (s.drop n) with
     | error k => rw [e3] at e; cases e
     | ok l => rw [e3] at e; injection e with e; cases e
theorem scanL_ne {s : List UInt8} {l : List Tok} (h : scanL s = .ok l) : l ≠ [] := by
 rintro rfl
 unfold scanL at h
 split at h
 ·cases h
 ·exact scanF_ne _ _ _ h
theorem loopT_box {g B B0 r : Nat} {o : Obj} (h : LoopT (boxT g B0) B r o) : (r = g ∧ ∃ cs f, o = .cells cs 9 f) ∨ (B ≤ r ∧ o.isCells = false) := by
 rcases h with h | ⟨h, ⟨L, rfl⟩ | ⟨d, rfl⟩⟩
 ·exact .inl h
 ·exact .inr ⟨h, rfl⟩
 ·exact .inr ⟨h, rfl⟩
theorem boxed_ab {w : World} {b : Nat} {t : TypeId} {v : Value} (ht : t ≠ 9) {g B B0 : Nat} {W W' : World} {row : Option Nat} (h : Boxed W b t v) (hg : W.grownBy W' row) (hr : ∀ r, row = some r → ∃ o : Obj, W.heap[r]? = some o ∧ LoopT (boxT g B0) B r o) : Boxed W' b t v := by
 refine (hg.block b h.lt (fun e => ?_)).trans h
 obtain ⟨o, h1, h2⟩ := hr b e.symm
 rw [show W.heap[b]? = _ from h] at h1
 injection h1 with h1
 subst h1
 rcases loopT_box h2 with ⟨_, cs, f, h3⟩ | ⟨_, h3⟩
 ·injection h3 with _ h3 _; exact ht h3
 ·cases h3
theorem row_ab {g B B0 base n : Nat} {W W' : World} {row : Option Nat} {lv : Value} {xs : List Value} (h : W.ownsRow base 40 5 lv n xs) (hg : W.grownBy W' row) (hr : ∀ r, row = some r → ∃ o : Obj, W.heap[r]? = some o ∧ LoopT (boxT g B0) B r o) : W'.ownsRow base 40 5 lv n xs := by
 rcases row with _ | r
 ·exact h.kept hg (by cases lv.ownBlock <;> simp)
 ·refine h.kept hg (.inr fun e => ?_)
  obtain ⟨o, h1, h2⟩ := hr r rfl
  rcases h.2 with ⟨rfl, _⟩ | ⟨q, cap, cur, rfl, _, hqb, _⟩
  ·simp [Value.ownBlock] at e
  ·obtain rfl : q = r := by simpa [Value.ownBlock] using e
   rw [hqb] at h1
   injection h1 with h1
   subst h1
   rcases loopT_box h2 with ⟨_, cs, f, h3⟩ | ⟨_, h3⟩
   ·injection h3 with _ h3 _; cases h3
   ·cases h3
theorem scI_ab (src : List UInt8) (w : World) {g B B0 : Nat} (hg : w.heap.size ≤ g) (hB : w.heap.size ≤ B) : AbT (LoopT (boxT g B0) B) (ScI src w) := by
 intro s W W' row hs hgr hr
 obtain ⟨⟨lv, h1, h2⟩, h3, h4, h5, h6⟩ := hs
 refine ⟨⟨lv, boxed_ab (w := w) (by decide) h1 hgr hr, row_ab h2 hgr hr⟩, boxed_ab (w := w) (by decide) h3 hgr hr, boxed_ab (w := w) (by decide) h4 hgr hr, h5.grown hgr h5.size (fun k e => ?_), h6⟩
 obtain ⟨o, q1, q2⟩ := hr k e
 rcases loopT_box q2 with ⟨rfl, _⟩ | ⟨q3, _⟩ <;> omega
theorem scX_ab (src : List UInt8) (w : World) (c : Code) {g B B0 : Nat} (hg : w.heap.size ≤ g) (hB : w.heap.size ≤ B) : AbT (LoopT (boxT g B0) B) (fun (_ : List Yi) W => ScX src w c W) := by
 intro s W W' row hs hgr hr
 obtain ⟨h0, ⟨i, k, h1, h2, h3, h4⟩, h5⟩ := hs
 refine ⟨h0, ⟨i, k, h1, boxed_ab (w := w) (by decide) h2 hgr hr, boxed_ab (w := w) (by decide) h3 hgr hr, boxed_ab (w := w) (by decide) h4 hgr hr⟩, h5.grown hgr h5.size (fun k e => ?_)⟩
 obtain ⟨o, q1, q2⟩ := hr k e
 rcases loopT_box q2 with ⟨rfl, _⟩ | ⟨q3, _⟩ <;> omega
theorem Scan_any (s : ByteArray) (hs : s.size ≤ 9223372036854775800) {w : World} (E : EnvS w) :
 Calls Tryz.prog 27 #[.string s] w fun e w' => scanEnd w s.data.toList (scanL s.data.toList) e w' := by
 obtain ⟨i0, hi, hz0, hz1, hz2⟩ := info_parts info40
 have hsl : s.data.toList.length = s.size := by simp
 refine (callsIn_wide (n := 2)).1 (callsIn_of_wp_marks Tryz.func27 rfl trivial ?_ rfl)
 simp only [Tryz.ntmps27, List.size_toArray, List.length_cons, List.length_nil, Nat.reduceAdd, Nat.reduceSub, Array.replicate_succ, Array.replicate_zero, List.push_toArray, List.append_toArray, List.nil_append, List.cons_append]
 by_cases hbig : 16384 < s.size
 ·have HS := qh (show scanL s.data.toList = .error (0, 5) by unfold scanL; rw [if_pos (by omega)])
  have hbig' : (16384 : Int) < (s.size : Int) := by omega
  have HBG := qh (fun (w : World) => Begin_any w)
  clear hi hz0 hz1 hz2
  gi_wp2_with fail
  refine ⟨trivial, ?_⟩
  with_reducible refine (callsIn_wide.2 (HBG.out _)).mono ?_
  rintro e w1 ⟨rfl, rfl⟩
  simp only [C]
  gi_wp2
  refine ⟨_, scan_ret rfl _ _ w.heap.size (w.heap.size + 1) (w.heap.size + 1 + 1) (.slice none 0 0) (.complex .f64 (fl 1) (fl 1)) (.int .i64 5) rfl rfl rfl ?_ ?_ ?_, ?_⟩
  ·exact (((Blk.new w 28 #[.slice none 0 0]).alloc _).alloc _).cell 0
  ·have h2 := ((Blk.new (w.alloc (.cells #[.slice none 0 0] 28)) 35 #[.complex .f64 (fl 1) (fl 1)]).alloc (.cells #[.int .i64 5] 32)).cell 0
   rw [World.size_alloc] at h2
   exact h2
  ·rw [cell_top (by simp)]
   rfl
  rw [HS.out]
  exact ⟨rfl, (((Below.refl _ w).alloc nl _).alloc (by simp) _).alloc (by simp; omega) _⟩
 ·have hbig' : ¬ (16384 : Int) < (s.size : Int) := by omega
  have HTA := qh (fun (W : World) => tokens_any s W)
  have hal : Below w.heap.size w (((w.alloc (.cells #[.slice none 0 0] 28)).alloc (.cells #[.complex .f64 0 0] 35)).alloc (.cells #[.int .i64 0] 32)) := (((Below.refl _ w).alloc nl _).alloc (by simp) _).alloc (by simp; omega) _
  have HAL := qh hal
  gi_wp2_with fail
  refine ⟨trivial, ?_⟩
  with_reducible refine (callsIn_wide.2 (HTA.out _)).mono ?_
  rintro e w1 ⟨rfl, rfl⟩
  have hal4 := hal.alloc (o := .cells #[.string s] 9) (by simp; omega)
  have hgb := Blk.new (((w.alloc (.cells #[.slice none 0 0] 28)).alloc (.cells #[.complex .f64 0 0] 35)).alloc (.cells #[.int .i64 0] 32)) 9 #[.string s]
  have hI0 : ScI s.data.toList w [] ((((w.alloc (.cells #[.slice none 0 0] 28)).alloc (.cells #[.complex .f64 0 0] 35)).alloc (.cells #[.int .i64 0] 32)).alloc (.cells #[.string s] 9)) := by
   refine ⟨⟨.slice none 0 0, (((Boxed.new w _ _).alloc _).alloc _).alloc _, ⟨rfl, .inl ⟨rfl, rfl⟩⟩⟩, ?_, ?_, hal4, by simp⟩
   ·have := ((Boxed.new (w.alloc (.cells #[.slice none 0 0] 28)) 35 (.complex .f64 0 0)).alloc (.cells #[.int .i64 0] 32)).alloc (.cells #[.string s] 9)
    rwa [World.size_alloc] at this
   ·have := (Boxed.new ((w.alloc (.cells #[.slice none 0 0] 28)).alloc (.cells #[.complex .f64 0 0] 35)) 32 (.int .i64 0)).alloc (.cells #[.string s] 9)
    rwa [World.size_alloc, World.size_alloc] at this
  have hsz4 : ((((w.alloc (.cells #[.slice none 0 0] 28)).alloc (.cells #[.complex .f64 0 0] 35)).alloc (.cells #[.int .i64 0] 32)).alloc (.cells #[.string s] 9)).heap.size = w.heap.size + 1 + 1 + 1 + 1 := by simp
  simp only [World.size_alloc] at hgb
  clear hal HAL HTA
  gi_wp2
  generalize (((w.alloc (.cells #[.slice none 0 0] 28)).alloc (.cells #[.complex .f64 0 0] 35)).alloc (.cells #[.int .i64 0] 32)).alloc (.cells #[.string s] 9) = W0 at *
  refine range_T (by decide) (gf := 54) (lb := #[.pointer (some ⟨w.heap.size + 1 + 1 + 1, 0, none⟩)]) rfl (enters_of Tryz.func54 (by kernel_rfl) rfl) (tokens_seq E s (by omega) (w.heap.size + 1 + 1 + 1) (by omega) hgb hal4)
   (fun B r o h => by obtain ⟨_, cs, f, rfl⟩ := h; exact ⟨fun L e => (by cases e), fun d e => (by cases e)⟩) (fun h k => ⟨h.1.trans k.1, k.2.trans h.2⟩)
   (fun W l L L' hl h => ⟨belowK_b (w := W0) (by omega) W l _ _ hl h rfl rfl, World.putObj_heap_other (by omega)⟩) (Below.refl _ _) (fun _ => rfl)
   (ScI s.data.toList w) (fun pre x a1 W => ∃ b, w.heap.size + 1 + 1 + 1 + 1 ≤ b ∧ a1 = { tmps := #[.string s, undef, .pointer (some ⟨w.heap.size, 0, none⟩), .pointer (some ⟨w.heap.size + 1, 0, none⟩), .pointer (some ⟨w.heap.size + 1 + 1, 0, none⟩), .pointer (some ⟨b, 0, none⟩), .int .i64 x.2, .string s, .int .i64 s.size, .bool false, undef, .string s, .func (.func 54) #[] #[.pointer (some ⟨w.heap.size + 1 + 1 + 1, 0, none⟩)], x.1.1.val (at_ s.data.toList x.1.2.1) (at_ s.data.toList x.1.2.2), .int .i64 x.2, undef, undef, undef, undef, undef, undef, undef, undef, undef, undef], defers := [] } ∧ Blk W b 40 (Tok.vals s.data.toList x.1).toArray ∧ ScI s.data.toList w pre W) (fun c _ W => ScX s.data.toList w c W)
   (scI_ab _ w (by omega) (by omega)) ?ab (fun c => scX_ab _ w c (by omega) (by omega)) hI0 ?assign ?body ?done ?stop
  case ab =>
   intro a1 x pre W W' row hs hg hr
   obtain ⟨b, h0, h1, h2, h3⟩ := hs
   refine ⟨b, h0, h1, ?_, scI_ab _ w (by omega) (by omega) pre W W' row h3 hg hr⟩
   refine (hg.block b h2.lt (fun e => ?_)).trans h2
   obtain ⟨o, q1, q2⟩ := hr b e.symm
   rw [show W.heap[b]? = _ from h2] at q1
   injection q1 with q1
   subst q1
   rcases loopT_box q2 with ⟨_, cs, f, h3⟩ | ⟨_, h3⟩
   ·injection h3 with _ h3 _; cases h3
   ·cases h3
  case assign =>
   intro l pre x W hi' hok hsz
   obtain ⟨⟨⟨ka, kb, kc⟩, i, j⟩, k⟩ := x
   obtain ⟨pl, pc, hp⟩ : ∃ a b, at_ s.data.toList i = (a, b) := ⟨_, _, rfl⟩
   obtain ⟨ql, qc, hq⟩ : ∃ a b, at_ s.data.toList j = (a, b) := ⟨_, _, rfl⟩
   simp only [Yi.enc, hp, hq, Tk.val, Tk.vals, Tok.vals, C]
   gi_wp2
   have hsw := hi'.bel.size
   exact ⟨KeepsOthers.alloc _ _, ⟨(Below.refl _ _).alloc hsw _, Below.heap_alloc _ _ _ (by omega)⟩, W.heap.size, by omega, rfl, Blk.new _ _ _, (scI_ab _ w (g := w.heap.size + 1 + 1 + 1) (B := W0.heap.size) (B0 := 0) (by omega) (by omega)).alloc hi' _⟩
  case body =>
   rintro l pre x a1 W ⟨b, hbb, rfl, hbk, ⟨⟨lv, hv, hrow⟩, hat, her, hbel, hpre⟩⟩ hok
   obtain ⟨⟨⟨ka, kb, kc⟩, i, j⟩, k⟩ := x
   obtain ⟨pl, pc, hp⟩ : ∃ a b, at_ s.data.toList i = (a, b) := ⟨_, _, rfl⟩
   obtain ⟨ql, qc, hq⟩ : ∃ a b, at_ s.data.toList j = (a, b) := ⟨_, _, rfl⟩
   simp only [hp, hq, Tk.val, Tk.vals, Tok.vals, C] at hbk ⊢
   obtain ⟨m0, m1, m2, m3, m4, f0, f1, f2, f3, f4⟩ := hbk.tok
   have hc1 := hv.cell
   have hf1 := hv.frozen
   have hc2 := hat.cell
   have hf2 := hat.frozen
   have hc3 := her.cell
   have hf3 := her.frozen
   have hltW := hbk.lt
   have hsw := hbel.size
   by_cases hk : k = 0
   ·subst hk
    have hrw := own_mono hrow (show w.heap.size ≤ w.heap.size + 1 + 1 + 1 + 1 by omega)
    have hpl : pre.length ≤ 16384 := by have := hok.1; omega
    have hlen5 : lv.ownBlock = none ∨ ∃ q, lv.ownBlock = some q ∧ w.heap.size + 1 + 1 + 1 + 1 ≤ q := by
     cases h : lv.ownBlock with
     | none => exact .inl rfl
     | some q => exact .inr ⟨q, rfl, (hrow.lt q h).1⟩
    have HL5 := qh hlen5
    have HAT := qh hat
    have HER := qh her
    have HPR := qh hpre
    have HBE := qh hbel
    clear hlen5 hat her hpre hbel hok hc2 hf2 hc3 hf3
    gi_wp2_with (first
     | (gi_at_builtin; refine wpListIn_append_own _ rfl _ _ 28 rfl (w.heap.size + 1 + 1 + 1 + 1) 40 i0 _ 5 64 Tryz.underlying28 hi hz0 hz1 hz2 rfl (by decide) _ _ _ rfl (hrow.alloc _) ⟨W.heap.size, 0, none⟩ 1 1 [.int .u8 ka, .complex .f64 (fl pl) (fl pc), .complex .f64 (fl ql) (fl qc), .string kb, .int .i64 kc] rfl rfl (World.news_of_block (heap_alloc_new W _)) (by simp [Value.oneCell']) (by simp [maxLen]; omega) (by omega) (by simp; omega) ?_
        intro v' w3 hown' hg3 hnil3
        obtain ⟨hv3, hv4, hrow4, hko, hb4⟩ := hv.appended (by decide) hrw (by omega) nl (own_mono hown' (show w.heap.size ≤ w.heap.size + 1 + 1 + 1 + 1 by omega)) hg3
        have hown5 := hown'.kept (grownBy_setCell' w3 w.heap.size v') (.inr (fun e => by have := (hown'.lt _ e).1; omega))
        obtain ⟨g', cap', rfl⟩ := ownsRow_succ hown'
        have hc3 := hv3.cell
        have hf3 := hv3.frozen
        clear hown' hnil3 hrow4
        try go_frame)
     | gi_in)
    have hltg : w.heap.size + 1 + 1 + 1 < W.heap.size := by omega
    have hne : ∀ q, q < w.heap.size + 1 + 1 + 1 + 1 → some q ≠ lv.ownBlock := fun q hq e => by
     rcases HL5.out with h | ⟨q', h, hq'⟩
     ·rw [h] at e; cases e
     ·rw [h] at e; injection e with e; omega
    refine ⟨hko, ⟨hb4, ?_⟩, ⟨⟨_, hv4, ?_⟩, ?_, ?_, HBE.out.trans hb4, ?_⟩⟩
    ·exact (Below.heap_setCell w3 _ _ _ (by simp; omega)).trans ((hg3.block _ (by simp; omega) (hne _ (by omega))).trans (Below.heap_alloc W _ _ hltg))
    ·rw [List.map_append, List.length_append]
     simp only [List.map_cons, List.map_nil, List.length_singleton]
     rw [flat_snoc]
     simp only [Tok.vals, hp, hq, Tk.vals, C]
     exact hown5
    ·exact (((show Blk W _ _ _ from HAT.out).alloc _).grown hg3 (hne _ (by omega))).far (by simp) _
    ·exact (((show Blk W _ _ _ from HER.out).alloc _).grown hg3 (hne _ (by omega))).far (by simp; omega) _
    ·intro y hy
     rcases List.mem_append.1 hy with hy | hy
     ·exact HPR.out y hy
     ·rw [List.mem_singleton.1 hy]
   ·have k0 : ((k : Int) != 0) = true := by simp only [bne_iff_ne, ne_eq]; omega
    have n1 : ¬ b = w.heap.size := by omega
    have n2 : ¬ b = w.heap.size + 1 := by omega
    have n3 : ¬ b = w.heap.size + 1 + 1 := by omega
    gi_wp2
    gi_region
    all_goals
     gi_wp2
     refine ⟨(((KeepsOthers.setCell _ _ _).trans (KeepsOthers.setCell _ _ _)).trans (KeepsOthers.setCell _ _ _)).trans (KeepsOthers.drew _), rfl, ⟨i, k, hok.2 hk, ?_, ?_, ?_⟩, (((hbel.setCell nl _).setCell (by show _ ≤ w.heap.size + 1; omega) _).setCell (by show _ ≤ w.heap.size + 1 + 1; omega) _).drew⟩
     ·exact ((show Blk _ _ _ _ from hv.set _).far (by simp) _).far (by simp; omega) _
     ·rw [hp]
      have h1 : Blk (W.setCell ⟨w.heap.size, 0, none⟩ (.slice none 0 0)) (w.heap.size + 1) 35 #[.complex .f64 0 0] := (show Blk W _ _ _ from hat).far (by simp) _
      exact (h1.set_ 0 _).far (by simp) _
     ·have h1 : Blk (W.setCell ⟨w.heap.size, 0, none⟩ (.slice none 0 0)) (w.heap.size + 1 + 1) 32 #[.int .i64 0] := (show Blk W _ _ _ from her).far (by simp; omega) _
      exact (h1.far (by simp) (.complex .f64 (fl pl) (fl pc))).set_ 0 _
  case done =>
   rintro D xs W hD hS ⟨⟨lv, hv, hrow⟩, hat, her, hbel, hpre⟩ hK
   have HR := qh (hS hpre)
   have hne := scanL_ne (hS hpre)
   obtain ⟨m, hm⟩ : ∃ m, xs.length = m + 1 := ⟨xs.length - 1, by
    rcases xs with _ | ⟨x, xs⟩
    ·exact absurd rfl hne
    ·simp⟩
   rw [hm] at hrow
   obtain ⟨g', cap', rfl⟩ := ownsRow_succ hrow
   have hc1 := hv.cell
   have hf1 := hv.frozen
   have hc2 := hat.cell
   have hf2 := hat.frozen
   have hc3 := her.cell
   have hf3 := her.frozen
   have HRW := qh hrow
   have HBE := qh hbel
   have hltD := (Array.getElem?_eq_some_iff.1 hK).1
   clear hrow hbel hpre hS hne
   gi_wp2
   have B1 : Blk W w.heap.size 28 #[.slice (some ⟨g', 0, none⟩) (m + 1) cap'] := hv
   have B2 : Blk W (w.heap.size + 1) 35 #[.complex .f64 0 0] := hat
   have B3 : Blk W (w.heap.size + 1 + 1) 32 #[.int .i64 0] := her
   have C1 := ((B1.set_ 0 (.slice (some ⟨g', 0, none⟩) (m + 1) cap')).far (p := ⟨w.heap.size + 1, 0, none⟩) (by simp) (.complex .f64 0 0)).far (p := ⟨w.heap.size + 1 + 1, 0, none⟩) (by simp; omega) (.int .i64 0)
   have C2 := ((B2.far (p := ⟨w.heap.size, 0, none⟩) (by simp) (.slice (some ⟨g', 0, none⟩) (m + 1) cap')).set_ 0 (.complex .f64 0 0)).far (p := ⟨w.heap.size + 1 + 1, 0, none⟩) (by simp) (.int .i64 0)
   have C3 := ((B3.far (p := ⟨w.heap.size, 0, none⟩) (by simp; omega) (.slice (some ⟨g', 0, none⟩) (m + 1) cap')).far (p := ⟨w.heap.size + 1, 0, none⟩) (by simp) (.complex .f64 0 0)).set_ 0 (.int .i64 0)
   have K1 := (Below.heap_setCell ((W.setCell ⟨w.heap.size, 0, none⟩ (.slice (some ⟨g', 0, none⟩) (m + 1) cap')).setCell ⟨w.heap.size + 1, 0, none⟩ (.complex .f64 0 0)) ⟨w.heap.size + 1 + 1, 0, none⟩ (.int .i64 0) D (by simp; omega)).trans ((Below.heap_setCell (W.setCell ⟨w.heap.size, 0, none⟩ (.slice (some ⟨g', 0, none⟩) (m + 1) cap')) ⟨w.heap.size + 1, 0, none⟩ (.complex .f64 0 0) D (by simp; omega)).trans ((Below.heap_setCell W ⟨w.heap.size, 0, none⟩ (.slice (some ⟨g', 0, none⟩) (m + 1) cap') D (by simp; omega)).trans hK))
   have hgl := (HRW.out.lt g' rfl).1
   have R1 := ((HRW.out.kept (grownBy_setCell' W w.heap.size (.slice (some ⟨g', 0, none⟩) (m + 1) cap')) (.inr (by simp [Value.ownBlock]; omega))).kept (grownBy_setCell' _ (w.heap.size + 1) (.complex .f64 0 0)) (.inr (by simp [Value.ownBlock]; omega))).kept (grownBy_setCell' _ (w.heap.size + 1 + 1) (.int .i64 0)) (.inr (by simp [Value.ownBlock]; omega))
   have L1 := ((HBE.out.setCell (p := ⟨w.heap.size, 0, none⟩) nl (.slice (some ⟨g', 0, none⟩) (m + 1) cap')).setCell (p := ⟨w.heap.size + 1, 0, none⟩) (by show _ ≤ w.heap.size + 1; omega) (.complex .f64 0 0)).setCell (p := ⟨w.heap.size + 1 + 1, 0, none⟩) (by show _ ≤ w.heap.size + 1 + 1; omega) (.int .i64 0)
   refine ⟨by simp, .inl ⟨_, _, rfl, run_takeDeferred K1, ?_⟩⟩
   refine ⟨_, scan_ret rfl _ _ w.heap.size (w.heap.size + 1) (w.heap.size + 1 + 1) (.slice (some ⟨g', 0, none⟩) (m + 1) cap') (.complex .f64 0 0) (.int .i64 0) rfl rfl rfl (Blk.cell (t := 28) ((World.putObj_heap_other (by omega)).trans C1) 0) (Blk.cell (t := 35) ((World.putObj_heap_other (by omega)).trans C2) 0) (Blk.cell (t := 32) ((World.putObj_heap_other (by omega)).trans C3) 0), ?_⟩
   rw [HR.out]
   refine ⟨g', cap', by rw [List.length_map, hm], ?_, L1.grown (grownBy_putObj' _ _ _) L1.size (fun k e => by cases e; omega)⟩
   rw [List.length_map, hm]
   exact own_mono (ownsRow_putObj R1 (.deferred none) K1 rfl) (by omega)
  case stop =>
   rintro D c pre W hD _ ⟨rfl, ⟨i, k, h1, h2, h3, h4⟩, hbel⟩ hK
   have hc1 := h2.cell
   have hc2 := h3.cell
   have hc3 := h4.cell
   gi_wp2
   refine ⟨by simp, .inl ⟨_, _, rfl, run_takeDeferred hK, ?_⟩⟩
   refine ⟨_, scan_ret rfl _ _ w.heap.size (w.heap.size + 1) (w.heap.size + 1 + 1) _ _ _ rfl rfl rfl (Blk.cell (t := 28) ((World.putObj_heap_other (by omega)).trans h2) 0) (Blk.cell (t := 35) ((World.putObj_heap_other (by omega)).trans h3) 0) (Blk.cell (t := 32) ((World.putObj_heap_other (by omega)).trans h4) 0), ?_⟩
   rw [h1]
   exact ⟨rfl, hbel.grown (grownBy_putObj' _ _ _) hbel.size (fun k e => by cases e; omega)⟩
end Lx
end Go.Proofs.YtkemhmfdooghkaaGreatDoor
