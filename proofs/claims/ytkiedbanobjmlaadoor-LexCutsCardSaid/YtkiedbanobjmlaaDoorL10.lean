/- The walk of the iterator over a source's tokens. -/
import Derived.Test.YtkiedbanobjmlaaDoorL9
import Derived.Test.YtkiedbanobjmlaaDoorR10
import Derived.Test.YtkiedbanobjmlaaDoorRange
import Derived.OwnWalkIn
import Derived.TacticsInMore
import Derived.RegionIn
import Derived.Stop.RegionWithIn
import Derived.LoopNIn
import Derived.LoopIn
import Derived.Sort.LoopGhostIn
set_option linter.unusedSimpArgs false
set_option linter.unusedVariables false
namespace Go.Proofs.YtkiedbanobjmlaaDoor.Lx
open Go.RowKit
open Pl Fl
attribute [local go_sem] run_store_complexL

/-- What the iterator hands over: a token with its offsets, an error's number. -/
abbrev Yi := Tok × Nat
def Yi.enc (src : List UInt8) (x : Yi) : Array Value := #[x.1.1.val (at_ src x.1.2.1) (at_ src x.1.2.2), .int .i64 x.2]
def okY (src : List UInt8) (pre : List Yi) (x : Yi) : Prop := pre.length ≤ src.length ∧ (x.2 ≠ 0 → scanL src = .error (x.1.2.1, x.2))
def endY (src : List UInt8) (xs : List Yi) : Prop := (∀ x ∈ xs, x.2 = 0) → scanL src = .ok (xs.map (·.1))
/-- What it turns: the box of what is left of the text. -/
def boxT (g : Nat) (_ r : Nat) (o : Obj) : Prop := r = g ∧ ∃ cs f, o = .cells cs 9 f
/-- What a round keeps: the blocks below the call's own, the text's box. -/
def KpS (n g : Nat) (A C : World) : Prop := Below n A C ∧ C.heap[g]? = A.heap[g]?
/-- Where it stands, between two rounds. -/
structure ItS (src : List UInt8) (w0 : World) (g : Nat) (J : List Yi → World → Prop) (B : Nat) (i : Nat) (pre : List Yi) (s : ByteArray) (wr : World) : Prop where
  txt : s.data.toList = src.drop i
  box : Blk wr g 9 #[.string s]
  bel : Below w0.heap.size w0 wr
  j : J pre wr
  len : pre.length ≤ i
  ok : ∀ x ∈ pre, x.2 = 0
  scan : scanL src = (scanAt src i).map (pre.map (·.1) ++ ·)
  big : B ≤ wr.heap.size
section
variable {src : List UInt8} {w0 wr : World} {g B i : Nat} {J Jx : List Yi → World → Prop} {pre : List Yi} {s : ByteArray}
theorem ItS.grown {w' : World} (h : ItS src w0 g J B i pre s wr) (hJ : AbT (boxT g B) J) (hw : w0.heap.size ≤ wr.heap.size) (hg : wr.grownBy w' none) : ItS src w0 g J B i pre s w' :=
  ⟨h.txt, h.box.grown hg (by simp), h.bel.grown hg (by omega) (fun k e => by cases e), hJ _ _ _ none h.j hg (fun r e => by cases e), h.len, h.ok, h.scan, Nat.le_trans h.big hg.size⟩
/-- Behind a step: the text's box holds the rest. -/
theorem ItS.step (h : ItS src w0 g J B i pre s wr) (hJ : AbT (boxT g B) J) (hg : w0.heap.size ≤ g) {n : Nat} (hn : n ≤ s.size) (hsc : scanL src = (scanAt src (i + n)).map (pre.map (·.1) ++ ·)) : ItS src w0 g J B (i + n) pre (s.extract n s.size) (wr.setCell ⟨g, 0, none⟩ (.string (s.extract n s.size))).drew := by
  have hg2 : wr.grownBy (wr.setCell ⟨g, 0, none⟩ (.string (s.extract n s.size))).drew (some g) :=
    ⟨rfl, rfl, rfl, by show wr.heap.size ≤ (wr.setCell _ _).heap.size; rw [World.size_setCell]; exact Nat.le_refl _, fun k _ hk => Below.heap_setCell wr _ _ k (fun e => hk (by rw [e]))⟩
  refine ⟨by rw [ext_drop, h.txt, List.drop_drop], ?_, (h.bel.setCell hg _).drew, hJ _ _ _ (some g) h.j hg2 (fun r e => ?_), Nat.le_trans h.len (Nat.le_add_right _ _), h.ok, hsc, Nat.le_trans h.big hg2.size⟩
  · have := h.box.set_ 0 (.string (s.extract n s.size))
    exact this
  · cases e
    exact ⟨_, h.box, rfl, _, _, rfl⟩
/-- .. and one token more. -/
theorem ItS.next {w' : World} {x : Yi} (h : ItS src w0 g J B i pre s wr) (hJ : AbT (boxT g B) J) (hg : w0.heap.size ≤ g) (hk : KpS w0.heap.size g wr w') (hj : J (pre ++ [x]) w') (hx : x.2 = 0) {n : Nat} (hn1 : 1 ≤ n) (hn : n ≤ s.size) (hsc : scanL src = (scanAt src (i + n)).map ((pre ++ [x]).map (·.1) ++ ·)) : ItS src w0 g J B (i + n) (pre ++ [x]) (s.extract n s.size) (w'.setCell ⟨g, 0, none⟩ (.string (s.extract n s.size))).drew := by
  have hg2 : w'.grownBy (w'.setCell ⟨g, 0, none⟩ (.string (s.extract n s.size))).drew (some g) :=
    ⟨rfl, rfl, rfl, by show w'.heap.size ≤ (w'.setCell _ _).heap.size; rw [World.size_setCell]; exact Nat.le_refl _, fun k _ hk => Below.heap_setCell w' _ _ k (fun e => hk (by rw [e]))⟩
  have hb : Blk w' g 9 #[.string s] := hk.2.trans h.box
  refine ⟨by rw [ext_drop, h.txt, List.drop_drop], ?_, ((h.bel.trans hk.1).setCell hg _).drew, hJ _ _ _ (some g) hj hg2 (fun r e => ?_), ?_, ?_, hsc, Nat.le_trans (Nat.le_trans h.big hk.1.size) hg2.size⟩
  · have := hb.set_ 0 (.string (s.extract n s.size))
    exact this
  · cases e
    exact ⟨_, hb, rfl, _, _, rfl⟩
  · have := h.len
    rw [List.length_append, List.length_singleton]
    omega
  · intro y hy
    rcases List.mem_append.1 hy with hy | hy
    · exact h.ok y hy
    · rw [List.mem_singleton.1 hy]; exact hx
theorem _root_.Go.World.grownBy.setNew {w w' : World} {row : Option Nat} (h : w.grownBy w' row) (p : Addr) (hp : w.heap.size ≤ p.block) (v : Value) : w.grownBy (w'.setCell p v) row :=
  ⟨h.os, h.tape, h.output, by rw [World.size_setCell]; exact h.size, fun k hk hne => (Below.heap_setCell w' p v k (by omega)).trans (h.block k hk hne)⟩
theorem grown_below {w w' : World} (h : Below w.heap.size w w') : w.grownBy w' none := ⟨h.os, h.tape, h.output, h.size, fun k hk _ => h.block k hk⟩
end
set_option maxRecDepth 100000 in
set_option maxHeartbeats 12800000 in
theorem tokens_seq {w0 w : World} (E : EnvS w0) (src : ByteArray) (hsrc : src.size ≤ 16384) (g : Nat) (hg0 : w0.heap.size ≤ g) (hg : Blk w g 9 #[.string src]) (hb0 : Below w0.heap.size w0 w) :
    SeqT (boxT g) Tryd.prog 1 44 #[.pointer (some ⟨g, 0, none⟩)] (Yi.enc src.data.toList) (KpS w0.heap.size g) (endY src.data.toList) (fun _ => True) (okY src.data.toList) w := by
  intro l J Jx W hW hJ hJx hY h0
  have HAT := Lib.hid (at_is src.data.toList (by simpa using hsrc))
  have hsl : src.data.toList.length = src.size := by simp
  have HSL := Lib.hid (show scanL src.data.toList = scanAt src.data.toList 0 by rw [scanL_eq, if_neg (by omega)])
  have HS0 := Lib.hid (show ItS src.data.toList w0 g J W.heap.size 0 [] src W from ⟨rfl, hg.below hW hg.lt, hb0.trans (hW.mono hb0.size), h0, Nat.le_refl _, (by simp), (by rw [HSL.out]; cases scanAt src.data.toList 0 <;> rfl), Nat.le_refl _⟩)
  have HJ := Lib.hid hJ
  have HY := Lib.hid hY
  have HBG := Lib.hid (fun (w : World) => Begin_any w)
  generalize src.data.toList = tx at *
  clear hg hJ hJx hY h0
  refine callsIn_of_wp Tryd.func44 rfl trivial ?_ rfl
  simp only [Tryd.ntmps44, List.size_toArray, List.length_cons, List.length_nil, Nat.reduceAdd, Nat.reduceSub, Array.replicate_succ, Array.replicate_zero, List.push_toArray, List.append_toArray, List.nil_append, List.cons_append]
  gi_wp2_with fail
  refine ⟨trivial, (callsIn_wide.2 (HBG.out _)).mono ?_⟩
  rintro e w1 ⟨rfl, rfl⟩
  gi_wp2
  gi_loopg [3] (tx.length + 1) (fun gh av wr => ∃ (i : Nat) (pre : List Yi) (s : ByteArray), av = C (at_ tx i) ∧ i + s.size = tx.length ∧ s.size < gh ∧ Hid (ItS tx w0 g J W.heap.size i pre s wr))
  case atStart => exact ⟨0, [], src, rfl, by omega, by omega, HS0⟩
  case round =>
    obtain ⟨i, pre, s, rfl, hi, hgh, HS⟩ := hrel
    obtain ⟨pl, pc, hp⟩ : ∃ a b, at_ tx i = (a, b) := ⟨_, _, rfl⟩
    have hc := HS.out.box.cell 0
    have hfz := HS.out.box.frozen 0
    have hc : wr.cell? ⟨g, 0, none⟩ = some (.string s) := hc
    have hglt := HS.out.box.lt
    rw [hp]
    simp only [C]
    rcases Nat.eq_zero_or_pos s.size with h0 | h0
    · have hre : s.toList.isEmpty = true := by rw [ByteArray.toList_eq, List.isEmpty_iff, empty_iff]; exact h0
      have hre2 : s.toList = [] := by rw [ByteArray.toList_eq, empty_iff]; exact h0
      have hii : tx.length ≤ i := by omega
      have hj := HS.out.j
      obtain ⟨fn, tmps, assign, body, hy, hR⟩ := HY.out pre ((noTk, i, i), 0) wr hj ⟨by have := HS.out.len; omega, fun h => absurd rfl h⟩
      have hE := Lib.hid (show endY tx (pre ++ [((noTk, i, i), 0)]) from fun _ => by rw [HS.out.scan, scanAt_end hii]; simp [Except.map])
      unfold Yi.enc at hy
      simp only [hp, Tk.val, Tk.vals, C, noTk, Int.cast_ofNat_Int] at hy
      clear HS HY HJ HSL HAT
      gi_wp2
      refine hR.mono ?_
      rintro e W3 (⟨rfl, hJ3, hk3⟩ | ⟨rfl, hJx3⟩)
      · gi_wp2
        go_end0
        exact ⟨⟨_, rfl⟩, .inl ⟨_, hE.out, hJ3⟩⟩
      · gi_wp2
        go_end0
        exact ⟨⟨_, rfl⟩, .inr ⟨_, trivial, hJx3⟩⟩
    · have hne : s.toList.isEmpty = false := by rw [ByteArray.toList_eq, List.isEmpty_eq_false_iff, ne_eq, empty_iff]; omega
      have hne2 : ¬ s.toList = [] := by rw [ByteArray.toList_eq, empty_iff]; omega
      have hil : i < tx.length := by omega
      have HBC := Lib.hid (blank_cases hil)
      have HBL := Lib.hid (blank_any s (by omega) wr)
      rw [HS.out.txt] at HBL
      have hpn := (HAT.out i).1
      have hpb := (HAT.out i).2
      rw [hp] at hpn hpb
      have HBE := Lib.hid (fun (n : Nat) (ql qc : Nat) (hq : at_ tx (i + n) = (ql, qc)) (W : World) => (show Calls Tryd.prog 47 #[.complex .f64 (fl pl) (fl pc), .string (s.extract 0 n)] W fun e w' => e = .returned (.complex .f64 (fl ql) (fl qc)) ∧ W = w' by
        have := Behind_any (pl, pc) (s.extract 0 n) W (by show pl < _; have := hpb.1; dsimp only at this; omega) (by show pc < _; have := hpb.2; dsimp only at this; omega) (by rw [ByteArray.size_extract]; omega)
        rw [take_data, HS.out.txt, ← hp, at_add, hq] at this
        rw [hp] at this
        exact this))
      clear hpn hpb
      gi_wp2_with fail
      refine ⟨trivial, (callsIn_wide.2 HBL.out).mono ?_⟩
      rintro e w1 ⟨rfl, rfl⟩
      rcases HBC.out with ⟨n, hn1, hn2, hbe, hsc⟩ | ⟨hbe, hsc⟩ | ⟨hbe, hsc⟩
      · rw [hbe]
        have n0 : ((n : Int) == 0) = false := by simp only [beq_eq_false_iff_ne, ne_eq]; omega
        clear HBC HBL hbe
        obtain ⟨ql, qc, hq⟩ : ∃ a b, at_ tx (i + n) = (a, b) := ⟨_, _, rfl⟩
        have HB := Lib.hid (HBE.out n ql qc hq)
        have y0 : (0 : Int) ≤ (n : Int) := by omega
        have y1 : (n : Int) ≤ (s.size : Int) := by omega
        clear HBE
        gi_wp2
        gi_region_with (refine ⟨trivial, ?_⟩; gi_at_call 47; refine (callsIn_wide.2 (HB.out _)).mono ?_; rintro e w2 ⟨rfl, rfl⟩)
        all_goals
          gi_wp2
          have HN := Lib.hid (HS.out.step HJ.out hg0 (n := n) (by omega) (by rw [HS.out.scan, hsc]) )
          gi_roundg (s.size - n + 1)
          case rel => exact ⟨i + n, pre, s.extract n s.size, by rw [hq]; rfl, by rw [ByteArray.size_extract]; omega, by rw [ByteArray.size_extract]; omega, HN⟩
          case measure => omega
      · rw [hbe]
        obtain ⟨ql, qc, hq⟩ : ∃ a b, at_ tx (i + 0) = (a, b) := ⟨_, _, rfl⟩
        have hb0' := HBE.out 0 ql qc hq
        rw [show s.extract 0 0 = ByteArray.empty from by simp] at hb0'
        have HB := Lib.hid hb0'
        have y1 : (0 : Int) ≤ (s.size : Int) := by omega
        clear HBE HBC HBL hbe hb0'
        have HS2 := Lib.hid (HS.out.grown HJ.out (Nat.le_trans HS.out.bel.size (Nat.le_refl _)) (World.grownBy_alloc wr (.cells #[.int .u8 0, .complex .f64 (fl pl) (fl pc), .complex .f64 (fl ql) (fl qc), .string ⟨#[]⟩, .int .i64 0] 35) none))
        have hj := HS2.out.j
        obtain ⟨fn, tmps, assign, body, hy, hR⟩ := HY.out pre ((noTk, i, i + 0), 43) _ hj ⟨by have := HS.out.len; omega, fun h => by rw [HS.out.scan, hsc]; rfl⟩
        have hE := Lib.hid (show endY tx (pre ++ [((noTk, i, i + 0), 43)]) from fun h => absurd (h _ (List.mem_append_right _ (List.mem_singleton.2 rfl))) (by simp))
        unfold Yi.enc at hy
        simp only [hp, hq, Tk.val, Tk.vals, C, noTk, Int.cast_ofNat_Int] at hy
        clear HS HY HJ HSL HAT hj
        gi_wp2_with fail
        refine ⟨trivial, ?_⟩
        with_reducible refine (callsIn_wide.2 (HB.out _)).mono ?_
        rintro e w2 ⟨rfl, rfl⟩
        gi_wp2
        refine hR.mono ?_
        rintro e W3 (⟨rfl, hJ3, hk3⟩ | ⟨rfl, hJx3⟩)
        · gi_wp2
          refine bodyPost_ret (results_none rfl _ _ _) rfl ?_
          exact ⟨⟨_, rfl⟩, .inl ⟨_, hE.out, hJ3⟩⟩
        · gi_wp2
          refine bodyPost_ret (results_none rfl _ _ _) rfl ?_
          exact ⟨⟨_, rfl⟩, .inr ⟨_, trivial, hJx3⟩⟩
      · rw [hbe]
        have HTK := Lib.hid (fun (W : World) (E' : EnvS W) => token_any s h0 (by omega) E')
        have hal := World.grownBy_alloc wr (.cells #[.int .u8 0, .complex .f64 0 0, .complex .f64 0 0, .string ⟨#[]⟩, .int .i64 0] 35) none
        have HEN := Lib.hid (E.below (Nat.le_refl _) ((HS.out.grown HJ.out HS.out.bel.size hal).bel))
        have HSC := Lib.hid hsc
        clear HBC HBL hbe hal hsc
        gi_wp2_with fail
        refine ⟨trivial, ?_⟩
        with_reducible refine (callsIn_wide.2 (HTK.out _ HEN.out)).mono ?_
        rintro e w3 ⟨ht, hb⟩
        rw [HS.out.txt] at ht
        obtain ⟨ka, kb, kc, n, k, he, hn, hk0, hk1⟩ : ∃ (ka : Nat) (kb : ByteArray) (kc : Int) (n k : Nat), e = .returned (.tuple #[.agg #[.int .u8 ka, .complex .f64 0 0, .complex .f64 0 0, .string kb, .int .i64 kc], .int .i64 n, .int .i64 k]) ∧ n ≤ s.size ∧
            (k ≠ 0 → scanAt tx i = .error (i, k)) ∧ (k = 0 → 1 ≤ n ∧ scanAt tx i = (scanAt tx (i + n)).map ((⟨ka, kb, kc⟩, i, i + n) :: ·)) := by
          have hln : (tx.drop i).length = s.size := by rw [← HS.out.txt]; simp
          have hdn := drop_ne hil
          have hsc := HSC.out
          cases ho : oneN (tx.drop i) with
          | error k =>
            rw [ho] at ht hsc
            obtain ⟨⟨a, b, c⟩, n, h1, h2⟩ := ht
            rw [tok_vals0] at h2
            refine ⟨a, b, c, n, k, h2, by omega, fun _ => hsc, fun h => ?_⟩
            have := oneN_err _ _ ho
            omega
          | ok x =>
            obtain ⟨⟨a, b, c⟩, n⟩ := x
            rw [ho] at ht hsc
            have h2 : e = _ := ht
            rw [tok_vals0] at h2
            have hbd := oneN_bd _ hdn _ _ ho
            exact ⟨a, b, c, n, 0, h2, by omega, fun h => absurd rfl h, fun _ => ⟨hbd.1, hsc⟩⟩
        subst he
        have hsz := hb.size
        rw [World.size_alloc] at hsz
        have hlt3 : wr.heap.size < w3.heap.size := by omega
        have hg3 : g < w3.heap.size := by omega
        have hne3 : ¬ g = wr.heap.size := by omega
        have hB0 := (Blk.new wr 35 #[.int .u8 0, .complex .f64 0 0, .complex .f64 0 0, .string ⟨#[]⟩, .int .i64 0]).below hb (by simp)
        have hgr : wr.grownBy w3 none := (World.grownBy_alloc wr _ none).trans ⟨hb.os, hb.tape, hb.output, hb.size, fun k hk _ => hb.block k hk⟩
        have HS3 := Lib.hid (HS.out.grown HJ.out HS.out.bel.size hgr)
        obtain ⟨m0, m1, m2, m3, m4, f0, f1, f2, f3, f4⟩ := hB0.tok
        have hc3 := HS3.out.box.cell 0
        have hc3 : w3.cell? ⟨g, 0, none⟩ = some (.string s) := hc3
        have hfz3 := HS3.out.box.frozen 0
        have HB0 := Lib.hid hB0
        have HK0 := Lib.hid hk0
        have HK1 := Lib.hid hk1
        have HGR := Lib.hid hgr
        obtain ⟨ql, qc, hq⟩ : ∃ a b, at_ tx (i + n) = (a, b) := ⟨_, _, rfl⟩
        have HB := Lib.hid (HBE.out n ql qc hq)
        have y0 : (0 : Int) ≤ (n : Int) := by omega
        have y1 : (n : Int) ≤ (s.size : Int) := by omega
        clear HBE HTK HEN ht hb hsz hB0 hgr hk0 hk1
        gi_wp2_with fail
        refine ⟨trivial, ?_⟩
        with_reducible refine (callsIn_wide.2 (HB.out _)).mono ?_
        rintro e w4 ⟨rfl, hw⟩
        have hB4 := tok_stored HB0.out (.int .u8 ka) (.complex .f64 0 0) (.complex .f64 0 0) (.string kb) (.int .i64 kc)
        have hg4 : wr.grownBy w4 none := by
          rw [← hw]
          exact ((((HGR.out.setNew _ (Nat.le_refl _) _).setNew _ (Nat.le_refl _) _).setNew _ (Nat.le_refl _) _).setNew _ (Nat.le_refl _) _).setNew _ (Nat.le_refl _) _
        rw [hw] at hB4
        have hlt4 := hB4.lt
        obtain ⟨m0, m1, m2, m3, m4, f0, f1, f2, f3, f4⟩ := hB4.tok
        have HS5 := Lib.hid (HS.out.grown HJ.out HS.out.bel.size ((hg4.setNew ⟨wr.heap.size, 1, none⟩ (Nat.le_refl _) (.complex .f64 (fl pl) (fl pc))).setNew ⟨wr.heap.size, 2, none⟩ (Nat.le_refl _) (.complex .f64 (fl ql) (fl qc))))
        have hj := HS5.out.j
        obtain ⟨fn, tmps, assign, body, hy, hR⟩ := HY.out pre ((⟨ka, kb, kc⟩, i, i + n), k) _ hj ⟨by have := HS.out.len; omega, fun h => by rw [HS.out.scan, HK0.out h]; rfl⟩
        have HE1 := Lib.hid (show k ≠ 0 → endY tx (pre ++ [((⟨ka, kb, kc⟩, i, i + n), k)]) from fun hk h => absurd (h _ (List.mem_append_right _ (List.mem_singleton.2 rfl))) hk)
        unfold Yi.enc at hy
        simp only [hp, hq, Tk.val, Tk.vals, C] at hy
        clear HB0 hB4 hw hj hg4 hc3 hfz3 hlt3 hg3
        clear hc hfz
        gi_wp2
        refine hR.mono ?_
        rintro e W3 (⟨rfl, hJ3, hk3⟩ | ⟨rfl, hJx3⟩)
        · by_cases hk : k = 0
          · obtain ⟨hn1, hsc⟩ := HK1.out hk
            subst hk
            have HS6 := Lib.hid (HS5.out.next HJ.out hg0 hk3 hJ3 rfl hn1 hn (by rw [HS.out.scan, hsc]; cases scanAt tx (i + n) <;> simp [Except.map]))
            have hB6 : Blk W3 g 9 #[.string s] := hk3.2.trans HS5.out.box
            have hc6 := hB6.cell 0
            have hc6 : W3.cell? ⟨g, 0, none⟩ = some (.string s) := hc6
            have hfz6 := hB6.frozen 0
            clear HS5 HS hk3 hJ3 hB6 HK0 HK1 HE1 m0 m1 m2 m3 m4 f0 f1 f2 f3 f4 hy hlt4 hglt hne3
            gi_wp2
            gi_region_with (refine ⟨trivial, ?_⟩; gi_at_call 47; refine (callsIn_wide.2 (HB.out _)).mono ?_; rintro e w7 ⟨rfl, rfl⟩)
            all_goals
              gi_wp2
              gi_roundg (s.size - n + 1)
              case rel => exact ⟨i + n, _, s.extract n s.size, by rw [hq]; rfl, by rw [ByteArray.size_extract]; omega, by rw [ByteArray.size_extract]; omega, HS6⟩
              case measure => omega
          · have hE := Lib.hid (HE1.out hk)
            have k0 : ((k : Int) != 0) = true := by simp only [bne_iff_ne, ne_eq]; omega
            clear HE1 HS5 HS hk3 HK0 HK1 m0 m1 m2 m3 m4 f0 f1 f2 f3 f4 hy hlt4 hglt hne3
            gi_wp2
            refine bodyPost_ret (results_none rfl _ _ _) rfl ?_
            exact ⟨⟨_, rfl⟩, .inl ⟨_, hE.out, hJ3⟩⟩
        · clear HE1 HS5 HS HK0 HK1 m0 m1 m2 m3 m4 f0 f1 f2 f3 f4 hy hlt4 hglt hne3
          gi_wp2
          refine bodyPost_ret (results_none rfl _ _ _) rfl ?_
          exact ⟨⟨_, rfl⟩, .inr ⟨_, trivial, hJx3⟩⟩
end Go.Proofs.YtkiedbanobjmlaaDoor.Lx
