/- The contracts of word.does (the map of what ops do) and of word.Does (what becomes of two words). -/
import Derived.Test.YtdodbbedlgglcaaDoorD3
import Derived.Deep.CutRange
set_option linter.unusedSimpArgs false
set_option linter.unusedVariables false
namespace Go.Proofs.YtdodbbedlgglcaaDoor.Wd
open Go.RowKit
open WPlain

theorem mixed : Tryd.prog.follows .mixedOrders = true := by kernel_rfl
theorem call_Int : ∀ (args : Array Value) (w : World), (callFunc 15 args).run Tryd.prog w = .ok (.enter 15 args) w := fun args w => by kernel_rfl

def frame1 (a b : Int) (p2 p3 : Value) : Act := ⟨#[.int .u16 a, .int .u16 b, p2, p3, .map none, undef, undef, undef, undef, undef, undef, undef, undef, undef, undef, undef, undef, undef, undef, undef, undef, undef, undef, undef, undef, undef, undef, undef, undef, undef, undef, undef, undef, undef, undef, undef, undef, undef, undef, undef, undef, undef, undef, undef, undef, undef, undef, undef, undef, undef], []⟩
def frame2 (a b X Y : Int) (p2 p3 : Value) (b5 b6 : Nat) : Act := ⟨#[.int .u16 a, .int .u16 b, p2, p3, .map none, .pointer (some ⟨b5, 0, none⟩), .pointer (some ⟨b6, 0, none⟩), undef, undef, .int .u16 a, .int .i64 X, .int .u16 b, .int .i64 Y, undef, undef, undef, undef, undef, undef, undef, undef, undef, undef, undef, undef, undef, undef, undef, undef, undef, undef, undef, undef, undef, undef, undef, undef, undef, undef, undef, undef, undef, undef, undef, undef, undef, undef, undef, undef, undef], []⟩
def frame3 (a b X Y U V : Int) (p2 p3 : Value) (b5 b6 b7 b8 : Nat) : Act := ⟨#[.int .u16 a, .int .u16 b, p2, p3, .map none, .pointer (some ⟨b5, 0, none⟩), .pointer (some ⟨b6, 0, none⟩), .pointer (some ⟨b7, 0, none⟩), .pointer (some ⟨b8, 0, none⟩), .int .u16 a, .int .i64 X, .int .u16 b, .int .i64 Y, .int .u16 a, .int .i64 U, .int .u16 b, .int .i64 V, undef, undef, undef, undef, undef, undef, undef, undef, undef, undef, undef, undef, undef, undef, undef, undef, undef, undef, undef, undef, undef, undef, undef, undef, undef, undef, undef, undef, undef, undef, undef, undef, undef], []⟩
theorem frame_12 (a b X Y : Int) (p2 p3 : Value) (b5 b6 : Nat) : seqTo numOps (numVal a b X Y b5 b6) (frame1 a b p2 p3) 8 = frame2 a b X Y p2 p3 b5 b6 := by kernel_rfl
theorem frame_23 (a b X Y U V : Int) (p2 p3 : Value) (b5 b6 b7 b8 : Nat) : seqTo wordOps (numVal a b U V b7 b8) (frame2 a b X Y p2 p3 b5 b6) 8 = frame3 a b X Y U V p2 p3 b5 b6 b7 b8 := by kernel_rfl
theorem frame_34 (a b X Y U V : Int) (p2 p3 : Value) (b5 b6 b7 b8 m : Nat) :
    (seqTo doesOps (fillVal 31 doesF doesC (frame3 a b X Y U V p2 p3 b5 b6 b7 b8) m) (frame3 a b X Y U V p2 p3 b5 b6 b7 b8) 65).tmps.getD 4 undef = .map (some m) := by kernel_rfl
theorem frame_3d (a b X Y U V : Int) (p2 p3 : Value) (b5 b6 b7 b8 m : Nat) :
    (seqTo doesOps (fillVal 31 doesF doesC (frame3 a b X Y U V p2 p3 b5 b6 b7 b8) m) (frame3 a b X Y U V p2 p3 b5 b6 b7 b8) 65).defers = [] := by kernel_rfl

/-- The world behind word.does: the map, and the variables that its functions capture. -/
structure Made (w0 w : World) (a b : Nat) (m : Nat) (fr : Act) (B2 B3 B5 B6 B7 B8 : Nat) (es : Array MapEntry) (c : Nat) : Prop where
  below : Below w0.heap.size w0 w
  hm : w.heap[m]? = some (.map es c)
  ent : Entries (fnVal doesF doesC fr) 31 es
  e2 : fr.eval (.tmp 2) = .pointer (some ⟨B2, 0, none⟩)
  e3 : fr.eval (.tmp 3) = .pointer (some ⟨B3, 0, none⟩)
  e5 : fr.eval (.tmp 5) = .pointer (some ⟨B5, 0, none⟩)
  e6 : fr.eval (.tmp 6) = .pointer (some ⟨B6, 0, none⟩)
  e7 : fr.eval (.tmp 7) = .pointer (some ⟨B7, 0, none⟩)
  e8 : fr.eval (.tmp 8) = .pointer (some ⟨B8, 0, none⟩)
  c2 : w.cell? ⟨B2, 0, none⟩ = some (.int .u16 a)
  c3 : w.cell? ⟨B3, 0, none⟩ = some (.int .u16 b)
  c5 : w.cell? ⟨B5, 0, none⟩ = some (.int .i64 (sg a))
  c6 : w.cell? ⟨B6, 0, none⟩ = some (.int .i64 (sg b))
  c7 : w.cell? ⟨B7, 0, none⟩ = some (.int .i64 a)
  c8 : w.cell? ⟨B8, 0, none⟩ = some (.int .i64 b)

def MadeEnd (w0 : World) (a b : Nat) (e : Ending) (w : World) : Prop :=
  ∃ m fr B2 B3 B5 B6 B7 B8 es c, e = .returned (.map (some m)) ∧ Made w0 w a b m fr B2 B3 B5 B6 B7 B8 es c

theorem cell_below {w w' : World} (h : Below w.heap.size w w') {A : Addr} {v : Value} (hc : w.cell? A = some v) : w'.cell? A = some v := by
  rw [h.cell (World.block_lt_of_cell? _ _ hc)]; exact hc

set_option maxRecDepth 100000 in
set_option maxHeartbeats 2000000 in
theorem doesMap_any (a b : Nat) (w : World) (ha : a < 65536) (hb : b < 65536) :
    Calls Tryd.prog 23 #[.int .u16 a, .int .u16 b] w (MadeEnd w a b) := by
  go_enter Tryd.func23, Tryd.ntmps23
  go_wp2_with fail
  have k2 : ((w.alloc (.cells #[.int .u16 a] 22)).alloc (.cells #[.int .u16 b] 22)).cell? ⟨w.heap.size, 0, none⟩ = some (.int .u16 a) := by simp [go_sem]
  have k3 : ((w.alloc (.cells #[.int .u16 a] 22)).alloc (.cells #[.int .u16 b] 22)).cell? ⟨w.heap.size + 1, 0, none⟩ = some (.int .u16 b) := by simp [go_sem]
  have q0 : Below w.heap.size w ((w.alloc (.cells #[.int .u16 a] 22)).alloc (.cells #[.int .u16 b] 22)) := ((Below.refl _ _).alloc (Nat.le_refl _) _).alloc (by simp) _
  generalize (w.alloc (.cells #[.int .u16 a] 22)).alloc (.cells #[.int .u16 b] 22) = w1 at *
  generalize hB3 : w.heap.size + 1 = B3 at *
  refine wp_num_region (a0 := frame1 a b (.pointer (some ⟨w.heap.size, 0, none⟩)) (.pointer (some ⟨B3, 0, none⟩))) num_ops does_types mixed rfl (a : Int) (b : Int) (sg a) (sg b) ⟨w.heap.size, 0, none⟩ ⟨B3, 0, none⟩ rfl rfl k2 k3 ?_ ?_ ?_
  · intro o s W K ho he hk
    exact call_enter call_Int ho (by rw [he]; exact int_any a W ha) hk
  · intro o s W K ho he hk
    exact call_enter call_Int ho (by rw [he]; exact int_any b W hb) hk
  intro b5 b6 w2 hN
  rw [frame_12]
  have j5 := cell_of_block (hN.h5 rfl).2
  have j6 := cell_of_block (hN.h6 rfl).2
  rw [if_pos rfl] at j5 j6
  have q1 : Below w.heap.size w w2 := q0.trans (hN.below.mono q0.size)
  have i2 := cell_below hN.below k2
  have i3 := cell_below hN.below k3
  clear hN k2 k3 q0
  unfold frame2
  go_upto_region 2 with fail
  refine wp_num_region (a0 := frame2 a b (sg a) (sg b) (.pointer (some ⟨w.heap.size, 0, none⟩)) (.pointer (some ⟨B3, 0, none⟩)) b5 b6) word_ops does_types mixed rfl (a : Int) (b : Int) (a : Int) (b : Int) ⟨w.heap.size, 0, none⟩ ⟨B3, 0, none⟩ rfl rfl i2 i3 ?_ ?_ ?_
  · intro o s W K ho he hk
    refine wp_value ?_ hk
    simp [execOp, ho, he, does_types.conv W a (by omega) (by omega)]
  · intro o s W K ho he hk
    refine wp_value ?_ hk
    simp [execOp, ho, he, does_types.conv W b (by omega) (by omega)]
  intro b7 b8 w3 hN
  rw [frame_23]
  have j7 := cell_of_block (hN.h5 rfl).2
  have j8 := cell_of_block (hN.h6 rfl).2
  rw [if_pos rfl] at j7 j8
  have q2 : Below w.heap.size w w3 := q1.trans (hN.below.mono q1.size)
  have l2 := cell_below hN.below i2
  have l3 := cell_below hN.below i3
  have l5 := cell_below hN.below j5
  have l6 := cell_below hN.below j6
  clear hN i2 i3 j5 j6 q1
  unfold frame3
  go_upto_region 3 with fail
  refine wp_fill_region (a0 := frame3 a b (sg a) (sg b) a b (.pointer (some ⟨w.heap.size, 0, none⟩)) (.pointer (some ⟨B3, 0, none⟩)) b5 b6 b7 b8) does_ops Tryd.underlying40 Tryd.underlying5 rfl ?_
  intro es c hE
  have f4 := frame_34 (a : Int) (b : Int) (sg a) (sg b) a b (.pointer (some ⟨w.heap.size, 0, none⟩)) (.pointer (some ⟨B3, 0, none⟩)) b5 b6 b7 b8 w3.heap.size
  have fd := frame_3d (a : Int) (b : Int) (sg a) (sg b) a b (.pointer (some ⟨w.heap.size, 0, none⟩)) (.pointer (some ⟨B3, 0, none⟩)) b5 b6 b7 b8 w3.heap.size
  generalize seqTo doesOps _ _ _ = aF at *
  have q3 : Below w3.heap.size w3 (w3.alloc (.map es c)) := (Below.refl _ _).alloc (Nat.le_refl _) _
  have fin : MadeEnd w a b (.returned (.map (some w3.heap.size))) (w3.alloc (.map es c)) :=
    ⟨w3.heap.size, _, w.heap.size, B3, b5, b6, b7, b8, es, c, rfl,
      ⟨q2.trans (q3.mono q2.size), heap_alloc_new _ _, hE, rfl, rfl, rfl, rfl, rfl, rfl, cell_below q3 l2, cell_below q3 l3, cell_below q3 l5, cell_below q3 l6, cell_below q3 j7, cell_below q3 j8⟩⟩
  go_wp2_with fail
  refine bodyPost_ret (results_tmp (fn := Tryd.f23) (t := 4) rfl _ _ _) fd ?_
  rw [f4]
  exact fin

/-! ### What the map answers -/
theorem run_lookup_ok {P : Program} {w : World} {T K E : TypeId} (hT : P.underlying T = some (.map K E)) (hK : P.underlying K = some (.int .u8)) {m : Nat} {es : Array MapEntry} {c : Nat} (hm : w.heap[m]? = some (.map es c))
    (k : Int) {j : Nat} {v : Value} (hf : Instr.findNow (.int .u8) (.int .u8 k) es.toList 0 = some (some (j, v))) :
    (Instr.lookup T (.map (some m)) (.int .u8 k) true).run P w = .ok (.tuple #[v, .bool true]) w := by
  have hc : ∀ e, (Instr.checkKey e 10000 K (.int .u8 k)).run P w = .ok () w := fun e => MapKept.run_checkKey (k := .int .u8 k) hK (by simp [MapKept.IsKey]) e 9999
  simp [Instr.lookup, run_underlying hT, MapKept.run_getObj_map hm, hc, MapKept.run_findKey hK hf, Result.andThen]
theorem run_lookup_no {P : Program} {w : World} {T K E : TypeId} (hT : P.underlying T = some (.map K E)) (hK : P.underlying K = some (.int .u8)) {z : Value} (hz : (zeroValue E).run P w = .ok z w) {m : Nat} {es : Array MapEntry} {c : Nat} (hm : w.heap[m]? = some (.map es c))
    (k : Int) (hf : Instr.findNow (.int .u8) (.int .u8 k) es.toList 0 = some none) :
    (Instr.lookup T (.map (some m)) (.int .u8 k) true).run P w = .ok (.tuple #[z, .bool false]) w := by
  have hc : ∀ e, (Instr.checkKey e 10000 K (.int .u8 k)).run P w = .ok () w := fun e => MapKept.run_checkKey (k := .int .u8 k) hK (by simp [MapKept.IsKey]) e 9999
  simp [Instr.lookup, run_underlying hT, MapKept.run_getObj_map hm, hc, MapKept.run_findKey hK hf, hz, Result.andThen]

/-- Each function of the map: its number, what it captures, that a call enters it, what it returns. -/
def Serves (w : World) (v : Value) (r : Nat × Nat) : Prop :=
  ∃ f caps, v = .func (.func f) #[] caps ∧ (∀ (args : Array Value) (W : World), (callFunc f args).run Tryd.prog W = .ok (.enter f args) W) ∧
    Calls Tryd.prog f caps w fun e w' => e = .returned (tup r) ∧ w = w'

theorem serves {w0 w : World} {a b m B2 B3 B5 B6 B7 B8 c : Nat} {fr : Act} {es : Array MapEntry} (h : Made w0 w a b m fr B2 B3 B5 B6 B7 B8 es c) (ha : a < 65536) (hb : b < 65536) (k : Nat) (hk : k < 31) :
    Serves w (fnVal doesF doesC fr k) (opP (k + 1) a b) := by
  have s1 := sg_bd a ha
  have s2 := sg_bd b hb
  have n1 : (sg a).natAbs ≤ 65536 := by omega
  have n2 : (sg b).natAbs ≤ 65536 := by omega
  have n3 : (a : Int).natAbs ≤ 65536 := by omega
  have n4 : (b : Int).natAbs ≤ 65536 := by omega
  have hks : k = 0 ∨ k = 1 ∨ k = 2 ∨ k = 3 ∨ k = 4 ∨ k = 5 ∨ k = 6 ∨ k = 7 ∨ k = 8 ∨ k = 9 ∨ k = 10 ∨ k = 11 ∨ k = 12 ∨ k = 13 ∨ k = 14 ∨ k = 15 ∨ k = 16 ∨ k = 17 ∨ k = 18 ∨ k = 19 ∨ k = 20 ∨ k = 21 ∨ k = 22 ∨ k = 23 ∨ k = 24 ∨ k = 25 ∨ k = 26 ∨ k = 27 ∨ k = 28 ∨ k = 29 ∨ k = 30 := by omega
  rcases hks with rfl | rfl | rfl | rfl | rfl | rfl | rfl | rfl | rfl | rfl | rfl | rfl | rfl | rfl | rfl | rfl | rfl | rfl | rfl | rfl | rfl | rfl | rfl | rfl | rfl | rfl | rfl | rfl | rfl | rfl | rfl
  · exact ⟨30, #[.pointer (some ⟨B5, 0, none⟩), .pointer (some ⟨B6, 0, none⟩)], by simp only [fnVal, doesF, doesC]; simp [h.e5, h.e6], fun args W => by kernel_rfl, cl1 B5 B6 _ _ w h.c5 h.c6 n1 n2⟩
  · exact ⟨32, #[.pointer (some ⟨B5, 0, none⟩), .pointer (some ⟨B6, 0, none⟩)], by simp only [fnVal, doesF, doesC]; simp [h.e5, h.e6], fun args W => by kernel_rfl, cl2 B5 B6 _ _ w h.c5 h.c6 n1 n2⟩
  · exact ⟨33, #[.pointer (some ⟨B5, 0, none⟩), .pointer (some ⟨B6, 0, none⟩)], by simp only [fnVal, doesF, doesC]; simp [h.e5, h.e6], fun args W => by kernel_rfl, cl3 B5 B6 _ _ w h.c5 h.c6 n1 n2⟩
  · exact ⟨34, #[.pointer (some ⟨B6, 0, none⟩), .pointer (some ⟨B5, 0, none⟩)], by simp only [fnVal, doesF, doesC]; simp [h.e6, h.e5], fun args W => by kernel_rfl, cl4 B6 B5 _ _ w h.c6 h.c5 n2 n1⟩
  · exact ⟨37, #[.pointer (some ⟨B6, 0, none⟩), .pointer (some ⟨B5, 0, none⟩)], by simp only [fnVal, doesF, doesC]; simp [h.e6, h.e5], fun args W => by kernel_rfl, cl5 B6 B5 _ _ w h.c6 h.c5 n2 n1⟩
  · exact ⟨39, #[.pointer (some ⟨B5, 0, none⟩)], by simp only [fnVal, doesF, doesC]; simp [h.e5], fun args W => by kernel_rfl, cl6 B5 _ w h.c5 n1⟩
  · exact ⟨40, #[.pointer (some ⟨B5, 0, none⟩)], by simp only [fnVal, doesF, doesC]; simp [h.e5], fun args W => by kernel_rfl, cl7 B5 _ w h.c5 n1⟩
  · exact ⟨41, #[.pointer (some ⟨B7, 0, none⟩), .pointer (some ⟨B8, 0, none⟩)], by simp only [fnVal, doesF, doesC]; simp [h.e7, h.e8], fun args W => by kernel_rfl, cl8 B7 B8 _ _ w h.c7 h.c8 n3 n4⟩
  · exact ⟨43, #[.pointer (some ⟨B7, 0, none⟩), .pointer (some ⟨B8, 0, none⟩)], by simp only [fnVal, doesF, doesC]; simp [h.e7, h.e8], fun args W => by kernel_rfl, cl9 B7 B8 _ _ w h.c7 h.c8 n3 n4⟩
  · exact ⟨44, #[.pointer (some ⟨B7, 0, none⟩), .pointer (some ⟨B8, 0, none⟩)], by simp only [fnVal, doesF, doesC]; simp [h.e7, h.e8], fun args W => by kernel_rfl, cl10 B7 B8 _ _ w h.c7 h.c8 n3 n4⟩
  · exact ⟨45, #[.pointer (some ⟨B8, 0, none⟩), .pointer (some ⟨B7, 0, none⟩)], by simp only [fnVal, doesF, doesC]; simp [h.e8, h.e7], fun args W => by kernel_rfl, cl11 B8 B7 _ _ w h.c8 h.c7 n4 n3⟩
  · exact ⟨47, #[.pointer (some ⟨B8, 0, none⟩), .pointer (some ⟨B7, 0, none⟩)], by simp only [fnVal, doesF, doesC]; simp [h.e8, h.e7], fun args W => by kernel_rfl, cl12 B8 B7 _ _ w h.c8 h.c7 n4 n3⟩
  · exact ⟨49, #[.pointer (some ⟨B2, 0, none⟩), .pointer (some ⟨B3, 0, none⟩)], by simp only [fnVal, doesF, doesC]; simp [h.e2, h.e3], fun args W => by kernel_rfl, cl13 B2 B3 a b w h.c2 h.c3 ha hb⟩
  · exact ⟨51, #[.pointer (some ⟨B2, 0, none⟩), .pointer (some ⟨B3, 0, none⟩)], by simp only [fnVal, doesF, doesC]; simp [h.e2, h.e3], fun args W => by kernel_rfl, cl14 B2 B3 a b w h.c2 h.c3 ha hb⟩
  · exact ⟨52, #[.pointer (some ⟨B5, 0, none⟩), .pointer (some ⟨B6, 0, none⟩)], by simp only [fnVal, doesF, doesC]; simp [h.e5, h.e6], fun args W => by kernel_rfl, cl15 B5 B6 _ _ w h.c5 h.c6 n1 n2⟩
  · exact ⟨54, #[.pointer (some ⟨B5, 0, none⟩), .pointer (some ⟨B6, 0, none⟩)], by simp only [fnVal, doesF, doesC]; simp [h.e5, h.e6], fun args W => by kernel_rfl, cl16 B5 B6 _ _ w h.c5 h.c6 n1 n2⟩
  · exact ⟨55, #[.pointer (some ⟨B5, 0, none⟩), .pointer (some ⟨B6, 0, none⟩)], by simp only [fnVal, doesF, doesC]; simp [h.e5, h.e6], fun args W => by kernel_rfl, cl17 B5 B6 _ _ w h.c5 h.c6 n1 n2⟩
  · exact ⟨56, #[.pointer (some ⟨B5, 0, none⟩), .pointer (some ⟨B6, 0, none⟩)], by simp only [fnVal, doesF, doesC]; simp [h.e5, h.e6], fun args W => by kernel_rfl, cl18 B5 B6 _ _ w h.c5 h.c6 n1 n2⟩
  · refine ⟨57, #[.pointer (some ⟨B2, 0, none⟩), .pointer (some ⟨B3, 0, none⟩)], by simp only [fnVal, doesF, doesC]; simp [h.e2, h.e3], fun args W => by kernel_rfl, ?_⟩
    rw [show opP 19 a b = isP (decide ((a : Int) < b)) from by show isP (decide (a < b)) = _; congr 1; rw [Bool.eq_iff_iff]; simp]
    exact cl19 B2 B3 a b w h.c2 h.c3 n3 n4
  · refine ⟨59, #[.pointer (some ⟨B2, 0, none⟩), .pointer (some ⟨B3, 0, none⟩)], by simp only [fnVal, doesF, doesC]; simp [h.e2, h.e3], fun args W => by kernel_rfl, ?_⟩
    rw [show opP 20 a b = isP (decide ((a : Int) ≤ b)) from by show isP (decide (a ≤ b)) = _; congr 1; rw [Bool.eq_iff_iff]; simp]
    exact cl20 B2 B3 a b w h.c2 h.c3 n3 n4
  · refine ⟨60, #[.pointer (some ⟨B2, 0, none⟩), .pointer (some ⟨B3, 0, none⟩)], by simp only [fnVal, doesF, doesC]; simp [h.e2, h.e3], fun args W => by kernel_rfl, ?_⟩
    rw [show opP 21 a b = isP (decide ((b : Int) < a)) from by show isP (decide (b < a)) = _; congr 1; rw [Bool.eq_iff_iff]; simp]
    exact cl21 B2 B3 a b w h.c2 h.c3 n3 n4
  · refine ⟨61, #[.pointer (some ⟨B2, 0, none⟩), .pointer (some ⟨B3, 0, none⟩)], by simp only [fnVal, doesF, doesC]; simp [h.e2, h.e3], fun args W => by kernel_rfl, ?_⟩
    rw [show opP 22 a b = isP (decide ((b : Int) ≤ a)) from by show isP (decide (b ≤ a)) = _; congr 1; rw [Bool.eq_iff_iff]; simp]
    exact cl22 B2 B3 a b w h.c2 h.c3 n3 n4
  · exact ⟨62, #[.pointer (some ⟨B2, 0, none⟩)], by simp only [fnVal, doesF, doesC]; simp [h.e2], fun args W => by kernel_rfl, cl23 B2 a b w h.c2 ha hb⟩
  · exact ⟨63, #[.pointer (some ⟨B2, 0, none⟩), .pointer (some ⟨B3, 0, none⟩)], by simp only [fnVal, doesF, doesC]; simp [h.e2, h.e3], fun args W => by kernel_rfl, cl24 B2 B3 a b w h.c2 h.c3 ha hb⟩
  · exact ⟨65, #[.pointer (some ⟨B2, 0, none⟩), .pointer (some ⟨B3, 0, none⟩)], by simp only [fnVal, doesF, doesC]; simp [h.e2, h.e3], fun args W => by kernel_rfl, cl25 B2 B3 a b w h.c2 h.c3 ha hb⟩
  · exact ⟨66, #[.pointer (some ⟨B2, 0, none⟩), .pointer (some ⟨B3, 0, none⟩)], by simp only [fnVal, doesF, doesC]; simp [h.e2, h.e3], fun args W => by kernel_rfl, cl26 B2 B3 a b w h.c2 h.c3 ha hb⟩
  · exact ⟨67, #[.pointer (some ⟨B2, 0, none⟩), .pointer (some ⟨B3, 0, none⟩)], by simp only [fnVal, doesF, doesC]; simp [h.e2, h.e3], fun args W => by kernel_rfl, cl27 B2 B3 a b w h.c2 h.c3 ha hb⟩
  · exact ⟨68, #[.pointer (some ⟨B2, 0, none⟩), .pointer (some ⟨B3, 0, none⟩)], by simp only [fnVal, doesF, doesC]; simp [h.e2, h.e3], fun args W => by kernel_rfl, cl28 B2 B3 a b w h.c2 h.c3 ha hb⟩
  · exact ⟨69, #[.pointer (some ⟨B2, 0, none⟩), .pointer (some ⟨B3, 0, none⟩)], by simp only [fnVal, doesF, doesC]; simp [h.e2, h.e3], fun args W => by kernel_rfl, cl29 B2 B3 a b w h.c2 h.c3 ha hb⟩
  · exact ⟨70, #[.pointer (some ⟨B2, 0, none⟩)], by simp only [fnVal, doesF, doesC]; simp [h.e2], fun args W => by kernel_rfl, cl30 B2 a b w h.c2 ha hb⟩
  · exact ⟨72, #[.pointer (some ⟨B2, 0, none⟩), .pointer (some ⟨B3, 0, none⟩)], by simp only [fnVal, doesF, doesC]; simp [h.e2, h.e3], fun args W => by kernel_rfl, cl31 B2 B3 a b w h.c2 h.c3 ha hb⟩

set_option maxHeartbeats 800000 in
theorem Does_any (op a b : Nat) (w : World) (ho : op < 256) (ha : a < 65536) (hb : b < 65536) :
    Calls Tryd.prog 9 #[.int .u8 op, .int .u16 a, .int .u16 b] w fun e w' => e = .returned (tup (opP op a b)) ∧ Below w.heap.size w w' := by
  by_cases h : 1 ≤ op ∧ op ≤ 31
  · go_enter Tryd.func9, Tryd.ntmps9
    go_wp2_with fail
    ((with_reducible refine (doesMap_any a b _ ha hb).mono ?_); rintro e w1 ⟨m, fr, B2, B3, B5, B6, B7, B8, es, c, rfl, hM⟩)
    obtain ⟨j, hf⟩ := (entries_find hM.ent op).1 (op - 1) (by omega) (by omega)
    obtain ⟨f, caps, hv, hcf, hcl⟩ := serves hM ha hb (op - 1) (by omega)
    rw [hv] at hf
    have hl := run_lookup_ok (P := Tryd.prog) Tryd.underlying40 Tryd.underlying5 hM.hm (op : Int) hf
    rw [show op - 1 + 1 = op by omega] at hcl
    have hbel := hM.below
    unfold tup at hcl
    have HCL := Lib.hid hcl
    clear hv hf hM hcl
    go_wp2_with fail
    (refine HCL.out.mono ?_)
    rintro e w' ⟨rfl, rfl⟩
    go_wp2
    go_ret2
    exact ⟨rfl, hbel⟩
  · have hP : opP op a b = (0, 12) := by
      unfold opP
      split <;> first | rfl | omega
    have HP := Lib.hid hP
    clear hP
    go_enter Tryd.func9, Tryd.ntmps9
    go_wp2_with fail
    ((with_reducible refine (doesMap_any a b _ ha hb).mono ?_); rintro e w1 ⟨m, fr, B2, B3, B5, B6, B7, B8, es, c, rfl, hM⟩)
    have hf := (entries_find hM.ent op).2 (by omega)
    have hl := run_lookup_no (P := Tryd.prog) Tryd.underlying40 Tryd.underlying5 (z := .nilFunc) (by kernel_rfl) hM.hm (op : Int) hf
    have hbel := hM.below
    clear hf hM
    go_wp2
    go_ret2
    exact ⟨by rw [HP.out]; rfl, hbel⟩

end Go.Proofs.YtdodbbedlgglcaaDoor.Wd
