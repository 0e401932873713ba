/- The walk of the reference's Read. -/
import Derived.Test.YtpomnihgimgpdaaDoorP11
import Derived.Test.YtpomnihgimgpdaaDoorChk
set_option linter.unusedSimpArgs false
set_option linter.unusedVariables false
namespace Go.Proofs.YtpomnihgimgpdaaDoor.Pl
open Go.RowKit
open Fl
open Num

theorem call_enter {P : Program} {f : FuncId} (hc : ∀ (args : Array Value) (w : World), (callFunc f args).run P w = .ok (.enter f args) w) {o : Oper} {a : Act} {w : World} {K : Act → World → Prop}
    {Q : Exit → Act → World → Prop} {x : Operand} {t : TypeId} (ho : o.op = .call { callee := .value (.func f), args := #[x], argTypes := #[t] }) {v : Value} (h : Calls P f #[a.eval x] w fun e w' => e = .returned v ∧ w = w') (hk : K (a.put o.dst v) w) : Oper.wp P o a w K Q := by
  have hrun : (execOp a.eval o).run P w = .ok (.enter f #[a.eval x]) w := by
    have ef : a.eval (.func f) = .func (.func f) #[] #[] := rfl
    simp [execOp, ho, resolve, ef, Deferred.ofValue, invoke, hc]
  unfold Oper.wp
  rw [hrun]
  exact h.mono fun e w' ⟨he, hw⟩ => by subst he; subst hw; exact hk
theorem call_Number : ∀ (args : Array Value) (w : World), (callFunc 31 args).run Tryd.prog w = .ok (.enter 31 args) w := fun args w => by kernel_rfl
noncomputable def rOps : Array Oper := ((Tryd.f25.body).bind (regionOf 5)).getD #[]
theorem r_size : rOps.size = 12 := by kernel_rfl
theorem mixed : Tryd.prog.follows .mixedOrders = true := by kernel_rfl
theorem r0 : (rOps[0]?).map (fun o => (o.op, o.dst)) = some (.move (.tmp 0), some 15) := by kernel_rfl
theorem r1 : (rOps[1]?).map (fun o => (o.op, o.dst)) = some (.move (.tmp 3), some 16) := by kernel_rfl
theorem r2 : (rOps[2]?).map (fun o => (o.op, o.dst)) = some (.slice 9 (.tmp 15) none (some (.tmp 16)) none, some 17) := by kernel_rfl
theorem w2_0 : (rOps[2]?).map (fun o => (o.op, o.dst, waits o 0)) = some (.slice 9 (.tmp 15) none (some (.tmp 16)) none, some 17, true) := by kernel_rfl
theorem w2_1 : (rOps[2]?).map (fun o => (o.op, o.dst, waits o 1)) = some (.slice 9 (.tmp 15) none (some (.tmp 16)) none, some 17, true) := by kernel_rfl
theorem r3 : (rOps[3]?).map (fun o => (o.op, o.dst)) = some (.call { callee := .value (.func 31), args := #[.tmp 17], argTypes := #[9] }, some 18) := by kernel_rfl
theorem w3_2 : (rOps[3]?).map (fun o => (o.op, o.dst, waits o 2)) = some (.call { callee := .value (.func 31), args := #[.tmp 17], argTypes := #[9] }, some 18, true) := by kernel_rfl
theorem r4 : (rOps[4]?).map (fun o => (o.op, o.dst)) = some (.move (.tmp 0), some 19) := by kernel_rfl
theorem r5 : (rOps[5]?).map (fun o => (o.op, o.dst)) = some (.move (.tmp 3), some 20) := by kernel_rfl
theorem r6 : (rOps[6]?).map (fun o => (o.op, o.dst)) = some (.binOp .add 3 (.tmp 20) (.const (.int .i64 1)) 3, some 21) := by kernel_rfl
theorem w6_5 : (rOps[6]?).map (fun o => (o.op, o.dst, waits o 5)) = some (.binOp .add 3 (.tmp 20) (.const (.int .i64 1)) 3, some 21, true) := by kernel_rfl
theorem r7 : (rOps[7]?).map (fun o => (o.op, o.dst)) = some (.slice 9 (.tmp 19) (some (.tmp 21)) none none, some 22) := by kernel_rfl
theorem w7_4 : (rOps[7]?).map (fun o => (o.op, o.dst, waits o 4)) = some (.slice 9 (.tmp 19) (some (.tmp 21)) none none, some 22, true) := by kernel_rfl
theorem w7_6 : (rOps[7]?).map (fun o => (o.op, o.dst, waits o 6)) = some (.slice 9 (.tmp 19) (some (.tmp 21)) none none, some 22, true) := by kernel_rfl
theorem r8 : (rOps[8]?).map (fun o => (o.op, o.dst)) = some (.call { callee := .value (.func 31), args := #[.tmp 22], argTypes := #[9] }, some 23) := by kernel_rfl
theorem w8_7 : (rOps[8]?).map (fun o => (o.op, o.dst, waits o 7)) = some (.call { callee := .value (.func 31), args := #[.tmp 22], argTypes := #[9] }, some 23, true) := by kernel_rfl
theorem r9 : (rOps[9]?).map (fun o => (o.op, o.dst)) = some (.build 25 #[(0, .tmp 18), (1, .tmp 23)], some 24) := by kernel_rfl
theorem w9_3 : (rOps[9]?).map (fun o => (o.op, o.dst, waits o 3)) = some (.build 25 #[(0, .tmp 18), (1, .tmp 23)], some 24, true) := by kernel_rfl
theorem w9_8 : (rOps[9]?).map (fun o => (o.op, o.dst, waits o 8)) = some (.build 25 #[(0, .tmp 18), (1, .tmp 23)], some 24, true) := by kernel_rfl
theorem r10 : (rOps[10]?).map (fun o => (o.op, o.dst)) = some (.alloc 25, some 4) := by kernel_rfl
theorem r11 : (rOps[11]?).map (fun o => (o.op, o.dst)) = some (.store 25 (.tmp 4) (.tmp 24), none) := by kernel_rfl

def rVal (s : ByteArray) (k : Nat) (x y : Nat) (b : Nat) : Nat → Value
  | 0 => .string s
  | 1 => .int .i64 k
  | 2 => .string (s.extract 0 k)
  | 3 => .int .i64 x
  | 4 => .string s
  | 5 => .int .i64 k
  | 6 => .int .i64 ((k : Int) + 1)
  | 7 => .string (s.extract (k + 1) s.size)
  | 8 => .int .i64 y
  | 9 => .agg #[.int .i64 x, .int .i64 y]
  | 10 => .pointer (some ⟨b, 0, none⟩)
  | _ => undef
/-- The world behind the region: a new block that holds the two numbers. -/
def rEnd (w : World) (x y : Nat) : World := (w.alloc (.cells #[.int .i64 x, .int .i64 y] 25)).drew

set_option maxHeartbeats 1600000 in
theorem r_region (s : ByteArray) (k x y : Nat) (hs : s.size ≤ 1073741800) (hk : k < s.size) (a0 : Act) (w : World) (Q : Exit → Act → World → Prop)
    (e0 : a0.eval (.tmp 0) = .string s) (e3 : a0.eval (.tmp 3) = .int .i64 k) (hsz : a0.tmps.size = 30)
    (n1 : ∀ W, Calls Tryd.prog 31 #[.string (s.extract 0 k)] W fun e w' => e = .returned (.int .i64 x) ∧ W = w')
    (n2 : ∀ W, Calls Tryd.prog 31 #[.string (s.extract (k + 1) s.size)] W fun e w' => e = .returned (.int .i64 y) ∧ W = w')
    (hfin : Q .normal (seqTo rOps (rVal s k x y w.heap.size) a0 12) (rEnd w x y)) : (Code.region 5 rOps true).wp Tryd.prog Q a0 w := by
  have hsa := fun w => run_slice_string_h (P := Tryd.prog) w 9 s Tryd.underlying9 .i64 (k : Int) (by omega) (by omega)
  have hsb := fun w => run_slice_string_l (P := Tryd.prog) w 9 s Tryd.underlying9 .i64 ((k : Int) + 1) (by omega) (by omega)
  have hn2 : ((k : Int) + 1).toNat = k + 1 := by omega
  have hw : IntKind.i64.wrap ((k : Int) + 1) = (k : Int) + 1 := IntWalk.i64_in _ (by omega)
  simp only [Int.toNat_natCast, hn2] at hsa hsb
  have hat := fun w x lo hi mx => run_sliceAt_string (P := Tryd.prog) w 9 x lo hi mx Tryd.underlying9
  refine wp_region_one mixed (acyclic_of (by kernel_rfl)) (one_of (by kernel_rfl)) (dstIn_of (by rw [hsz]; kernel_rfl)) (plain_of (by kernel_rfl)) (rVal s k x y w.heap.size) 10 11 (by decide) w.drew rfl (.cells #[.int .i64 0, .int .i64 0] 25) (rEnd w x y) ?_ ?_ ?_ (last_of (by kernel_rfl)) (by rw [r_size]; omega) (by rw [r_size]; omega) (by rw [r_size]; exact hfin)
  · intro i o L a ho hi1 hi2 hsl hpre wx hwx K hK
    have k0 : a.eval (.tmp 0) = .string s := (hsl.keep (keep_of (by kernel_rfl))).trans e0
    have k3 : a.eval (.tmp 3) = .int .i64 k := (hsl.keep (keep_of (by kernel_rfl))).trans e3
    have hi : i < 12 := by
      rcases Nat.lt_or_ge i 12 with h | h
      · exact h
      · rw [Array.getElem?_eq_none (by rw [r_size]; exact h)] at ho; cases ho
    match i, hi, hi1, hi2 with
    | 0, _, _, _ =>
      obtain ⟨o', ho', hp, hd⟩ := seen r0
      obtain rfl := Option.some.inj (ho.symm.trans ho')
      exact wp_value (by simp [execOp, hp, k0]; rfl) hK
    | 1, _, _, _ =>
      obtain ⟨o', ho', hp, hd⟩ := seen r1
      obtain rfl := Option.some.inj (ho.symm.trans ho')
      exact wp_value (by simp [execOp, hp, k3]; rfl) hK
    | 2, _, _, _ =>
      obtain ⟨o', ho', hp, hd⟩ := seen r2
      obtain rfl := Option.some.inj (ho.symm.trans ho')
      have v0 : a.eval (.tmp 15) = rVal s k x y w.heap.size 0 := by
        obtain ⟨o1, ho1, _, _, e, he, hon, hb⟩ := seen1 w2_0
        obtain rfl := Option.some.inj (ho.symm.trans ho1)
        obtain ⟨o2, ho2, _, hd2⟩ := seen r0
        exact hsl.get ho2 (hon ▸ hpre e he hb) hd2
      have v1 : a.eval (.tmp 16) = rVal s k x y w.heap.size 1 := by
        obtain ⟨o1, ho1, _, _, e, he, hon, hb⟩ := seen1 w2_1
        obtain rfl := Option.some.inj (ho.symm.trans ho1)
        obtain ⟨o2, ho2, _, hd2⟩ := seen r1
        exact hsl.get ho2 (hon ▸ hpre e he hb) hd2
      exact wp_value (by simp [execOp, hp, v0, v1, rVal, hat, hsa]) hK
    | 3, _, _, _ =>
      obtain ⟨o', ho', hp, hd⟩ := seen r3
      obtain rfl := Option.some.inj (ho.symm.trans ho')
      have v2 : a.eval (.tmp 17) = rVal s k x y w.heap.size 2 := by
        obtain ⟨o1, ho1, _, _, e, he, hon, hb⟩ := seen1 w3_2
        obtain rfl := Option.some.inj (ho.symm.trans ho1)
        obtain ⟨o2, ho2, _, hd2⟩ := seen r2
        exact hsl.get ho2 (hon ▸ hpre e he hb) hd2
      exact call_enter call_Number hp (by rw [v2]; exact n1 wx) hK
    | 4, _, _, _ =>
      obtain ⟨o', ho', hp, hd⟩ := seen r4
      obtain rfl := Option.some.inj (ho.symm.trans ho')
      exact wp_value (by simp [execOp, hp, k0]; rfl) hK
    | 5, _, _, _ =>
      obtain ⟨o', ho', hp, hd⟩ := seen r5
      obtain rfl := Option.some.inj (ho.symm.trans ho')
      exact wp_value (by simp [execOp, hp, k3]; rfl) hK
    | 6, _, _, _ =>
      obtain ⟨o', ho', hp, hd⟩ := seen r6
      obtain rfl := Option.some.inj (ho.symm.trans ho')
      have v5 : a.eval (.tmp 20) = rVal s k x y w.heap.size 5 := by
        obtain ⟨o1, ho1, _, _, e, he, hon, hb⟩ := seen1 w6_5
        obtain rfl := Option.some.inj (ho.symm.trans ho1)
        obtain ⟨o2, ho2, _, hd2⟩ := seen r5
        exact hsl.get ho2 (hon ▸ hpre e he hb) hd2
      have vc : a.eval (.const (.int .i64 1)) = .int .i64 1 := rfl
      exact wp_value (by simp only [execOp, hp, v5, vc, rVal]; simp [go_sem, hw]) hK
    | 7, _, _, _ =>
      obtain ⟨o', ho', hp, hd⟩ := seen r7
      obtain rfl := Option.some.inj (ho.symm.trans ho')
      have v4 : a.eval (.tmp 19) = rVal s k x y w.heap.size 4 := by
        obtain ⟨o1, ho1, _, _, e, he, hon, hb⟩ := seen1 w7_4
        obtain rfl := Option.some.inj (ho.symm.trans ho1)
        obtain ⟨o2, ho2, _, hd2⟩ := seen r4
        exact hsl.get ho2 (hon ▸ hpre e he hb) hd2
      have v6 : a.eval (.tmp 21) = rVal s k x y w.heap.size 6 := by
        obtain ⟨o1, ho1, _, _, e, he, hon, hb⟩ := seen1 w7_6
        obtain rfl := Option.some.inj (ho.symm.trans ho1)
        obtain ⟨o2, ho2, _, hd2⟩ := seen r6
        exact hsl.get ho2 (hon ▸ hpre e he hb) hd2
      exact wp_value (by simp [execOp, hp, v4, v6, rVal, hat, hsb]) hK
    | 8, _, _, _ =>
      obtain ⟨o', ho', hp, hd⟩ := seen r8
      obtain rfl := Option.some.inj (ho.symm.trans ho')
      have v7 : a.eval (.tmp 22) = rVal s k x y w.heap.size 7 := by
        obtain ⟨o1, ho1, _, _, e, he, hon, hb⟩ := seen1 w8_7
        obtain rfl := Option.some.inj (ho.symm.trans ho1)
        obtain ⟨o2, ho2, _, hd2⟩ := seen r7
        exact hsl.get ho2 (hon ▸ hpre e he hb) hd2
      exact call_enter call_Number hp (by rw [v7]; exact n2 wx) hK
    | 9, _, _, _ =>
      obtain ⟨o', ho', hp, hd⟩ := seen r9
      obtain rfl := Option.some.inj (ho.symm.trans ho')
      have v3 : a.eval (.tmp 18) = rVal s k x y w.heap.size 3 := by
        obtain ⟨o1, ho1, _, _, e, he, hon, hb⟩ := seen1 w9_3
        obtain rfl := Option.some.inj (ho.symm.trans ho1)
        obtain ⟨o2, ho2, _, hd2⟩ := seen r3
        exact hsl.get ho2 (hon ▸ hpre e he hb) hd2
      have v8 : a.eval (.tmp 23) = rVal s k x y w.heap.size 8 := by
        obtain ⟨o1, ho1, _, _, e, he, hon, hb⟩ := seen1 w9_8
        obtain rfl := Option.some.inj (ho.symm.trans ho1)
        obtain ⟨o2, ho2, _, hd2⟩ := seen r8
        exact hsl.get ho2 (hon ▸ hpre e he hb) hd2
      have u3 : a.tmps[18]?.getD undef = .int .i64 x := by rw [← Array.getD_eq_getD_getElem?]; exact v3
      have u8 : a.tmps[23]?.getD undef = .int .i64 y := by rw [← Array.getD_eq_getD_getElem?]; exact v8
      exact wp_value (by simp [execOp, hp, u3, u8, go_sem, Tryd.zeroValue25, rVal]) hK
    | 10, _, h, _ => exact absurd rfl h
    | 11, _, _, h => exact absurd rfl h
    | i + 12, h, _, _ => omega
  · intro o a ho K hK
    obtain ⟨o', ho', hp, hd⟩ := seen r10
    obtain rfl := Option.some.inj (ho.symm.trans ho')
    refine wp_value ?_ hK
    simp [execOp, hp, go_sem, Tryd.zeroValue25]
    rfl
  · intro o L a ho hsl hall K hK
    obtain ⟨o', ho', hp, hd⟩ := seen r11
    obtain rfl := Option.some.inj (ho.symm.trans ho')
    have v10 : a.eval (.tmp 4) = .pointer (some ⟨w.heap.size, 0, none⟩) := by
      obtain ⟨o2, ho2, _, hd2⟩ := seen r10
      exact hsl.get ho2 (hall 10 (by rw [r_size]; omega) (by omega)) hd2
    have v9 : a.eval (.tmp 24) = .agg #[.int .i64 x, .int .i64 y] := by
      obtain ⟨o2, ho2, _, hd2⟩ := seen r9
      exact hsl.get ho2 (hall 9 (by rw [r_size]; omega) (by omega)) hd2
    refine wp_skip ?_ hK
    simp only [execOp, hp, v9, v10]
    simp [go_sem]
    rfl

end Go.Proofs.YtpomnihgimgpdaaDoor.Pl
