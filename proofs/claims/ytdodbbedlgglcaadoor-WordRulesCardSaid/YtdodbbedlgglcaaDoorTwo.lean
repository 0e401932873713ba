/- A region that draws its order: two words are read, each made a number, each stored into a new variable (word.does has two such regions). Whatever the order, it ends with two new variables that hold the two numbers. It speaks of any program that bears such a region. -/
import Derived.Test.YtdodbbedlgglcaaDoorBase
import Derived.Test.YtdodbbedlgglcaaDoorDrawn
import Derived.MapKept
import Derived.ChangeMaps4
set_option linter.unusedSimpArgs false
set_option linter.unusedVariables false
namespace Go.Proofs.YtdodbbedlgglcaaDoor
open Go.RowKit
open Go.ChangeMaps (setBlock)

theorem findNow_none {k : Int} : ∀ (es : List MapEntry) (i : Nat), (∀ e ∈ es, ∃ n, e.key = .int .u8 n ∧ n ≠ k) → Instr.findNow (.int .u8) (.int .u8 k) es i = some none
  | [], _, _ => rfl
  | e :: es, i, h => by
    obtain ⟨n, hn, hne⟩ := h e (by simp)
    have hk : Instr.sameNow (.int .u8) (.int .u8 k) e.key = some false := by
      rw [hn]; simp [Instr.sameNow]; omega
    unfold Instr.findNow
    rw [hk]
    exact findNow_none es (i + 1) fun e he => h e (by simp [he])

theorem findNow_some {k : Int} {v : Value} : ∀ (es : List MapEntry) (i : Nat), (∀ e ∈ es, ∃ n, e.key = .int .u8 n ∧ (n = k → e.val = v)) → (∃ e ∈ es, e.key = .int .u8 k) →
    ∃ j, Instr.findNow (.int .u8) (.int .u8 k) es i = some (some (j, v))
  | [], _, _, h => by obtain ⟨e, he, _⟩ := h; cases he
  | e :: es, i, h, hex => by
    obtain ⟨n, hn, hv⟩ := h e (by simp)
    unfold Instr.findNow
    by_cases hnk : n = k
    · have hk : Instr.sameNow (.int .u8) (.int .u8 k) e.key = some true := by
        rw [hn]; simp [Instr.sameNow, hnk]
      rw [hk]
      exact ⟨i, by simp [hv hnk]⟩
    · have hk : Instr.sameNow (.int .u8) (.int .u8 k) e.key = some false := by
        rw [hn]; simp [Instr.sameNow]; omega
      rw [hk]
      refine findNow_some es (i + 1) (fun e he => h e (by simp [he])) ?_
      obtain ⟨e', he', hk'⟩ := hex
      rcases List.mem_cons.1 he' with rfl | he'
      · rw [hn] at hk'; injection hk' with _ hk'; exact absurd hk' hnk
      · exact ⟨e', he', hk'⟩

section
variable {P : Program} (w : World)
theorem run_insert_new {T K E : TypeId} (hT : P.underlying T = some (.map K E)) (hK : P.underlying K = some (.int .u8)) {m : Nat} {es : Array MapEntry} {c : Nat}
    (hm : w.heap[m]? = some (.map es c)) (k : Int) (v : Value) (hne : ∀ e ∈ es.toList, ∃ n, e.key = .int .u8 n ∧ n ≠ k) :
    (Instr.mapUpdate T (.map (some m)) (.int .u8 k) v).run P w = .ok () (setBlock w m (.map (es.push { key := .int .u8 k, val := v, born := c }) (c + 1))) := by
  have hf := findNow_none (k := k) es.toList 0 hne
  have hc : (Instr.checkKey false 10000 K (.int .u8 k)).run P w = .ok () w := MapKept.run_checkKey (k := .int .u8 k) hK (by simp [MapKept.IsKey]) false 9999
  simp [Instr.mapUpdate, run_underlying hT, MapKept.run_getObj_map hm, hc, MapKept.run_findKey hK hf, MapKept.run_setObj_map _ hm, Result.andThen, setBlock]
end

/-- What the types' operations do. -/
structure DoesTypes (P : Program) (t3 t22 t40 : TypeId) : Prop where
  load : ∀ (w : World) (A : Addr) (v : Value), w.cell? A = some v → (Instr.loadAt t22 (.pointer (some A))).run P w = .ok v w
  conv : ∀ (w : World) (n : Int), 0 ≤ n → n ≤ 65535 → (convert t22 t3 (.int .u16 n)).run P w = .ok (.int .i64 n) w
  alloc : ∀ w : World, (Instr.alloc t3 true (.tuple #[])).run P w = .ok (.pointer (some ⟨w.heap.size, 0, none⟩)) (w.alloc (.cells #[.int .i64 0] t3))
  store : ∀ (w : World) (A : Addr) (n : Int) (old : Value), w.cell? A = some old → w.frozen? A = false → (Instr.storeAt t3 (.pointer (some A)) (.int .i64 n)).run P w = .ok () (w.setCell A (.int .i64 n))
  map : ∃ K E, P.underlying t40 = some (.map K E) ∧ P.underlying K = some (.int .u8)

theorem cell_of_block {w : World} {b : Nat} {v : Value} {t : TypeId} (h : w.heap[b]? = some (.cells #[v] t (0, 0))) : w.cell? ⟨b, 0, none⟩ = some v := by
  simp [World.cell?, h]
theorem free_of_block {w : World} {b : Nat} {v : Value} {t : TypeId} (h : w.heap[b]? = some (.cells #[v] t (0, 0))) : w.frozen? ⟨b, 0, none⟩ = false := by
  simp [World.frozen?, h]
theorem set_block {w : World} {b : Nat} {v u : Value} {t : TypeId} (h : w.heap[b]? = some (.cells #[v] t (0, 0))) : (w.setCell ⟨b, 0, none⟩ u).heap[b]? = some (.cells #[u] t (0, 0)) := by
  simp [World.setCell, Array.getElem?_modify, h]
theorem lt_of_block {w : World} {b : Nat} {o : Obj} (h : w.heap[b]? = some o) : b < w.heap.size := (Array.getElem?_eq_some_iff.1 h).1

theorem below_setBlock {B : Nat} {a w : World} (h : Below B a w) {b : Nat} (hb : B ≤ b) (o : Obj) : Below B a (setBlock w b o) :=
  h.trans ⟨rfl, rfl, rfl, by simp [setBlock], fun k hk => by simp only [setBlock, Array.getElem?_setIfInBounds]; rw [if_neg (by omega)]⟩

theorem setBlock_same {w : World} {b : Nat} {o o' : Obj} (h : w.heap[b]? = some o) : (setBlock w b o').heap[b]? = some o' := by
  simp [setBlock, Array.getElem?_setIfInBounds, lt_of_block h]
theorem setBlock_other {w : World} {b k : Nat} {o' : Obj} (h : k ≠ b) : (setBlock w b o').heap[k]? = w.heap[k]? := by
  simp only [setBlock, Array.getElem?_setIfInBounds]
  rw [if_neg (fun e => h e.symm)]

/-! ### The region ahead of it: two numbers with a sign -/
/-- s1 .. s6: the slots; p1, p3: how a word is made a number. -/
structure NumOps (ops : Array Oper) (p1 p3 : Op) (s1 s2 s3 s4 s5 s6 : Tmp) (t3 t22 : TypeId) : Prop where
  size : ops.size = 8
  acyc : Acyclic .any ops
  one : OneDst ops
  dstIn : DstIn ops 50
  keep : ∀ d ∈ [2, 3], ∀ (i : Nat) (o : Oper), ops[i]? = some o → o.dst ≠ some d
  plain : ∀ (i : Nat) (o : Oper), ops[i]? = some o → o.guard = none
  o0 : ∃ o, ops[0]? = some o ∧ o.op = .load t22 (.tmp 2) ∧ o.dst = some s1
  o1 : ∃ o, ops[1]? = some o ∧ o.op = p1 ∧ o.dst = some s2 ∧ ∃ e ∈ o.after, e.on = 0 ∧ Region.binds .any e = true
  o2 : ∃ o, ops[2]? = some o ∧ o.op = .load t22 (.tmp 3) ∧ o.dst = some s3
  o3 : ∃ o, ops[3]? = some o ∧ o.op = p3 ∧ o.dst = some s4 ∧ ∃ e ∈ o.after, e.on = 2 ∧ Region.binds .any e = true
  o4 : ∃ o, ops[4]? = some o ∧ o.op = .alloc t3 ∧ o.dst = some s5
  o5 : ∃ o, ops[5]? = some o ∧ o.op = .alloc t3 ∧ o.dst = some s6
  o6 : ∃ o, ops[6]? = some o ∧ o.op = .store t3 (.tmp s5) (.tmp s2) ∧ o.dst = none ∧ (∃ e ∈ o.after, e.on = 4 ∧ Region.binds .any e = true) ∧ ∃ e ∈ o.after, e.on = 1 ∧ Region.binds .any e = true
  o7 : ∃ o, ops[7]? = some o ∧ o.op = .store t3 (.tmp s6) (.tmp s4) ∧ o.dst = none ∧ (∃ e ∈ o.after, e.on = 5 ∧ Region.binds .any e = true) ∧ ∃ e ∈ o.after, e.on = 3 ∧ Region.binds .any e = true

def numVal (x y X Y : Int) (b5 b6 : Nat) (i : Nat) : Value :=
  if i = 0 then .int .u16 x else if i = 1 then .int .i64 X else if i = 2 then .int .u16 y else if i = 3 then .int .i64 Y
  else if i = 4 then .pointer (some ⟨b5, 0, none⟩) else .pointer (some ⟨b6, 0, none⟩)

structure NumW (w0 : World) (t3 : TypeId) (X Y : Int) (L : Nat → Bool) (b5 b6 : Nat) (w : World) : Prop where
  below : Below w0.heap.size w0 w
  h5 : L 4 = true → w0.heap.size ≤ b5 ∧ w.heap[b5]? = some (.cells #[.int .i64 (if L 6 then X else 0)] t3 (0, 0))
  h6 : L 5 = true → w0.heap.size ≤ b6 ∧ w.heap[b6]? = some (.cells #[.int .i64 (if L 7 then Y else 0)] t3 (0, 0))
  ne : L 4 = true → L 5 = true → b5 ≠ b6

theorem NumW.upd_other {w0 : World} {t3 : TypeId} {X Y : Int} {L : Nat → Bool} {b5 b6 : Nat} {w : World} (h : NumW w0 t3 X Y L b5 b6 w) {i : Nat} (hi : i < 4) : NumW w0 t3 X Y (upd L i) b5 b6 w := by
  refine ⟨h.below, ?_, ?_, ?_⟩
  · rw [upd_ne (by omega), upd_ne (by omega)]; exact h.h5
  · rw [upd_ne (by omega), upd_ne (by omega)]; exact h.h6
  · rw [upd_ne (by omega), upd_ne (by omega)]; exact h.ne

theorem call_enter {P : Program} {f : FuncId} (hc : ∀ (args : Array Value) (w : World), (callFunc f args).run P w = .ok (.enter f args) w) {o : Oper} {a : Act} {w : World} {K : Act → World → Prop}
    {Q : Exit → Act → World → Prop} {x : Operand} {t : TypeId} (ho : o.op = .call { callee := .value (.func f), args := #[x], argTypes := #[t] }) {v : Value} (h : Calls P f #[a.eval x] w fun e w' => e = .returned v ∧ w = w') (hk : K (a.put o.dst v) w) : Oper.wp P o a w K Q := by
  have hrun : (execOp a.eval o).run P w = .ok (.enter f #[a.eval x]) w := by
    have ef : a.eval (.func f) = .func (.func f) #[] #[] := rfl
    simp [execOp, ho, resolve, ef, Deferred.ofValue, invoke, hc]
  unfold Oper.wp
  rw [hrun]
  exact h.mono fun e w' ⟨he, hw⟩ => by subst he; subst hw; exact hk

section
variable {P : Program} {ops : Array Oper} {p1 p3 : Op} {s1 s2 s3 s4 s5 s6 : Tmp} {t3 t22 : TypeId} {Q : Exit → Act → World → Prop}

theorem num_congr (H : NumOps ops p1 p3 s1 s2 s3 s4 s5 s6 t3 t22) {L : Nat → Bool} (x y X Y : Int) {b5 b5' b6 b6' : Nat} (h7 : b5 = b5' ∨ L 4 = false) (h8 : b6 = b6' ∨ L 5 = false) :
    ∀ (i : Nat) (o : Oper) (d : Tmp), ops[i]? = some o → L i = true → o.dst = some d → numVal x y X Y b5 b6 i = numVal x y X Y b5' b6' i := by
  intro i o d ho hL hd
  have hi : i < 8 := by rw [← H.size]; exact (Array.getElem?_eq_some_iff.1 ho).1
  have hcs : i = 0 ∨ i = 1 ∨ i = 2 ∨ i = 3 ∨ i = 4 ∨ i = 5 ∨ i = 6 ∨ i = 7 := by omega
  rcases hcs with rfl | rfl | rfl | rfl | rfl | rfl | rfl | rfl
  · rfl
  · rfl
  · rfl
  · rfl
  · rcases h7 with rfl | h7
    · rfl
    · rw [hL] at h7; cases h7
  · rcases h8 with rfl | h8
    · rfl
    · rw [hL] at h8; cases h8
  · obtain ⟨o', ho', _, hdst, _⟩ := H.o6
    rw [ho] at ho'; injection ho' with ho'; subst ho'
    rw [hdst] at hd; cases hd
  · obtain ⟨o', ho', _, hdst, _⟩ := H.o7
    rw [ho] at ho'; injection ho' with ho'; subst ho'
    rw [hdst] at hd; cases hd

theorem num_after {L : Nat → Bool} (hc : Closed .any ops L) {i j : Nat} {o : Oper} (ho : ops[i]? = some o) (hL : L i = true)
    (he : ∃ e ∈ o.after, e.on = j ∧ Region.binds .any e = true) : L j = true := by
  obtain ⟨e, he, rfl, hb⟩ := he
  exact hc _ o ho hL e he hb

set_option maxHeartbeats 1000000 in
theorem wp_num_region {t40 : TypeId} (H : NumOps ops p1 p3 s1 s2 s3 s4 s5 s6 t3 t22) (T : DoesTypes P t3 t22 t40) (hm : P.follows .mixedOrders = true) {id : Nat} {a0 : Act} {w0 : World} (ha : a0.tmps.size = 50)
    (x y X Y : Int) (A2 A3 : Addr) (e2 : a0.eval (.tmp 2) = .pointer (some A2)) (e3 : a0.eval (.tmp 3) = .pointer (some A3))
    (c2 : w0.cell? A2 = some (.int .u16 x)) (c3 : w0.cell? A3 = some (.int .u16 y))
    (hX : ∀ (o : Oper) (a : Act) (w : World) (K : Act → World → Prop), o.op = p1 → a.eval (.tmp s1) = .int .u16 x → K (a.put o.dst (.int .i64 X)) w → Oper.wp P o a w K Q)
    (hY : ∀ (o : Oper) (a : Act) (w : World) (K : Act → World → Prop), o.op = p3 → a.eval (.tmp s3) = .int .u16 y → K (a.put o.dst (.int .i64 Y)) w → Oper.wp P o a w K Q)
    (hQ : ∀ b5 b6 w', NumW w0 t3 X Y (fun _ => true) b5 b6 w' → Q .normal (seqTo ops (numVal x y X Y b5 b6) a0 8) w') :
    (Code.region id ops true).wp P Q a0 w0 := by
  have hsz := H.size
  have hd2 : A2.block < w0.heap.size := World.block_lt_of_cell? _ _ c2
  have hd3 : A3.block < w0.heap.size := World.block_lt_of_cell? _ _ c3
  refine wp_region_inv hm (fun L a w => ∃ b5 b6, Slots ops (numVal x y X Y b5 b6) a0 L a ∧ NumW w0 t3 X Y L b5 b6 w) H.acyc ?start ?fin ?step
  case start =>
    exact ⟨0, 0, Slots.start a0, ⟨rfl, rfl, rfl, Nat.le_refl _, fun _ _ => rfl⟩, (fun h => by cases h), (fun h => by cases h), (fun h => by cases h)⟩
  case fin =>
    rintro L a w hall ⟨b5, b6, hS, hW⟩
    have ha' := hS.final hall H.one (by rw [ha]; exact H.dstIn)
    rw [hsz] at ha' hall
    rw [ha']
    have h4 := hall 4 (by omega)
    have h5 := hall 5 (by omega)
    have h6 := hall 6 (by omega)
    have h7 := hall 7 (by omega)
    refine hQ b5 b6 w ⟨hW.below, fun _ => ?_, fun _ => ?_, fun _ _ => hW.ne h4 h5⟩
    · have := hW.h5 h4
      rw [h6] at this
      exact this
    · have := hW.h6 h5
      rw [h7] at this
      exact this
  case step =>
    rintro L a w i o ho hL hdep hcl ⟨b5, b6, hS, hW⟩ K hK
    refine step_plain (H.plain i o ho) ?_
    have hdi : DstIn ops a0.tmps.size := by rw [ha]; exact H.dstIn
    have hi : i < 8 := by rw [← hsz]; exact (Array.getElem?_eq_some_iff.1 ho).1
    have k2 : a.eval (.tmp 2) = .pointer (some A2) := (hS.keep (H.keep 2 (by simp))).trans e2
    have k3 : a.eval (.tmp 3) = .pointer (some A3) := (hS.keep (H.keep 3 (by simp))).trans e3
    have d2 : w.cell? A2 = some (.int .u16 x) := by rw [hW.below.cell hd2]; exact c2
    have d3 : w.cell? A3 = some (.int .u16 y) := by rw [hW.below.cell hd3]; exact c3
    have hcs : i = 0 ∨ i = 1 ∨ i = 2 ∨ i = 3 ∨ i = 4 ∨ i = 5 ∨ i = 6 ∨ i = 7 := by omega
    rcases hcs with rfl | rfl | rfl | rfl | rfl | rfl | rfl | rfl
    · obtain ⟨o', ho', hop, hdst⟩ := H.o0
      rw [ho] at ho'; injection ho' with ho'; subst ho'
      refine wp_value (v := .int .u16 x) (w' := w) ?_ (hK _ _ ⟨b5, b6, hS.put H.one hdi ho hL _ (fun _ _ => rfl), hW.upd_other (by omega)⟩)
      simp [execOp, hop, k2, T.load w A2 _ d2]
    · obtain ⟨o', ho', hop, hdst, e, he, heo, heb⟩ := H.o1
      rw [ho] at ho'; injection ho' with ho'; subst ho'
      have h0 : L 0 = true := by rw [← heo]; exact hdep e he heb
      obtain ⟨o0, ho0, _, hdst0⟩ := H.o0
      have k13 : a.eval (.tmp s1) = .int .u16 x := hS.get ho0 h0 hdst0
      refine hX _ _ _ _ hop k13 (hK _ _ ⟨b5, b6, hS.put H.one hdi ho hL _ (fun _ _ => rfl), hW.upd_other (by omega)⟩)
    · obtain ⟨o', ho', hop, hdst⟩ := H.o2
      rw [ho] at ho'; injection ho' with ho'; subst ho'
      refine wp_value (v := .int .u16 y) (w' := w) ?_ (hK _ _ ⟨b5, b6, hS.put H.one hdi ho hL _ (fun _ _ => rfl), hW.upd_other (by omega)⟩)
      simp [execOp, hop, k3, T.load w A3 _ d3]
    · obtain ⟨o', ho', hop, hdst, e, he, heo, heb⟩ := H.o3
      rw [ho] at ho'; injection ho' with ho'; subst ho'
      have h0 : L 2 = true := by rw [← heo]; exact hdep e he heb
      obtain ⟨o0, ho0, _, hdst0⟩ := H.o2
      have k13 : a.eval (.tmp s3) = .int .u16 y := hS.get ho0 h0 hdst0
      refine hY _ _ _ _ hop k13 (hK _ _ ⟨b5, b6, hS.put H.one hdi ho hL _ (fun _ _ => rfl), hW.upd_other (by omega)⟩)
    · obtain ⟨o', ho', hop, hdst⟩ := H.o4
      rw [ho] at ho'; injection ho' with ho'; subst ho'
      have h6 : L 6 = false := by
        cases h : L 6
        · rfl
        · obtain ⟨o6, ho6, _, _, he, _⟩ := H.o6
          rw [num_after hcl ho6 h he] at hL; cases hL
      refine wp_value (v := .pointer (some ⟨w.heap.size, 0, none⟩)) (w' := w.alloc (.cells #[.int .i64 0] t3)) ?_ (hK _ _ ⟨w.heap.size, b6,
        (hS.congr (num_congr H x y X Y (.inr hL) (.inl rfl))).put H.one hdi ho hL _ (fun _ _ => rfl), ?_⟩)
      · simp [execOp, hop, T.alloc w]
      · refine ⟨hW.below.alloc hW.below.size _, fun _ => ⟨hW.below.size, ?_⟩, fun h5 => ?_, fun _ h5 => ?_⟩
        · rw [upd_ne (by omega), h6]; exact heap_alloc_new w _
        · rw [upd_ne (by omega)] at h5
          obtain ⟨h1, h2⟩ := hW.h6 h5
          refine ⟨h1, ?_⟩
          rw [upd_ne (by omega), Below.heap_alloc _ _ _ (lt_of_block h2)]; exact h2
        · rw [upd_ne (by omega)] at h5
          have := lt_of_block (hW.h6 h5).2
          omega
    · obtain ⟨o', ho', hop, hdst⟩ := H.o5
      rw [ho] at ho'; injection ho' with ho'; subst ho'
      have h6 : L 7 = false := by
        cases h : L 7
        · rfl
        · obtain ⟨o6, ho6, _, _, he, _⟩ := H.o7
          rw [num_after hcl ho6 h he] at hL; cases hL
      refine wp_value (v := .pointer (some ⟨w.heap.size, 0, none⟩)) (w' := w.alloc (.cells #[.int .i64 0] t3)) ?_ (hK _ _ ⟨b5, w.heap.size,
        (hS.congr (num_congr H x y X Y (.inl rfl) (.inr hL))).put H.one hdi ho hL _ (fun _ _ => rfl), ?_⟩)
      · simp [execOp, hop, T.alloc w]
      · refine ⟨hW.below.alloc hW.below.size _, fun h5 => ?_, fun _ => ⟨hW.below.size, ?_⟩, fun h5 _ => ?_⟩
        · rw [upd_ne (by omega)] at h5
          obtain ⟨h1, h2⟩ := hW.h5 h5
          refine ⟨h1, ?_⟩
          rw [upd_ne (by omega), Below.heap_alloc _ _ _ (lt_of_block h2)]; exact h2
        · rw [upd_ne (by omega), h6]; exact heap_alloc_new w _
        · rw [upd_ne (by omega)] at h5
          have := lt_of_block (hW.h5 h5).2
          omega
    · obtain ⟨o', ho', hop, hdst, ⟨e, he, heo, heb⟩, e1, he1, heo1, heb1⟩ := H.o6
      rw [ho] at ho'; injection ho' with ho'; subst ho'
      have h4 : L 4 = true := by rw [← heo]; exact hdep e he heb
      have h1 : L 1 = true := by rw [← heo1]; exact hdep e1 he1 heb1
      obtain ⟨o4, ho4, _, hdst4⟩ := H.o4
      obtain ⟨o1, ho1, _, hdst1, _⟩ := H.o1
      have k7 : a.eval (.tmp s5) = .pointer (some ⟨b5, 0, none⟩) := hS.get ho4 h4 hdst4
      have k14 : a.eval (.tmp s2) = .int .i64 X := hS.get ho1 h1 hdst1
      obtain ⟨hb, hblk⟩ := hW.h5 h4
      refine wp_skip (w' := w.setCell ⟨b5, 0, none⟩ (.int .i64 X)) ?_ (hK _ _ ⟨b5, b6, hS.put H.one hdi ho hL _ (fun d hd => by rw [hdst] at hd; cases hd), ?_⟩)
      · simp [execOp, hop, k7, k14, T.store w _ X _ (cell_of_block hblk) (free_of_block hblk)]
      · refine ⟨hW.below.setCell hb _, fun _ => ⟨hb, ?_⟩, fun h5 => ?_, fun _ h5 => ?_⟩
        · rw [upd_self]; exact set_block hblk
        · rw [upd_ne (by omega)] at h5
          obtain ⟨h1, h2⟩ := hW.h6 h5
          refine ⟨h1, ?_⟩
          rw [upd_ne (by omega), Below.heap_setCell _ _ _ _ (Ne.symm (hW.ne h4 h5))]; exact h2
        · rw [upd_ne (by omega)] at h5
          exact hW.ne h4 h5
    · obtain ⟨o', ho', hop, hdst, ⟨e, he, heo, heb⟩, e1, he1, heo1, heb1⟩ := H.o7
      rw [ho] at ho'; injection ho' with ho'; subst ho'
      have h4 : L 5 = true := by rw [← heo]; exact hdep e he heb
      have h1 : L 3 = true := by rw [← heo1]; exact hdep e1 he1 heb1
      obtain ⟨o4, ho4, _, hdst4⟩ := H.o5
      obtain ⟨o1, ho1, _, hdst1, _⟩ := H.o3
      have k7 : a.eval (.tmp s6) = .pointer (some ⟨b6, 0, none⟩) := hS.get ho4 h4 hdst4
      have k14 : a.eval (.tmp s4) = .int .i64 Y := hS.get ho1 h1 hdst1
      obtain ⟨hb, hblk⟩ := hW.h6 h4
      refine wp_skip (w' := w.setCell ⟨b6, 0, none⟩ (.int .i64 Y)) ?_ (hK _ _ ⟨b5, b6, hS.put H.one hdi ho hL _ (fun d hd => by rw [hdst] at hd; cases hd), ?_⟩)
      · simp [execOp, hop, k7, k14, T.store w _ Y _ (cell_of_block hblk) (free_of_block hblk)]
      · refine ⟨hW.below.setCell hb _, fun h5 => ?_, fun _ => ⟨hb, ?_⟩, fun h5 _ => ?_⟩
        · rw [upd_ne (by omega)] at h5
          obtain ⟨h1, h2⟩ := hW.h5 h5
          refine ⟨h1, ?_⟩
          rw [upd_ne (by omega), Below.heap_setCell _ _ _ _ (hW.ne h5 h4)]; exact h2
        · rw [upd_self]; exact set_block hblk
        · rw [upd_ne (by omega)] at h5
          exact hW.ne h5 h4
end

end Go.Proofs.YtdodbbedlgglcaaDoor
