/- A map of functions, filled in the text's order: key k + 1 leads to the k-th function. It speaks of any program that bears such a region. -/
import Derived.Test.YtdodbbedlgglcaaDoorTwo
set_option linter.unusedSimpArgs false
set_option linter.unusedVariables false
namespace Go.Proofs.YtdodbbedlgglcaaDoor
open Go.RowKit
open Go.ChangeMaps (setBlock)

/-- n functions: the operations: the map, then each function and its entry, then the map is handed on. F: their numbers; C: the slots that each captures. -/
structure FillOps (ops : Array Oper) (n : Nat) (F : Nat → FuncId) (C : Nat → List Tmp) (sM sF sX sR N : Tmp) (t40 : TypeId) : Prop where
  size : ops.size = 2 * n + 3
  one : OneDst ops
  dstIn : DstIn ops N
  plain : ∀ (i : Nat) (o : Oper), ops[i]? = some o → o.guard = none
  keep : ∀ k, k < n → ∀ d ∈ C k, ∀ (i : Nat) (o : Oper), ops[i]? = some o → o.dst ≠ some d
  oM : ∃ o, ops[0]? = some o ∧ o.op = .makeMap t40 none ∧ o.dst = some sM
  oF : ∀ k, k < n → ∃ o, ops[1 + 2 * k]? = some o ∧ o.op = .makeFunc (.func (F k)) #[] ((C k).map Operand.tmp).toArray ∧ o.dst = some (sF + k)
  oI : ∀ k, k < n → ∃ o, ops[2 + 2 * k]? = some o ∧ o.op = .insert t40 (.tmp sM) (.const (.int .u8 ((k : Int) + 1))) (.tmp (sF + k)) ∧ o.dst = none
  oX : ∃ o, ops[2 * n + 1]? = some o ∧ o.op = .move (.tmp sM) ∧ o.dst = some sX
  oR : ∃ o, ops[2 * n + 2]? = some o ∧ o.op = .assign (.tmp sX) ∧ o.dst = some sR

def fnVal (F : Nat → FuncId) (C : Nat → List Tmp) (a0 : Act) (k : Nat) : Value := .func (.func (F k)) #[] ((C k).map fun d => a0.eval (.tmp d)).toArray

def fillVal (n : Nat) (F : Nat → FuncId) (C : Nat → List Tmp) (a0 : Act) (m : Nat) (i : Nat) : Value :=
  if i = 0 then .map (some m) else if i = 2 * n + 1 then .map (some m) else if i = 2 * n + 2 then .map (some m) else fnVal F C a0 ((i - 1) / 2)

theorem fillVal_F (n : Nat) (F : Nat → FuncId) (C : Nat → List Tmp) (a0 : Act) (m k : Nat) (hk : k < n) : fillVal n F C a0 m (1 + 2 * k) = fnVal F C a0 k := by
  unfold fillVal
  rw [if_neg (by omega), if_neg (by omega), if_neg (by omega)]
  congr 1
  omega

/-- The map as far as it has come: the first j entries are in. -/
def Entries (fv : Nat → Value) (j : Nat) (es : Array MapEntry) : Prop :=
  (∀ e ∈ es.toList, ∃ k, k < j ∧ e.key = .int .u8 ((k : Int) + 1) ∧ e.val = fv k) ∧
  ∀ k, k < j → ∃ e ∈ es.toList, e.key = .int .u8 ((k : Int) + 1)

theorem setBlock_last (w : World) (o o' : Obj) : setBlock (w.alloc o) w.heap.size o' = w.alloc o' := by
  have h : (w.heap.push o).setIfInBounds w.heap.size o' = w.heap.push o' := by
    apply Array.ext_getElem?
    intro i
    rw [Array.getElem?_setIfInBounds, Array.getElem?_push, Array.getElem?_push]
    by_cases hi : i = w.heap.size
    · subst hi; simp
    · rw [if_neg (fun e : w.heap.size = i => hi e.symm), if_neg hi, if_neg hi]
  show ({ w with heap := (w.heap.push o).setIfInBounds w.heap.size o' } : World) = { w with heap := w.heap.push o' }
  rw [h]

theorem run_insert_last {P : Program} (w : World) {T K E : TypeId} (hT : P.underlying T = some (.map K E)) (hK : P.underlying K = some (.int .u8)) {es : Array MapEntry} {c : Nat}
    (k : Int) (v : Value) (hne : ∀ e ∈ es.toList, ∃ n, e.key = .int .u8 n ∧ n ≠ k) :
    (Instr.mapUpdate T (.map (some w.heap.size)) (.int .u8 k) v).run P (w.alloc (.map es c)) = .ok () (w.alloc (.map (es.push { key := .int .u8 k, val := v, born := c }) (c + 1))) := by
  rw [run_insert_new _ hT hK (heap_alloc_new w _) k v hne, setBlock_last]

section
variable {P : Program} {ops : Array Oper} {n : Nat} {F : Nat → FuncId} {C : Nat → List Tmp} {sM sF sX sR N : Tmp} {t40 : TypeId} {Q : Exit → Act → World → Prop}

theorem Slots.seq_put {val : Nat → Value} {a0 a : Act} {k : Nat} (h : Slots ops val a0 (fun i => decide (i < k)) a) (h1 : OneDst ops) (hd : DstIn ops a0.tmps.size) {o : Oper} (ho : ops[k]? = some o)
    (v : Value) (hv : ∀ d, o.dst = some d → v = val k) : Slots ops val a0 (fun i => decide (i < k + 1)) (a.put o.dst v) := by
  have e : (fun i => decide (i < k + 1)) = upd (fun i => decide (i < k)) k := by
    funext j
    unfold upd
    split
    · subst_vars; simp
    · rw [Bool.eq_iff_iff]; simp; omega
  rw [e]
  exact h.put h1 hd ho (by simp) v hv

set_option maxHeartbeats 1000000 in
theorem wp_fill_region (H : FillOps ops n F C sM sF sX sR N t40) {K0 E0 : TypeId} (u40 : P.underlying t40 = some (.map K0 E0)) (uK : P.underlying K0 = some (.int .u8)) {id : Nat} {a0 : Act} {w0 : World} (ha : a0.tmps.size = N)
    (hQ : ∀ es c, Entries (fnVal F C a0) n es → Q .normal (seqTo ops (fillVal n F C a0 w0.heap.size) a0 (2 * n + 3)) (w0.alloc (.map es c))) :
    (Code.region id ops false).wp P Q a0 w0 := by
  have hsz := H.size
  have hdi : DstIn ops a0.tmps.size := by rw [ha]; exact H.dstIn
  refine wp_region_seq (fun j a w => Slots ops (fillVal n F C a0 w0.heap.size) a0 (fun i => decide (i < j)) a ∧ (j = 0 → w = w0) ∧
    (0 < j → ∃ es c, w = w0.alloc (.map es c) ∧ Entries (fnVal F C a0) (min ((j - 1) / 2) n) es)) ?start ?fin ?step
  case start =>
    refine ⟨?_, fun _ => rfl, fun h => absurd h (by omega)⟩
    have e : (fun i => decide (i < 0)) = (fun _ : Nat => false) := by funext i; simp
    rw [e]
    exact Slots.start a0
  case fin =>
    rintro a w ⟨hS, _, hW⟩
    obtain ⟨es, c, rfl, hE⟩ := hW (by omega)
    have ha' := hS.final (fun i hi => by simpa using hi) H.one hdi
    rw [hsz] at ha' hE
    rw [ha']
    rw [show min ((2 * n + 3 - 1) / 2) n = n by omega] at hE
    exact hQ es c hE
  case step =>
    rintro j a w o ho ⟨hS, hW0, hW⟩ K hK
    refine step_plain (H.plain j o ho) ?_
    have hj : j < 2 * n + 3 := by rw [← hsz]; exact (Array.getElem?_eq_some_iff.1 ho).1
    have hcs : j = 0 ∨ j = 2 * n + 1 ∨ j = 2 * n + 2 ∨ (∃ k, k < n ∧ j = 1 + 2 * k) ∨ (∃ k, k < n ∧ j = 2 + 2 * k) := by
      by_cases h0 : j = 0
      · exact .inl h0
      · by_cases h1 : 2 * n + 1 ≤ j
        · omega
        · rcases Nat.mod_two_eq_zero_or_one j with h | h
          · exact .inr (.inr (.inr (.inr ⟨(j - 2) / 2, by omega, by omega⟩)))
          · exact .inr (.inr (.inr (.inl ⟨(j - 1) / 2, by omega, by omega⟩)))
    rcases hcs with rfl | rfl | rfl | ⟨k, hk, rfl⟩ | ⟨k, hk, rfl⟩
    · obtain ⟨o', ho', hop, hdst⟩ := H.oM
      rw [ho] at ho'; injection ho' with ho'; subst ho'
      have hw := hW0 rfl
      subst hw
      refine wp_value (v := .map (some w.heap.size)) (w' := w.alloc (.map #[] 0)) ?_ (hK _ _ ⟨hS.seq_put H.one hdi ho _ (fun _ _ => rfl), fun h => absurd h (by omega), fun _ => ⟨#[], 0, rfl, by simp, fun k hk => by omega⟩⟩)
      simp [execOp, hop, run_makeMap]
    · obtain ⟨o', ho', hop, hdst⟩ := H.oX
      rw [ho] at ho'; injection ho' with ho'; subst ho'
      obtain ⟨es, c, rfl, hE⟩ := hW (by omega)
      obtain ⟨oM, hoM, _, hdM⟩ := H.oM
      have kM : a.eval (.tmp sM) = .map (some w0.heap.size) := hS.get hoM (decide_eq_true (by omega)) hdM
      refine wp_value (v := .map (some w0.heap.size)) (w' := w0.alloc (.map es c)) ?_ (hK _ _ ⟨hS.seq_put H.one hdi ho _ (fun _ _ => ?_), fun h => absurd h (by omega), fun _ => ⟨es, c, rfl, ?_⟩⟩)
      · simp [execOp, hop, kM]
      · unfold fillVal; rw [if_neg (by omega), if_pos rfl]
      · rw [show min ((2 * n + 1 + 1 - 1) / 2) n = min ((2 * n + 1 - 1) / 2) n by omega]; exact hE
    · obtain ⟨o', ho', hop, hdst⟩ := H.oR
      rw [ho] at ho'; injection ho' with ho'; subst ho'
      obtain ⟨es, c, rfl, hE⟩ := hW (by omega)
      obtain ⟨oM, hoM, _, hdM⟩ := H.oX
      have kM : a.eval (.tmp sX) = .map (some w0.heap.size) := by
        rw [hS.get hoM (decide_eq_true (by omega)) hdM]
        unfold fillVal; rw [if_neg (by omega), if_pos rfl]
      refine wp_value (v := .map (some w0.heap.size)) (w' := w0.alloc (.map es c)) ?_ (hK _ _ ⟨hS.seq_put H.one hdi ho _ (fun _ _ => ?_), fun h => absurd h (by omega), fun _ => ⟨es, c, rfl, ?_⟩⟩)
      · simp [execOp, hop, kM]
      · unfold fillVal; rw [if_neg (by omega), if_neg (by omega), if_pos rfl]
      · rw [show min ((2 * n + 2 + 1 - 1) / 2) n = min ((2 * n + 2 - 1) / 2) n by omega]; exact hE
    · obtain ⟨o', ho', hop, hdst⟩ := H.oF k hk
      rw [ho] at ho'; injection ho' with ho'; subst ho'
      obtain ⟨es, c, rfl, hE⟩ := hW (by omega)
      refine wp_value (v := fnVal F C a0 k) (w' := w0.alloc (.map es c)) ?_ (hK _ _ ⟨hS.seq_put H.one hdi ho _ (fun _ _ => (fillVal_F _ _ _ _ _ _ hk).symm), fun h => absurd h (by omega), fun _ => ⟨es, c, rfl, ?_⟩⟩)
      · have hmap : ((C k).map Operand.tmp).map a.eval = (C k).map (fun d => a0.eval (.tmp d)) := by
          rw [List.map_map]
          exact List.map_congr_left fun d hd => hS.keep (H.keep k hk d hd)
        simp only [execOp, hop, Instr.makeFunc, fnVal, List.map_toArray, hmap]
        simp
      · rw [show min ((1 + 2 * k + 1 - 1) / 2) n = min ((1 + 2 * k - 1) / 2) n by omega]; exact hE
    · obtain ⟨o', ho', hop, hdst⟩ := H.oI k hk
      rw [ho] at ho'; injection ho' with ho'; subst ho'
      obtain ⟨es, c, rfl, hE1, hE2⟩ := hW (by omega)
      rw [show min ((2 + 2 * k - 1) / 2) n = k by omega] at hE1 hE2
      obtain ⟨oM, hoM, _, hdM⟩ := H.oM
      obtain ⟨oF, hoF, _, hdF⟩ := H.oF k hk
      have kM : a.eval (.tmp sM) = .map (some w0.heap.size) := hS.get hoM (decide_eq_true (by omega)) hdM
      have kF : a.eval (.tmp (sF + k)) = fnVal F C a0 k := (hS.get hoF (decide_eq_true (by omega)) hdF).trans (fillVal_F _ _ _ _ _ _ hk)
      have hrun := run_insert_last (P := P) w0 u40 uK (es := es) (c := c) ((k : Int) + 1) (fnVal F C a0 k) (by
        intro e he
        obtain ⟨k', hk', hkey, _⟩ := hE1 e he
        exact ⟨_, hkey, by omega⟩)
      refine wp_skip (w' := w0.alloc (.map (es.push { key := .int .u8 ((k : Int) + 1), val := fnVal F C a0 k, born := c }) (c + 1))) ?_
        (hK _ _ ⟨hS.seq_put H.one hdi ho _ (fun d hd => by rw [hdst] at hd; cases hd), fun h => absurd h (by omega), fun _ => ⟨_, _, rfl, ?_⟩⟩)
      · have ec : a.eval (.const (.int .u8 ((k : Int) + 1))) = .int .u8 ((k : Int) + 1) := rfl
        simp [execOp, hop, kM, kF, ec, hrun]
      · rw [show min ((2 + 2 * k + 1 - 1) / 2) n = k + 1 by omega]
        constructor
        · intro e he
          simp only [Array.toList_push, List.mem_append, List.mem_singleton] at he
          rcases he with he | rfl
          · obtain ⟨k', hk', h1, h2⟩ := hE1 e he
            exact ⟨k', by omega, h1, h2⟩
          · exact ⟨k, by omega, rfl, rfl⟩
        · intro k' hk'
          simp only [Array.toList_push, List.mem_append, List.mem_singleton]
          by_cases h : k' = k
          · subst h; exact ⟨_, .inr rfl, rfl⟩
          · obtain ⟨e, he, h'⟩ := hE2 k' (by omega)
            exact ⟨e, .inl he, h'⟩
end

/-- What the map answers, once it is whole. -/
theorem entries_find {fv : Nat → Value} {n : Nat} {es : Array MapEntry} (h : Entries fv n es) (op : Nat) :
    (∀ k, k < n → op = k + 1 → ∃ j, Instr.findNow (.int .u8) (.int .u8 (op : Int)) es.toList 0 = some (some (j, fv k))) ∧
    ((op = 0 ∨ n < op) → Instr.findNow (.int .u8) (.int .u8 (op : Int)) es.toList 0 = some none) := by
  constructor
  · rintro k hk rfl
    refine findNow_some es.toList 0 (fun e he => ?_) ?_
    · obtain ⟨k', hk', h1, h2⟩ := h.1 e he
      refine ⟨_, h1, fun hh => ?_⟩
      have : k' = k := by omega
      subst this
      exact h2
    · obtain ⟨e, he, h1⟩ := h.2 k hk
      exact ⟨e, he, h1⟩
  · intro hop
    refine findNow_none es.toList 0 fun e he => ?_
    obtain ⟨k', hk', h1, _⟩ := h.1 e he
    exact ⟨_, h1, by omega⟩

end Go.Proofs.YtdodbbedlgglcaaDoor
