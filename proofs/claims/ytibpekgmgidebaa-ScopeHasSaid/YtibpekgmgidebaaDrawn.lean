/- Regions that draw their order, walked by an invariant: what holds of the operations that have come up, in whatever order they came. It speaks of any program. -/
import Derived.RegionTactic
import Derived.Orders
set_option linter.unusedSimpArgs false
set_option linter.unusedVariables false
namespace Go.Proofs.Ytibpekgmgidebaa
section
variable {P : Program} {ops : Array Oper} {Q : Exit → Act → World → Prop} {md : Region.Mode}

/-- Which operations have come up, and one more. -/
def upd (L : Nat → Bool) (i : Nat) : Nat → Bool := fun j => if j = i then true else L j
theorem upd_self (L : Nat → Bool) (i : Nat) : upd L i i = true := by simp [upd]
theorem upd_ne {L : Nat → Bool} {i j : Nat} (h : j ≠ i) : upd L i j = L j := by simp [upd, h]
theorem upd_of {L : Nat → Bool} {i j : Nat} (h : L j = true) : upd L i j = true := by unfold upd; split <;> simp_all
theorem of_upd {L : Nat → Bool} {i j : Nat} (h : upd L i j = true) : j = i ∨ L j = true := by
  unfold upd at h
  split at h
  · exact .inl ‹_›
  · exact .inr h

def lst (listed : Array Bool) : Nat → Bool := fun j => listed.getD j false
theorem lst_set (listed : Array Bool) (i : Nat) (h : i < listed.size) : lst (listed.setIfInBounds i true) = upd (lst listed) i := by
  funext j
  unfold lst upd
  simp only [Array.getD_eq_getD_getElem?, Array.getElem?_setIfInBounds]
  by_cases hj : j = i
  · subst hj; simp [h]
  · rw [if_neg (fun e => hj e.symm), if_neg hj]

theorem ready_mem {listed : Array Bool} {i : Nat} (hs : listed.size = ops.size) (h : i ∈ Region.ready md ops listed) :
    i < ops.size ∧ lst listed i = false ∧ ∃ o, ops[i]? = some o ∧ ∀ e ∈ o.after, Region.binds md e = true → lst listed e.on = true := by
  unfold Region.ready at h
  rw [List.mem_filter] at h
  obtain ⟨h1, h2⟩ := h
  have hi : i < ops.size := by simpa using h1
  rw [Bool.and_eq_true] at h2
  obtain ⟨h2, h3⟩ := h2
  refine ⟨hi, ?_, ops[i], Array.getElem?_eq_getElem hi, ?_⟩
  · unfold lst
    have hl : i < listed.size := by omega
    simp only [Array.getD_eq_getD_getElem?, Array.getElem?_eq_getElem hl, Option.getD_some] at h2 ⊢
    simpa using h2
  · rw [Array.getElem?_eq_getElem hi] at h3
    simp only [Option.map_some, Option.getD_some, Array.all_eq_true_iff_forall_mem] at h3
    intro e he hb
    have := h3 e he
    rw [hb] at this
    simpa [lst] using this

theorem ready_of {listed : Array Bool} {i : Nat} {o : Oper} (hs : listed.size = ops.size) (hi : i < ops.size) (hl : lst listed i = false) (ho : ops[i]? = some o)
    (hd : ∀ e ∈ o.after, Region.binds md e = true → lst listed e.on = true) : i ∈ Region.ready md ops listed := by
  unfold Region.ready
  rw [List.mem_filter]
  refine ⟨by simpa using hi, ?_⟩
  rw [Bool.and_eq_true]
  constructor
  · unfold lst at hl
    have hl' : i < listed.size := by omega
    simp only [Array.getD_eq_getD_getElem?, Array.getElem?_eq_getElem hl', Option.getD_some] at hl ⊢
    simp [hl]
  · rw [ho]
    simp only [Option.map_some, Option.getD_some, Array.all_eq_true_iff_forall_mem]
    intro e he
    cases hb : Region.binds md e
    · simp
    · have := hd e he hb
      simpa [lst] using this

/-- Each operation waits for earlier ones alone. -/
def Acyclic (md : Region.Mode) (ops : Array Oper) : Prop := ∀ i o, ops[i]? = some o → ∀ e ∈ o.after, Region.binds md e = true → e.on < i

theorem ready_nil {listed : Array Bool} (hs : listed.size = ops.size) (hac : Acyclic md ops) (h : Region.ready md ops listed = []) : ∀ i, i < ops.size → lst listed i = true := by
  intro i
  induction i using Nat.strongRecOn with
  | ind i ih =>
    intro hi
    cases hl : lst listed i
    · exfalso
      have ho := Array.getElem?_eq_getElem hi
      have : i ∈ Region.ready md ops listed := ready_of hs hi hl ho (fun e he hb => ih e.on (hac i _ ho e he hb) (Nat.lt_trans (hac i _ ho e he hb) hi))
      rw [h] at this
      cases this
    · rfl

/-- What has come up, its predecessors have. -/
def Closed (md : Region.Mode) (ops : Array Oper) (L : Nat → Bool) : Prop := ∀ j o, ops[j]? = some o → L j = true → ∀ e ∈ o.after, Region.binds md e = true → L e.on = true

theorem countP_lt {l : List Nat} {p q : Nat → Bool} (h : ∀ x, q x = true → p x = true) {x : Nat} (hx : x ∈ l) (hp : p x = true) (hq : q x = false) : l.countP q < l.countP p := by
  induction l with
  | nil => cases hx
  | cons y l ih =>
    have hle : l.countP q ≤ l.countP p := List.countP_mono_left fun z _ hz => h z hz
    rw [List.countP_cons, List.countP_cons]
    rcases List.mem_cons.1 hx with rfl | hx
    · simp [hp, hq]; omega
    · have := ih hx
      have hle2 : (if q y = true then 1 else 0) ≤ (if p y = true then 1 else 0 : Nat) := by
        cases hy : q y
        · simp
        · simp [h y hy]
      omega

def unl (ops : Array Oper) (listed : Array Bool) : Nat := (List.range ops.size).countP fun j => !lst listed j

theorem wpAny_inv (I : (Nat → Bool) → Act → World → Prop) (hac : Acyclic md ops)
    (fin : ∀ L a w, (∀ i, i < ops.size → L i = true) → I L a w → Q .normal a w)
    (step : ∀ L a w i o, ops[i]? = some o → L i = false → (∀ e ∈ o.after, Region.binds md e = true → L e.on = true) → Closed md ops L → I L a w →
      ∀ K : Act → World → Prop, (∀ a' w', I (upd L i) a' w' → K a' w') → if Region.wanted o (yielded ops a.tmps) = true then Oper.wp P o a w K Q else K (a.put o.dst undef) w) :
    ∀ (fuel : Nat) (listed : Array Bool) (a : Act) (w : World), listed.size = ops.size → unl ops listed ≤ fuel → Closed md ops (lst listed) → I (lst listed) a w → wpAny P md ops Q fuel listed a w := by
  intro fuel
  induction fuel with
  | zero =>
    intro listed a w hs hu hc hI
    have hnil : Region.ready md ops listed = [] := by
      cases hr : Region.ready md ops listed with
      | nil => rfl
      | cons i r =>
        exfalso
        have hm : i ∈ Region.ready md ops listed := by rw [hr]; exact List.mem_cons_self
        obtain ⟨hi, hl, _⟩ := ready_mem hs hm
        have : 0 < unl ops listed := List.countP_pos_iff.2 ⟨i, by simpa using hi, by simp [hl]⟩
        omega
    exact ⟨hnil, fin _ _ _ (ready_nil hs hac hnil) hI⟩
  | succ fuel ih =>
    intro listed a w hs hu hc hI
    refine ⟨fun h => fin _ _ _ (ready_nil hs hac h) hI, fun i hm => ?_⟩
    obtain ⟨hi, hl, o, ho, hd⟩ := ready_mem hs hm
    refine wpOp_step ho fun K' hK => step _ a w i o ho hl hd hc hI K' fun a' w' hI' => hK _ _ (ih _ a' w' (by simpa using hs) ?_ ?_ ?_)
    · have : unl ops (listed.setIfInBounds i true) < unl ops listed := by
        unfold unl
        rw [lst_set listed i (by omega)]
        refine countP_lt (x := i) (fun x hx => ?_) (by simpa using hi) (by simp [hl]) (by simp [upd])
        cases hx' : lst listed x
        · rfl
        · rw [upd_of hx'] at hx; simp at hx
      omega
    · rw [lst_set listed i (by omega)]
      intro j oj hoj hj e he hb
      rcases of_upd hj with rfl | hj
      · rw [ho] at hoj
        injection hoj with hoj
        subst hoj
        exact upd_of (hd e he hb)
      · exact upd_of (hc j oj hoj hj e he hb)
    · rw [lst_set listed i (by omega)]
      exact hI'

/-- A REGION THAT DRAWS ITS ORDER, BY AN INVARIANT. -/
theorem wp_region_inv {id : Nat} {a : Act} {w : World} (hm : P.follows .mixedOrders = true) (I : (Nat → Bool) → Act → World → Prop) (hac : Acyclic .any ops)
    (start : I (fun _ => false) a { w with drawn := w.drawn + 1 })
    (fin : ∀ L a w, (∀ i, i < ops.size → L i = true) → I L a w → Q .normal a w)
    (step : ∀ L a w i o, ops[i]? = some o → L i = false → (∀ e ∈ o.after, Region.binds .any e = true → L e.on = true) → Closed .any ops L → I L a w →
      ∀ K : Act → World → Prop, (∀ a' w', I (upd L i) a' w' → K a' w') → if Region.wanted o (yielded ops a.tmps) = true then Oper.wp P o a w K Q else K (a.put o.dst undef) w) :
    (Code.region id ops true).wp P Q a w := by
  have hz : lst (Array.replicate ops.size false) = fun _ => false := by
    funext j
    unfold lst
    simp only [Array.getD_eq_getD_getElem?, Array.getElem?_replicate]
    split <;> rfl
  refine wp_region_any hm (wpAny_inv I hac fin step _ _ _ _ (by simp) ?_ ?_ ?_)
  · unfold unl
    have := List.countP_le_length (p := fun j => !lst (Array.replicate ops.size false) j) (l := List.range ops.size)
    simpa using this
  · rw [hz]
    intro j o _ h
    cases h
  · rw [hz]
    exact start

/-! ### The slots -/
structure Slots (ops : Array Oper) (val : Nat → Value) (a0 : Act) (L : Nat → Bool) (a : Act) : Prop where
  size : a.tmps.size = a0.tmps.size
  defers : a.defers = a0.defers
  done : ∀ i o d, ops[i]? = some o → L i = true → o.dst = some d → a.tmps.getD d undef = val i
  old : ∀ d, (∀ i o, ops[i]? = some o → L i = true → o.dst ≠ some d) → a.tmps.getD d undef = a0.tmps.getD d undef

/-- No slot is written twice. -/
def OneDst (ops : Array Oper) : Prop := ∀ (i j : Nat) (oi oj : Oper) (d : Tmp), ops[i]? = some oi → ops[j]? = some oj → oi.dst = some d → oj.dst = some d → i = j
def DstIn (ops : Array Oper) (n : Nat) : Prop := ∀ (i : Nat) (o : Oper) (d : Tmp), ops[i]? = some o → o.dst = some d → d < n

theorem getD_set_self {t : Array Value} {d : Nat} {v : Value} (h : d < t.size) : (t.setIfInBounds d v).getD d undef = v := by
  simp [Array.getD_eq_getD_getElem?, Array.getElem?_setIfInBounds, h]
theorem getD_set_other {t : Array Value} {d e : Nat} {v : Value} (h : e ≠ d) : (t.setIfInBounds d v).getD e undef = t.getD e undef := by
  simp only [Array.getD_eq_getD_getElem?, Array.getElem?_setIfInBounds]
  rw [if_neg (fun x => h x.symm)]

variable {val val' : Nat → Value} {a0 a : Act} {L : Nat → Bool}

theorem Slots.start (a0 : Act) : Slots ops val a0 (fun _ => false) a0 := ⟨rfl, rfl, fun _ _ _ _ h _ => (by cases h), fun _ _ => rfl⟩

theorem Slots.put (h : Slots ops val a0 L a) (h1 : OneDst ops) (hd : DstIn ops a0.tmps.size) {i : Nat} {o : Oper} (ho : ops[i]? = some o) (hL : L i = false)
    (v : Value) (hv : ∀ d, o.dst = some d → v = val i) : Slots ops val a0 (upd L i) (a.put o.dst v) := by
  cases hdst : o.dst with
  | none =>
    refine ⟨h.size, h.defers, fun j oj d hj hLj hjd => ?_, fun d hn => ?_⟩
    · rcases of_upd hLj with rfl | hLj
      · rw [ho] at hj
        injection hj with hj
        subst hj
        rw [hdst] at hjd
        cases hjd
      · exact h.done j oj d hj hLj hjd
    · exact h.old d fun j oj hj hLj => hn j oj hj (upd_of hLj)
  | some d0 =>
    have hd0 : d0 < a.tmps.size := by rw [h.size]; exact hd i o d0 ho hdst
    refine ⟨by simp [Act.put, h.size], h.defers, fun j oj d hj hLj hjd => ?_, fun d hn => ?_⟩
    · rcases of_upd hLj with rfl | hLj
      · rw [ho] at hj
        injection hj with hj
        subst hj
        rw [hdst] at hjd
        injection hjd with hjd
        subst hjd
        show (a.tmps.setIfInBounds d0 v).getD d0 undef = _
        rw [getD_set_self hd0]
        exact hv d0 hdst
      · have hne : d ≠ d0 := by
          rintro rfl
          have := h1 i j o oj d ho hj hdst hjd
          subst this
          rw [hL] at hLj
          cases hLj
        show (a.tmps.setIfInBounds d0 v).getD d undef = _
        rw [getD_set_other hne]
        exact h.done j oj d hj hLj hjd
    · have hne : d ≠ d0 := by
        rintro rfl
        exact hn i o ho (upd_self L i) hdst
      show (a.tmps.setIfInBounds d0 v).getD d undef = _
      rw [getD_set_other hne]
      exact h.old d fun j oj hj hLj => hn j oj hj (upd_of hLj)

theorem Slots.congr (h : Slots ops val a0 L a) (hc : ∀ (i : Nat) (o : Oper) (d : Tmp), ops[i]? = some o → L i = true → o.dst = some d → val i = val' i) : Slots ops val' a0 L a :=
  ⟨h.size, h.defers, fun i o d ho hL hd => (h.done i o d ho hL hd).trans (hc i o d ho hL hd), h.old⟩

theorem Slots.get (h : Slots ops val a0 L a) {i d : Nat} {o : Oper} (ho : ops[i]? = some o) (hL : L i = true) (hd : o.dst = some d) : a.eval (.tmp d) = val i := h.done i o d ho hL hd
theorem Slots.keep (h : Slots ops val a0 L a) {d : Nat} (hn : ∀ (i : Nat) (o : Oper), ops[i]? = some o → o.dst ≠ some d) : a.eval (.tmp d) = a0.eval (.tmp d) := h.old d fun i o ho _ => hn i o ho

/-- The frame behind all operations. -/
def seqTo (ops : Array Oper) (val : Nat → Value) (a0 : Act) : Nat → Act
  | 0 => a0
  | k + 1 => (seqTo ops val a0 k).put ((ops[k]?).bind (·.dst)) (val k)

theorem seqTo_slots (h1 : OneDst ops) (hd : DstIn ops a0.tmps.size) : ∀ k, k ≤ ops.size → Slots ops val a0 (fun i => decide (i < k)) (seqTo ops val a0 k)
  | 0, _ => by
    have := Slots.start (ops := ops) (val := val) a0
    have e : (fun i => decide (i < 0)) = (fun _ : Nat => false) := by funext i; simp
    rw [e]; exact this
  | k + 1, hk => by
    have ih := seqTo_slots h1 hd k (by omega)
    have ho := Array.getElem?_eq_getElem (xs := ops) (i := k) (by omega)
    have := ih.put h1 hd ho (by simp) (val k) (fun _ _ => rfl)
    have e : (fun i => decide (i < k + 1)) = upd (fun i => decide (i < k)) k := by
      funext j
      unfold upd
      split
      · subst_vars; simp
      · rw [Bool.eq_iff_iff]; simp; omega
    rw [e]
    show Slots ops val a0 _ ((seqTo ops val a0 k).put ((ops[k]?).bind (·.dst)) (val k))
    rw [ho]
    exact this

theorem Slots.final (h : Slots ops val a0 L a) (hall : ∀ i, i < ops.size → L i = true) (h1 : OneDst ops) (hd : DstIn ops a0.tmps.size) : a = seqTo ops val a0 ops.size := by
  have h' := seqTo_slots (val := val) h1 hd ops.size (Nat.le_refl _)
  generalize seqTo ops val a0 ops.size = b at *
  obtain ⟨ta, da⟩ := a
  obtain ⟨tb, db⟩ := b
  have e2 : da = db := h.defers.trans h'.defers.symm
  subst e2
  have e1 : ta = tb := by
    apply Array.ext
    · exact h.size.trans h'.size.symm
    · intro d hda hdb
      have key : ta.getD d undef = tb.getD d undef := by
        by_cases hex : ∃ (i : Nat) (o : Oper), ops[i]? = some o ∧ o.dst = some d
        · obtain ⟨i, o, ho, hod⟩ := hex
          have hi : i < ops.size := by
            rcases Nat.lt_or_ge i ops.size with hi | hi
            · exact hi
            · rw [Array.getElem?_eq_none hi] at ho; cases ho
          exact (h.done i o d ho (hall i hi) hod).trans (h'.done i o d ho (by simpa using hi) hod).symm
        · have hn : ∀ (i : Nat) (o : Oper), ops[i]? = some o → o.dst ≠ some d := fun i o ho hod => hex ⟨i, o, ho, hod⟩
          exact (h.old d fun i o ho _ => hn i o ho).trans (h'.old d fun i o ho _ => hn i o ho).symm
      simpa [Array.getD_eq_getD_getElem?, hda, hdb] using key
  subst e1
  rfl

/-! ### One operation -/
theorem step_plain {o : Oper} {a : Act} {w : World} {K : Act → World → Prop} {y : Nat → Option Bool} {E : Prop} (hg : o.guard = none) (h : Oper.wp P o a w K Q) :
    if Region.wanted o y = true then Oper.wp P o a w K Q else E := by
  rw [if_pos (by simp [Region.wanted, hg])]
  exact h
theorem wp_value {o : Oper} {a : Act} {w w' : World} {K : Act → World → Prop} {v : Value} (h : (execOp a.eval o).run P w = .ok (.value v) w') (hk : K (a.put o.dst v) w') : Oper.wp P o a w K Q := by
  unfold Oper.wp
  rw [h]
  exact hk
theorem wp_skip {o : Oper} {a : Act} {w w' : World} {K : Act → World → Prop} (h : (execOp a.eval o).run P w = .ok .skip w') (hk : K (a.put o.dst undef) w') : Oper.wp P o a w K Q := by
  unfold Oper.wp
  rw [h]
  exact hk

/-! ### A region in the text's order, by an invariant -/
theorem wpOps_seq (I : Nat → Act → World → Prop)
    (fin : ∀ a w, I ops.size a w → Q .normal a w)
    (step : ∀ k a w o, ops[k]? = some o → I k a w → ∀ K : Act → World → Prop, (∀ a' w', I (k + 1) a' w' → K a' w') → if Region.wanted o (yielded ops a.tmps) = true then Oper.wp P o a w K Q else K (a.put o.dst undef) w) :
    ∀ (n k : Nat) (a : Act) (w : World), k + n = ops.size → I k a w → wpOps P ops Q (List.range' k n) a w := by
  intro n
  induction n with
  | zero =>
    intro k a w hk hI
    rw [Nat.add_zero] at hk
    subst hk
    exact fin _ _ hI
  | succ n ih =>
    intro k a w hk hI
    rw [List.range'_succ, wpOps_cons]
    have ho := Array.getElem?_eq_getElem (xs := ops) (i := k) (by omega)
    exact wpOp_step ho fun K' hK => step k a w _ ho hI K' fun a' w' hI' => hK _ _ (ih (k + 1) a' w' (by omega) hI')

theorem wp_region_seq {id : Nat} {a : Act} {w : World} (I : Nat → Act → World → Prop) (start : I 0 a w)
    (fin : ∀ a w, I ops.size a w → Q .normal a w)
    (step : ∀ k a w o, ops[k]? = some o → I k a w → ∀ K : Act → World → Prop, (∀ a' w', I (k + 1) a' w' → K a' w') → if Region.wanted o (yielded ops a.tmps) = true then Oper.wp P o a w K Q else K (a.put o.dst undef) w) :
    (Code.region id ops false).wp P Q a w := by
  refine wp_region ?_
  rw [List.range_eq_range']
  exact wpOps_seq I fin step _ 0 a w (by omega) start
end
end Go.Proofs.Ytibpekgmgidebaa
