/- The reference's insertion sort. -/
import Derived.Test.YthonoobbpfgjhaaM14
import Derived.Maps.AppendAt
import Derived.Deep.QuietTactic
import Derived.BigQuiet
import Derived.IntWalk
set_option linter.unusedSimpArgs false
set_option linter.unusedVariables false
namespace Go.Proofs.Ythonoobbpfgjhaa.Od
open Go.RowKit
section
variable {ops : Array Oper} {rest : List Oper} {o : Oper} {a : Act} {Q : Exit → Act → World → Prop}
/-- A row is put behind an empty one of the call's own. -/
theorem wpList_copy (wq : World) (hgd : o.guard = none) (s x : Operand) (ho : o.op = .call { callee := .builtin .append, args := #[s, x], argTypes := #[25, 25] })
    (base m0 : Nat) (hs : a.eval s = .slice (some ⟨m0, 0, none⟩) 0 0) (hm0 : wq.heap.size = m0) (hb : base ≤ wq.heap.size) (A : Option Addr) (c : Nat) (l : List Nm) (hx : a.eval x = .slice A l.length c) (hr : NR wq A c l) (hl : l.length ≤ 1000000)
    (hK : ∀ lv' w', (∃ A' c', lv' = .slice A' l.length c') → OwnN base w' lv' l → wq.grownBy w' none → wpList Try.prog ops Q rest (a.put o.dst lv') w') :
    wpList Try.prog ops Q (o :: rest) a (wq.alloc (.cells #[] 9)) := by
  subst hm0
  obtain ⟨i0, hi0, hz0, hz1, hz2⟩ := info_parts infoS
  have hown : (wq.alloc (.cells #[] 9)).ownsRow base 9 1 (.slice (some ⟨wq.heap.size, 0, none⟩) 0 0) 0 [] := World.ownsRow_lit wq #[] 0 hb (by unfold maxLen; omega) rfl
  have hG : wq.grownBy (wq.alloc (.cells #[] 9)) none := World.grownBy_alloc wq _ _
  have hsz : (wq.alloc (.cells #[] 9)).heap.size = wq.heap.size + 1 := World.size_alloc ..
  have hR := (hr.below ((Below.refl wq.heap.size wq).alloc (Nat.le_refl _) (.cells #[] 9))).reads
  have key : ∀ w' : World, (wq.alloc (.cells #[] 9)).grownBy w' (some wq.heap.size) → wq.grownBy w' none := fun w' h =>
    ⟨h.os.trans hG.os, h.tape.trans hG.tape, h.output.trans hG.output, Nat.le_trans hG.size h.size, fun k hk _ => (h.block k (by omega) (fun e => by injection e with e; omega)).trans (hG.block k hk (by simp))⟩
  refine wpList_plain hgd fun K hK' => ?_
  by_cases h0 : l.length = 0
  · have : l = [] := List.eq_nil_of_length_eq_zero h0
    subst this
    have hrun : (Builtin.append_ #[25, 25] o.type #[.slice (some ⟨wq.heap.size, 0, none⟩) 0 0, .slice A 0 c]).run Try.prog (wq.alloc (.cells #[] 9)) = .ok (.slice (some ⟨wq.heap.size, 0, none⟩) 0 0) (wq.alloc (.cells #[] 9)) := by
      cases A with
      | none => simp [Builtin.append_, run_underlying Try.underlying25, sizeOf, typeInfo, hi0, Builtin.lenOf, Builtin.firstCells, storeCells]
      | some ad => simp [Builtin.append_, run_underlying Try.underlying25, sizeOf, typeInfo, hi0, Builtin.lenOf, Builtin.firstCells, loadCells, loadCellsFrom, storeCells]
    unfold Oper.wp execOp
    simp only [ho, resolve, invoke, builtin, Sem.run_bind, Sem.run_pure, Result.andThen_ok, List.map_toArray, List.map_cons, List.map_nil, hs, hx, List.length_nil, hrun]
    exact hK' _ _ (hK _ _ ⟨_, _, rfl⟩ hown hG)
  · obtain ⟨ad, rfl, _, hc⟩ := hR.2 (by omega)
    obtain ⟨v', w', hrun, h2, h3, _, _⟩ := run_append_own_at (P := Try.prog) _ base 25 o.type 9 i0 _ 1 16 Try.underlying25 hi0 hz0 hz1 hz2 rfl (by omega) _ 0 [] hown ad l.length c (strs l) (by rw [strs_len]; omega) hc (fun u hu => by
      obtain ⟨x, _, rfl⟩ := List.mem_map.1 hu; rfl) (by unfold maxLen; omega) (by omega) (by omega)
    unfold Oper.wp execOp
    simp only [ho, resolve, invoke, builtin, Sem.run_bind, Sem.run_pure, Result.andThen_ok, List.map_toArray, List.map_cons, List.map_nil, hs, hx, hrun]
    rw [Nat.zero_add, List.nil_append] at h2
    refine hK' _ _ (hK _ _ ?_ h2 (key w' h3))
    rcases h2.2 with ⟨rfl, h4⟩ | ⟨g, cap, cur, rfl, _⟩
    · omega
    · exact ⟨_, _, rfl⟩
end
def at0 (l : List Nm) (i : Nat) : Nm := l[i]?.getD []
theorem at0_of {l : List Nm} {i : Nat} (h : i < l.length) : at0 l i = l[i] := by unfold at0; rw [List.getElem?_eq_getElem h]; rfl
/-- Up to k all rises. -/
def RiseTo (l : List Nm) (k : Nat) : Prop := ∀ a b, a < b → b < k → at0 l a ≤ at0 l b
def swapL (l : List Nm) (k : Nat) (h : k + 1 < l.length) : List Nm := (l.set (k + 1) l[k]).set k l[k + 1]
theorem swapL_len (l : List Nm) (k : Nat) (h : k + 1 < l.length) : (swapL l k h).length = l.length := by simp [swapL]
theorem swapL_perm (l : List Nm) (k : Nat) (h : k + 1 < l.length) : (swapL l k h).Perm l := List.set_set_perm (i := k + 1) (j := k) h (by omega)
theorem swapL_at (l : List Nm) (k : Nat) (h : k + 1 < l.length) : at0 (swapL l k h) = swapF (at0 l) k := by
  funext i
  unfold swapF
  by_cases e1 : i = k
  · subst e1
    rw [if_pos rfl, at0_of h]
    unfold at0 swapL
    simp [h, Nat.lt_of_succ_lt h]
  · rw [if_neg e1]
    by_cases e2 : i = k + 1
    · subst e2
      rw [if_pos rfl, at0_of (Nat.lt_of_succ_lt h)]
      unfold at0 swapL
      rw [List.getElem?_set_ne (by omega), List.getElem?_set_self (by omega)]
      rfl
    · rw [if_neg e2]
      unfold at0 swapL
      rw [List.getElem?_set_ne (fun e => e1 e.symm), List.getElem?_set_ne (fun e => e2 e.symm)]
theorem riseTo_sort {l l' : List Nm} (h : RiseTo l' l'.length) (hp : l'.Perm l) : l' = sortN l := by
  have h1 : l'.Pairwise (· ≤ ·) := by
    rw [List.pairwise_iff_getElem]
    intro i j hi hj hij
    have := h i j hij hj
    rwa [at0_of hi, at0_of hj] at this
  have h2 : sortN l = sortN l' := (sort_eq hp).symm
  rw [h2]
  have tr : ∀ a b c : Nm, decide (a ≤ b) = true → decide (b ≤ c) = true → decide (a ≤ c) = true := by
    intro a b c h1 h2
    exact decide_eq_true (List.le_trans (of_decide_eq_true h1) (of_decide_eq_true h2))
  have to : ∀ a b : Nm, (decide (a ≤ b) || decide (b ≤ a)) = true := by
    intro a b
    rcases List.le_total a b with h | h <;> simp [h]
  have hs : (sortN l').Pairwise (· ≤ ·) := (List.pairwise_mergeSort tr to l').imp fun h => of_decide_eq_true h
  exact rise_eq h1 hs (List.mergeSort_perm ..).symm
theorem bytesLess_eq' : ∀ (x y : List UInt8), Op.bytesLess x y = decide (x < y)
  | [], [] => by simp [Op.bytesLess]
  | [], _ :: _ => by simp [Op.bytesLess]
  | _ :: _, [] => by simp [Op.bytesLess]
  | a :: x, b :: y => by
    rw [Op.bytesLess, bytesLess_eq' x y, Bool.eq_iff_iff]
    simp [List.cons_lt_cons_iff]
theorem less_eq (a b : Nm) : Op.bytesLess (S a).toList (S b).toList = decide (a < b) := by
  rw [S_tl, S_tl, bytesLess_eq']
theorem less_yes {a b : Nm} (h : a < b) : Op.bytesLess (S a).toList (S b).toList = true := by rw [less_eq]; simpa using h
theorem less_no {a b : Nm} (h : ¬ a < b) : Op.bytesLess (S a).toList (S b).toList = false := by rw [less_eq]; simpa using h
theorem OwnN.below {B : Nat} {w w' : World} {lv : Value} {l : List Nm} (h : OwnN B w lv l) (hb : Below w.heap.size w w') : OwnN B w' lv l := h.kept (row := none) ⟨hb.os, hb.tape, hb.output, hb.size, fun k hk _ => hb.block k hk⟩ (by cases e : lv.ownBlock with
    | none => exact .inl rfl
    | some k => exact .inr (fun h => by cases h))
theorem below_dn {B : Nat} {a w : World} (h : Below B a w) (n : Nat) : Below B a (w.drewN n) := ⟨h.os, h.tape, h.output, h.size, h.block⟩
theorem OwnN.dn {B : Nat} {w : World} {lv : Value} {l : List Nm} (h : OwnN B w lv l) (n : Nat) : OwnN B (w.drewN n) lv l := h
theorem ownsRow_len {base : Nat} {w : World} {lv : Value} {l : List Nm} {n : Nat} (hn : l.length = n) (h : OwnN base w lv l) : w.ownsRow base 9 1 lv n (strs l) := by subst hn; exact h
theorem OwnN.stored {base : Nat} {w : World} {g cap : Nat} {l : List Nm} {n : Nat} (hn : n = l.length) (h : OwnN base w (.slice (some ⟨g, 0, none⟩) n cap) l) (j : Nat) (m : Nm) : OwnN base (w.setCell ⟨g, j, none⟩ (.string (S m))) (.slice (some ⟨g, 0, none⟩) n cap) (l.set j m) := by
  subst hn
  have := World.ownsRow.stored h j (.string (S m))
  have e : strs (l.set j m) = (strs l).set j (.string (S m)) := by simp [strs, List.map_set]
  unfold OwnN
  rw [List.length_set, e]
  exact this.1
set_option maxRecDepth 100000 in
set_option maxHeartbeats 6400000 in
theorem rsorted_any {w : World} {A : Option Addr} {c : Nat} {l : List Nm} (h : NR w A c l) (hl : l.length ≤ 2000) :
    Calls Try.prog 21 #[.slice A l.length c] w (RowR w (sortN l)) := by
  have hcc := h.cap
  have hcb := h.big
  have H := Lib.hid h
  have HL := Lib.hid hl
  clear h
  go_enter Try.func21, Try.ntmps21
  go_wp2_with (at_builtin; refine wpList_copy _ rfl _ _ rfl w.heap.size _ rfl rfl (Nat.le_refl _) A c l rfl H.out (by omega) ?_; rintro lv w1 ⟨A1, c1, rfl⟩ ho hg; have HO := Lib.hid ho; have HB := Lib.hid ((Below.refl w.heap.size w).grown hg (Nat.le_refl _) (fun k h => by cases h)); clear ho hg)
  go_loopw [4] (fun iv wr => ∃ (k : Nat) (l' : List Nm), k ≤ l.length ∧ iv = .int .i64 k ∧ Hid (l'.length = l.length) ∧ Hid (OwnN w.heap.size wr (.slice A1 l.length c1) l') ∧ Hid (l'.Perm l) ∧ Hid (RiseTo l' k) ∧ Hid (Below w.heap.size w wr)) (fun iv _ => l.length - (intOf iv).toNat)
  case atStart => exact ⟨0, l, Nat.zero_le _, rfl, Lib.hid rfl, HO, Lib.hid (List.Perm.refl _), Lib.hid (fun a b _ h => absurd h (by omega)), HB⟩
  case round =>
    clear HO HB
    obtain ⟨k, l', hk, rfl, HLN, HO, HP, HR, HB⟩ := hrel
    by_cases hlt : k < l.length
    · go_wp2
      go_loopw [5] (fun jv wr2 => ∃ (j : Nat) (l2 : List Nm), j ≤ k ∧ jv = .int .i64 j ∧ Hid (l2.length = l.length) ∧ Hid (OwnN w.heap.size wr2 (.slice A1 l.length c1) l2) ∧ Hid (l2.Perm l) ∧ Hid (SI (at0 l2) k j) ∧ Hid (Below w.heap.size w wr2)) (fun jv _ => (intOf jv).toNat)
      case atStart => exact ⟨k, l', Nat.le_refl _, rfl, HLN, HO, HP, Lib.hid (SI.start HR.out), HB⟩
      case round =>
        clear HLN HO HP HR HB
        obtain ⟨j, l2, hj, rfl, HLN, HO, HP, HSI, HB⟩ := hrel
        by_cases h0 : j = 0
        · subst h0
          have HR2 := Lib.hid (show RiseTo l2 (k + 1) from fun a b h1 h2 => HSI.out.stop (.inl rfl) a b h1 (by omega))
          clear HSI
          go_wp2
          go_quiet (fail)
          go_wp2
          go_roundw
          case rel => exact ⟨k + 1, l2, by omega, by go_num, HLN, Lib.hid (HO.out.dn nq), HP, HR2, Lib.hid (below_dn HB.out nq)⟩
          case measure => simp [intOf]; omega
        · obtain ⟨j, rfl⟩ : ∃ j', j = j' + 1 := ⟨j - 1, by omega⟩
          have hjl : j + 1 < l2.length := by have := HLN.out; omega
          obtain ⟨A2, c2, e2, hN, hA⟩ := HO.out.form (by have := HLN.out; omega)
          injection e2 with e3 e4 e5
          subst e3 e5
          obtain ⟨g, rfl, hgb⟩ := hA (by omega)
          have ec : ∀ i (h : i < l2.length), (wr).cell? ⟨g, i, none⟩ = some (.string (S l2[i])) := fun i h => by
            obtain ⟨g', off, e, _, hc⟩ := hN.at_ h
            injection e with e
            injection e with e1 e2
            subst e1 e2
            simpa using hc
          have q1 := ec (j + 1) hjl
          have q2 := ec j (by omega)
          have j0 : decide ((0 : Int) < ((j : Int) + 1)) = true := by simp only [decide_eq_true_eq]; omega
          have hgz : g < wr.heap.size := (World.ownsRow.lt HO.out g rfl).2
          have f1 : wr.frozen? ⟨g, j, none⟩ = false := World.ownsRow.frozenAt (ownsRow_len HLN.out HO.out) j
          have f2 : wr.frozen? ⟨g, j + 1, none⟩ = false := World.ownsRow.frozenAt (ownsRow_len HLN.out HO.out) (j + 1)
          clear ec hN hA e4 h0
          have hw1 : IntKind.i64.wrap ((j : Int) + 1 - 1) = (j : Int) := by rw [show (j : Int) + 1 - 1 = j by omega]; exact IntWalk.i64_in _ (by omega)
          have hw2 : IntKind.i64.wrap (((j + 1 : Nat) : Int) - 1) = (j : Int) := by rw [show ((j + 1 : Nat) : Int) - 1 = j by omega]; exact IntWalk.i64_in _ (by omega)
          have HSZ := Lib.hid hgz
          by_cases hs : l2[j + 1]'hjl < l2[j]'(by have := hjl; omega)
          · have hb : Op.bytesLess (S l2[j + 1]).toList (S l2[j]).toList = true := less_yes hs
            have HLN2 := Lib.hid (show (swapL l2 j hjl).length = l.length by rw [swapL_len]; exact HLN.out)
            have HP2 := Lib.hid ((swapL_perm l2 j hjl).trans HP.out)
            have HSI2 := Lib.hid (show SI (at0 (swapL l2 j hjl)) k j by rw [swapL_at]; exact HSI.out.swap (by rw [at0_of hjl, at0_of (by omega)]; exact hs))
            have HX := Lib.hid (show ∀ n, OwnN w.heap.size (((wr.drewN n).setCell ⟨g, j + 1, none⟩ (.string (S l2[j]))).setCell ⟨g, j, none⟩ (.string (S l2[j + 1]))) (.slice (some ⟨g, 0, none⟩) l.length c1) (swapL l2 j hjl) from fun n =>
              OwnN.stored (by rw [List.length_set]; exact HLN.out.symm) (OwnN.stored HLN.out.symm (HO.out.dn n) (j + 1) l2[j]) j l2[j + 1])
            have HBX := Lib.hid (show ∀ n, Below w.heap.size w (((wr.drewN n).setCell ⟨g, j + 1, none⟩ (.string (S l2[j]))).setCell ⟨g, j, none⟩ (.string (S l2[j + 1]))) from fun n => ((below_dn HB.out n).setCell hgb _).setCell hgb _)
            clear hs HO HP HSI HB
            go_wp2
            go_quiet (fail)
            go_wp2
            go_roundw
            case rel => exact ⟨j, swapL l2 j hjl, by omega, rfl, HLN2, Lib.hid (HX.out nq), HP2, HSI2, Lib.hid (HBX.out nq)⟩
            case measure => simp [intOf]
          · have hb : Op.bytesLess (S l2[j + 1]).toList (S l2[j]).toList = false := less_no hs
            have HR2 := Lib.hid (show RiseTo l2 (k + 1) from fun a b h1 h2 => HSI.out.stop (.inr (by rw [Nat.add_sub_cancel, at0_of hjl, at0_of (by omega)]; exact hs)) a b h1 (by omega))
            clear hs HSI
            go_wp2
            go_quiet (fail)
            go_wp2
            go_roundw
            case rel => exact ⟨k + 1, l2, by omega, by go_num, HLN, Lib.hid (HO.out.dn nq), HP, HR2, Lib.hid (below_dn HB.out nq)⟩
            case measure => simp [intOf]; omega
    · have HE := Lib.hid (show l' = sortN l from riseTo_sort (by have h1 := HR.out; rw [show k = l'.length by have := HLN.out; omega] at h1; exact h1) HP.out)
      obtain ⟨A2, c2, e2, hN, _⟩ := HO.out.form (by have := HLN.out; omega)
      injection e2 with e3 e4 e5
      subst e3 e5
      have HN := Lib.hid hN
      clear hN e4 HR HP HO
      go_wp2
      go_ret
      have h1 := HN.out
      rw [HE.out] at h1
      exact ⟨A1, c1, by rw [sortN_len]; rfl, h1, HB.out⟩
end Go.Proofs.Ythonoobbpfgjhaa.Od
