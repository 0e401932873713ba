import Derived.Test.YtkemhmfdooghkaaGreatDoorX17
import Derived.Maps.AppendAt
import Derived.OwnWalk
set_option linter.unusedSimpArgs false
set_option linter.unusedVariables false
set_option maxRecDepth 100000
set_option maxHeartbeats 6400000
namespace Go.Proofs.YtkemhmfdooghkaaGreatDoor
namespace Ex
open Go.RowKit
open Tr (Nd Fo RepS RepN Rep)
open Lx (Tk noTk Blk run_store_complexL TokAt)
open Fl
open St (Good2 g2_max)
attribute [local go_sem] run_store_complexL run_field1 run_field3
attribute [local go_sem ↓] Go.wp_at_zero Go.wp_at_succ
def ResP {α : Type} (Q : α → Prop) (p : Par α) : Prop := ∀ L i x j, p L i = .ok (x, j) → Q x
section
variable {α β : Type} {Q : β → Prop} {P : α → Prop}
theorem res_ret {a : β} (h : Q a) : ResP Q (retP a) := fun L i x j e => by cases e; exact h
theorem res_bind {p : Par α} {q : α → Par β} (hp : ResP P p) (hq : ∀ a, P a → ResP Q (q a)) : ResP Q (bindP p q) := fun L i x j e => by
 unfold bindP at e
 cases h : p L i with
 | error k => rw [h] at e; cases e
 | ok r => obtain ⟨a, j1⟩ := r; rw [h] at e; exact hq a (hp _ _ _ _ h) _ _ _ _ e
theorem res_bind0 {p : Par α} {q : α → Par β} (hq : ∀ a, ResP Q (q a)) : ResP Q (bindP p q) := res_bind (P := fun _ => True) (fun _ _ _ _ _ => trivial) fun a _ => hq a
theorem res_tok {t : PT → Bool} {A : PT → Par β} {B : Par β} (hA : ∀ x, ResP Q (A x)) (hB : ResP Q B) : ResP Q (tokP t A B) := fun L i x j e => by
 unfold tokP at e
 split at e
 ·exact hA _ _ _ _ _ e
 ·exact hB _ _ _ _ e
theorem res_fail : ResP Q failP := fun L i x j e => by cases e
end
def dotOK : Fo → Prop
 | .no => True
 | .node d k _ => d.kind = 2 → k ≠ .no ∧ dotOK k
def dotT (x : T1) : Prop := dotOK (.node x.1 x.2 .no)
theorem plain_any (d : Nd) (k : Fo) (b : Nat) (w : World) (hd : dotOK (.node d k .no)) (hr : Rep w (.node d k .no) [.pointer (some ⟨b, 0, none⟩)]) :
 Calls Tryz.prog 161 #[.pointer (some ⟨b, 0, none⟩)] w fun e w' => e = .returned (.bool (plainF (.node d k .no))) ∧ w = w' := by
 obtain ⟨res, hres⟩ : ∃ r, r = plainF (.node d k .no) := ⟨_, rfl⟩
 rw [← hres]
 have HRES := qh hres
 have HR := qh hr
 have HD := qh hd
 clear hr hd hres
 go_enter Tryz.func161, Tryz.ntmps161
 go_wp2
 go_loopg [0] k.count (fun g p wr => wr = w ∧ ∃ (d : Nd) (k : Fo) (b : Nat), g = k.count ∧ p = .pointer (some ⟨b, 0, none⟩) ∧ Hid (res = plainF (.node d k .no)) ∧ Hid (Rep w (.node d k .no) [.pointer (some ⟨b, 0, none⟩)]) ∧ Hid (dotOK (.node d k .no)))
 case atStart => exact ⟨rfl, d, k, b, rfl, rfl, HRES, HR, HD⟩
 case round =>
  clear HRES HR HD
  obtain ⟨rfl, d, k, b, rfl, rfl, HRES, HR, HD⟩ := hrel
  obtain ⟨b', A, c, ks, e, hat, hA, hk⟩ := HR.out.one
  have hb : b' = b := by injection e with e; injection e with e; injection e with e; exact e.symm
  subst hb
  obtain ⟨a0, a1, a2, a3, a4⟩ := hat
  by_cases h2 : d.kind = 2
  ·obtain ⟨hne, hdk⟩ := HD.out h2
   cases k with
   | no => exact absurd rfl hne
   | node d1 k1 r1 =>
     obtain ⟨v, vs', rfl, hv, _⟩ := hk.head
     obtain ⟨b1, _, _, _, rfl, _⟩ := hv.one
     obtain ⟨bb, off, rfl, hcell⟩ := Tr.Reads.nth (i := 0) hA (by simp)
     simp only [List.getElem_cons_zero, Nat.add_zero] at hcell
     have hlen : (0 : Int) < (((Value.pointer (some ⟨b1, 0, none⟩) :: vs').length : Nat) : Int) := by simp only [List.length_cons]; omega
     have HR2 := qh hv
     have HRES2 := qh (show res = plainF (.node d1 k1 .no) by rw [HRES.out]; show (if d.kind = 2 then _ else _) = _; rw [if_pos h2]; rfl)
     have HD2 := qh (show dotOK (.node d1 k1 .no) from hdk)
     have k2 : ((d.kind : Int) == 2) = true := by rw [h2]; rfl
     generalize (Value.pointer (some ⟨b1, 0, none⟩) :: vs').length = m at *
     clear e a1 a2 a3 hk hv hA HRES HR HD hne hdk h2
     go_wp2
     go_roundg k1.count
     case rel => exact ⟨rfl, d1, k1, b1, rfl, rfl, HRES2, HR2, HD2⟩
     case measure => simp [Fo.count]; omega
  ·have HRES2 := qh (show res = decide (d.kind = 1) by rw [HRES.out]; show (if d.kind = 2 then _ else _) = _; rw [if_neg h2])
   have k2 : ((d.kind : Int) == 2) = false := by simp only [beq_eq_false_iff_ne, ne_eq]; omega
   have k1 : ((d.kind : Int) == 1) = decide (d.kind = 1) := by rw [Bool.eq_iff_iff, beq_iff_eq, decide_eq_true_eq]; omega
   generalize decide (d.kind = 1) = bb at *
   clear e a1 a2 a3 a4 hk hA HRES HR HD h2
   go_wp2
   go_ret
   exact ⟨by rw [HRES2.out]; rfl, rfl⟩
theorem dots_dot : ∀ (f : Nat) (x : T1), dotT x → ResP dotT (dotsF f x)
 | 0, x, h => res_ret h
 | f + 1, x, h => res_tok (fun _ => res_bind0 fun _ => dots_dot f _ fun _ => ⟨(by intro e; cases e), h⟩) (res_ret h)
theorem commas_dot {e : Par T1} : ∀ (f : Nat) (x : T1), dotT x → ResP dotT (commasF e f x)
 | 0, x, h => res_ret h
 | f + 1, x, h => res_tok (fun _ => res_bind0 fun _ => commas_dot f _ fun e => by cases e) (res_ret h)
theorem des_dot {e : Par T1} {g : Nat} : ∀ (f : Nat) (x : T1), dotT x → ResP dotT (desF e g f x)
 | 0, x, h => res_ret h
 | f + 1, x, h => res_tok (fun _ => res_bind0 fun _ => des_dot f _ fun _ => ⟨(by intro e; cases e), h⟩)
    (res_tok (fun _ => des_dot f _ fun e => by cases e)
    (res_tok (fun _ => res_bind0 fun _ => res_bind (commas_dot _ _ fun e => by cases e) fun z hz => res_tok (fun _ => des_dot f z hz) res_fail) (res_ret h)))
theorem design_dot {e : Par T1} {g : Nat} : ∀ L i x j, designF e g L i = .ok (x, j) → dotT x := res_bind (P := dotT) (res_bind0 fun _ => dots_dot _ _ fun e => by cases e) fun z hz => des_dot g z hz
theorem manyR_n {e : Par T1} (he : Good2 e) {L : List PT} : ∀ (f : Nat) (acc : List T1) (i : Nat) (l : List T1) (j : Nat), manyRF e f acc L i = .ok (l, j) → l.length + i ≤ acc.length + j
 | 0, acc, i, l, j, h => by cases h; exact Nat.le_refl _
 | f + 1, acc, i, l, j, h => by
   unfold manyRF tokP at h
   split at h
   ·unfold bindP at h
    dsimp only at h
    have hm := g2_max he L (i + 1)
    cases h1 : e L (i + 1) with
    | error k => rw [h1] at h; cases h
    | ok r =>
      obtain ⟨y, j1⟩ := r
      rw [h1] at h hm
      have := manyR_n he f _ _ _ _ h
      have h2 : i + 1 ≤ j1 := hm.1
      rw [List.length_append, List.length_singleton] at this
      omega
   ·cases h; exact Nat.le_refl _
theorem many_n {e : Par T1} (he : Good2 e) {L : List PT} {g i j : Nat} {l : List T1} (h : manyF e g L i = .ok (l, j)) : l.length + i ≤ j + 1 := by
 unfold manyF bindP at h
 have hm := g2_max he L i
 cases h1 : e L i with
 | error k => rw [h1] at h; cases h
 | ok r =>
   obtain ⟨y, j1⟩ := r
   rw [h1] at h hm
   have := manyR_n he g _ _ _ _ h
   have h2 : i ≤ j1 := hm.1
   simp only [List.length_cons, List.length_nil] at this
   omega
theorem between_n {e : Par T1} (he : Good2 e) {g : Nat} {s : ByteArray} : ∀ L i l j, betweenF e g s L i = .ok (l, j) → l.length + i ≤ j := fun L i l j h => by
 unfold betweenF tokP at h
 split at h
 ·cases h; simp
 ·unfold bindP at h
  cases h1 : manyF e g L i with
  | error k => rw [h1] at h; cases h
  | ok r =>
    obtain ⟨l1, j1⟩ := r
    rw [h1] at h
    have := many_n he h1
    dsimp only at h
    unfold needF tokP failP at h
    split at h
    ·cases h; omega
    ·cases h
section
variable {P : Program} (w : World)
theorem run_app_nil (base : Nat) (t ty e : TypeId) (i : TypeInfo) (size : Nat) (ht : P.underlying t = some (.slice e)) (hi : P.info? e = some i)
 (v : Value) (n : Nat) (xs : List Value) (hown : w.ownsRow base e size v n xs) (c : Nat) : (Builtin.append_ #[t, t] ty #[v, .slice none 0 c]).run P w = .ok v w := by
 rcases hown.2 with ⟨rfl, rfl⟩ | ⟨g, cap, cur, rfl, _, _, hnc, _⟩
 ·simp [Builtin.append_, run_underlying ht, sizeOf, typeInfo, hi, Builtin.lenOf, Builtin.firstCells]
 ·simp [Builtin.append_, run_underlying ht, sizeOf, typeInfo, hi, Builtin.lenOf, Builtin.firstCells, hnc, storeCells]
theorem run_app (base : Nat) (t ty e : TypeId) (i : TypeInfo) (z : Value) (size bytes : Nat) (ht : P.underlying t = some (.slice e)) (hi : P.info? e = some i) (hz : i.zero = some z)
 (hsize : i.size = size) (hby : i.bytes = bytes) (hzs : z.cells.size = size) (hsz : 0 < size)
 (v : Value) (n : Nat) (xs : List Value) (hown : w.ownsRow base e size v n xs)
 (B : Nat) (A : Option Addr) (m c : Nat) (news : List Value) (hr : Reads w B size A m news) (h1 : ∀ u ∈ news, u.oneCell' = true)
 (h63 : n + m ≤ maxLen) (hbytes : (n + m) * bytes ≤ 140737488355328) (hbase : base ≤ w.heap.size) :
 ∃ A' c' w', (Builtin.append_ #[t, t] ty #[v, .slice A m c]).run P w = .ok (.slice A' (n + m) c') w' ∧ w'.ownsRow base e size (.slice A' (n + m) c') (n + m) (xs ++ news) ∧ w.grownBy w' v.ownBlock := by
 have key : ∃ v' w', (Builtin.append_ #[t, t] ty #[v, .slice A m c]).run P w = .ok v' w' ∧ w'.ownsRow base e size v' (n + m) (xs ++ news) ∧ w.grownBy w' v.ownBlock := by
  rcases A with _ | ad
  ·have hm : m = 0 := by
    rcases Nat.eq_zero_or_pos m with h0 | h0
    ·exact h0
    ·obtain ⟨ad, h, _⟩ := hr.2 h0
     cases h
   subst hm
   have hn : news = [] := List.eq_nil_of_length_eq_zero (by simpa using hr.1)
   subst hn
   exact ⟨v, w, run_app_nil w base t ty e i size ht hi v n xs hown c, by simpa using hown, World.grownBy.refl w _⟩
  ·have hcells : ∀ j u, news[j]? = some u → w.cell? (ad.add j) = some u := by
    intro j u hu
    rcases Nat.eq_zero_or_pos m with h0 | h0
    ·subst h0
     have hn : news = [] := List.eq_nil_of_length_eq_zero (by simpa using hr.1)
     subst hn
     simp at hu
    ·obtain ⟨ad', h, _, hc⟩ := hr.2 h0
     injection h with h
     subst h
     exact hc j u hu
   obtain ⟨v', w', hrun, h2, h3, _, _⟩ := run_append_own_at (P := P) w base t ty e i z size bytes ht hi hz hsize hby hzs hsz v n xs hown ad m c news hr.1 hcells h1 h63 hbytes hbase
   exact ⟨v', w', hrun, h2, h3⟩
 obtain ⟨v', w', hrun, h2, h3⟩ := key
 rcases h2.2 with ⟨rfl, h0⟩ | ⟨g, cap, cur, rfl, _⟩
 ·rw [h0] at h2 ⊢
  exact ⟨none, 0, w', hrun, h2, h3⟩
 ·exact ⟨_, _, w', hrun, h2, h3⟩
theorem step_app {ops : Array Oper} {o : Oper} {a : Act} {K : Act → World → Prop} {Q : Exit → Act → World → Prop} {E : Prop} (hgd : o.guard = none) (s x : Operand) (t : TypeId)
 (ho : o.op = .call { callee := .builtin .append, args := #[s, x], argTypes := #[t, t] })
 (base : Nat) (e : TypeId) (i : TypeInfo) (z : Value) (size bytes : Nat) (ht : P.underlying t = some (.slice e)) (hi : P.info? e = some i) (hz : i.zero = some z)
 (hsize : i.size = size) (hby : i.bytes = bytes) (hzs : z.cells.size = size) (hsz : 0 < size)
 (v : Value) (n : Nat) (xs : List Value) (hs : a.eval s = v) (hown : w.ownsRow base e size v n xs)
 (B : Nat) (A : Option Addr) (m c : Nat) (news : List Value) (hx : a.eval x = .slice A m c) (hr : Reads w B size A m news) (h1 : ∀ u ∈ news, u.oneCell' = true)
 (h63 : n + m ≤ maxLen) (hbytes : (n + m) * bytes ≤ 140737488355328) (hbase : base ≤ w.heap.size)
 (h : ∀ A' c' w', w'.ownsRow base e size (.slice A' (n + m) c') (n + m) (xs ++ news) → w.grownBy w' v.ownBlock → K (a.put o.dst (.slice A' (n + m) c')) w') :
 if Region.wanted o (yielded ops a.tmps) = true then Oper.wp P o a w K Q else E := by
 have hw : Region.wanted o (yielded ops a.tmps) = true := by simp [Region.wanted, hgd]
 rw [if_pos hw]
 obtain ⟨A', c', w', hrun, h2, h3⟩ := run_app (P := P) w base t o.type e i z size bytes ht hi hz hsize hby hzs hsz v n xs hown B A m c news hr h1 h63 hbytes hbase
 unfold Oper.wp execOp
 simp only [ho, resolve, invoke, builtin, Sem.run_bind, Sem.run_pure, Result.andThen_ok, List.map_toArray, List.map_cons, List.map_nil, hs, hx, hrun]
 exact h A' c' w' h2 h3
theorem wpList_app {ops : Array Oper} {rest : List Oper} {o : Oper} {a : Act} {Q : Exit → Act → World → Prop} (hgd : o.guard = none) (s x : Operand) (t : TypeId)
 (ho : o.op = .call { callee := .builtin .append, args := #[s, x], argTypes := #[t, t] })
 (base : Nat) (e : TypeId) (i : TypeInfo) (z : Value) (size bytes : Nat) (ht : P.underlying t = some (.slice e)) (hi : P.info? e = some i) (hz : i.zero = some z)
 (hsize : i.size = size) (hby : i.bytes = bytes) (hzs : z.cells.size = size) (hsz : 0 < size)
 (v : Value) (n : Nat) (xs : List Value) (hs : a.eval s = v) (hown : w.ownsRow base e size v n xs)
 (B : Nat) (A : Option Addr) (m c : Nat) (news : List Value) (hx : a.eval x = .slice A m c) (hr : Reads w B size A m news) (h1 : ∀ u ∈ news, u.oneCell' = true)
 (h63 : n + m ≤ maxLen) (hbytes : (n + m) * bytes ≤ 140737488355328) (hbase : base ≤ w.heap.size)
 (h : ∀ A' c' w', w'.ownsRow base e size (.slice A' (n + m) c') (n + m) (xs ++ news) → w.grownBy w' v.ownBlock → wpList P ops Q rest (a.put o.dst (.slice A' (n + m) c')) w') : wpList P ops Q (o :: rest) a w := by
 refine wpList_plain hgd fun _ hK => ?_
 obtain ⟨A', c', w', hrun, h2, h3⟩ := run_app (P := P) w base t o.type e i z size bytes ht hi hz hsize hby hzs hsz v n xs hown B A m c news hr h1 h63 hbytes hbase
 unfold Oper.wp execOp
 simp only [ho, resolve, invoke, builtin, Sem.run_bind, Sem.run_pure, Result.andThen_ok, List.map_toArray, List.map_cons, List.map_nil, hs, hx, hrun]
 exact hK _ _ (h A' c' w' h2 h3)
end
abbrev ent1 : List (Value × Value) := [(.int .u8 2, .int .u8 5)]
abbrev ent2 : List (Value × Value) := [(.int .u8 2, .int .u8 5), (.int .u8 3, .int .u8 6)]
abbrev ent3 : List (Value × Value) := [(.int .u8 2, .int .u8 5), (.int .u8 3, .int .u8 6), (.int .u8 4, .int .u8 7)]
theorem kin_0 (W : World) (m : Nat) (hm : W.heap.size = m) : (Instr.mapUpdate 164 (.map (some m)) (.int .u8 2) (.int .u8 5)).run Tryz.prog (W.alloc (.map #[] 0)) = .ok () (W.alloc (mapO [(.int .u8 2, .int .u8 5)])) :=
 run_ins Tryz.underlying164 Tryz.underlying5 [] _ _ (by simp [MapKept.IsKey]) rfl W m hm
theorem kin_1 (W : World) (m : Nat) (hm : W.heap.size = m) : (Instr.mapUpdate 164 (.map (some m)) (.int .u8 3) (.int .u8 6)).run Tryz.prog (W.alloc (mapO [(.int .u8 2, .int .u8 5)])) = .ok () (W.alloc (mapO [(.int .u8 2, .int .u8 5), (.int .u8 3, .int .u8 6)])) :=
 run_ins Tryz.underlying164 Tryz.underlying5 ent1 _ _ (by simp [MapKept.IsKey]) rfl W m hm
theorem kin_2 (W : World) (m : Nat) (hm : W.heap.size = m) : (Instr.mapUpdate 164 (.map (some m)) (.int .u8 4) (.int .u8 7)).run Tryz.prog (W.alloc (mapO [(.int .u8 2, .int .u8 5), (.int .u8 3, .int .u8 6)])) = .ok () (W.alloc (mapO [(.int .u8 2, .int .u8 5), (.int .u8 3, .int .u8 6), (.int .u8 4, .int .u8 7)])) :=
 run_ins Tryz.underlying164 Tryz.underlying5 ent2 _ _ (by simp [MapKept.IsKey]) rfl W m hm
theorem kin_look (k : Nat) (h : 2 ≤ k ∧ k ≤ 4) (W : World) (m : Nat) (hm : W.heap.size = m) :
 (Instr.lookup 164 (.map (some m)) (.int .u8 k) true).run Tryz.prog (W.alloc (mapO [(.int .u8 2, .int .u8 5), (.int .u8 3, .int .u8 6), (.int .u8 4, .int .u8 7)])) = .ok (.tuple #[.int .u8 ((k + 3 : Nat) : Int), .bool true]) (W.alloc (mapO [(.int .u8 2, .int .u8 5), (.int .u8 3, .int .u8 6), (.int .u8 4, .int .u8 7)])) := by
 subst hm
 have hk : k = 2 ∨ k = 3 ∨ k = 4 := by omega
 rcases hk with rfl | rfl | rfl
 ·exact run_look Tryz.underlying164 Tryz.underlying5 ent3 _ (by simp [MapKept.IsKey]) (j := 0) (v := .int .u8 5) rfl true _ _ (heap_alloc_new W _)
 ·exact run_look Tryz.underlying164 Tryz.underlying5 ent3 _ (by simp [MapKept.IsKey]) (j := 1) (v := .int .u8 6) rfl true _ _ (heap_alloc_new W _)
 ·exact run_look Tryz.underlying164 Tryz.underlying5 ent3 _ (by simp [MapKept.IsKey]) (j := 2) (v := .int .u8 7) rfl true _ _ (heap_alloc_new W _)
theorem kin_none (k : Nat) (h : ¬ (2 ≤ k ∧ k ≤ 4)) (W : World) (m : Nat) (hm : W.heap.size = m) :
 (Instr.lookup 164 (.map (some m)) (.int .u8 k) true).run Tryz.prog (W.alloc (mapO [(.int .u8 2, .int .u8 5), (.int .u8 3, .int .u8 6), (.int .u8 4, .int .u8 7)])) = .ok (.tuple #[.int .u8 0, .bool false]) (W.alloc (mapO [(.int .u8 2, .int .u8 5), (.int .u8 3, .int .u8 6), (.int .u8 4, .int .u8 7)])) := by
 subst hm
 have e2 : ((k : Int) == 2) = false := by simp only [beq_eq_false_iff_ne, ne_eq]; omega
 have e3 : ((k : Int) == 3) = false := by simp only [beq_eq_false_iff_ne, ne_eq]; omega
 have e4 : ((k : Int) == 4) = false := by simp only [beq_eq_false_iff_ne, ne_eq]; omega
 refine run_look_no Tryz.underlying164 Tryz.underlying5 ent3 (.int .u8 k) (by simp [MapKept.IsKey]) ?_ true _ (by kernel_rfl) _ (heap_alloc_new W _)
 simp [esF, Instr.findNow, Instr.sameNow, e2, e3, e4]
theorem one_ptrs {S : Nat → Prop} {w : World} : ∀ {f : Fo} {vs : List Value}, RepS S w f vs → ∀ u ∈ vs, u.oneCell' = true
 | .no, vs, h => by unfold RepS at h; subst h; intro u hu; cases hu
 | .node d k r, vs, h => by
   unfold RepS at h
   obtain ⟨b, A, c, ks, vs', rfl, h2, h3, h4, h5, h6, h7⟩ := h
   intro u hu
   rcases List.mem_cons.1 hu with rfl | hu
   ·rfl
   ·exact one_ptrs h7 u hu
theorem ownl {w : World} {base : Nat} {v : Value} (hb : base ≤ w.heap.size) : (w.alloc (.cells #[v] 31)).ownsRow base 31 1 (.slice (some ⟨w.heap.size, 0, none⟩) 1 1) 1 [v] :=
 World.ownsRow_lit w #[v] 1 hb (by unfold maxLen; omega) rfl
structure SR (B : Nat) (W : World) (m : Nat) (v0 : Value) (x0 : T1) (sv : Value) (l : List T1) (vs : List Value) : Prop where
 own : W.ownsRow B 31 1 (.slice (some ⟨m, 0, none⟩) 1 1) 1 [v0]
 form : ∃ A c, sv = .slice A l.length c ∧ Reads W W.heap.size 1 A l.length vs
 len : vs.length = l.length
 rep : RepS (fun y => B ≤ y ∧ y ≠ m) W (forest l) vs
 hd : RepN (fun y => B ≤ y ∧ y ≠ m) W (.node x0.1 x0.2 .no) [v0]
section
variable {B B0 m br : Nat} {w W w' : World} {v0 sv : Value} {x0 : T1} {l : List T1} {vs : List Value} {A' : Option Addr} {c' : Nat}
theorem LG.form' (h : LG B W sv l vs) : ∃ A c, sv = .slice A l.length c ∧ Reads W W.heap.size 1 A l.length vs := by
 obtain ⟨A, c, e, hr⟩ := h.form; exact ⟨A, c, e, h.len ▸ hr⟩
theorem SR.early (h : LG B0 W sv l vs) (hB : B ≤ B0) (hW : B ≤ W.heap.size) (hd : RepN (fun y => B ≤ y) W (.node x0.1 x0.2 .no) [v0]) : SR B (W.alloc (.cells #[v0] 31)) W.heap.size v0 x0 sv l vs := by
 have hb : Below W.heap.size W (W.alloc (.cells #[v0] 31)) := (Below.refl _ _).alloc nl _
 obtain ⟨A, c, e, hr⟩ := h.form'
 exact ⟨ownl hW, ⟨A, c, e, (hr.below hb).more hb.size⟩, h.len, (h.rep.more fun y hy hl => ⟨by have := hy.1; omega, Nat.ne_of_lt hl⟩).below hb, (hd.more fun y hy hl => ⟨hy, Nat.ne_of_lt hl⟩).below hb⟩
theorem SR.late (h : LG (w.alloc (.cells #[v0] 31)).heap.size W sv l vs) (hB : B ≤ w.heap.size) (hg : (w.alloc (.cells #[v0] 31)).grownBy W (some br)) (hbr : br < B) (hd : RepN (fun y => B ≤ y) w (.node x0.1 x0.2 .no) [v0]) : SR B W w.heap.size v0 x0 sv l vs := by
 have hb : Below w.heap.size w (w.alloc (.cells #[v0] 31)) := (Below.refl _ _).alloc nl _
 have hsz := World.size_alloc w (.cells #[v0] 31)
 refine ⟨(ownl hB).kept hg (.inr (by show some w.heap.size ≠ some br; intro e; injection e with e; omega)), h.form', h.len, h.rep.more fun y hy hl => ⟨by have := hy.1; omega, by have := hy.1; omega⟩, ?_⟩
 refine RepN.keep (S := fun y => B ≤ y ∧ y ≠ w.heap.size) hg.size (fun y hy hl => hg.block y hl (fun e => by injection e with e; have := hy.1; omega)) ?_
 exact (hd.more fun y hy hl => ⟨hy, Nat.ne_of_lt hl⟩).below hb
theorem SR.app (h : SR B W m v0 x0 sv l vs) (hown : w'.ownsRow B 31 1 (.slice A' (1 + l.length) c') (1 + l.length) ([v0] ++ vs)) (hg : W.grownBy w' (some m)) :
 Reads w' w'.heap.size 1 A' (1 + l.length) (v0 :: vs) ∧ RepN (fun y => B ≤ y) w' (forest (x0 :: l)) (v0 :: vs) := by
 refine ⟨Reads.of_own hown, ?_⟩
 have hk : ∀ y, (B ≤ y ∧ y ≠ m) → y < W.heap.size → w'.heap[y]? = W.heap[y]? := fun y hy hl => hg.block y hl (fun e => by injection e with e; exact hy.2 e)
 have h1 := repN_of (h.rep.keep (S' := fun y => B ≤ y) hg.size hk (fun y hy _ => hy.1))
 have h2 := (RepN.keep hg.size hk h.hd).more (S' := fun y => B ≤ y) fun y hy _ => hy.1
 unfold RepN at h2
 obtain ⟨v, vs', e, h3, h4⟩ := h2
 injection e with e1 e2
 subst e1
 show RepN _ _ (.node x0.1 x0.2 (forest l)) _
 unfold RepN
 exact ⟨_, _, rfl, h3, h1⟩
end
section
variable {α β : Type} {w0 w wx W : World} {br c i' j m : Nat} {A : Option Addr} {L : List PT} {res : Except Nat (β × Nat)} {p : Par β} {ops : Array Oper} {rest : List Oper} {o : Oper} {a : Act} {K : Act → World → Prop} {Q : Exit → Act → World → Prop} {E : Prop} {v0 sv : Value} {x0 : T1} {l : List T1} {vs : List Value}
theorem step_set (hgd : o.guard = none) (s x : Operand) (ho : o.op = .call { callee := .builtin .append, args := #[s, x], argTypes := #[36, 36] })
 (S : S1 w0 w W br c A L res p j) (H0 : PInv w0 w br A c L i') (h : SR w.heap.size W m v0 x0 sv l vs) (hl : l.length ≤ 900000) (hs : a.eval s = .slice (some ⟨m, 0, none⟩) 1 1) (hx : a.eval x = sv)
 (hK : ∀ A' c' w', Hid (S1 w0 w w' br c A L res p j) → Hid (W.grownBy w' (some m)) → Hid (Reads w' w'.heap.size 1 A' (1 + l.length) (v0 :: vs)) → Hid (RepN (fun y => w.heap.size ≤ y) w' (forest (x0 :: l)) (v0 :: vs)) → K (a.put o.dst (.slice A' (1 + l.length) c')) w') :
 if Region.wanted o (yielded ops a.tmps) = true then Oper.wp Tryz.prog o a W K Q else E := by
 obtain ⟨i0, hi0, hz0, hz1, hz2⟩ := info_parts infoN
 obtain ⟨A1, c1, e, hr⟩ := h.form
 have hm := h.own.lt m rfl
 refine step_app W hgd s x _ ho w.heap.size 31 i0 _ 1 8 Tryz.underlying36 hi0 hz0 hz1 hz2 rfl (by omega) _ 1 [v0] hs h.own _ A1 l.length c1 vs (hx.trans e) hr (one_ptrs h.rep) (by unfold maxLen; omega) (by omega) (by omega) ?_
 intro A' c' w' hown hg
 obtain ⟨h1, h2⟩ := h.app hown hg
 exact hK A' c' w' (qh ⟨S.pg.gfar H0 hg (fun k e => by have e : some m = some k := e; injection e with e; omega), S.eq, S.le⟩) (qh hg) (qh h1) (qh h2)
theorem wpList_set (hgd : o.guard = none) (s x : Operand) (ho : o.op = .call { callee := .builtin .append, args := #[s, x], argTypes := #[36, 36] })
 (S : S1 w0 w W br c A L res p j) (H0 : PInv w0 w br A c L i') (h : SR w.heap.size W m v0 x0 sv l vs) (hl : l.length ≤ 900000) (hs : a.eval s = .slice (some ⟨m, 0, none⟩) 1 1) (hx : a.eval x = sv)
 (hK : ∀ A' c' w', Hid (S1 w0 w w' br c A L res p j) → Hid (W.grownBy w' (some m)) → Hid (Reads w' w'.heap.size 1 A' (1 + l.length) (v0 :: vs)) → Hid (RepN (fun y => w.heap.size ≤ y) w' (forest (x0 :: l)) (v0 :: vs)) → wpList Tryz.prog ops Q rest (a.put o.dst (.slice A' (1 + l.length) c')) w') :
 wpList Tryz.prog ops Q (o :: rest) a W := by
 obtain ⟨i0, hi0, hz0, hz1, hz2⟩ := info_parts infoN
 obtain ⟨A1, c1, e, hr⟩ := h.form
 have hm := h.own.lt m rfl
 refine wpList_app W hgd s x _ ho w.heap.size 31 i0 _ 1 8 Tryz.underlying36 hi0 hz0 hz1 hz2 rfl (by omega) _ 1 [v0] hs h.own _ A1 l.length c1 vs (hx.trans e) hr (one_ptrs h.rep) (by unfold maxLen; omega) (by omega) (by omega) ?_
 intro A' c' w' hown hg
 obtain ⟨h1, h2⟩ := h.app hown hg
 exact hK A' c' w' (qh ⟨S.pg.gfar H0 hg (fun k e => by have e : some m = some k := e; injection e with e; omega), S.eq, S.le⟩) (qh hg) (qh h1) (qh h2)
theorem S1.listD {P : Par (List T1)} {q : List T1 → Par β} {F : Nat} {args : Array Value} (S : S1 w0 w wx br c A L res (bindP P q) j) (ht : Toks w0 br A L) (D : Calls Tryz.prog F args wx (ListR wx.heap.size w0 wx br A c L (P L j))) (G : Good2 P) (hn : ∀ L i l j, P L i = .ok (l, j) → l.length + i ≤ j) :
 Calls Tryz.prog F args wx (fun e w' => (∃ k, e = bad k ∧ Hid (res = .error k) ∧ Hid (w.grownBy w' (some br))) ∨ ∃ l sv xs j', e = .returned sv ∧ l.length ≤ 800000 ∧ Hid (S1 w0 w w' br c A L res (q l) j') ∧ Hid (wx.grownBy w' (some br)) ∧ Hid (LG wx.heap.size w' sv l xs)) := by
 refine S.list D G (fun k w' h hg => .inl ⟨k, rfl, h, hg⟩) (fun l sv xs j' w' h0 h1 h2 h3 h4 => .inr ⟨l, sv, xs, j', rfl, ?_, h2, h3, h4⟩)
 have := hn _ _ _ _ h0.out
 have := h2.out.le
 have := ht.len
 omega
theorem new_set {B : Nat} {w : World} (hw : B ≤ w.heap.size) (kI : Int) (kind : Nat) (hkI : kI = (kind : Int)) (p1 p2 : Nat) (A' : Option Addr) (c' : Nat) {x0 : T1} {l : List T1} {v0 : Value} {vs : List Value} (hl : l.length ≤ 900000)
 (hA : Reads w w.heap.size 1 A' (1 + l.length) (v0 :: vs)) (hk : RepN (fun x => B ≤ x) w (forest (x0 :: l)) (v0 :: vs)) :
 Calls Tryz.prog 33 #[.int .u8 kI, .complex .f64 (fl p1) (fl p2), .string sNil, .int .i64 0, .slice A' (1 + l.length) c'] w fun e w' =>
  ∃ b, e = .returned (.pointer (some ⟨b, 0, none⟩)) ∧ Below w.heap.size w w' ∧ RepS (fun x => B ≤ x) w' (.node (mk kind (p1, p2) sNil 0 (x0 :: l)).1 (mk kind (p1, p2) sNil 0 (x0 :: l)).2 .no) [.pointer (some ⟨b, 0, none⟩)] :=
 new_at hw kI kind hkI p1 p2 sNil 0 A' c' (1 + l.length) (v0 :: vs) (forest (x0 :: l)) (hA.1.trans (by omega)) (by omega) hA hk
end
abbrev exprK (g f : Nat) : Par T1 := levF (factF g f) g 3
abbrev factK (g f : Nat) : Par T1 := tokP (tT sPar) (fun _ => bindP (exprK g f) (fun x => needF sRap (retP x)))
 (tokP (tT sNot) (fun t0 => bindP (factF g f) (fun x => retP (mk 12 t0.2.1 sNot 0 [x])))
 (tokP (tT sCur) (fun t0 => bindP (betweenF (elemF (exprK g f)) g sRuc) (fun l => retP (mk 8 t0.2.1 sNil 0 (zeroT :: l))))
 (posP fun t0 => bindP (designF (exprK g f) g) (tailF (exprK g f) g t0))))
abbrev tailK (e : Par T1) (g : Nat) (x : T1) : Par T1 := tokP (tT sPar) (fun tj => bindP (betweenF e g sRap) (fun l => retP (mk 10 tj.2.1 sNil 0 (x :: l)))) (retP x)
theorem factF_y {g f : Nat} : factF g (f + 1) = tokP litT (fun t => retP (mk (t.1.kind + 3) t.2.1 t.1.text t.1.n [])) (factK g f) := rfl
theorem tailF_y {e : Par T1} {g : Nat} {t0 : PT} {x : T1} (h : plainT x = true) : tailF e g t0 x = tokP (tT sCur) (fun _ => bindP (betweenF (elemF e) g sRuc) (fun l => retP (mk 8 t0.2.1 sNil 0 (x :: l)))) (tailK e g x) := by
 unfold tailF; rw [h]; rfl
theorem tailF_n {e : Par T1} {g : Nat} {t0 : PT} {x : T1} (h : plainT x = false) : tailF e g t0 x = tailK e g x := by
 funext L i; unfold tailF tokP; rw [h]; rfl
theorem g2_btw {e : Par T1} {g : Nat} {s : ByteArray} (he : Good2 e) : Good2 (betweenF e g s) := St.g2_tok (tT_no _) (fun _ => St.g2_ret _) (St.g2_bind (g2_manyE he) fun _ => St.g2_need (St.g2_ret _))
theorem fact_y {g : Nat} {w0 : World} {br c : Nat} {A : Option Addr} {L : List PT} (ht : Toks w0 br A L) (hgL : L.length < g) {f : Nat} {lo : Nat} (hF : TyE 142 (factF g f) lo w0 br A c L) (hE : TyE 120 (exprK g f) lo w0 br A c L) (i : Nat) (hlo : lo ≤ i + 1) (hi : i ≤ L.length) (w : World) (h : PInv w0 w br A c L i) :
 Calls Tryz.prog 142 #[.pointer (some ⟨br, 0, none⟩)] w (TreeR w.heap.size w0 w br A c L (factF g (f + 1) L i)) := by
 have hbr := h.row.lt
 have H0 := qh h
 have HT := qh ht
 obtain ⟨res, hs0⟩ : ∃ r, r = factF g (f + 1) L i := ⟨_, rfl⟩
 rw [← hs0]
 have S := qh (S1.start h hi hs0)
 clear h ht hs0 hi
 go_enter Tryz.func142, Tryz.ntmps142
 have HF := qh hF
 have HE := qh hE
 have g2_ex : Good2 (exprK g f) := St.g2_of (good_levF g (fact_gs g f).1 3)
 have g2_el : Good2 (elemF (exprK g f)) := St.g2_of (good_elemF (good_levF g (fact_gs g f).1 3) (strict_levF g (fact_gs g f).1 (fact_gs g f).2 3))
 have HEL : Hid (TyE 157 (elemF (exprK g f)) lo w0 br A c L) := qh fun j hj hj2 w h => elem_y HT.out g2_ex HE j hj hj2 w h
 have hk0 := kin_0
 have hk1 := kin_1
 have hk2 := kin_2
 have hmk := @run_makeMap Tryz.prog
 have hmf : ∀ (fn : Fn) (first cap : Array Value) (w : World), (Instr.makeFunc fn first cap).run Tryz.prog w = .ok (.func fn first cap) w := fun _ _ _ _ => rfl
 clear hF hE
 go_wp2_with fail
 (with_reducible refine S.out.now' HT.out ?_)
 clear S
 intro k_p p1 p2 q3_p q4_p t_p n_p wz HPp S hg
 have HB3 := qh ((Blk.new wz 40 #[.int .u8 k_p, .complex .f64 (fl p1) (fl p2), .complex .f64 (fl q3_p) (fl q4_p), .string t_p, .int .i64 n_p]).alloc (mapO [(.int .u8 2, .int .u8 5), (.int .u8 3, .int .u8 6), (.int .u8 4, .int .u8 7)]))
 have hw1 : w.heap.size ≤ wz.heap.size := S.out.pg.2.size
 have hlen := HT.out.len
 have hil0 := S.out.le
 obtain ⟨c0, c1, c2, c3, c4, f0, f1, f2, f3, f4⟩ := (Blk.new wz 40 #[.int .u8 k_p, .complex .f64 (fl p1) (fl p2), .complex .f64 (fl q3_p) (fl q4_p), .string t_p, .int .i64 n_p]).tok
 have hsz : ((wz.alloc (.cells #[.int .u8 k_p, .complex .f64 (fl p1) (fl p2), .complex .f64 (fl q3_p) (fl q4_p), .string t_p, .int .i64 n_p] 40)).alloc (mapO [(.int .u8 2, .int .u8 5), (.int .u8 3, .int .u8 6), (.int .u8 4, .int .u8 7)])).heap.size = wz.heap.size + 1 + 1 := by simp [World.size_alloc]
 have S := qh ((S.out.below ((Below.refl _ _).alloc nl (.cells #[.int .u8 k_p, .complex .f64 (fl p1) (fl p2), .complex .f64 (fl q3_p) (fl q4_p), .string t_p, .int .i64 n_p] 40))).below ((Below.refl _ _).alloc nl (mapO [(.int .u8 2, .int .u8 5), (.int .u8 3, .int .u8 6), (.int .u8 4, .int .u8 7)])))
 have S := qh (S.out.of (q := tokP litT (fun t => retP (mk (t.1.kind + 3) t.2.1 t.1.text t.1.n [])) (factK g f)) (congrFun (congrFun factF_y L) i))
 by_cases hk : 2 ≤ k_p ∧ k_p ≤ 4
 case pos =>
  have hlk := kin_look k_p hk
  obtain ⟨a1, a2, a3⟩ := S.out.pg.1.at_
  have x0 : (0 : Int) ≤ (i : Int) := by omega
  have hil := S.out.le
  have S := qh (S.out.inc (t := litT) (by rw [HPp.out]; exact decide_eq_true hk) rfl)
  rw [HPp.out] at S
  have NW := qh (fun W (hW : w.heap.size ≤ W.heap.size) => new_at (B := w.heap.size) (w := W) hW ((k_p : Int) + 3) (k_p + 3) (by omega) p1 p2 t_p n_p none 0 0 [] .no rfl (by omega) Reads.none_ (by unfold RepN; rfl))
  have HZ := qh S.out.pg.2.size
  rw [show (((i + 1 : Nat) : Int)) = (i : Int) + 1 from by omega] at S HZ
  go_wp2_with fail
  ((with_reducible refine (NW.out _ HZ.out).mono ?_); rintro e w3 ⟨b, rfl, hb, hr⟩)
  have S := qh (S.out.below hb)
  have Hb := qh (show RepS _ w3 (.node (mk (k_p + 3) (p1, p2) t_p n_p []).1 (mk (k_p + 3) (p1, p2) t_p n_p []).2 .no) _ from hr)
  clear hb hr NW
  go_wp2
  (try simp only [Exit.inBlock, Exit.then])
  go_ret
  exact S.out.doneT Hb.out
 case neg =>
  have hlk := kin_none k_p hk
  have S := qh (S.out.of (yt_n (t := litT) (by rw [HPp.out]; exact decide_eq_false hk)))
  have S := qh (S.out.of (q := factK g f) rfl)
  go_wp2_with fail
  (with_reducible refine S.out.eat HT.out ?_ ?_)
  ·clear S
   intro wx S hg hT
   have HB3 := qh (HB3.out.grown hg.out (by intro e; injection e with e; omega))
   clear c0 c1 c2 c3 c4 f0 f1 f2 f3 f4 hlk hk0 hk1 hk2 hmk
   have HZ := qh S.out.pg.2.size
   go_wp2_with fail
   (with_reducible refine S.out.tree (HE.out _ (by omega) S.out.le _ S.out.pg.1) (g2_ex) ?_ ?_)
   ·intro k w1 h hg; go_wp2; exact ⟨rfl, S1.errT h.out hg.out _⟩
   clear S
   intro x bx j1 wx hj1 S hg Hx
   have Hx := qh (Hx.out.more (S' := fun y => w.heap.size ≤ y) fun y hy _ => Nat.le_trans HZ.out hy)
   clear HZ
   go_wp2_with fail
   (with_reducible refine S.out.need HT.out ?_ ?_)
   ·intro k w1 h hg; go_wp2; exact ⟨rfl, S1.errT h.out hg.out _⟩
   clear S
   intro wx S hg
   have Hx := qh (repS_grown Hx.out hg.out hbr)
   go_wp2
   (try simp only [Exit.inBlock, Exit.then])
   go_ret
   exact S.out.doneT Hx.out
  ·clear S
   intro wx S hg hT
   have HB3 := qh (HB3.out.grown hg.out (by intro e; injection e with e; omega))
   clear c0 c1 c2 c3 c4 f0 f1 f2 f3 f4 hlk hk0 hk1 hk2 hmk
   go_wp2_with fail
   (with_reducible refine S.out.eat HT.out ?_ ?_)
   ·clear S
    intro wx S hg hT
    have HB3 := qh (HB3.out.grown hg.out (by intro e; injection e with e; omega))
    have S := qh (by have h := S.out; (try dsimp only at h); rw [HPp.out] at h; exact h)
    go_wp2
    have S := qh (S.out.below (Below.refl _ _).drew)
    have HB3 := qh (HB3.out.drewN 1)
    have c1 : wx.drew.cell? ⟨wz.heap.size, 1, none⟩ = some (.complex .f64 (fl p1) (fl p2)) := HB3.out.cell 1
    have HZ := qh S.out.pg.2.size
    have D1 := qh (S.out.treeD (HF.out _ (by omega) S.out.le _ S.out.pg.1) (St.g2_of (fact_gs g f).1))
    clear S
    go_region_law (first
     | (go_simp; go_at_call 142; (with_reducible refine D1.out.mono ?_); rintro e v (⟨k', rfl, h, hgr⟩ | ⟨y, b_y, j4, rfl, hj4, S, hgr, hr⟩); (case' inl => exact ⟨rfl, S1.errT h.out hgr.out _⟩); have HB4 := qh (HB3.out.grown hgr.out (by intro e; injection e with e; omega)); have c1v : v.cell? ⟨wz.heap.size, 1, none⟩ = some (.complex .f64 (fl p1) (fl p2)) := HB4.out.cell 1; have HR := qh (show RepN (fun y => w.heap.size ≤ y) v (forest [y]) [.pointer (some ⟨b_y, 0, none⟩)] from repN_of (hr.out.more (S' := fun y => w.heap.size ≤ y) fun y hy _ => Nat.le_trans HZ.out hy)); have HB4 := qh (HB4.out.below ((Below.refl _ _).alloc nl (.cells #[.pointer (some ⟨b_y, 0, none⟩)] 31)) HB4.out.lt); have c1w : (v.alloc (.cells #[.pointer (some ⟨b_y, 0, none⟩)] 31)).cell? ⟨wz.heap.size, 1, none⟩ = some (.complex .f64 (fl p1) (fl p2)) := HB4.out.cell 1)
     | (go_simp; go_at_call 33; (with_reducible refine (new_litE (B := w.heap.size) (w := v) S.out.pg.2.size 12 12 rfl p1 p2 sNot [.pointer (some ⟨b_y, 0, none⟩)] [y] v.heap.size rfl 1 rfl (by decide) HR.out).mono ?_); rintro e v2 ⟨b, rfl, hb, hr2⟩; have S := qh (S.out.below hb); have Hb := qh hr2; clear hb hr2))
    all_goals
     go_wp2
     (try simp only [Exit.inBlock, Exit.then])
     go_ret
     exact S.out.doneT Hb.out
   ·clear S
    intro wx S hg hT
    have HB3 := qh (HB3.out.grown hg.out (by intro e; injection e with e; omega))
    go_wp2_with fail
    (with_reducible refine S.out.eat HT.out ?_ ?_)
    ·clear S
     intro wx S hg hT
     have HB3 := qh (HB3.out.grown hg.out (by intro e; injection e with e; omega))
     have S := qh (by have h := S.out; (try dsimp only at h); rw [HPp.out] at h; exact h)
     go_wp2
     have hlt3 : wz.heap.size < wx.heap.size := HB3.out.lt
     have SA := qh ((S.out.below ((Below.refl _ _).alloc nl (.cells #[.pointer none] 31))).below (Below.refl _ _).drew)
     have HBA := qh ((HB3.out.below ((Below.refl _ _).alloc nl (.cells #[.pointer none] 31)) HB3.out.lt).drewN 1)
     have S := qh (S.out.below (Below.refl _ _).drew)
     have HB3 := qh (HB3.out.drewN 1)
     have c1 : wx.drew.cell? ⟨wz.heap.size, 1, none⟩ = some (.complex .f64 (fl p1) (fl p2)) := HB3.out.cell 1
     have HZ := qh S.out.pg.2.size
     have HD := qh (by unfold RepN; exact ⟨_, [], rfl, .inl ⟨rfl, rfl, rfl⟩, by unfold RepN; rfl⟩ : RepN (fun y => w.heap.size ≤ y) wx.drew (.node zeroT.1 zeroT.2 .no) [.pointer none])
     have c1a : (wx.alloc (.cells #[.pointer none] 31)).drew.cell? ⟨wz.heap.size, 1, none⟩ = some (.complex .f64 (fl p1) (fl p2)) := HBA.out.cell 1
     have D1 := qh (S.out.listD HT.out (between_y HT.out hgL (by intro _ _; kernel_rfl) g2_el HEL sRuc _ (by omega) S.out.le _ S.out.pg.1) (g2_btw g2_el) (between_n g2_el))
     have D2 := qh (SA.out.listD HT.out (between_y HT.out hgL (by intro _ _; kernel_rfl) g2_el HEL sRuc _ (by omega) SA.out.le _ SA.out.pg.1) (g2_btw g2_el) (between_n g2_el))
     have hbw : br < w.heap.size := hbr
     clear S SA
     go_region_law (first
      | (go_simp; go_at_call 160; (with_reducible refine D1.out.mono ?_); rintro e v (⟨k', rfl, h, hgr⟩ | ⟨l, sv, vs, j2, rfl, hl2, S, hgr, hr⟩); (case' inl => exact ⟨rfl, S1.errT h.out hgr.out _⟩); have HB4 := qh (HB3.out.grown hgr.out (by intro e; injection e with e; omega)); have c1v : v.cell? ⟨wz.heap.size, 1, none⟩ = some (.complex .f64 (fl p1) (fl p2)) := HB4.out.cell 1; have hlt4 : wz.heap.size < v.heap.size := HB4.out.lt; have S := qh (S.out.below ((Below.refl _ _).alloc nl (.cells #[.pointer none] 31))); have HSR := qh (SR.early hr.out HZ.out (Nat.le_trans HZ.out hgr.out.size) (RepN.keep hgr.out.size (fun y hy hl => hgr.out.block y hl (fun e => by injection e with e; omega)) HD.out)); have HB4 := qh (HB4.out.below ((Below.refl _ _).alloc nl (.cells #[.pointer none] 31)) HB4.out.lt); have c1w : (v.alloc (.cells #[.pointer none] 31)).cell? ⟨wz.heap.size, 1, none⟩ = some (.complex .f64 (fl p1) (fl p2)) := HB4.out.cell 1; have HV := qh (show zeroT = zeroT from rfl))
      | (go_simp; go_at_call 160; (with_reducible refine D2.out.mono ?_); rintro e v (⟨k', rfl, h, hgr⟩ | ⟨l, sv, vs, j2, rfl, hl2, S, hgr, hr⟩); (case' inl => exact ⟨rfl, S1.errT h.out hgr.out _⟩); have HB4 := qh (HBA.out.grown hgr.out (by intro e; injection e with e; omega)); have c1v : v.cell? ⟨wz.heap.size, 1, none⟩ = some (.complex .f64 (fl p1) (fl p2)) := HB4.out.cell 1; have HSR := qh (SR.late (w := wx.drew) (show LG (wx.drew.alloc (.cells #[.pointer none] 31)).heap.size v sv l vs from hr.out) HZ.out (show (wx.drew.alloc (.cells #[.pointer none] 31)).grownBy v (some br) from hgr.out) hbr HD.out))
      | (refine step_set (by rfl) _ _ (by rfl) S.out H0.out HSR.out (by omega) (by rfl) (by rfl) ?_; clear S; intro A2 c2 wk S hgk RD RN; have HB4 := qh (HB4.out.grown hgk.out (by intro e; injection e with e; first | omega | (have e : wz.heap.size = wx.heap.size := e; omega) | (have e : wz.heap.size = v.heap.size := e; omega))); have c1k : wk.cell? ⟨wz.heap.size, 1, none⟩ = some (.complex .f64 (fl p1) (fl p2)) := HB4.out.cell 1)
      | (go_simp; go_at_call 33; (with_reducible refine (new_set (B := w.heap.size) S.out.pg.2.size 8 8 rfl p1 p2 A2 c2 (by omega) RD.out RN.out).mono ?_); rintro e w9 ⟨b, rfl, hb, hr2⟩; have S := qh (S.out.below hb); have Hb := qh hr2; clear hb hr2))
     all_goals
      go_wp2
      (try simp only [Exit.inBlock, Exit.then])
      go_ret
      exact S.out.doneT Hb.out
    ·clear S
     intro wx S hg hT
     have HB3 := qh (HB3.out.grown hg.out (by intro e; injection e with e; omega))
     have S := qh (S.out.of (q := bindP (designF (exprK g f) g) (tailF (exprK g f) g (tkOf k_p p1 p2 q3_p q4_p t_p n_p))) (by show bindP (designF (exprK g f) g) (tailF (exprK g f) g (tk L i)) L i = _; rw [HPp.out]))
     have HZ := qh S.out.pg.2.size
     go_wp2_with fail
     (with_reducible refine S.out.treeS (design_y HT.out hgL g2_ex HE _ (by omega) S.out.le _ S.out.pg.1) (St.g2_of (good_designF (good_levF g (fact_gs g f).1 3) g)) (Q := fun i x j => i < j ∧ dotT x) (fun L i x j h => ⟨strict_q (strict_designF (good_levF g (fact_gs g f).1 3) g) L i x j h, design_dot L i x j h⟩) ?_ ?_)
     ·intro k w1 h hg; go_wp2; exact ⟨rfl, S1.errT h.out hg.out _⟩
     clear S
     intro x bx j1 wx hq1 hj1 S hg Hx
     have HB3 := qh (HB3.out.grown hg.out (by intro e; injection e with e; omega))
     have Hx := qh (Hx.out.more (S' := fun y => w.heap.size ≤ y) fun y hy _ => Nat.le_trans HZ.out hy)
     clear HZ
     have hdot := qh hq1.2
     have hj1 := hq1.1
     clear hq1
     go_wp2_with fail
     (with_reducible refine S.out.now' HT.out ?_)
     clear S
     intro k_q q1 q2 q3_q q4_q t_q n_q wx HPq S hg
     have Hx := qh (repS_grown Hx.out hg.out hbr)
     have HB3 := qh (HB3.out.grown hg.out (by intro e; injection e with e; omega))
     have PL := qh (plain_any x.1 x.2 bx wx hdot.out Hx.out.rep)
     go_upto_region 17 with fail
     go_cut [72] (fun v wc => ∃ bq : Bool, v = .bool bq ∧ Hid (∃ j2, i < j2 ∧ (bq = false → tk L j2 = tkOf k_q q1 q2 q3_q q4_q t_q n_q) ∧ S1 w0 w wc br c A L res (match bq with | true => bindP (betweenF (elemF (exprK g f)) g sRuc) (fun l => retP (mk 8 (p1, p2) sNil 0 (x :: l))) | false => tailK (exprK g f) g x) j2 ∧ RepS (fun y => w.heap.size ≤ y) wc (.node x.1 x.2 .no) [.pointer (some ⟨bx, 0, none⟩)] ∧ Blk wc wz.heap.size 40 #[.int .u8 k_p, .complex .f64 (fl p1) (fl p2), .complex .f64 (fl q3_p) (fl q4_p), .string t_p, .int .i64 n_p]))
     case first =>
      cases hpl : plainT x with
      | true =>
        have hpf : plainF (.node x.1 x.2 .no) = true := hpl
        rw [hpf] at PL
        have S := qh (S.out.of (by rw [tailF_y hpl]))
        clear hpl hpf
        go_wp2_with fail
        ((with_reducible refine PL.out.mono ?_); rintro e w6 ⟨rfl, rfl⟩)
        go_wp2_with fail
        (with_reducible refine S.out.eat HT.out ?_ ?_)
        ·clear S
         intro wx S hg hT
         have Hx := qh (repS_grown Hx.out hg.out hbr)
         have HB3 := qh (HB3.out.grown hg.out (by intro e; injection e with e; omega))
         go_wp2_with fail
         go_meet
         exact ⟨true, rfl, qh ⟨j1 + 1, by omega, (by intro h; first | exact HPq.out | cases h), S.out, Hx.out, HB3.out⟩⟩
        ·clear S
         intro wx S hg hT
         have Hx := qh (repS_grown Hx.out hg.out hbr)
         have HB3 := qh (HB3.out.grown hg.out (by intro e; injection e with e; omega))
         go_wp2_with fail
         go_meet
         exact ⟨false, rfl, qh ⟨j1, by omega, (by intro h; first | exact HPq.out | cases h), S.out, Hx.out, HB3.out⟩⟩
      | false =>
        have hpf : plainF (.node x.1 x.2 .no) = false := hpl
        rw [hpf] at PL
        have S := qh (S.out.of (by rw [tailF_n hpl]))
        clear hpl hpf
        go_wp2_with fail
        ((with_reducible refine PL.out.mono ?_); rintro e w6 ⟨rfl, rfl⟩)
        go_wp2_with fail
        go_meet
        exact ⟨false, rfl, qh ⟨j1, by omega, (by intro h; first | exact HPq.out | cases h), S.out, Hx.out, HB3.out⟩⟩
     case rest =>
      obtain ⟨bq, rfl, hc⟩ := hcut
      obtain ⟨j2, hj2, hqj, hc1, hc2, hc3⟩ := hc.out
      clear S Hx HB3 hc PL
      have HPj := qh hqj
      clear hqj
      have S := qh hc1
      have Hx := qh hc2
      have HB3 := qh hc3
      clear hc1 hc2 hc3
      cases bq with
      | true =>
        go_wp2
        have hlt3 : wz.heap.size < wc.heap.size := HB3.out.lt
        have SA := qh ((S.out.below ((Below.refl _ _).alloc nl (.cells #[.pointer (some ⟨bx, 0, none⟩)] 31))).below (Below.refl _ _).drew)
        have HBA := qh ((HB3.out.below ((Below.refl _ _).alloc nl (.cells #[.pointer (some ⟨bx, 0, none⟩)] 31)) HB3.out.lt).drewN 1)
        have S := qh (S.out.below (Below.refl _ _).drew)
        have HB3 := qh (HB3.out.drewN 1)
        have Hx := qh (Hx.out.below (Below.refl _ _).drew)
        have c1 : wc.drew.cell? ⟨wz.heap.size, 1, none⟩ = some (.complex .f64 (fl p1) (fl p2)) := HB3.out.cell 1
        have HZ := qh S.out.pg.2.size
        have HD := qh (repN_of Hx.out : RepN (fun y => w.heap.size ≤ y) wc.drew (.node x.1 x.2 .no) [.pointer (some ⟨bx, 0, none⟩)])
        have c1a : (wc.alloc (.cells #[.pointer (some ⟨bx, 0, none⟩)] 31)).drew.cell? ⟨wz.heap.size, 1, none⟩ = some (.complex .f64 (fl p1) (fl p2)) := HBA.out.cell 1
        have D1 := qh (S.out.listD HT.out (between_y HT.out hgL (by intro _ _; kernel_rfl) g2_el HEL sRuc _ (by omega) S.out.le _ S.out.pg.1) (g2_btw g2_el) (between_n g2_el))
        have D2 := qh (SA.out.listD HT.out (between_y HT.out hgL (by intro _ _; kernel_rfl) g2_el HEL sRuc _ (by omega) SA.out.le _ SA.out.pg.1) (g2_btw g2_el) (between_n g2_el))
        have hbw : br < w.heap.size := hbr
        clear S SA
        go_region_law (first
         | (go_simp; go_at_call 160; (with_reducible refine D1.out.mono ?_); rintro e v (⟨k', rfl, h, hgr⟩ | ⟨l, sv, vs, j2, rfl, hl2, S, hgr, hr⟩); (case' inl => exact ⟨rfl, S1.errT h.out hgr.out _⟩); have HB4 := qh (HB3.out.grown hgr.out (by intro e; injection e with e; omega)); have c1v : v.cell? ⟨wz.heap.size, 1, none⟩ = some (.complex .f64 (fl p1) (fl p2)) := HB4.out.cell 1; have hlt4 : wz.heap.size < v.heap.size := HB4.out.lt; have S := qh (S.out.below ((Below.refl _ _).alloc nl (.cells #[.pointer (some ⟨bx, 0, none⟩)] 31))); have HSR := qh (SR.early hr.out HZ.out (Nat.le_trans HZ.out hgr.out.size) (RepN.keep hgr.out.size (fun y hy hl => hgr.out.block y hl (fun e => by injection e with e; omega)) HD.out)); have HB4 := qh (HB4.out.below ((Below.refl _ _).alloc nl (.cells #[.pointer (some ⟨bx, 0, none⟩)] 31)) HB4.out.lt); have c1w : (v.alloc (.cells #[.pointer (some ⟨bx, 0, none⟩)] 31)).cell? ⟨wz.heap.size, 1, none⟩ = some (.complex .f64 (fl p1) (fl p2)) := HB4.out.cell 1; have HV := qh (show x = x from rfl))
         | (go_simp; go_at_call 160; (with_reducible refine D2.out.mono ?_); rintro e v (⟨k', rfl, h, hgr⟩ | ⟨l, sv, vs, j2, rfl, hl2, S, hgr, hr⟩); (case' inl => exact ⟨rfl, S1.errT h.out hgr.out _⟩); have HB4 := qh (HBA.out.grown hgr.out (by intro e; injection e with e; omega)); have c1v : v.cell? ⟨wz.heap.size, 1, none⟩ = some (.complex .f64 (fl p1) (fl p2)) := HB4.out.cell 1; have HSR := qh (SR.late (w := wc.drew) (show LG (wc.drew.alloc (.cells #[.pointer (some ⟨bx, 0, none⟩)] 31)).heap.size v sv l vs from hr.out) HZ.out (show (wc.drew.alloc (.cells #[.pointer (some ⟨bx, 0, none⟩)] 31)).grownBy v (some br) from hgr.out) hbr HD.out))
         | (refine step_set (by rfl) _ _ (by rfl) S.out H0.out HSR.out (by omega) (by rfl) (by rfl) ?_; clear S; intro A2 c2 wk S hgk RD RN; have HB4 := qh (HB4.out.grown hgk.out (by intro e; injection e with e; first | omega | (have e : wz.heap.size = wc.heap.size := e; omega) | (have e : wz.heap.size = v.heap.size := e; omega))); have c1k : wk.cell? ⟨wz.heap.size, 1, none⟩ = some (.complex .f64 (fl p1) (fl p2)) := HB4.out.cell 1)
         | (go_simp; go_at_call 33; (with_reducible refine (new_set (B := w.heap.size) S.out.pg.2.size 8 8 rfl p1 p2 A2 c2 (by omega) RD.out RN.out).mono ?_); rintro e w9 ⟨b, rfl, hb, hr2⟩; have S := qh (S.out.below hb); have Hb := qh hr2; clear hb hr2))
        all_goals
         go_wp2
         (try simp only [Exit.inBlock, Exit.then])
         go_ret
         exact S.out.doneT Hb.out
      | false =>
        go_wp2_with fail
        (with_reducible refine S.out.eat HT.out ?_ ?_)
        ·clear S
         intro wx S hg hT
         have Hx := qh (repS_grown Hx.out hg.out hbr)
         have HB3 := qh (HB3.out.grown hg.out (by intro e; injection e with e; omega))
         have S := qh (by have h := S.out; (try dsimp only at h); rw [HPj.out (by first | trivial | rfl)] at h; exact h)
         have HZ := qh S.out.pg.2.size
         have SA := qh (S.out.below ((Below.refl _ _).alloc nl (.cells #[.pointer (some ⟨bx, 0, none⟩)] 31)))
         have D2 := qh (SA.out.listD HT.out (between_y HT.out hgL (by intro _ _; kernel_rfl) g2_ex HE sRap _ (by omega) SA.out.le _ SA.out.pg.1) (g2_btw g2_ex) (between_n g2_ex))
         clear S SA
         go_wp2_with fail
         ((with_reducible refine D2.out.mono ?_); rintro e v (⟨k', rfl, h, hgr⟩ | ⟨l, sv, vs, j2, rfl, hl2, S, hgr, hr⟩); (case' inl => go_wp2; exact ⟨rfl, S1.errT h.out hgr.out _⟩))
         have HSR := qh (SR.late hr.out HZ.out hgr.out hbr (repN_of Hx.out))
         go_wp2_with (at_builtin; refine wpList_set rfl _ _ rfl S.out H0.out HSR.out (by omega) rfl rfl ?_; clear S; intro A2 c2 wk S hgk RD RN)
         go_wp2_with fail
         ((with_reducible refine (new_set (B := w.heap.size) S.out.pg.2.size 10 10 rfl q1 q2 A2 c2 (by omega) RD.out RN.out).mono ?_); rintro e w9 ⟨b, rfl, hb, hr2⟩)
         have S := qh (S.out.below hb)
         have Hb := qh hr2
         clear hb hr2
         go_wp2
         (try simp only [Exit.inBlock, Exit.then])
         go_ret
         exact S.out.doneT Hb.out
        ·clear S
         intro wx S hg hT
         have Hx := qh (repS_grown Hx.out hg.out hbr)
         have HB3 := qh (HB3.out.grown hg.out (by intro e; injection e with e; omega))
         go_wp2
         (try simp only [Exit.inBlock, Exit.then])
         go_ret
         exact S.out.doneT Hx.out
end Ex
end Go.Proofs.YtkemhmfdooghkaaGreatDoor
