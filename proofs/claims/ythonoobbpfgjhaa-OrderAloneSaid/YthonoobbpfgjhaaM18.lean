/- The reference's Order. -/
import Derived.Test.YthonoobbpfgjhaaM17
set_option linter.unusedSimpArgs false
set_option linter.unusedVariables false
namespace Go.Proofs.Ythonoobbpfgjhaa.Od
open Go.RowKit
theorem infoI : (Try.prog.info? 3).map (fun i => (i.zero, i.size, i.bytes)) = some (some (.int .i64 0), 1, 8) := by kernel_rfl
theorem infoW : (Try.prog.info? 53).map (fun i => (i.zero, i.size, i.bytes)) = some (some (.agg #[.int .i64 0, .int .i64 0]), 2, 16) := by kernel_rfl
theorem made_zero (q : List Md) : (madeCells (Value.int .i64 0).cells (q.length * 1)).toList = stRow q (fun _ => 0) := by
  apply List.ext_getElem?
  intro i
  rw [Nat.mul_one]
  by_cases h : i < q.length
  · rw [stRow_at h]
    simp [madeCells, h, Value.cells, Nat.mod_one]
  · rw [List.getElem?_eq_none (by simp [madeCells]; omega), List.getElem?_eq_none (by simp [stRow]; omega)]
theorem made_state (w : World) (q : List Md) (hq : q.length ≤ 60) : ∃ w', (Instr.makeSlice 51 (.int .i64 (q.length : Nat)) (.int .i64 (q.length : Nat))).run Try.prog w = .ok (.slice (some ⟨w.heap.size, 0, none⟩) q.length q.length) w' ∧
    w'.ownsRow w.heap.size 3 1 (.slice (some ⟨w.heap.size, 0, none⟩) q.length q.length) q.length (stRow q (fun _ => 0)) ∧ w.grownBy w' none ∧ w'.heap.size = w.heap.size + 1 := by
  obtain ⟨i0, hi0, hz0, hz1, hz2⟩ := info_parts infoI
  have hr := run_make (P := Try.prog) w 51 3 i0 _ Try.underlying51 hi0 hz0 .i64 .i64 q.length q.length (by omega) (Int.le_refl _) (by rw [hz2]; omega) (by omega)
  simp only [Int.toNat_natCast, hz1] at hr
  refine ⟨_, hr, ?_, World.grownBy_alloc w _ none, by simp⟩
  have := World.ownsRow_lit (base := w.heap.size) (e := 3) (size := 1) w (madeCells (Value.int .i64 0).cells (q.length * 1)) q.length (Nat.le_refl _) (by unfold maxLen; omega) (size_madeCells _ _)
  rw [made_zero] at this
  exact this
/-- What stands in memory on the row of steps. -/
structure RO (w0 w : World) (q : List Md) (gs : Nat) (lv wv : Value) (en : List Ent) (x : Sts × List Nm) : Prop where
  base : Below w0.heap.size w0 w
  st : w.ownsRow w0.heap.size 3 1 (.slice (some ⟨gs, 0, none⟩) q.length q.length) q.length (stRow q x.1)
  wy : w.ownsRow w0.heap.size 53 2 wv en.length (wayRow en)
  od : OwnN w0.heap.size w lv x.2
  a1 : wv.ownBlock ≠ some gs
  a2 : lv.ownBlock ≠ some gs
  a3 : ∀ k, lv.ownBlock = some k → wv.ownBlock ≠ some k
section
variable {w0 w w' : World} {q : List Md} {gs : Nat} {lv lv' wv : Value} {en : List Ent} {x : Sts × List Nm}
theorem rowKept {base e size n : Nat} {v : Value} {xs : List Value} {row : Option Nat} (h : w.ownsRow base e size v n xs) (hg : w.grownBy w' row) (hne : ∀ k, v.ownBlock = some k → row ≠ some k) : w'.ownsRow base e size v n xs := by
  refine World.ownsRow.kept h hg ?_
  cases e : v.ownBlock with
  | none => exact .inl rfl
  | some k => exact .inr (fun h => hne k e h.symm)
theorem RO.grown {row : Option Nat} (h : RO w0 w q gs lv wv en x) (hg : w.grownBy w' row) (hb : ∀ k, row = some k → w0.heap.size ≤ k) (h1 : row ≠ some gs) (h2 : ∀ k, wv.ownBlock = some k → row ≠ some k) (h3 : ∀ k, lv.ownBlock = some k → row ≠ some k) : RO w0 w' q gs lv wv en x :=
  ⟨h.base.grown hg h.base.size hb, rowKept h.st hg (fun k hk => by have : gs = k := by simpa [Value.ownBlock] using hk
                                                                   subst this; exact h1), rowKept h.wy hg h2, rowKept h.od hg h3, h.a1, h.a2, h.a3⟩
theorem RO.alloc (h : RO w0 w q gs lv wv en x) (o : Obj) : RO w0 (w.alloc o) q gs lv wv en x :=
  h.grown (row := none) (World.grownBy_alloc w o none) (fun k h => by cases h) (fun h => by cases h) (fun k _ h => by cases h) (fun k _ h => by cases h)
theorem grown_dn (w : World) (n : Nat) (row : Option Nat) : w.grownBy (w.drewN n) row := ⟨rfl, rfl, rfl, Nat.le_refl _, fun _ _ _ => rfl⟩
theorem RO.dn (h : RO w0 w q gs lv wv en x) (n : Nat) : RO w0 (w.drewN n) q gs lv wv en x :=
  h.grown (row := none) (grown_dn w n none) (fun k h => by cases h) (fun h => by cases h) (fun k _ h => by cases h) (fun k _ h => by cases h)
theorem RO.gs_lo (h : RO w0 w q gs lv wv en x) : w0.heap.size ≤ gs ∧ gs < w.heap.size := World.ownsRow.lt h.st gs rfl
theorem RO.setState (h : RO w0 w q gs lv wv en x) (hn : (names q).Nodup) {i : Nat} (hi : i < q.length) (v : Nat) : RO w0 (w.setCell ⟨gs, i, none⟩ (.int .i64 (v : Nat))) q gs lv wv en (upd x.1 q[i].1 v, x.2) := by
  obtain ⟨r1, r2⟩ := World.ownsRow.stored h.st i (.int .i64 (v : Nat))
  rw [stRow_set hn hi] at r1
  refine ⟨h.base.grown r2 h.base.size (fun k hk => by injection hk with hk; exact hk ▸ h.gs_lo.1), r1, rowKept h.wy r2 (fun k hk e => ?_), rowKept h.od r2 (fun k hk e => ?_), h.a1, h.a2, h.a3⟩
  · injection e with e; exact h.a1 (e ▸ hk)
  · injection e with e; exact h.a2 (e ▸ hk)
theorem RO.pushOrder (h : RO w0 w q gs lv wv en x) {n : Nm} (ho : OwnN w0.heap.size w' lv' (x.2 ++ [n])) (hg : w.grownBy w' lv.ownBlock) (hd : ∀ k, lv'.ownBlock = some k → lv.ownBlock = some k ∨ w.heap.size ≤ k) : RO w0 w' q gs lv' wv en (x.1, x.2 ++ [n]) := by
  refine ⟨h.base.grown hg h.base.size (fun k hk => (World.ownsRow.lt h.od k hk).1), rowKept h.st hg (fun k hk e => ?_), rowKept h.wy hg (fun k hk e => h.a3 k e hk), ho, h.a1, fun e => ?_, fun k hk e => ?_⟩
  · have : gs = k := by simpa [Value.ownBlock] using hk
    subst this
    exact h.a2 e
  · rcases hd gs e with h1 | h1
    · exact h.a2 h1
    · have := h.gs_lo.2; omega
  · rcases hd k hk with h1 | h1
    · exact h.a3 k h1 e
    · have := (World.ownsRow.lt h.wy k e).2; omega
theorem RO.pop {gw p cap : Nat} {e : Ent} (h : RO w0 w q gs lv (.slice (some ⟨gw, 0, none⟩) (p + 1) cap) (en ++ [e]) x) (hp : p = en.length) : RO w0 w q gs lv (.slice (some ⟨gw, 0, none⟩) p cap) en x := by
  subst hp
  have hw := h.wy
  rw [wayRow_snoc, List.length_append, List.length_singleton] at hw
  exact ⟨h.base, h.st, ownsRow_pop (wayRow_len en) hw, h.od, h.a1, h.a2, h.a3⟩
theorem RO.top {gw p cap i nx : Nat} (h : RO w0 w q gs lv (.slice (some ⟨gw, 0, none⟩) (p + 1) cap) (en ++ [(i, nx)]) x) (hp : p = en.length) : w.cell? ⟨gw, p * 2, none⟩ = some (.int .i64 (i : Nat)) ∧ w.cell? ⟨gw, p * 2 + 1, none⟩ = some (.int .i64 (nx : Nat)) ∧ (∀ j, w.frozen? ⟨gw, j, none⟩ = false) ∧ w0.heap.size ≤ gw ∧ gw < w.heap.size := by
  subst hp
  have hw := h.wy
  rw [wayRow_snoc, List.length_append, List.length_singleton] at hw
  have hl := wayRow_len en
  refine ⟨?_, ?_, fun j => World.ownsRow.frozenAt hw j, (World.ownsRow.lt hw gw rfl).1, (World.ownsRow.lt hw gw rfl).2⟩
  · rw [World.ownsRow.cellAt hw _ (by omega), ← hl, List.getElem?_append_right (by omega)]
    simp
  · rw [World.ownsRow.cellAt hw _ (by omega), ← hl, List.getElem?_append_right (by omega)]
    simp
theorem RO.next {gw p cap i nx : Nat} (h : RO w0 w q gs lv (.slice (some ⟨gw, 0, none⟩) (p + 1) cap) (en ++ [(i, nx)]) x) (hp : p = en.length) : RO w0 ((w.setCell ⟨gw, p * 2, none⟩ (.int .i64 (i : Nat))).setCell ⟨gw, p * 2 + 1, none⟩ (.int .i64 ((nx + 1 : Nat) : Int))) q gs lv (.slice (some ⟨gw, 0, none⟩) (p + 1) cap) (en ++ [(i, nx + 1)]) x := by
  subst hp
  have hw := h.wy
  rw [List.length_append, List.length_singleton] at hw
  obtain ⟨r1, r2⟩ := World.ownsRow.stored hw (en.length * 2) (.int .i64 (i : Nat))
  obtain ⟨r3, r4⟩ := World.ownsRow.stored r1 (en.length * 2 + 1) (.int .i64 ((nx + 1 : Nat) : Int))
  have hg := World.grownBy.trans r2 r4
  have hl := wayRow_len en
  have e1 : ((wayRow (en ++ [(i, nx)])).set (en.length * 2) (.int .i64 (i : Nat))).set (en.length * 2 + 1) (.int .i64 ((nx + 1 : Nat) : Int)) = wayRow (en ++ [(i, nx + 1)]) := by
    rw [wayRow_snoc, wayRow_snoc, ← hl, List.set_append_right _ _ (by omega), List.set_append_right _ _ (by omega)]
    simp
  rw [e1] at r3
  refine ⟨h.base.grown hg h.base.size (fun k hk => by injection hk with hk; exact hk ▸ (World.ownsRow.lt hw gw rfl).1), rowKept h.st hg (fun k hk e => ?_), by rw [List.length_append, List.length_singleton]; exact r3, rowKept h.od hg (fun k hk e => ?_), h.a1, h.a2, h.a3⟩
  · have h1 : gs = k := by simpa [Value.ownBlock] using hk
    injection e with e
    exact h.a1 (by simp [Value.ownBlock, e, h1])
  · injection e with e
    exact h.a3 k hk (by simp [Value.ownBlock, e])
theorem RO.push {wv' : Value} {e : Ent} (h : RO w0 w q gs lv wv en x) (ho : w'.ownsRow w0.heap.size 53 2 wv' (en ++ [e]).length (wayRow (en ++ [e]))) (hg : w.grownBy w' wv.ownBlock) (hd : ∀ k, wv'.ownBlock = some k → wv.ownBlock = some k ∨ w.heap.size ≤ k) : RO w0 w' q gs lv wv' (en ++ [e]) x := by
  refine ⟨h.base.grown hg h.base.size (fun k hk => (World.ownsRow.lt h.wy k hk).1), rowKept h.st hg (fun k hk e => ?_), ho, rowKept h.od hg (fun k hk e => h.a3 k hk e), fun e => ?_, h.a2, fun k hk e => ?_⟩
  · have : gs = k := by simpa [Value.ownBlock] using hk
    subst this
    exact h.a1 e
  · rcases hd gs e with h1 | h1
    · exact h.a1 h1
    · have := h.gs_lo.2; omega
  · rcases hd k e with h1 | h1
    · exact h.a3 k hk h1
    · have := (World.ownsRow.lt h.od k hk).2; omega
theorem RO.form {e : Ent} (h : RO w0 w q gs lv wv (en ++ [e]) x) : ∃ gw cap p, p = en.length ∧ wv = .slice (some ⟨gw, 0, none⟩) (p + 1) cap ∧ p + 1 ≤ cap ∧ cap ≤ 9223372036854775807 := by
  have hw := h.wy
  rw [List.length_append, List.length_singleton] at hw
  rcases hw.2 with ⟨_, h0⟩ | ⟨g, cap, cur, rfl, _, _, h1, h2, _⟩
  · omega
  · exact ⟨g, cap, _, rfl, rfl, h1, by unfold maxLen at h2; omega⟩
theorem RO.start {w1 : World} {k0 : Nat} (hk : k0 < q.length) (hn : (names q).Nodup) (hos : w1.ownsRow w.heap.size 3 1 (.slice (some ⟨w.heap.size, 0, none⟩) q.length q.length) q.length (stRow q (fun _ => 0))) (hg : w.grownBy w1 none) (hsz : w1.heap.size = w.heap.size + 1) :
    RO w ((w1.setCell ⟨w.heap.size, k0, none⟩ (.int .i64 1)).alloc (.cells #[.int .i64 (k0 : Nat), .int .i64 0] 53)) q w.heap.size (.slice none 0 0) (.slice (some ⟨w1.heap.size, 0, none⟩) 1 1) [(k0, 0)] (upd (fun _ => 0) q[k0].1 1, []) := by
  have h0 : RO w w1 q w.heap.size (.slice none 0 0) (.slice none 0 0) [] (fun _ => 0, []) :=
    ⟨(Below.refl _ _).grown hg (Nat.le_refl _) (fun k h => by cases h), hos, World.ownsRow_nil _ _ _ _, OwnN.nil _ _, by simp [Value.ownBlock], by simp [Value.ownBlock], fun k h => by cases h⟩
  have h1 := (h0.setState hn hk 1).alloc (.cells #[.int .i64 (k0 : Nat), .int .i64 0] 53)
  have hl := World.ownsRow_lit (base := w.heap.size) (e := 53) (size := 2) (w1.setCell ⟨w.heap.size, k0, none⟩ (.int .i64 1)) #[.int .i64 (k0 : Nat), .int .i64 0] 1 (by rw [World.size_setCell]; omega) (by unfold maxLen; omega) rfl
  rw [World.size_setCell] at hl
  refine ⟨h1.base, h1.st, hl, h1.od, fun e => ?_, h1.a2, fun k h => by cases h⟩
  have : w1.heap.size = w.heap.size := by simpa [Value.ownBlock] using e
  omega
end
section
variable {ops : Array Oper} {rest : List Oper} {o : Oper} {a : Act} {Q : Exit → Act → World → Prop}
theorem wpList_pushW (wq : World) (hgd : o.guard = none) (s x : Operand) (ho : o.op = .call { callee := .builtin .append, args := #[s, x], argTypes := #[54, 54] })
    (base : Nat) (lv : Value) (en : List Ent) (hs : a.eval s = lv) (h : wq.ownsRow base 53 2 lv en.length (wayRow en)) (hl : en.length ≤ 1000000) (hb : base ≤ wq.heap.size) (k m : Nat) (hx : a.eval x = .slice (some ⟨m, 0, none⟩) 1 1) (hm : wq.heap.size = m)
    (hK : ∀ lv' w', w'.ownsRow base 53 2 lv' (en ++ [(k, 0)]).length (wayRow (en ++ [(k, 0)])) → wq.grownBy w' lv.ownBlock → (∀ k, lv'.ownBlock = some k → lv.ownBlock = some k ∨ wq.heap.size ≤ k) → wpList Try.prog ops Q rest (a.put o.dst lv') w') :
    wpList Try.prog ops Q (o :: rest) a (wq.alloc (.cells #[.int .i64 (k : Nat), .int .i64 0] 53)) := by
  subst hm
  obtain ⟨i0, hi0, hz0, hz1, hz2⟩ := info_parts infoW
  refine wpList_append_lies _ hgd s x _ ho base 53 i0 _ 2 16 Try.underlying54 hi0 hz0 hz1 hz2 rfl (by omega) lv en.length (wayRow en) hs (World.ownsRow.alloc h _) ⟨wq.heap.size, 0, none⟩ 1 1 [.int .i64 (k : Nat), .int .i64 0] hx rfl
    (World.news_of_block (cs := #[.int .i64 (k : Nat), .int .i64 0]) (heap_alloc_new wq _)) (fun v hv => by simp only [List.mem_cons, List.mem_nil_iff, or_false] at hv; rcases hv with rfl | rfl <;> rfl) (by omega) (by unfold maxLen; omega) (by omega) (by rw [World.size_alloc]; omega) (wq.heap.size + 1) (by rw [World.size_alloc]) ?_
  intro g cap w' hown hgrow hor hlt
  refine hK _ w' ?_ ((World.grownBy_alloc wq _ _).trans hgrow) (fun k hk => ?_)
  · rw [wayRow_snoc, List.length_append]
    exact hown
  · have hk' : g = k := by simpa [Value.ownBlock] using hk
    subst hk'
    rcases hor with e | e
    · exact .inl e
    · exact .inr (by omega)
end
set_option maxRecDepth 100000 in
set_option maxHeartbeats 12800000 in
theorem ROrder_any {w : World} {A : Option Addr} {c : Nat} {q : List Md} (h : Mods w A c q) (hs : Small q) (m : Nm) :
    Calls Try.prog 12 #[.slice A q.length c, .string (S m)] w (OrdR w (orderP (nl q) m)) := by
  have hcc := h.cap
  have hcb := h.big
  have H := Lib.hid h
  have HS := Lib.hid hs
  have HA := Lib.hid (fun k => At_any h k)
  clear h hs
  go_enter Try.func12, Try.ntmps12
  go_wp2
  go_loopw [7] (fun iv wr => ∃ k : Nat, w = wr ∧ k ≤ q.length ∧ iv = .int .i64 k ∧ Hid (AgR q k [] false)) (fun iv _ => q.length - (intOf iv).toNat)
  case atStart => exact ⟨0, rfl, Nat.zero_le _, rfl, Lib.hid (AgR.start q)⟩
  case round =>
    obtain ⟨k, rfl, hk, rfl, HG⟩ := hrel
    by_cases hlt : k < q.length
    · obtain ⟨g, off, rfl, hgl, hcell, _⟩ := H.out.at_ hlt
      by_cases hf : q[k].1 ∈ names (q.take k)
      · have hne : posOf (names q) q[k].1 ≠ (k : Int) := fun e => (pos_first hlt).1 e hf
        have t1 : (posOf (names q) q[k].1 != (k : Int)) = true := by simpa using hne
        have HR := Lib.hid (show orderP (nl q) m = .error (q[k].1, 6) from by
          have h1 := HG.out.told hlt hf
          unfold AgR at h1
          rw [if_pos rfl] at h1
          unfold orderP
          rw [h1])
        clear hf hne HG
        go_wp2_with (go_at_call 20; refine (HA.out _).mono ?_; rintro e w2 ⟨rfl, rfl⟩)
        go_quiet (fail)
        go_wp2
        go_ret3
        rw [HR.out]
        exact ⟨none, 0, rfl, NR.nil _, below_dn (Below.refl _ _) nq⟩
      · have he : posOf (names q) q[k].1 = (k : Int) := (pos_first hlt).2 hf
        have t1 : (posOf (names q) q[k].1 != (k : Int)) = false := by simpa using he
        have HG2 := Lib.hid (HG.out.new hlt hf)
        clear hf he HG
        go_wp2_with (go_at_call 20; refine (HA.out _).mono ?_; rintro e w2 ⟨rfl, rfl⟩)
        go_roundw
        case rel => exact ⟨k + 1, by trivial, by omega, by go_num, HG2⟩
        case measure => simp [intOf]; omega
    · have hg := HG.out
      rw [show k = q.length by omega] at hg
      have hag : again [] (nl q) = none := (hg.done).elim (fun h => by cases h.1) (fun h => h.2.2)
      have hnd : (names q).Nodup := by
        have := (again_none.1 hag).1
        rwa [show (nl q).map (·.1) = names q by simp [nl, names]] at this
      have HND := Lib.hid hnd
      clear hnd HG hg
      rcases posOf_spec q m with ⟨hp, hno⟩ | ⟨k0, hk0, hp, hqa, hlk⟩
      · have HR := Lib.hid (show orderP (nl q) m = .error (m, 3) from by
          unfold orderP
          rw [hag]
          show (match dfs (nl q) ((nl q).length + 1) m (fun _ => 0, []) with | .error e => Except.error e | .ok y => .ok y.2) = _
          unfold dfs
          rw [look_nl, hno]
          rfl)
        have HA2 := Lib.hid (show Calls Try.prog 20 #[.slice A q.length c, .string (S m)] w _ from hp ▸ HA.out m)
        clear hag hp hno
        go_wp2_with (go_at_call 20; refine HA2.out.mono ?_; rintro e w2 ⟨rfl, rfl⟩)
        go_ret3
        rw [HR.out]
        exact ⟨none, 0, rfl, NR.nil _, Below.refl _ _⟩
      · have HA2 := Lib.hid (show Calls Try.prog 20 #[.slice A q.length c, .string (S m)] w _ from hp ▸ HA.out m)
        have HRN := Lib.hid (sim_top (L := nl q) (f := (nl q).length + 1) (m := m) (l := q[k0].2.1) (by rw [look_nl, hlk]; rfl) (Nat.lt_succ_of_le (fresh_le_len _ _)))
        have HR := Lib.hid (show orderP (nl q) m = (match dfs (nl q) ((nl q).length + 1) m (fun _ => 0, []) with
          | .error e => .error e
          | .ok y => .ok y.2) from by
            unfold orderP
            rw [hag]
            cases dfs (nl q) ((nl q).length + 1) m (fun _ => 0, []) <;> rfl)
        generalize dfs (nl q) ((nl q).length + 1) m (fun _ => 0, []) = res at *
        have HQA := Lib.hid hqa
        obtain ⟨w1, hmk, hos, hgs, hsz⟩ := made_state w q HS.out.len
        have c0 : w1.cell? ⟨w.heap.size, k0, none⟩ = some (.int .i64 0) := by rw [World.ownsRow.cellAt hos k0 (by omega), stRow_at hk0]; rfl
        have f0 : w1.frozen? ⟨w.heap.size, k0, none⟩ = false := World.ownsRow.frozenAt hos k0
        have hne1 : ¬ w.heap.size = w1.heap.size := by omega
        have HOS := Lib.hid hos
        have HGS := Lib.hid hgs
        have hsz1 : w.heap.size < w1.heap.size := by omega
        have HSZ := Lib.hid hsz
        have HB1 := Lib.hid ((Below.refl w.heap.size w).grown hgs (Nat.le_refl _) (fun k h => by cases h))
        have HA1 := Lib.hid (show ∀ wx, Below w.heap.size w wx → Calls Try.prog 20 #[.slice A q.length c, .string (S m)] wx fun e w' => e = .returned (.int .i64 (k0 : Int)) ∧ wx = w' from fun wx hb => hp ▸ At_any (H.out.below hb) m)
        clear hag hp hlk hqa hos hgs hsz
        go_wp2_with (go_at_call 20; first | (refine (HA1.out w (Below.refl _ _)).mono ?_; rintro e w2 ⟨rfl, rfl⟩) | (refine (HA1.out w1 HB1.out).mono ?_; rintro e w2 ⟨rfl, rfl⟩) | (refine (HA1.out _ (HB1.out.alloc HB1.out.size _)).mono ?_; rintro e w2 ⟨rfl, rfl⟩))
        have HST := Lib.hid (RO.start hk0 HND.out HOS.out HGS.out HSZ.out)
        have HRI0 := Lib.hid (RI.start hk0)
        obtain ⟨G0, hG0⟩ := HRN.out
        have HRN0 := Lib.hid (show Runs (nl q) G0 (wayOf q [(k0, 0)]) (upd (fun _ => 0) q[k0].1 1, []) res from by
          have e : wayOf q [(k0, 0)] = [(m, q[k0].2.1)] := by unfold wayOf wayE; simp [modAt_of hk0, HQA.out]
          rw [e, HQA.out]
          exact hG0)
        clear HOS HGS HSZ HRN hG0 c0 f0 hmk HA1 hsz1 hne1 HB1
        generalize hmv : (Value.slice none 0 0) = mv at *
        have HMV := Lib.hid hmv
        clear hmv
        go_loopg [8, 10] G0 (fun G ov dv wr => ∃ (lv wv : Value) (en : List Ent) (x : Sts × List Nm), lv = ov ∧ wv = dv ∧ Hid (RO w wr q w.heap.size lv wv en x) ∧ Hid (RI q en x) ∧ Hid (Runs (nl q) G (wayOf q en) x res))
        case atStart => exact ⟨_, _, _, _, rfl, rfl, HST, HRI0, HRN0⟩
        case round =>
          clear HST HRI0 HRN0
          obtain ⟨lv, wv, en, x, rfl, rfl, HRO, HRI, HRN⟩ := hrel
          rcases List.eq_nil_or_concat en with rfl | ⟨en, ⟨i, nx⟩, rfl⟩
          · have HR2 := Lib.hid (show orderP (nl q) m = .ok x.2 from by rw [HR.out, runs_end HRN.out])
            obtain ⟨A9, c9, hwv, _⟩ := own_form HRO.out.wy
            obtain ⟨A8, c8, hlv, hn8, _⟩ := HRO.out.od.form (by have := (HRI.out.lens HS.out).2; omega)
            have HN8 := Lib.hid hn8
            have HB8 := Lib.hid HRO.out.base
            subst hwv hlv
            simp only [List.length_nil]
            clear HRO HRI HRN hn8
            go_wp2
            go_ret3
            rw [HR2.out]
            exact ⟨A8, c8, rfl, HN8.out, HB8.out⟩
          · rw [List.concat_eq_append] at HRO HRI HRN
            obtain ⟨gw, cap, p, hp, hwv, hcap1, hcap2⟩ := HRO.out.form
            subst hwv
            have HP := Lib.hid hp
            obtain ⟨u0, u1, u2, u3, u4⟩ := HRO.out.top hp
            obtain ⟨t1, t2, t3⟩ : i < q.length ∧ nx ≤ (modAt q i).2.1.length ∧ x.1 (modAt q i).1 = 1 := HRI.out.top
            have hma := modAt_of t1
            have HMA := Lib.hid hma
            rw [hma] at t2 t3
            clear hp hma
            obtain ⟨ga, oa, rfl, hga, z1, z2⟩ := H.out.at_ t1
            obtain ⟨A', c', e2, hN⟩ := H.out.each q[i] (List.getElem_mem t1)
            rw [e2] at z2
            have hcc' := hN.cap
            have hcb' := hN.big
            have HN := Lib.hid hN
            have Z1 := Lib.hid z1
            have Z2 := Lib.hid z2
            have HBW := Lib.hid HRO.out.base
            have hwz := HRO.out.base.size
            have HA1 := Lib.hid (fun wx (hb : Below w.heap.size w wx) n => At_any (H.out.below hb) n)
            obtain ⟨s1, s2⟩ := HRO.out.gs_lo
            clear hN e2 z1 z2
            have HRA := Lib.hid (HRO.out.alloc (.cells #[.int .i64 (i : Nat), .int .i64 (nx : Nat)] 53))
            have hzA : (wr.alloc (.cells #[.int .i64 (i : Nat), .int .i64 (nx : Nat)] 53)).heap.size = wr.heap.size + 1 := World.size_alloc ..
            have HZA := Lib.hid hzA
            have B0 : (wr.alloc (.cells #[.int .i64 (i : Nat), .int .i64 (nx : Nat)] 53)).cell? ⟨wr.heap.size, 0, none⟩ = some (.int .i64 (i : Nat)) := by
              unfold World.cell?; simp only [heap_alloc_new]; rfl
            have B1 : (wr.alloc (.cells #[.int .i64 (i : Nat), .int .i64 (nx : Nat)] 53)).cell? ⟨wr.heap.size, 1, none⟩ = some (.int .i64 (nx : Nat)) := by
              unfold World.cell?; simp only [heap_alloc_new]; rfl
            have hB0 := Lib.hid B0
            have hB1 := Lib.hid B1
            have Y2 := bel HRA.out.base hga Z2.out
            have HY2 := Lib.hid Y2
            clear hzA HRO B0 B1 Y2
            by_cases hnx : nx < q[i].2.1.length
            · have HRUN := Lib.hid (runs_next HRN.out (by rw [HMA.out]; exact hnx))
              have HRI2 := Lib.hid (HRI.out.next (by rw [HMA.out]; exact hnx))
              have y1 : decide ((q[i].2.1.length : Int) ≤ (nx : Int)) = false := by simp only [decide_eq_false_iff_not]; omega
              have hw3 : IntKind.i64.wrap ((nx : Int) + 1) = (nx : Int) + 1 := IntWalk.i64_in _ (by omega)
              obtain ⟨gn, on, rfl, hgn, z3⟩ := HN.out.at_ hnx
              have z3a := bel HRA.out.base hgn z3
              have HZ3 := Lib.hid z3a
              have hen := (HRI.out.lens HS.out).1
              rw [List.length_append, List.length_singleton] at hen
              clear HRI HRN z3 z3a
              go_wp2
              generalize wr.alloc (.cells #[.int .i64 (i : Nat), .int .i64 (nx : Nat)] 53) = wa at *
              have B0 := hB0.out
              have B1 := hB1.out
              have Y2 := HY2.out
              have Z3 := HZ3.out
              go_quiet (fail)
              have HRD := Lib.hid (HRA.out.dn nq)
              have hB0 := Lib.hid (show (wa.drewN nq).cell? ⟨wr.heap.size, 0, none⟩ = some (.int .i64 (i : Nat)) from B0)
              have hB1 := Lib.hid (show (wa.drewN nq).cell? ⟨wr.heap.size, 1, none⟩ = some (.int .i64 (nx : Nat)) from B1)
              have HY2 := Lib.hid (show (wa.drewN nq).cell? _ = _ from Y2)
              have HZ3 := Lib.hid (show (wa.drewN nq).cell? _ = _ from Z3)
              have HZA := Lib.hid (show (wa.drewN nq).heap.size = wr.heap.size + 1 from HZA.out)
              clear HRA B0 B1 Y2 Z3
              generalize wa.drewN nq = wb at *
              have B0 := hB0.out
              have B1 := hB1.out
              have Y2 := HY2.out
              have Z3 := HZ3.out
              go_wp2
              go_quiet (fail)
              have HR1 := Lib.hid (HRD.out.dn nq)
              have hB0 := Lib.hid (show (wb.drewN nq).cell? ⟨wr.heap.size, 0, none⟩ = some (.int .i64 (i : Nat)) from B0)
              have hB1 := Lib.hid (show (wb.drewN nq).cell? ⟨wr.heap.size, 1, none⟩ = some (.int .i64 (nx : Nat)) from B1)
              have HZA := Lib.hid (show (wb.drewN nq).heap.size = wr.heap.size + 1 from HZA.out)
              clear HRD B0 B1 Y2 Z3 HY2 HZ3 u0 u1 u2
              generalize wb.drewN nq = wc at *
              have B0 := hB0.out
              have B1 := hB1.out
              obtain ⟨u0, u1, u2, _, _⟩ := HR1.out.top HP.out
              have f0 := u2 (p * 2)
              have f1 := u2 (p * 2 + 1)
              have hgs : gw ≠ w.heap.size := fun e => HR1.out.a1 (by simp [Value.ownBlock, e])
              have hgs1 : ¬ gw = w.heap.size := hgs
              have hgs2 : ¬ w.heap.size = gw := fun e => hgs e.symm
              have hR3 := HR1.out.next HP.out
              rw [show ((nx + 1 : Nat) : Int) = (nx : Int) + 1 from by omega] at hR3
              have HR3 := Lib.hid hR3
              have hwc := HZA.out
              have hgwr : ¬ gw = wr.heap.size := by omega
              clear u2 hgs hR3 hB0 hB1
              obtain ⟨n, hn, hcase⟩ := HRUN.out
              have hn' : q[i].2.1[nx] = n := by rw [hn]; simp only [HMA.out]
              have HN' := Lib.hid hn'
              have HA3 := Lib.hid (HA1.out _ HR3.out.base n)
              clear hn HRUN
              rw [hn']
              clear hn'
              rcases hcase with ⟨hno, hres⟩ | ⟨k2, hk2, hp2, hqn, hcase⟩
              · have hp : posOf (names q) n = -1 := (posOf_spec q n).elim (fun h => h.1) (fun ⟨k, hk, _, _, h⟩ => by rw [hno] at h; cases h)
                rw [hp] at HA3
                have HE := Lib.hid (show orderP (nl q) m = .error (n, 3) from by rw [HR.out, hres])
                clear hno hp hres
                go_wp2_with (go_at_call 20; refine HA3.out.mono ?_; rintro e w5 ⟨rfl, rfl⟩)
                go_ret3
                rw [HE.out]
                exact ⟨none, 0, by rw [← HMV.out]; rfl, NR.nil _, HR3.out.base⟩
              · rw [hp2] at HA3
                have y2 : wc.cell? ⟨w.heap.size, k2, none⟩ = some (.int .i64 ((x.1 n : Nat) : Int)) := by rw [World.ownsRow.cellAt HR1.out.st k2 (by omega), stRow_at hk2, hqn]
                have y3 : wc.frozen? ⟨w.heap.size, k2, none⟩ = false := World.ownsRow.frozenAt HR1.out.st k2
                rcases hcase with ⟨h1, hres⟩ | ⟨h0, G', hG', hrun⟩ | ⟨h0, h1, G', hG', hrun⟩
                · rw [h1] at y2
                  have HE := Lib.hid (show orderP (nl q) m = .error (n, 220) from by rw [HR.out, hres])
                  clear h1 hres hp2
                  go_wp2_with (go_at_call 20; refine HA3.out.mono ?_; rintro e w5 ⟨rfl, rfl⟩)
                  go_ret3
                  rw [HE.out]
                  exact ⟨none, 0, by rw [← HMV.out]; rfl, NR.nil _, HR3.out.base⟩
                · rw [h0] at y2
                  have hR4 := HR3.out.setState HND.out hk2 1
                  rw [hqn] at hR4
                  have HR4 := Lib.hid hR4
                  have HRN2 := Lib.hid hrun
                  have hRI3 := HRI2.out.push hk2 (by rw [hqn]; exact h0)
                  rw [hqn] at hRI3
                  have HRI3 := Lib.hid hRI3
                  have hG2 : G' < gk := by omega
                  have hz4 := HR4.out.base.size
                  have hl4 : (en ++ [(i, nx + 1)]).length ≤ 1000000 := by rw [List.length_append, List.length_singleton]; omega
                  simp only [World.size_setCell] at hz4
                  clear h0 hrun hp2 hG' hR4 hRI3
                  go_wp2_with (first
                    | (go_at_call 20; refine HA3.out.mono ?_; rintro e w5 ⟨rfl, rfl⟩)
                    | (at_builtin; refine wpList_pushW _ rfl _ _ rfl w.heap.size _ _ rfl HR4.out.wy hl4 (by simp only [World.size_setCell]; omega) k2 _ rfl (by simp only [World.size_setCell]; exact hwc) ?_; intro lv5 w5 ho5 hg5 hd5; have HR5 := Lib.hid (HR4.out.push ho5 hg5 hd5); clear ho5 hg5 hd5))
                  go_roundg G'
                  case rel => exact ⟨lv, lv5, _, _, rfl, rfl, HR5, HRI3, HRN2⟩
                  case measure => omega
                · have t1 : (((x.1 n : Nat) : Int) == 1) = false := by simp only [beq_eq_false_iff_ne, ne_eq]; omega
                  have t2 : (((x.1 n : Nat) : Int) == 0) = false := by simp only [beq_eq_false_iff_ne, ne_eq]; omega
                  have HRN2 := Lib.hid hrun
                  have hG2 : G' < gk := by omega
                  clear h0 h1 hrun hp2 hG'
                  go_wp2_with (go_at_call 20; refine HA3.out.mono ?_; rintro e w5 ⟨rfl, rfl⟩)
                  go_roundg G'
                  case rel => exact ⟨lv, _, en ++ [(i, nx + 1)], x, rfl, rfl, HR3, HRI2, HRN2⟩
                  case measure => omega
            · obtain ⟨G', hG', hrun⟩ := runs_done HRN.out (by rw [HMA.out]; omega)
              rw [HMA.out] at hrun
              have HRI2 := HRI.out.done
              rw [HMA.out] at HRI2
              have HRI2 := Lib.hid HRI2
              have HRN2 := Lib.hid hrun
              have hlen := (HRI.out.lens HS.out).2
              have y1 : decide ((q[i].2.1.length : Int) ≤ (nx : Int)) = true := by simp only [decide_eq_true_eq]; omega
              clear hrun HRI HRN
              go_wp2
              generalize wr.alloc (.cells #[.int .i64 (i : Nat), .int .i64 (nx : Nat)] 53) = wa at *
              have B0 := hB0.out
              have B1 := hB1.out
              have Y2 := HY2.out
              go_quiet (fail)
              have HR1 := Lib.hid (HRA.out.dn nq)
              have B0' := Lib.hid (show (wa.drewN nq).cell? ⟨wr.heap.size, 0, none⟩ = some (.int .i64 (i : Nat)) from B0)
              have HZ1 := Lib.hid (show (wa.drewN nq).heap.size = wr.heap.size + 1 from HZA.out)
              clear HRA hB0 hB1 HY2 B0 B1 Y2 HZA
              generalize wa.drewN nq = wb at *
              have B0 := B0'.out
              have y2 : wb.cell? ⟨w.heap.size, i, none⟩ = some (.int .i64 ((x.1 q[i].1 : Nat) : Int)) := by rw [World.ownsRow.cellAt HR1.out.st i (by omega), stRow_at t1]
              have y3 : wb.frozen? ⟨w.heap.size, i, none⟩ = false := World.ownsRow.frozenAt HR1.out.st i
              have hnb : ¬ w.heap.size = wr.heap.size := by omega
              have HR2 := Lib.hid (HR1.out.setState HND.out t1 2)
              have z1 := bel HR1.out.base hga Z1.out
              have hng : ¬ w.heap.size = ga := by omega
              have hbz := HR2.out.base.size
              rw [World.size_setCell] at hbz
              go_wp2_with (at_builtin; refine wpList_push _ rfl _ _ rfl w.heap.size lv x.2 rfl HR2.out.od (by omega) (by rw [World.size_setCell]; omega) q[i].1 _ rfl (by rw [World.size_setCell]) ?_; rintro lv4 w4 _ ho4 hg4 hd4; have HR4 := Lib.hid ((HR2.out.pushOrder ho4 hg4 hd4).pop HP.out); clear ho4 hg4 hd4)
              go_roundg G'
              case rel => exact ⟨lv4, _, en, _, rfl, rfl, HR4, HRI2, HRN2⟩
              case measure => omega
end Go.Proofs.Ythonoobbpfgjhaa.Od
