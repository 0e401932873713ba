/- The reference's reach. -/
import Derived.Test.YthonoobbpfgjhaaM13
set_option linter.unusedSimpArgs false
set_option linter.unusedVariables false
namespace Go.Proofs.Ythonoobbpfgjhaa.Od
open Go.RowKit
theorem posOf_spec (q : List Md) (a : Nm) : (posOf (names q) a = -1 ∧ lookM q a = none) ∨ ∃ k, ∃ (h : k < q.length), posOf (names q) a = (k : Int) ∧ q[k].1 = a ∧ lookM q a = some q[k] := by
  induction q with
  | nil => exact .inl ⟨rfl, rfl⟩
  | cons x r ih =>
    by_cases e : x.1 = a
    · refine .inr ⟨0, by simp, ?_, e, ?_⟩
      · exact posOf_at (k := 0) (by simp [names]) (by simp) (by simpa [names] using e)
      · unfold lookM; rw [if_pos e]; rfl
    · have hl : lookM (x :: r) a = lookM r a := by
        show (if x.1 = a then some x else lookM r a) = _
        rw [if_neg e]
      rcases ih with ⟨h1, h2⟩ | ⟨k, hk, h1, h2, h3⟩
      · refine .inl ⟨?_, by rw [hl]; exact h2⟩
        refine posOf_none ?_
        have hn : a ∉ names r := fun h => (told_iff r a).1 h h2
        show a ∉ x.1 :: names r
        rw [List.mem_cons, not_or]
        exact ⟨fun h => e h.symm, hn⟩
      · refine .inr ⟨k + 1, by simp; omega, ?_, by simpa using h2, by rw [hl, h3]; simp⟩
        have hm : a ∈ names r := (told_iff r a).2 (by rw [h3]; exact fun h => by cases h)
        have hm' : a ∈ names (x :: r) := List.mem_cons_of_mem _ hm
        unfold posOf at h1 ⊢
        rw [if_pos hm] at h1
        rw [if_pos hm']
        show ((x.1 :: names r).idxOf a : Int) = _
        have eb : (x.1 == a) = false := by simpa using e
        rw [List.idxOf_cons, eb]
        simp only [cond_false]
        omega
/-- Two rows of the call's own, apart. -/
structure SeenTodo (B : Nat) (w : World) (lv tv : Value) (s t : List Nm) : Prop where
  seen : OwnN B w lv s
  todo : ∃ g off cap, OwnT B w tv t g off cap ∧ lv.ownBlock ≠ some g
theorem SeenTodo.below {B : Nat} {w w' : World} {lv tv : Value} {s t : List Nm} (h : SeenTodo B w lv tv s t) (hb : Below w.heap.size w w') : SeenTodo B w' lv tv s t := by
  obtain ⟨g, off, cap, h1, h2⟩ := h.todo
  have hg : w.grownBy w' none := ⟨hb.os, hb.tape, hb.output, hb.size, fun k hk _ => hb.block k hk⟩
  refine ⟨h.seen.kept hg ?_, g, off, cap, h1.kept hg (fun e => by cases e), h2⟩
  cases e : lv.ownBlock with
  | none => exact .inl rfl
  | some k => exact .inr (fun h => by cases h)
theorem SeenTodo.seen1 {B : Nat} {w w' : World} {lv lv' tv : Value} {s t : List Nm} {n : Nm} (h : SeenTodo B w lv tv s t) (ho : OwnN B w' lv' (s ++ [n])) (hg : w.grownBy w' lv.ownBlock) (hd : ∀ k, lv'.ownBlock = some k → lv.ownBlock = some k ∨ w.heap.size ≤ k) : SeenTodo B w' lv' tv (s ++ [n]) t := by
  obtain ⟨g, off, cap, h1, h2⟩ := h.todo
  refine ⟨ho, g, off, cap, h1.kept hg (fun e => h2 e.symm), fun e => ?_⟩
  rcases hd g e with h3 | h3
  · exact h2 h3
  · have := h1.hi; omega
theorem SeenTodo.todo1 {B : Nat} {w w' : World} {lv tv' : Value} {s t : List Nm} {n : Nm} {g g' off' cap' : Nat} (h1 : OwnN B w lv s) (h2 : lv.ownBlock ≠ some g) (ho : OwnT B w' tv' (t ++ [n]) g' off' cap') (hg : w.grownBy w' (some g)) (hd : g' = g ∨ w.heap.size ≤ g') : SeenTodo B w' lv tv' s (t ++ [n]) := by
  refine ⟨h1.kept hg ?_, g', off', cap', ho, fun e => ?_⟩
  · cases e : lv.ownBlock with
    | none => exact .inl rfl
    | some k => exact .inr (fun h => h2 (e ▸ h))
  · rcases hd with hd | hd
    · exact h2 (hd ▸ e)
    · have := (World.ownsRow.lt h1 g' e).2; omega
theorem needs_at {q : List Md} {a : Nm} {k : Nat} {h : k < q.length} (hl : lookM q a = some q[k]) : needsOf (nl q) a = q[k].2.1 := by
  unfold needsOf; rw [look_nl, hl]; rfl
theorem needs_no {q : List Md} {a : Nm} (hl : lookM q a = none) : needsOf (nl q) a = [] := by
  unfold needsOf; rw [look_nl, hl]; rfl
theorem left_all (L : NL) (s : List Nm) : left L s ≤ (allN L).length := List.length_filter_le ..
theorem rch_len {q : List Md} {m : Nm} {s : List Nm} (hn : s.Nodup) (ho : ∀ x ∈ s, Rch (nl q) m x) (hs : Small q) : s.length ≤ 1800 := by
  have h1 : s.length ≤ ((nl q).flatMap (·.2)).length := by
    refine len_sub hn fun x hx => ?_
    obtain ⟨k, hk⟩ := rch_need (ho x hx)
    have := needs_all hk
    unfold allN at this
    rwa [List.mem_eraseDups] at this
  have h2 : ∀ l : List Md, (∀ x ∈ l, x.2.1.length ≤ 30) → ((nl l).flatMap (·.2)).length ≤ 30 * l.length := by
    intro l
    induction l with
    | nil => intro _; simp [nl]
    | cons x l ih =>
      intro hx
      have i := ih (fun y hy => hx y (List.mem_cons_of_mem _ hy))
      have := hx x (List.mem_cons_self ..)
      simp only [nl, List.map_cons, List.flatMap_cons, List.length_append, List.length_cons] at i ⊢
      omega
  have := h2 q hs.needs
  have := hs.len
  omega
theorem allN_len {q : List Md} (hs : Small q) : (allN (nl q)).length ≤ 1800 := by
  have h1 : (allN (nl q)).length ≤ ((nl q).flatMap (·.2)).length := by
    have : ∀ (n : Nat) (l : List Nm), l.length ≤ n → l.eraseDups.length ≤ l.length := by
      intro n
      induction n with
      | zero => intro l h; have : l = [] := List.eq_nil_of_length_eq_zero (by omega); subst this; simp
      | succ n ih =>
        intro l h
        cases l with
        | nil => simp
        | cons a l =>
          rw [List.eraseDups_cons, List.length_cons, List.length_cons]
          have h2 := List.length_filter_le (fun b => !b == a) l
          simp only [List.length_cons] at h
          have := ih (l.filter fun b => !b == a) (by omega)
          omega
    exact this _ _ (Nat.le_refl _)
  have h2 : ∀ l : List Md, (∀ x ∈ l, x.2.1.length ≤ 30) → ((nl l).flatMap (·.2)).length ≤ 30 * l.length := by
    intro l
    induction l with
    | nil => intro _; simp [nl]
    | cons x l ih =>
      intro hx
      have i := ih (fun y hy => hx y (List.mem_cons_of_mem _ hy))
      have := hx x (List.mem_cons_self ..)
      simp only [nl, List.map_cons, List.flatMap_cons, List.length_append, List.length_cons] at i ⊢
      omega
  have := h2 q hs.needs
  have := hs.len
  omega
theorem bel {w x : World} {g o : Nat} {v : Value} (hb : Below w.heap.size w x) (hlt : g < w.heap.size) (hz : w.cell? ⟨g, o, none⟩ = some v) : x.cell? ⟨g, o, none⟩ = some v := by rw [hb.cell (p := ⟨g, o, none⟩) hlt]; exact hz
def RreachR (w : World) (q : List Md) (m : Nm) (e : Ending) (w' : World) : Prop := ∃ s, IsRch (nl q) m s ∧ RowR w s e w'
set_option maxRecDepth 100000 in
set_option maxHeartbeats 6400000 in
theorem rreach_any {w : World} {A : Option Addr} {c : Nat} {q : List Md} (h : Mods w A c q) (hs : Small q) (m : Nm) :
    Calls Try.prog 22 #[.slice A q.length c, .string (S m)] w (RreachR w q m) := by
  have hc := h.cap
  have hg := h.big
  have H := Lib.hid h
  have HS := Lib.hid hs
  have HT0 := Lib.hid (OwnT.lit w.heap.size w (Nat.le_refl _) m)
  have HB0 := Lib.hid ((Below.refl w.heap.size w).alloc (Nat.le_refl _) (.cells #[.string (S m)] 9))
  have HO0 := Lib.hid (OwnN.nil w.heap.size)
  clear h hs
  go_enter Try.func22, Try.ntmps22
  generalize hmv : (Value.slice none 0 0) = mv at *
  have HMV := Lib.hid hmv
  clear hmv
  go_wp2
  have HST := Lib.hid (show SeenTodo w.heap.size (w.alloc (.cells #[.string (S m)] 9)) mv (.slice (some ⟨w.heap.size, 0, none⟩) 1 1) [] [m] from ⟨HO0.out _, _, _, _, HT0.out, by rw [← HMV.out]; simp [Value.ownBlock]⟩)
  clear HT0 HO0 HMV
  go_loopg [5, 6] (1 + left (nl q) []) (fun G sv dv wr => ∃ (lv tv : Value) (s t : List Nm), lv = sv ∧ tv = dv ∧ t.length + left (nl q) s ≤ G ∧ t.length + left (nl q) s ≤ 2000 ∧ Hid (SeenTodo w.heap.size wr lv tv s t) ∧ Hid (QI (nl q) m s t) ∧ Hid (Below w.heap.size w wr))
  case atStart => exact ⟨_, _, [], [m], rfl, rfl, by simp, by have h1 := left_all (nl q) []; have h2 := allN_len HS.out; simp only [List.length_singleton]; omega, HST, Lib.hid (QI.start _ _), HB0⟩
  case round =>
    clear HST HB0
    obtain ⟨lv, tv, s, t, rfl, rfl, hG, hK, HST, HQ, HB⟩ := hrel
    obtain ⟨g, off, cap, ht, hd⟩ := HST.out.todo
    cases t with
    | nil =>
      have hf := ht.form
      have HR := Lib.hid HQ.out.all
      have hsl := rch_len HQ.out.nodup HQ.out.only HS.out
      obtain ⟨A', c', hlv, hN, _⟩ := HST.out.seen.form (by omega)
      have HN := Lib.hid hN
      subst hf hlv
      clear ht hd hN HQ HST
      go_wp2
      go_ret
      exact ⟨s, ⟨HR.out.1, HR.out.2⟩, A', c', rfl, HN.out, HB.out⟩
    | cons a t =>
      obtain ⟨tv', off', hsl, ht'⟩ := ht.pop
      have hf := ht.form
      have hc0 := ht.cells 0 (by simp)
      simp only [Nat.add_zero, List.getElem_cons_zero] at hc0
      have HT := Lib.hid ht'
      have HD := Lib.hid hd
      have HSN := Lib.hid HST.out.seen
      have HJ := Lib.hid HQ.out.pop
      have HA := Lib.hid (At_any (H.out.below HB.out) a)
      have hlen2 : 0 < (a :: t).length := by simp
      generalize (a :: t).length = tn at hf hlen2
      have hlen : (0 : Int) < (tn : Int) := by omega
      subst hf
      have hG' : t.length + left (nl q) s + 1 ≤ gk := by simp only [List.length_cons] at hG; omega
      have hK' : t.length + left (nl q) s ≤ 2000 := by simp only [List.length_cons] at hK; omega
      clear ht ht' hd HQ HST hG hK
      rcases posOf_spec q a with ⟨hp, hno⟩ | ⟨k, hk, hp, hqa, hlk⟩
      · rw [hp] at HA
        have HQ2 := Lib.hid (show QI (nl q) m s t from (by have := needs_no hno; have h2 := HJ.out.close_at (by rw [this]); exact h2))
        clear hp hno
        go_wp2_with (go_at_call 20; refine HA.out.mono ?_; rintro e w2 ⟨rfl, rfl⟩)
        go_roundg (t.length + left (nl q) s)
        case rel => exact ⟨_, _, s, t, rfl, rfl, Nat.le_refl _, hK', Lib.hid ⟨HSN.out, _, _, _, HT.out, HD.out⟩, HQ2, HB⟩
        case measure => omega
      · rw [hp] at HA
        have HJ2 := Lib.hid (needs_at hlk)
        obtain ⟨ga, oa, rfl, hgl, hcell, hcell2⟩ := (H.out.below HB.out).at_ hk
        obtain ⟨A', c', e2, hN⟩ := H.out.each q[k] (List.getElem_mem hk)
        rw [e2] at hcell2
        have hcc := hN.cap
        have hcb := hN.big
        have HN := Lib.hid hN
        have HE := Lib.hid e2
        have HST2 := Lib.hid (show SeenTodo w.heap.size wr lv tv' s t from ⟨HSN.out, _, _, _, HT.out, HD.out⟩)
        have HLK := Lib.hid hk
        clear hp hlk hN e2
        go_wp2_with (go_at_call 20; refine HA.out.mono ?_; rintro e w2 ⟨rfl, rfl⟩)
        go_loopg [5, 6, 8] (q[k].2.1.length) (fun G2 sv dv iv wr2 => ∃ (lv2 tv2 : Value) (s2 t2 : List Nm) (j : Nat), lv2 = sv ∧ tv2 = dv ∧ iv = .int .i64 j ∧ j ≤ q[k].2.1.length ∧ q[k].2.1.length - j ≤ G2 ∧ t2.length + left (nl q) s2 ≤ t.length + left (nl q) s ∧ Hid (SeenTodo w.heap.size wr2 lv2 tv2 s2 t2) ∧ Hid (QJ (nl q) m a (q[k].2.1.take j) s2 t2) ∧ Hid (Below w.heap.size w wr2))
        case atStart => exact ⟨_, _, s, t, 0, rfl, rfl, rfl, Nat.zero_le _, by omega, Nat.le_refl _, HST2, Lib.hid (by simpa using HJ.out), HB⟩
        case round =>
          clear HST2 HJ HSN HT HD hcell hcell2 hc0 hsl HA
          obtain ⟨lv2, tv2, s2, t2, j, rfl, rfl, rfl, hj, hjG, hK2, HST2, HJ3, HB2⟩ := hrel
          have HBW := HB2
          have hwz := HB2.out.size
          obtain ⟨g9, o9, e9, hgl9, z1, z2⟩ := H.out.at_ HLK.out
          injection e9 with e9
          injection e9 with e9 e10
          subst e9 e10
          rw [HE.out] at z2
          have hc2 := bel HBW.out hgl9 z2
          have Z2 := Lib.hid z2
          clear z1 z2
          by_cases hjl : j < q[k].2.1.length
          · obtain ⟨gn, on, rfl, hgn, z3⟩ := HN.out.at_ hjl
            have hcn := bel HBW.out hgn z3
            have Z3 := Lib.hid z3
            clear z3
            have hsl2 := rch_len HJ3.out.nodup HJ3.out.only HS.out
            obtain ⟨A9, c9, hlv, hN9, _⟩ := HST2.out.seen.form (by omega)
            obtain ⟨g2, off2, cap2, ht2, hd2⟩ := HST2.out.todo
            have HSE := Lib.hid HST2.out.seen
            subst hlv
            have HT2 := Lib.hid ht2
            have HD2 := Lib.hid hd2
            have HIN := Lib.hid (in_any hN9 q[k].2.1[j])
            have HTK := Lib.hid (take_snoc' q[k].2.1 j hjl)
            have HNE := Lib.hid (show q[k].2.1[j] ∈ needsOf (nl q) a by rw [HJ2.out]; exact List.getElem_mem hjl)
            clear hN9 ht2 hd2 HST2
            by_cases hin : q[k].2.1[j] ∈ s2
            · have hdi : decide (q[k].2.1[j] ∈ s2) = true := by simpa using hin
              rw [hdi] at HIN
              have HJ4 := Lib.hid (show QJ (nl q) m a (q[k].2.1.take (j + 1)) s2 t2 by rw [HTK.out]; exact HJ3.out.had hin)
              clear hdi hin HJ3
              go_wp2_with (go_at_call 23; refine HIN.out.mono ?_; rintro e w2 ⟨rfl, rfl⟩)
              go_roundg (q[k].2.1.length - (j + 1))
              case rel => exact ⟨_, _, s2, t2, j + 1, rfl, rfl, by go_num, by omega, Nat.le_refl _, hK2, Lib.hid ⟨HSE.out, _, _, _, HT2.out, HD2.out⟩, HJ4, HB2⟩
              case measure => omega
            · have hdi : decide (q[k].2.1[j] ∈ s2) = false := by simpa using hin
              rw [hdi] at HIN
              have HJ4 := Lib.hid (show QJ (nl q) m a (q[k].2.1.take (j + 1)) (s2 ++ [q[k].2.1[j]]) (t2 ++ [q[k].2.1[j]]) by rw [HTK.out]; exact HJ3.out.put hin HNE.out)
              have HL := Lib.hid (left_lt (L := nl q) (s := s2) (s' := s2 ++ [q[k].2.1[j]]) (fun x h => List.mem_append_left _ h) (needs_all HNE.out) hin (by simp))
              clear hdi hin HJ3
              have hown : ∀ k, (Value.slice A9 s2.length c9).ownBlock = some k → w.heap.size ≤ k := fun k h => (World.ownsRow.lt HSE.out k h).1
              have HOW := Lib.hid hown
              have ht2 : t2.length ≤ 2000 := by omega
              clear hown
              go_wp2_with (first
                | (go_at_call 23; refine HIN.out.mono ?_; rintro e w2 ⟨rfl, rfl⟩)
                | (at_builtin; refine wpList_push _ rfl _ _ rfl w.heap.size _ s2 rfl HSE.out (by omega) (by omega) q[k].2.1[j] _ rfl rfl ?_; rintro lv3 w3 _ ho3 hg3 hd3; have HO3 := Lib.hid ho3; have HG3 := Lib.hid hg3; have HBW3 := Lib.hid (HBW.out.grown hg3 (by omega) (fun k hk => HOW.out k hk)); have HT3 := Lib.hid (HT2.out.kept hg3 (fun e => HD2.out e.symm)); have hz3 := hg3.size; have HD3 := Lib.hid (show lv3.ownBlock ≠ some g2 from fun e => (hd3 g2 e).elim HD2.out (fun h => by have := HT2.out.hi; omega)); have hc3 := bel HBW3.out hgl9 Z2.out; have hcn3 := bel HBW3.out hgn Z3.out; clear ho3 hg3 hd3)
                | (at_builtin; refine wpList_pushT _ rfl _ _ rfl w.heap.size tv2 t2 g2 off2 cap2 rfl HT3.out (by omega) (by omega) q[k].2.1[j] _ rfl rfl ?_; intro tv4 w4 g4 off4 cap4 ht4 hg4 hd4; have HST4 := Lib.hid (SeenTodo.todo1 HO3.out HD3.out ht4 hg4 hd4); have HG4 := Lib.hid hg4; clear ht4 hg4 hd4))
              have HBE := Lib.hid (HBW3.out.grown HG4.out (by omega) (fun k hk => by injection hk with hk; have := HT2.out.lo; omega))
              go_roundg (q[k].2.1.length - (j + 1))
              case rel => exact ⟨lv3, tv4, s2 ++ [q[k].2.1[j]], t2 ++ [q[k].2.1[j]], j + 1, rfl, rfl, by go_num, by omega, Nat.le_refl _, by have := HL.out; rw [List.length_append, List.length_singleton]; omega, HST4, HJ4, HBE⟩
              case measure => omega
          · have HQ3 := Lib.hid (show QI (nl q) m s2 t2 from HJ3.out.close_at (by rw [HJ2.out, List.take_of_length_le (by omega)]; rfl))
            clear HJ3
            go_wp2
            go_roundg (t.length + left (nl q) s)
            case rel => exact ⟨_, _, s2, t2, rfl, rfl, hK2, by omega, HST2, HQ3, HB2⟩
            case measure => omega
end Go.Proofs.Ythonoobbpfgjhaa.Od
