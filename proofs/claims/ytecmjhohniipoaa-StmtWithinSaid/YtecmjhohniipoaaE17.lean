/- An append whose source may be none, in a region that draws too; the small map of factor. -/
import Derived.Test.YtecmjhohniipoaaE16
import Derived.Maps.AppendAt
import Derived.RegionTactic
import Derived.OwnWalk
set_option linter.unusedSimpArgs false
set_option linter.unusedVariables false
namespace Go.Proofs.Ytecmjhohniipoaa.Ex
open Go.RowKit
open Tr (Nd Fo RepS RepN)

section
variable {P : Program} (w : World)
theorem run_app_nil (base : Nat) (t ty e : TypeId) (i : TypeInfo) (size : Nat) (ht : P.underlying t = some (.slice e)) (hi : P.info? e = some i)
    (v : Value) (n : Nat) (xs : List Value) (hown : w.ownsRow base e size v n xs) (c : Nat) : (Builtin.append_ #[t, t] ty #[v, .slice none 0 c]).run P w = .ok v w := by
  rcases hown.2 with ⟨rfl, rfl⟩ | ⟨g, cap, cur, rfl, _, _, hnc, _⟩
  · simp [Builtin.append_, run_underlying ht, sizeOf, typeInfo, hi, Builtin.lenOf, Builtin.firstCells]
  · simp [Builtin.append_, run_underlying ht, sizeOf, typeInfo, hi, Builtin.lenOf, Builtin.firstCells, hnc, storeCells]
theorem run_app (base : Nat) (t ty e : TypeId) (i : TypeInfo) (z : Value) (size bytes : Nat) (ht : P.underlying t = some (.slice e)) (hi : P.info? e = some i) (hz : i.zero = some z)
    (hsize : i.size = size) (hby : i.bytes = bytes) (hzs : z.cells.size = size) (hsz : 0 < size)
    (v : Value) (n : Nat) (xs : List Value) (hown : w.ownsRow base e size v n xs)
    (B : Nat) (A : Option Addr) (m c : Nat) (news : List Value) (hr : Reads w B size A m news) (h1 : ∀ u ∈ news, u.oneCell' = true)
    (h63 : n + m ≤ maxLen) (hbytes : (n + m) * bytes ≤ 140737488355328) (hbase : base ≤ w.heap.size) :
    ∃ A' c' w', (Builtin.append_ #[t, t] ty #[v, .slice A m c]).run P w = .ok (.slice A' (n + m) c') w' ∧ w'.ownsRow base e size (.slice A' (n + m) c') (n + m) (xs ++ news) ∧ w.grownBy w' v.ownBlock := by
  have key : ∃ v' w', (Builtin.append_ #[t, t] ty #[v, .slice A m c]).run P w = .ok v' w' ∧ w'.ownsRow base e size v' (n + m) (xs ++ news) ∧ w.grownBy w' v.ownBlock := by
    rcases A with _ | ad
    · have hm : m = 0 := by
        rcases Nat.eq_zero_or_pos m with h0 | h0
        · exact h0
        · obtain ⟨ad, h, _⟩ := hr.2 h0
          cases h
      subst hm
      have hn : news = [] := List.eq_nil_of_length_eq_zero (by simpa using hr.1)
      subst hn
      exact ⟨v, w, run_app_nil w base t ty e i size ht hi v n xs hown c, by simpa using hown, World.grownBy.refl w _⟩
    · have hcells : ∀ j u, news[j]? = some u → w.cell? (ad.add j) = some u := by
        intro j u hu
        rcases Nat.eq_zero_or_pos m with h0 | h0
        · subst h0
          have hn : news = [] := List.eq_nil_of_length_eq_zero (by simpa using hr.1)
          subst hn
          simp at hu
        · obtain ⟨ad', h, _, hc⟩ := hr.2 h0
          injection h with h
          subst h
          exact hc j u hu
      obtain ⟨v', w', hrun, h2, h3, _, _⟩ := run_append_own_at (P := P) w base t ty e i z size bytes ht hi hz hsize hby hzs hsz v n xs hown ad m c news hr.1 hcells h1 h63 hbytes hbase
      exact ⟨v', w', hrun, h2, h3⟩
  obtain ⟨v', w', hrun, h2, h3⟩ := key
  rcases h2.2 with ⟨rfl, h0⟩ | ⟨g, cap, cur, rfl, _⟩
  · rw [h0] at h2 ⊢
    exact ⟨none, 0, w', hrun, h2, h3⟩
  · exact ⟨_, _, w', hrun, h2, h3⟩
theorem step_app {ops : Array Oper} {o : Oper} {a : Act} {K : Act → World → Prop} {Q : Exit → Act → World → Prop} {E : Prop} (hgd : o.guard = none) (s x : Operand) (t : TypeId)
    (ho : o.op = .call { callee := .builtin .append, args := #[s, x], argTypes := #[t, t] })
    (base : Nat) (e : TypeId) (i : TypeInfo) (z : Value) (size bytes : Nat) (ht : P.underlying t = some (.slice e)) (hi : P.info? e = some i) (hz : i.zero = some z)
    (hsize : i.size = size) (hby : i.bytes = bytes) (hzs : z.cells.size = size) (hsz : 0 < size)
    (v : Value) (n : Nat) (xs : List Value) (hs : a.eval s = v) (hown : w.ownsRow base e size v n xs)
    (B : Nat) (A : Option Addr) (m c : Nat) (news : List Value) (hx : a.eval x = .slice A m c) (hr : Reads w B size A m news) (h1 : ∀ u ∈ news, u.oneCell' = true)
    (h63 : n + m ≤ maxLen) (hbytes : (n + m) * bytes ≤ 140737488355328) (hbase : base ≤ w.heap.size)
    (h : ∀ A' c' w', w'.ownsRow base e size (.slice A' (n + m) c') (n + m) (xs ++ news) → w.grownBy w' v.ownBlock → K (a.put o.dst (.slice A' (n + m) c')) w') :
    if Region.wanted o (yielded ops a.tmps) = true then Oper.wp P o a w K Q else E := by
  have hw : Region.wanted o (yielded ops a.tmps) = true := by simp [Region.wanted, hgd]
  rw [if_pos hw]
  obtain ⟨A', c', w', hrun, h2, h3⟩ := run_app (P := P) w base t o.type e i z size bytes ht hi hz hsize hby hzs hsz v n xs hown B A m c news hr h1 h63 hbytes hbase
  unfold Oper.wp execOp
  simp only [ho, resolve, invoke, builtin, Sem.run_bind, Sem.run_pure, Result.andThen_ok, List.map_toArray, List.map_cons, List.map_nil, hs, hx, hrun]
  exact h A' c' w' h2 h3
theorem wpList_app {ops : Array Oper} {rest : List Oper} {o : Oper} {a : Act} {Q : Exit → Act → World → Prop} (hgd : o.guard = none) (s x : Operand) (t : TypeId)
    (ho : o.op = .call { callee := .builtin .append, args := #[s, x], argTypes := #[t, t] })
    (base : Nat) (e : TypeId) (i : TypeInfo) (z : Value) (size bytes : Nat) (ht : P.underlying t = some (.slice e)) (hi : P.info? e = some i) (hz : i.zero = some z)
    (hsize : i.size = size) (hby : i.bytes = bytes) (hzs : z.cells.size = size) (hsz : 0 < size)
    (v : Value) (n : Nat) (xs : List Value) (hs : a.eval s = v) (hown : w.ownsRow base e size v n xs)
    (B : Nat) (A : Option Addr) (m c : Nat) (news : List Value) (hx : a.eval x = .slice A m c) (hr : Reads w B size A m news) (h1 : ∀ u ∈ news, u.oneCell' = true)
    (h63 : n + m ≤ maxLen) (hbytes : (n + m) * bytes ≤ 140737488355328) (hbase : base ≤ w.heap.size)
    (h : ∀ A' c' w', w'.ownsRow base e size (.slice A' (n + m) c') (n + m) (xs ++ news) → w.grownBy w' v.ownBlock → wpList P ops Q rest (a.put o.dst (.slice A' (n + m) c')) w') : wpList P ops Q (o :: rest) a w := by
  refine wpList_plain hgd fun _ hK => ?_
  obtain ⟨A', c', w', hrun, h2, h3⟩ := run_app (P := P) w base t o.type e i z size bytes ht hi hz hsize hby hzs hsz v n xs hown B A m c news hr h1 h63 hbytes hbase
  unfold Oper.wp execOp
  simp only [ho, resolve, invoke, builtin, Sem.run_bind, Sem.run_pure, Result.andThen_ok, List.map_toArray, List.map_cons, List.map_nil, hs, hx, hrun]
  exact hK _ _ (h A' c' w' h2 h3)
end

/-- Which token kinds are leaves. -/
abbrev ent1 : List (Value × Value) := [(.int .u8 2, .int .u8 5)]
abbrev ent2 : List (Value × Value) := [(.int .u8 2, .int .u8 5), (.int .u8 3, .int .u8 6)]
abbrev ent3 : List (Value × Value) := [(.int .u8 2, .int .u8 5), (.int .u8 3, .int .u8 6), (.int .u8 4, .int .u8 7)]
theorem kin_0 (W : World) (m : Nat) (hm : W.heap.size = m) : (Instr.mapUpdate 107 (.map (some m)) (.int .u8 2) (.int .u8 5)).run Try.prog (W.alloc (.map #[] 0)) = .ok () (W.alloc (mapO [(.int .u8 2, .int .u8 5)])) :=
  run_ins Try.underlying107 Try.underlying5 [] _ _ (by simp [MapKept.IsKey]) rfl W m hm
theorem kin_1 (W : World) (m : Nat) (hm : W.heap.size = m) : (Instr.mapUpdate 107 (.map (some m)) (.int .u8 3) (.int .u8 6)).run Try.prog (W.alloc (mapO [(.int .u8 2, .int .u8 5)])) = .ok () (W.alloc (mapO [(.int .u8 2, .int .u8 5), (.int .u8 3, .int .u8 6)])) :=
  run_ins Try.underlying107 Try.underlying5 ent1 _ _ (by simp [MapKept.IsKey]) rfl W m hm
theorem kin_2 (W : World) (m : Nat) (hm : W.heap.size = m) : (Instr.mapUpdate 107 (.map (some m)) (.int .u8 4) (.int .u8 7)).run Try.prog (W.alloc (mapO [(.int .u8 2, .int .u8 5), (.int .u8 3, .int .u8 6)])) = .ok () (W.alloc (mapO [(.int .u8 2, .int .u8 5), (.int .u8 3, .int .u8 6), (.int .u8 4, .int .u8 7)])) :=
  run_ins Try.underlying107 Try.underlying5 ent2 _ _ (by simp [MapKept.IsKey]) rfl W m hm
theorem kin_look (k : Nat) (h : 2 ≤ k ∧ k ≤ 4) (W : World) (m : Nat) (hm : W.heap.size = m) :
    (Instr.lookup 107 (.map (some m)) (.int .u8 k) true).run Try.prog (W.alloc (mapO [(.int .u8 2, .int .u8 5), (.int .u8 3, .int .u8 6), (.int .u8 4, .int .u8 7)])) = .ok (.tuple #[.int .u8 ((k + 3 : Nat) : Int), .bool true]) (W.alloc (mapO [(.int .u8 2, .int .u8 5), (.int .u8 3, .int .u8 6), (.int .u8 4, .int .u8 7)])) := by
  subst hm
  have hk : k = 2 ∨ k = 3 ∨ k = 4 := by omega
  rcases hk with rfl | rfl | rfl
  · exact run_look Try.underlying107 Try.underlying5 ent3 _ (by simp [MapKept.IsKey]) (j := 0) (v := .int .u8 5) rfl true _ _ (heap_alloc_new W _)
  · exact run_look Try.underlying107 Try.underlying5 ent3 _ (by simp [MapKept.IsKey]) (j := 1) (v := .int .u8 6) rfl true _ _ (heap_alloc_new W _)
  · exact run_look Try.underlying107 Try.underlying5 ent3 _ (by simp [MapKept.IsKey]) (j := 2) (v := .int .u8 7) rfl true _ _ (heap_alloc_new W _)
theorem kin_none (k : Nat) (h : ¬ (2 ≤ k ∧ k ≤ 4)) (W : World) (m : Nat) (hm : W.heap.size = m) :
    (Instr.lookup 107 (.map (some m)) (.int .u8 k) true).run Try.prog (W.alloc (mapO [(.int .u8 2, .int .u8 5), (.int .u8 3, .int .u8 6), (.int .u8 4, .int .u8 7)])) = .ok (.tuple #[.int .u8 0, .bool false]) (W.alloc (mapO [(.int .u8 2, .int .u8 5), (.int .u8 3, .int .u8 6), (.int .u8 4, .int .u8 7)])) := by
  subst hm
  have e2 : ((k : Int) == 2) = false := by simp only [beq_eq_false_iff_ne, ne_eq]; omega
  have e3 : ((k : Int) == 3) = false := by simp only [beq_eq_false_iff_ne, ne_eq]; omega
  have e4 : ((k : Int) == 4) = false := by simp only [beq_eq_false_iff_ne, ne_eq]; omega
  refine run_look_no Try.underlying107 Try.underlying5 ent3 (.int .u8 k) (by simp [MapKept.IsKey]) ?_ true _ (by kernel_rfl) _ (heap_alloc_new W _)
  simp [esF, Instr.findNow, Instr.sameNow, e2, e3, e4]
theorem factP_succ (L : List PT) (f i : Nat) : factP L (f + 1) i =
    if 2 ≤ (tk L i).1.kind ∧ (tk L i).1.kind ≤ 4 then .ok (mk ((tk L i).1.kind + 3) (pos L i) (tk L i).1.text (tk L i).1.n [], i + 1)
    else if isT L i sPar = true then (match exprG L (factP L f) (i + 1) with
      | .error k => .error k
      | .ok (x, j) => match need L j sRap with
        | .error k => .error k
        | .ok j2 => .ok (x, j2))
    else if isT L i sNot = true then (match factP L f (i + 1) with
      | .error k => .error k
      | .ok (x, j) => .ok (mk 12 (pos L i) sNot 0 [x], j))
    else if isT L i sCur = true then (match betweenP L (elemP L (exprG L (factP L f))) sRuc (i + 1) with
      | .error k => .error k
      | .ok (l, j) => .ok (mk 8 (pos L i) sNil 0 (zeroT :: l), j))
    else match designP L (exprG L (factP L f)) i with
      | .error k => .error k
      | .ok (x, j) => if plainT x = true ∧ isT L j sCur = true then (match betweenP L (elemP L (exprG L (factP L f))) sRuc (j + 1) with
          | .error k => .error k
          | .ok (l, j2) => .ok (mk 8 (pos L i) sNil 0 (x :: l), j2))
        else if isT L j sPar = true then (match betweenP L (exprG L (factP L f)) sRap (j + 1) with
          | .error k => .error k
          | .ok (l, j2) => .ok (mk 10 (pos L j) sNil 0 (x :: l), j2))
        else .ok (x, j) := rfl
theorem factP_ok {L : List PT} : ∀ f, SpOK L (factP L f) := by
  intro f
  induction f with
  | zero => intro i y j h; cases h
  | succ f ih =>
    intro i y j h
    have hx := levD_ok ih 3
    rw [factP_succ] at h
    split at h
    · rename_i hk
      injection h with h; injection h with h1 h2
      have : i < L.length := by
        rcases Nat.lt_or_ge i L.length with h1 | h1
        · exact h1
        · unfold tk at hk
          rw [List.getElem?_eq_none h1] at hk
          simp [noPT, Lx.noTk] at hk
      omega
    · split at h
      · split at h
        · cases h
        · rename_i x j1 h1
          have g := hx _ _ _ h1
          split at h
          · cases h
          · rename_i j2 h2
            have g2 := need_le h2
            have := isT_lt g2.2
            injection h with h; injection h with h3 h4; omega
      · split at h
        · split at h
          · cases h
          · rename_i x j1 h1
            have g := ih _ _ _ h1
            injection h with h; injection h with h3 h4; omega
        · split at h
          · split at h
            · cases h
            · rename_i l j1 h1
              have g := betweenP_ok (elemP_ok hx) h1
              injection h with h; injection h with h3 h4; omega
          · split at h
            · cases h
            · rename_i x j1 h1
              have g := designP_ok hx _ _ _ h1
              split at h
              · split at h
                · cases h
                · rename_i l j2 h2
                  have g2 := betweenP_ok (elemP_ok hx) h2
                  injection h with h; injection h with h3 h4; omega
              · split at h
                · split at h
                  · cases h
                  · rename_i l j2 h2
                    have g2 := betweenP_ok hx h2
                    injection h with h; injection h with h3 h4; omega
                · injection h with h; injection h with h3 h4; omega
end Go.Proofs.Ytecmjhohniipoaa.Ex
