/- The reference's row of steps, in memory and plainly. -/
import Derived.Test.YthonoobbpfgjhaaM16
import Derived.WalkSmall
set_option linter.unusedSimpArgs false
set_option linter.unusedVariables false
namespace Go.Proofs.Ythonoobbpfgjhaa.Od
open Go.RowKit
def modAt (q : List Md) (i : Nat) : Md := q[i]?.getD ([], [], .bool false)
theorem modAt_of {q : List Md} {i : Nat} (h : i < q.length) : modAt q i = q[i] := by unfold modAt; rw [List.getElem?_eq_getElem h]; rfl
abbrev Ent := Nat × Nat
def wayE (q : List Md) (e : Ent) : Nm × List Nm := ((modAt q e.1).1, (modAt q e.1).2.1.drop e.2)
def wayOf (q : List Md) (en : List Ent) : Way := (en.map (wayE q)).reverse
theorem wayOf_snoc (q : List Md) (en : List Ent) (e : Ent) : wayOf q (en ++ [e]) = wayE q e :: wayOf q en := by simp [wayOf]
def wayRow (en : List Ent) : List Value := en.flatMap fun e => [.int .i64 (e.1 : Nat), .int .i64 (e.2 : Nat)]
theorem wayRow_len (en : List Ent) : (wayRow en).length = en.length * 2 := by
  induction en with
  | nil => rfl
  | cons e en ih => simp only [wayRow, List.flatMap_cons, List.length_append, List.length_cons, List.length_nil] at ih ⊢; rw [ih]; omega
theorem wayRow_snoc (en : List Ent) (e : Ent) : wayRow (en ++ [e]) = wayRow en ++ [.int .i64 (e.1 : Nat), .int .i64 (e.2 : Nat)] := by simp [wayRow]
def stRow (q : List Md) (s : Sts) : List Value := q.map fun x => .int .i64 (s x.1 : Nat)
theorem stRow_at {q : List Md} {s : Sts} {i : Nat} (h : i < q.length) : (stRow q s)[i]? = some (.int .i64 (s q[i].1 : Nat)) := by
  simp [stRow, h]
theorem stRow_set {q : List Md} (hn : (names q).Nodup) {s : Sts} {i : Nat} (h : i < q.length) (v : Nat) : (stRow q s).set i (.int .i64 (v : Nat)) = stRow q (upd s q[i].1 v) := by
  apply List.ext_getElem?
  intro j
  rw [List.getElem?_set]
  by_cases e : i = j
  · subst e
    rw [if_pos rfl, stRow_at h]
    simp [stRow, upd, h]
  · rw [if_neg e]
    by_cases hj : j < q.length
    · rw [stRow_at hj, stRow_at hj]
      have : q[j].1 ≠ q[i].1 := fun h' => e (nd_inj hn (m := q[i].1) (by simp [names, h]) (by simp [names, hj, h']))
      simp [upd, this]
    · rw [List.getElem?_eq_none (by simp [stRow]; omega), List.getElem?_eq_none (by simp [stRow]; omega)]
/-- What is known of those that are under way, and of those that are behind it. -/
structure RI (q : List Md) (en : List Ent) (x : Sts × List Nm) : Prop where
  fit : ∀ e ∈ en, e.1 < q.length ∧ e.2 ≤ (modAt q e.1).2.1.length
  wn : (en.map fun e => (modAt q e.1).1).Nodup
  wt : ∀ e ∈ en, x.1 (modAt q e.1).1 = 1
  on : x.2.Nodup
  ot : ∀ n ∈ x.2, n ∈ names q ∧ x.1 n = 2
theorem name_in {q : List Md} {i : Nat} (h : i < q.length) : (modAt q i).1 ∈ names q := by
  rw [modAt_of h]
  exact List.mem_map.2 ⟨q[i], List.getElem_mem h, rfl⟩
theorem RI.lens {q : List Md} {en : List Ent} {x : Sts × List Nm} (h : RI q en x) (hs : Small q) : en.length ≤ 60 ∧ x.2.length ≤ 60 := by
  have h1 := len_sub (l := en.map fun e => (modAt q e.1).1) (m := names q) h.wn (fun n hn => by
    obtain ⟨e, he, rfl⟩ := List.mem_map.1 hn
    exact name_in (h.fit e he).1)
  have h2 := len_sub (l := x.2) (m := names q) h.on (fun n hn => (h.ot n hn).1)
  have h3 := hs.len
  simp only [names, List.length_map] at h1 h2
  omega
theorem RI.top {q : List Md} {en : List Ent} {e : Ent} {x : Sts × List Nm} (h : RI q (en ++ [e]) x) : e.1 < q.length ∧ e.2 ≤ (modAt q e.1).2.1.length ∧ x.1 (modAt q e.1).1 = 1 :=
  ⟨(h.fit e (by simp)).1, (h.fit e (by simp)).2, h.wt e (by simp)⟩
theorem RI.done {q : List Md} {en : List Ent} {e : Ent} {x : Sts × List Nm} (h : RI q (en ++ [e]) x) : RI q en (upd x.1 (modAt q e.1).1 2, x.2 ++ [(modAt q e.1).1]) := by
  obtain ⟨t1, t2, t3⟩ := h.top
  have hn := h.wn
  rw [List.map_append, List.nodup_append] at hn
  have hne : ∀ d ∈ en, (modAt q d.1).1 ≠ (modAt q e.1).1 := fun d hd => hn.2.2 _ (List.mem_map.2 ⟨d, hd, rfl⟩) _ (by simp)
  have hm : (modAt q e.1).1 ∉ x.2 := fun hm => by have := (h.ot _ hm).2; omega
  refine ⟨fun d hd => h.fit d (List.mem_append_left _ hd), hn.1, fun d hd => ?_, ?_, fun n hn' => ?_⟩
  · show upd x.1 _ 2 _ = 1
    unfold upd
    rw [if_neg (hne d hd)]
    exact h.wt d (List.mem_append_left _ hd)
  · rw [List.nodup_append]
    exact ⟨h.on, by simp, fun a ha b hb => by rw [List.mem_singleton] at hb; subst hb; exact fun e' => hm (e' ▸ ha)⟩
  · show n ∈ names q ∧ upd x.1 _ 2 n = 2
    unfold upd
    rcases List.mem_append.1 hn' with hn' | hn'
    · refine ⟨(h.ot n hn').1, ?_⟩
      split
      · rfl
      · exact (h.ot n hn').2
    · rw [List.mem_singleton] at hn'
      subst hn'
      exact ⟨name_in t1, by rw [if_pos rfl]⟩
theorem RI.next {q : List Md} {en : List Ent} {i nx : Nat} {x : Sts × List Nm} (h : RI q (en ++ [(i, nx)]) x) (hn : nx < (modAt q i).2.1.length) : RI q (en ++ [(i, nx + 1)]) x := by
  refine ⟨fun d hd => ?_, ?_, fun d hd => ?_, h.on, h.ot⟩
  · rcases List.mem_append.1 hd with hd | hd
    · exact h.fit d (List.mem_append_left _ hd)
    · rw [List.mem_singleton] at hd; subst hd
      exact ⟨(h.top).1, hn⟩
  · have := h.wn
    rw [List.map_append] at this ⊢
    exact this
  · rcases List.mem_append.1 hd with hd | hd
    · exact h.wt d (List.mem_append_left _ hd)
    · rw [List.mem_singleton] at hd; subst hd
      exact h.top.2.2
theorem RI.push {q : List Md} {en : List Ent} {k : Nat} {x : Sts × List Nm} (h : RI q en x) (hk : k < q.length) (h0 : x.1 q[k].1 = 0) : RI q (en ++ [(k, 0)]) (upd x.1 q[k].1 1, x.2) := by
  have hne : ∀ d ∈ en, (modAt q d.1).1 ≠ q[k].1 := fun d hd e => by have := h.wt d hd; rw [e] at this; omega
  refine ⟨fun d hd => ?_, ?_, fun d hd => ?_, h.on, fun n hn => ?_⟩
  · rcases List.mem_append.1 hd with hd | hd
    · exact h.fit d hd
    · rw [List.mem_singleton] at hd; subst hd
      exact ⟨hk, Nat.zero_le _⟩
  · rw [List.map_append, List.nodup_append]
    refine ⟨h.wn, by simp, fun a ha b hb => ?_⟩
    obtain ⟨d, hd, rfl⟩ := List.mem_map.1 ha
    have : b = (modAt q k).1 := by simpa using hb
    rw [this, modAt_of hk]
    exact hne d hd
  · show upd x.1 _ 1 _ = 1
    unfold upd
    rcases List.mem_append.1 hd with hd | hd
    · rw [if_neg (hne d hd)]
      exact h.wt d hd
    · rw [List.mem_singleton] at hd; subst hd
      show (if (modAt q k).1 = q[k].1 then _ else _) = _
      rw [modAt_of hk, if_pos rfl]
  · show n ∈ names q ∧ upd x.1 _ 1 n = 2
    unfold upd
    rw [if_neg (fun e => by have := (h.ot n hn).2; rw [e] at this; omega)]
    exact h.ot n hn
theorem RI.start {q : List Md} {k : Nat} (hk : k < q.length) : RI q [(k, 0)] (upd (fun _ => 0) q[k].1 1, []) := by
  have : RI q [] (fun _ => 0, []) := ⟨(fun d hd => by cases hd), by simp, (fun d hd => by cases hd), by simp, (fun n hn => by cases hn)⟩
  simpa using this.push hk rfl
/-- One turn, from what stands on top. -/
theorem runs_done {q : List Md} {G : Nat} {en : List Ent} {i nx : Nat} {x : Sts × List Nm} {r : Ans} (h : Runs (nl q) G (wayOf q (en ++ [(i, nx)])) x r) (hn : (modAt q i).2.1.length ≤ nx) : ∃ G', G = G' + 1 ∧ Runs (nl q) G' (wayOf q en) (upd x.1 (modAt q i).1 2, x.2 ++ [(modAt q i).1]) r := by
  rw [wayOf_snoc] at h
  have e : (modAt q i).2.1.drop nx = [] := List.drop_eq_nil_of_le hn
  unfold wayE at h
  simp only [e] at h
  cases h with
  | bad h => cases h
  | go h h' => cases h; exact ⟨_, rfl, h'⟩
theorem runs_next {q : List Md} {G : Nat} {en : List Ent} {i nx : Nat} {x : Sts × List Nm} {r : Ans} (h : Runs (nl q) G (wayOf q (en ++ [(i, nx)])) x r) (hn : nx < (modAt q i).2.1.length) :
    (∃ n, n = (modAt q i).2.1[nx] ∧
      ((lookM q n = none ∧ r = .error (n, 3)) ∨
       (∃ k, ∃ (hk : k < q.length), posOf (names q) n = (k : Int) ∧ q[k].1 = n ∧
         ((x.1 n = 1 ∧ r = .error (n, 220)) ∨
          (x.1 n = 0 ∧ ∃ G', G = G' + 1 ∧ Runs (nl q) G' (wayOf q ((en ++ [(i, nx + 1)]) ++ [(k, 0)])) (upd x.1 n 1, x.2) r) ∨
          (x.1 n ≠ 0 ∧ x.1 n ≠ 1 ∧ ∃ G', G = G' + 1 ∧ Runs (nl q) G' (wayOf q (en ++ [(i, nx + 1)])) x r))))) := by
  rw [wayOf_snoc] at h
  have e : (modAt q i).2.1.drop nx = (modAt q i).2.1[nx] :: (modAt q i).2.1.drop (nx + 1) := List.drop_eq_getElem_cons hn
  unfold wayE at h
  simp only [e] at h
  refine ⟨_, rfl, ?_⟩
  generalize (modAt q i).2.1[nx] = n at *
  have hl := look_nl q n
  rcases posOf_spec q n with ⟨_, hno⟩ | ⟨k, hk, hp, hqa, hlk⟩
  · refine .inl ⟨hno, ?_⟩
    rw [hno] at hl
    have ht : ∀ w, turn (nl q) (modAt q i).1 (n :: (modAt q i).2.1.drop (nx + 1)) w x = .error (n, 3) := fun w => by unfold turn; simp only [hl]; rfl
    cases h with
    | bad h => rw [ht] at h; injection h with h; rw [h]
    | go h h' => rw [ht] at h; cases h
  · refine .inr ⟨k, hk, hp, hqa, ?_⟩
    rw [hlk] at hl
    have hl2 : look (nl q) n = some q[k].2.1 := hl
    have ht : ∀ w, turn (nl q) (modAt q i).1 (n :: (modAt q i).2.1.drop (nx + 1)) w x = if x.1 n = 1 then .error (n, 220) else if x.1 n = 0 then .ok ((n, q[k].2.1) :: ((modAt q i).1, (modAt q i).2.1.drop (nx + 1)) :: w, (upd x.1 n 1, x.2)) else .ok (((modAt q i).1, (modAt q i).2.1.drop (nx + 1)) :: w, x) := fun w => by
      unfold turn; simp only [hl2]
    have ek : wayE q (k, 0) = (n, q[k].2.1) := by unfold wayE; rw [modAt_of hk, hqa]; rfl
    by_cases h1 : x.1 n = 1
    · refine .inl ⟨h1, ?_⟩
      cases h with
      | bad h => rw [ht, if_pos h1] at h; injection h with h; rw [h]
      | go h h' => rw [ht, if_pos h1] at h; cases h
    · by_cases h0 : x.1 n = 0
      · refine .inr (.inl ⟨h0, ?_⟩)
        cases h with
        | bad h => rw [ht, if_neg h1, if_pos h0] at h; cases h
        | go h h' =>
          rw [ht, if_neg h1, if_pos h0] at h
          injection h with h; injection h with h2 h3; subst h2 h3
          refine ⟨_, rfl, ?_⟩
          rw [wayOf_snoc, wayOf_snoc, ek]
          exact h'
      · refine .inr (.inr ⟨h0, h1, ?_⟩)
        cases h with
        | bad h => rw [ht, if_neg h1, if_neg h0] at h; cases h
        | go h h' =>
          rw [ht, if_neg h1, if_neg h0] at h
          injection h with h; injection h with h2 h3; subst h2 h3
          refine ⟨_, rfl, ?_⟩
          rw [wayOf_snoc]
          exact h'
theorem runs_end {q : List Md} {G : Nat} {x : Sts × List Nm} {r : Ans} (h : Runs (nl q) G (wayOf q []) x r) : r = .ok x := by cases h; rfl
end Go.Proofs.Ythonoobbpfgjhaa.Od
