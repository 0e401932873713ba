/- The plain law of Make: the lowest place where the words fit. -/
import Derived.Test.YtfdpcjdghmdkkaaH11
set_option linter.unusedSimpArgs false
set_option linter.unusedVariables false
namespace Go.Proofs.Ytfdpcjdghmdkkaa.Hp
open Go.RowKit Go.Sort
theorem nomem {α : Type} {Q : α → Prop} : ∀ k ∈ ([] : List α), Q k := fun k h => by cases h
/-- Blocks one behind the other, from 'at' on. -/
def Chain : Nat → List Bk → Prop
  | _, [] => True
  | a, x :: l => a ≤ x.1.val ∧ Chain (x.1.val + x.2) l
theorem Chain.le {l : List Bk} : ∀ {a : Nat}, Chain a l → ∀ x ∈ l, a ≤ x.1.val := by
  induction l with
  | nil => intro a _ x h; cases h
  | cons y l ih =>
    intro a h x hx
    rcases List.mem_cons.1 hx with rfl | hx
    · exact h.1
    · have := ih h.2 x hx
      have := h.1
      omega
theorem gap_spec {need fin : Nat} (hn : 1 ≤ need) (hf : fin ≤ 65536) : ∀ (l : List Bk) (at_ : Nat), Chain at_ l → (∀ x ∈ l, x.1.val + x.2 ≤ fin) → at_ ≤ fin →
    at_ ≤ gapL need at_ (l ++ [senB fin]) ∧ gapL need at_ (l ++ [senB fin]) ≤ fin ∧
    (gapL need at_ (l ++ [senB fin]) + need ≤ fin → ∀ x ∈ l, gapL need at_ (l ++ [senB fin]) + need ≤ x.1.val ∨ x.1.val + x.2 ≤ gapL need at_ (l ++ [senB fin])) ∧
    (∀ a', at_ ≤ a' → a' + need ≤ fin → (∀ x ∈ l, a' + need ≤ x.1.val ∨ x.1.val + x.2 ≤ a') → gapL need at_ (l ++ [senB fin]) + need ≤ fin ∧ gapL need at_ (l ++ [senB fin]) ≤ a')
  | [], at_, _, _, ha => by
    have e : gapL need at_ ([] ++ [senB fin]) = if ((fin : Nat) : Int) - (at_ : Int) ≥ (need : Int) then at_ else fin := by
      show (if ((senB fin).1.val : Int) - (at_ : Int) ≥ (need : Int) then at_ else (senB fin).1.val + (senB fin).2) = _
      rw [senB_at hf]
      rfl
    rw [e]
    by_cases h : ((fin : Nat) : Int) - (at_ : Int) ≥ (need : Int)
    · rw [if_pos h]
      exact ⟨Nat.le_refl _, ha, fun _ => nomem, fun a' h1 h2 _ => ⟨by omega, h1⟩⟩
    · rw [if_neg h]
      exact ⟨ha, Nat.le_refl _, fun _ => nomem, fun a' h1 h2 _ => by omega⟩
  | x :: l, at_, hc, hb, ha => by
    have e : gapL need at_ (x :: l ++ [senB fin]) = if (x.1.val : Int) - (at_ : Int) ≥ (need : Int) then at_ else gapL need (x.1.val + x.2) (l ++ [senB fin]) := rfl
    have hx := hb x (List.mem_cons_self ..)
    rw [e]
    by_cases h : (x.1.val : Int) - (at_ : Int) ≥ (need : Int)
    · rw [if_pos h]
      refine ⟨Nat.le_refl _, ha, fun _ y hy => .inl ?_, fun a' h1 h2 _ => ⟨by omega, h1⟩⟩
      rcases List.mem_cons.1 hy with rfl | hy
      · omega
      · have := hc.2.le y hy
        omega
    · rw [if_neg h]
      obtain ⟨i1, i2, i3, i4⟩ := gap_spec hn hf l (x.1.val + x.2) hc.2 (fun y hy => hb y (List.mem_cons_of_mem _ hy)) hx
      have := hc.1
      refine ⟨by omega, i2, fun q y hy => ?_, fun a' h1 h2 h3 => ?_⟩
      · rcases List.mem_cons.1 hy with rfl | hy
        · exact .inr i1
        · exact i3 q y hy
      · rcases h3 x (List.mem_cons_self ..) with q | q
        · omega
        · exact i4 a' q h2 (fun y hy => h3 y (List.mem_cons_of_mem _ hy))
/-- A state that calls lead to. -/
structure OKSt (fr n last : Nat) (ks : List Nat) (g : Nat → Bk) : Prop where
  fr1 : 1 ≤ fr
  top : fr + n ≤ 65536
  lst : last ≤ 65535
  nd : ks.Nodup
  key : ∀ k ∈ ks, 1 ≤ k ∧ k ≤ last
  pos : ∀ k ∈ ks, 1 ≤ (g k).2
  lo : ∀ k ∈ ks, fr ≤ (g k).1.val
  hi : ∀ k ∈ ks, (g k).1.val + (g k).2 ≤ fr + n
  dis : ∀ k ∈ ks, ∀ k' ∈ ks, k ≠ k' → (g k).1.val + (g k).2 ≤ (g k').1.val ∨ (g k').1.val + (g k').2 ≤ (g k).1.val
theorem nodup_le : ∀ (m : Nat) (l : List Nat), l.Nodup → (∀ k ∈ l, 1 ≤ k ∧ k ≤ m) → l.length ≤ m := by
  intro m
  induction m with
  | zero =>
    intro l _ h
    cases l with
    | nil => simp
    | cons a l => have := h a (List.mem_cons_self ..); omega
  | succ m ih =>
    intro l hn h
    have h1 := ih (l.filter fun x => !decide (x = m + 1)) (hn.sublist List.filter_sublist) (fun k hk => by
      rw [List.mem_filter] at hk
      have := h k hk.1
      have : k ≠ m + 1 := by simpa using hk.2
      omega)
    by_cases hm : m + 1 ∈ l
    · have := (nd_filter hn hm).length_eq
      rw [List.length_cons] at this
      omega
    · have e : (l.filter fun x => !decide (x = m + 1)) = l := by
        rw [List.filter_eq_self]
        intro x hx
        have : x ≠ m + 1 := fun q => hm (q ▸ hx)
        simp [this]
      rw [e] at h1
      omega
section
variable {fr n last : Nat} {ks : List Nat} {g : Nat → Bk}
theorem OKSt.len (h : OKSt fr n last ks g) : ks.length ≤ last := nodup_le last ks h.nd h.key
theorem OKSt.new (h : OKSt fr n last ks g) : last + 1 ∉ ks := fun q => by have := (h.key _ q).2; omega
theorem OKSt.small (h : OKSt fr n last ks g) : ∀ k ∈ ks, (g k).2 ≤ 70000 := fun k hk => by have := h.hi k hk; have := h.top; omega
theorem OKSt.start {fr n : Nat} (h1 : 1 ≤ fr) (h2 : fr + n ≤ 65536) (g : Nat → Bk) : OKSt fr n 0 [] g :=
  ⟨h1, h2, by omega, .nil, nomem, nomem, nomem, nomem, nomem⟩
/-- The words from a on are all free. -/
def Fits (fr n : Nat) (ks : List Nat) (g : Nat → Bk) (a m : Nat) : Prop := fr ≤ a ∧ a + m ≤ fr + n ∧ ∀ k ∈ ks, a + m ≤ (g k).1.val ∨ (g k).1.val + (g k).2 ≤ a
theorem chain_of : ∀ (l : List Bk) (a : Nat), (l.Pairwise fun x y => x.1.val ≤ y.1.val) → (l.Pairwise fun x y => x.1.val + x.2 ≤ y.1.val ∨ y.1.val + y.2 ≤ x.1.val) → (∀ x ∈ l, 1 ≤ x.2) → (∀ x ∈ l, a ≤ x.1.val) → Chain a l
  | [], _, _, _, _, _ => trivial
  | x :: l, a, h1, h2, h3, h4 => by
    rw [List.pairwise_cons] at h1 h2
    refine ⟨h4 x (List.mem_cons_self ..), chain_of l _ h1.2 h2.2 (fun y hy => h3 y (List.mem_cons_of_mem _ hy)) fun y hy => ?_⟩
    have q1 := h1.1 y hy
    have q3 := h3 y (List.mem_cons_of_mem _ hy)
    rcases h2.1 y hy with q | q
    · exact q
    · omega
theorem OKSt.fits (h : OKSt fr n last ks g) {l : List Bk} (hp : l.Perm (ks.map g)) (hs : l.Pairwise fun x y => x.1.val ≤ y.1.val) {m a : Nat} (hm : 1 ≤ m) (ha : a = gapL m fr (l ++ [senB (fr + n)])) :
    (m + a ≤ fr + n → Fits fr n ks g a m) ∧ (∀ a', Fits fr n ks g a' m → m + a ≤ fr + n ∧ a ≤ a') ∧ a ≤ fr + n := by
  have mem : ∀ x ∈ l, ∃ k ∈ ks, g k = x := fun x hx => List.mem_map.1 (hp.mem_iff.1 hx)
  have mem' : ∀ k ∈ ks, g k ∈ l := fun k hk => hp.mem_iff.2 (List.mem_map.2 ⟨k, hk, rfl⟩)
  have hd : l.Pairwise fun x y => x.1.val + x.2 ≤ y.1.val ∨ y.1.val + y.2 ≤ x.1.val := by
    have : (ks.map g).Pairwise fun x y => x.1.val + x.2 ≤ y.1.val ∨ y.1.val + y.2 ≤ x.1.val := by
      rw [List.pairwise_map]
      refine (List.Pairwise.and_mem.1 h.nd).imp ?_
      rintro k k' ⟨h1, h2, h3⟩
      exact h.dis k h1 k' h2 h3
    exact (hp.pairwise_iff (fun {x y} q => q.symm)).2 this
  have hc : Chain fr l := chain_of l fr hs hd (fun x hx => by obtain ⟨k, hk, rfl⟩ := mem x hx; exact h.pos k hk) (fun x hx => by obtain ⟨k, hk, rfl⟩ := mem x hx; exact h.lo k hk)
  obtain ⟨i1, i2, i3, i4⟩ := gap_spec hm h.top l fr hc (fun x hx => by obtain ⟨k, hk, rfl⟩ := mem x hx; exact h.hi k hk) (by omega)
  rw [← ha] at i1 i2 i3 i4
  refine ⟨fun q => ⟨i1, by omega, fun k hk => i3 (by omega) _ (mem' k hk)⟩, fun a' hf => ?_, i2⟩
  have := i4 a' hf.1 hf.2.1 (fun x hx => by obtain ⟨k, hk, rfl⟩ := mem x hx; exact hf.2.2 k hk)
  exact ⟨by omega, this.2⟩
/-- A block more. -/
theorem OKSt.made (h : OKSt fr n last ks g) {a m : Nat} (hm : 1 ≤ m) (hl : last < 65535) (hf : Fits fr n ks g a m) : OKSt fr n (last + 1) (ks ++ [last + 1]) (updB g (last + 1) (mkB a m)) := by
  have ht := h.top
  obtain ⟨f1, f2, f3⟩ := hf
  have hat : (mkB a m).1.val = a := mkB_at (by omega)
  have old : ∀ k ∈ ks, updB g (last + 1) (mkB a m) k = g k := fun k hk => by
    have hne : k ≠ last + 1 := fun q => h.new (q ▸ hk)
    unfold updB; rw [if_neg hne]
  have new : updB g (last + 1) (mkB a m) (last + 1) = mkB a m := by unfold updB; rw [if_pos rfl]
  have sp : ∀ {Q : Nat → Prop}, (∀ k ∈ ks, Q k) → Q (last + 1) → ∀ k ∈ ks ++ [last + 1], Q k := fun h1 h2 k hk => by
    rcases List.mem_append.1 hk with hk | hk
    · exact h1 k hk
    · rw [List.mem_singleton] at hk; subst hk; exact h2
  refine ⟨h.fr1, h.top, by omega, ?_, sp (fun k hk => by have := h.key k hk; omega) ⟨by omega, Nat.le_refl _⟩, sp (fun k hk => by rw [old k hk]; exact h.pos k hk) (by rw [new]; exact hm),
    sp (fun k hk => by rw [old k hk]; exact h.lo k hk) (by rw [new, hat]; exact f1), sp (fun k hk => by rw [old k hk]; exact h.hi k hk) (by rw [new, hat]; exact f2), ?_⟩
  · rw [List.nodup_append]
    refine ⟨h.nd, by simp, fun x hx y hy => ?_⟩
    rw [List.mem_singleton] at hy
    subst hy
    exact fun e => h.new (e ▸ hx)
  · refine sp (fun k hk => sp (fun k' hk' hne => by rw [old k hk, old k' hk']; exact h.dis k hk k' hk' hne) (fun _ => ?_)) (sp (fun k' hk' _ => ?_) (fun q => absurd rfl q))
    · rw [old k hk, new, hat]
      exact (f3 k hk).symm
    · rw [new, old k' hk', hat]
      exact f3 k' hk'
theorem OKSt.freed (h : OKSt fr n last ks g) (m : Nat) : OKSt fr n last (ks.filter fun k => !decide (k = m)) g := by
  have sub : ∀ k ∈ (ks.filter fun k => !decide (k = m)), k ∈ ks := fun k hk => (List.mem_filter.1 hk).1
  exact ⟨h.fr1, h.top, h.lst, h.nd.sublist List.filter_sublist, fun k hk => h.key k (sub k hk), fun k hk => h.pos k (sub k hk), fun k hk => h.lo k (sub k hk), fun k hk => h.hi k (sub k hk), fun k hk k' hk' => h.dis k (sub k hk) k' (sub k' hk')⟩
end
/-- What Make answers, and leaves: in plain words. -/
def MadeP (w : World) (h b fr n last : Nat) (ks : List Nat) (g : Nat → Bk) (m : Nat) (e : Ending) (w' : World) : Prop :=
  Keeps2 h b w w' ∧
    ((∃ a, last < 65535 ∧ Fits fr n ks g a m ∧ (∀ a', Fits fr n ks g a' m → a ≤ a') ∧ e = .returned (.tuple #[.int .u16 ((last + 1 : Nat) : Int), .int .i64 (a : Nat), .int .i64 0]) ∧ HpAt w' h b fr n (last + 1) (ks ++ [last + 1]) (updB g (last + 1) (mkB a m)) ∧ OKSt fr n (last + 1) (ks ++ [last + 1]) (updB g (last + 1) (mkB a m))) ∨
      ((last = 65535 ∨ ∀ a', ¬ Fits fr n ks g a' m) ∧ e = .returned (.tuple #[.int .u16 0, .int .i64 0, .int .i64 4]) ∧ HpAt w' h b fr n last ks g))
theorem make_plain {w : World} {h b fr n last : Nat} {ks : List Nat} {g : Nat → Bk} (H : HpAt w h b fr n last ks g) (S : OKSt fr n last ks g) {m : Nat} (hm : 1 ≤ m) (hhi : (m : Int) ≤ 9223372036854775807) :
    Calls Try.prog 19 #[.pointer (some ⟨h, 0, none⟩), .int .i64 (m : Nat)] w (MadeP w h b fr n last ks g m) := by
  refine (make_any H (by have := S.len; have := S.lst; omega) S.top S.small S.lst S.new hm hhi).mono ?_
  rintro e w' ⟨l, a, hp, hs, ha, hk, hr⟩
  obtain ⟨i1, i2, i3⟩ := S.fits hp hs hm ha
  refine ⟨hk, ?_⟩
  rcases hr with ⟨h1, h2, h3, h4⟩ | ⟨h1, h3, h4⟩
  · exact .inl ⟨a, h2, i1 h1, fun a' hf => (i2 a' hf).2, h3, h4, S.made hm h2 (i1 h1)⟩
  · refine .inr ⟨?_, h3, h4⟩
    by_cases hl : last = 65535
    · exact .inl hl
    · refine .inr fun a' hf => h1 ⟨(i2 a' hf).1, by have := S.lst; omega⟩
end Go.Proofs.Ytfdpcjdghmdkkaa.Hp
