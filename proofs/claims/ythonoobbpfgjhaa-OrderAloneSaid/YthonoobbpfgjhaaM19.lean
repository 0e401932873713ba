/- Some answers that the document fixes: alive. -/
import Derived.Test.YthonoobbpfgjhaaM18
set_option linter.unusedSimpArgs false
set_option linter.unusedVariables false
namespace Go.Proofs.Ythonoobbpfgjhaa.Od
open Go.RowKit
theorem cells_new (w : World) (cs : Array Value) (t : TypeId) (j : Nat) : (w.alloc (.cells cs t)).cell? ⟨w.heap.size, j, none⟩ = cs[j]? := by
  unfold World.cell?
  simp only [heap_alloc_new]
  rfl
theorem add_zero0 (g j : Nat) : (⟨g, 0, none⟩ : Addr).add j = ⟨g, j, none⟩ := by
  unfold Addr.add
  by_cases h : j = 0
  · subst h; rfl
  · rw [if_neg h, Nat.zero_add]
theorem NR.lit (w : World) (l : List Nm) (hl : l.length ≤ 1000) (t : TypeId) (cs : Array Value) (hc : cs = (strs l).toArray) (n : Nat) (hn : n = l.length) : NR (w.alloc (.cells cs t)) (some ⟨w.heap.size, 0, none⟩) n l := by
  subst hc hn
  refine ⟨⟨by rw [strs_len]; omega, fun _ => ⟨_, rfl, by rw [World.size_alloc]; exact Nat.lt_succ_self _, fun j u hu => ?_⟩⟩, Nat.le_refl _, by omega⟩
  rw [add_zero0, cells_new]
  simpa using hu
theorem Mods.lit (w : World) (q : List Md) (hl : q.length ≤ 1000) (hN : ∀ x ∈ q, Needs w x) (t : TypeId) (cs : Array Value) (hc : cs = (q.flatMap modV).toArray) : Mods (w.alloc (.cells cs t)) (some ⟨w.heap.size, 0, none⟩) q.length q := by
  subst hc
  refine ⟨⟨by rw [modV_len], fun _ => ⟨_, rfl, by rw [World.size_alloc]; exact Nat.lt_succ_self _, fun j u hu => ?_⟩⟩, Nat.le_refl _, by omega, fun x hx => (hN x hx).below ((Below.refl _ _).alloc (Nat.le_refl _) _)⟩
  rw [add_zero0, cells_new]
  simpa using hu
theorem Needs.lit (w : World) (m : Nm) (l : List Nm) (hl : l.length ≤ 1000) (t : TypeId) (cs : Array Value) (hc : cs = (strs l).toArray) (n : Nat) (hn : n = l.length) (g : Nat) (hg : g = w.heap.size) : Needs (w.alloc (.cells cs t)) (m, l, .slice (some ⟨g, 0, none⟩) n n) := by
  subst hn hg
  exact ⟨_, _, rfl, NR.lit w l hl t cs hc _ rfl⟩
theorem Needs.none_ (w : World) (m : Nm) : Needs w (m, [], .slice none 0 0) := ⟨none, 0, rfl, NR.nil w⟩
theorem Needs.alloc {w : World} {x : Md} (h : Needs w x) (o : Obj) : Needs (w.alloc o) x := h.below ((Below.refl _ _).alloc (Nat.le_refl _) o)
abbrev nA : Nm := [97]
abbrev nB : Nm := [98]
abbrev nC : Nm := [99]
def Ans3 (W : World) (l : List Nm) (n : Nat) (s : ByteArray) (k : Int) (e : Ending) (w' : World) : Prop := ∃ A c, e = .returned (.tuple #[.slice A n c, .string s, .int .i64 k]) ∧ NR w' A c l ∧ Below W.heap.size W w'
theorem ans3 {w : World} {A : Option Addr} {c : Nat} {q : List Md} (h : Mods w A c q) (hs : Small q) (m : Nm) (l : List Nm) (n : Nat) (s : ByteArray) (k : Int) (n' : Nat) (hn' : n' = q.length) (sm : ByteArray) (hsm : sm = S m)
    (he : ansOf (orderP (nl q) m) = (l, s.data.toList, k.toNat)) (hn : n = l.length) (hk : 0 ≤ k) : Calls Try.prog 8 #[.slice A n' c, .string sm] w (Ans3 w l n s k) := by
  subst hn' hsm hn
  refine (Order_any h hs m).mono fun e w' ⟨A', c', he', hn', hb'⟩ => ⟨A', c', ?_, ?_, hb'⟩
  · rw [he', he]
    have : S s.data.toList = s := by unfold S; simp
    simp only [this]
    rw [show ((k.toNat : Nat) : Int) = k by omega]
  · rw [he] at hn'; exact hn'
theorem Mods.lit' (w : World) (q : List Md) (g n : Nat) (hg : g = w.heap.size) (hn : n = q.length) (hl : q.length ≤ 1000) (hN : ∀ x ∈ q, Needs w x) (t : TypeId) (cs : Array Value) (hc : cs = (q.flatMap modV).toArray) : Mods (w.alloc (.cells cs t)) (some ⟨g, 0, none⟩) n q := by
  subst hg hn; exact Mods.lit w q hl hN t cs hc
theorem call1 (w : World) : Calls Try.prog 8 #[.slice (some ⟨w.heap.size + 1 + 1, 0, none⟩) 3 3, .string ⟨#[97]⟩] (((w.alloc (.cells #[.string ⟨#[98]⟩, .string ⟨#[99]⟩] 9)).alloc (.cells #[.string ⟨#[99]⟩] 9)).alloc (.cells #[.string ⟨#[97]⟩, .slice (some ⟨w.heap.size, 0, none⟩) 2 2, .string ⟨#[98]⟩, .slice (some ⟨w.heap.size + 1, 0, none⟩) 1 1, .string ⟨#[99]⟩, .slice none 0 0] 30))
    (Ans3 (((w.alloc (.cells #[.string ⟨#[98]⟩, .string ⟨#[99]⟩] 9)).alloc (.cells #[.string ⟨#[99]⟩] 9)).alloc (.cells #[.string ⟨#[97]⟩, .slice (some ⟨w.heap.size, 0, none⟩) 2 2, .string ⟨#[98]⟩, .slice (some ⟨w.heap.size + 1, 0, none⟩) 1 1, .string ⟨#[99]⟩, .slice none 0 0] 30)) [nC, nB, nA] 3 ⟨#[]⟩ 0) := by
  have hM : Mods (((w.alloc (.cells #[.string ⟨#[98]⟩, .string ⟨#[99]⟩] 9)).alloc (.cells #[.string ⟨#[99]⟩] 9)).alloc (.cells #[.string ⟨#[97]⟩, .slice (some ⟨w.heap.size, 0, none⟩) 2 2, .string ⟨#[98]⟩, .slice (some ⟨w.heap.size + 1, 0, none⟩) 1 1, .string ⟨#[99]⟩, .slice none 0 0] 30)) (some ⟨w.heap.size + 1 + 1, 0, none⟩) 3 [(nA, [nB, nC], .slice (some ⟨w.heap.size, 0, none⟩) 2 2), (nB, [nC], .slice (some ⟨w.heap.size + 1, 0, none⟩) 1 1), (nC, [], .slice none 0 0)] := by
    refine Mods.lit' _ _ _ _ ?_ ?_ ?_ (fun x hx => ?_) _ _ ?_
    · simp
    · rfl
    · simp
    rotate_left
    · rfl
    simp only [List.mem_cons, List.mem_nil_iff, or_false] at hx
    rcases hx with rfl | rfl | rfl
    · exact (Needs.lit w nA [nB, nC] (by decide) _ _ rfl 2 rfl _ rfl).alloc _
    · exact Needs.lit _ nB [nC] (by decide) _ _ rfl 1 rfl _ (by simp)
    · exact Needs.none_ _ _
  refine ans3 hM ?_ nA _ _ _ _ _ rfl _ rfl ?_ rfl (by decide)
  · exact ⟨by simp, by simp, by simp, by simp⟩
  · simp only [nl, List.map_cons, List.map_nil]
    decide +kernel
theorem call2 (w : World) : Calls Try.prog 8 #[.slice (some ⟨w.heap.size + 1 + 1, 0, none⟩) 2 2, .string ⟨#[97]⟩] (((w.alloc (.cells #[.string ⟨#[98]⟩] 9)).alloc (.cells #[.string ⟨#[97]⟩] 9)).alloc (.cells #[.string ⟨#[97]⟩, .slice (some ⟨w.heap.size, 0, none⟩) 1 1, .string ⟨#[98]⟩, .slice (some ⟨w.heap.size + 1, 0, none⟩) 1 1] 30))
    (Ans3 (((w.alloc (.cells #[.string ⟨#[98]⟩] 9)).alloc (.cells #[.string ⟨#[97]⟩] 9)).alloc (.cells #[.string ⟨#[97]⟩, .slice (some ⟨w.heap.size, 0, none⟩) 1 1, .string ⟨#[98]⟩, .slice (some ⟨w.heap.size + 1, 0, none⟩) 1 1] 30)) [] 0 ⟨#[97]⟩ 220) := by
  have hM : Mods (((w.alloc (.cells #[.string ⟨#[98]⟩] 9)).alloc (.cells #[.string ⟨#[97]⟩] 9)).alloc (.cells #[.string ⟨#[97]⟩, .slice (some ⟨w.heap.size, 0, none⟩) 1 1, .string ⟨#[98]⟩, .slice (some ⟨w.heap.size + 1, 0, none⟩) 1 1] 30)) (some ⟨w.heap.size + 1 + 1, 0, none⟩) 2 [(nA, [nB], .slice (some ⟨w.heap.size, 0, none⟩) 1 1), (nB, [nA], .slice (some ⟨w.heap.size + 1, 0, none⟩) 1 1)] := by
    refine Mods.lit' _ _ _ _ ?_ ?_ ?_ (fun x hx => ?_) _ _ ?_
    · simp
    · rfl
    · simp
    rotate_left
    · rfl
    simp only [List.mem_cons, List.mem_nil_iff, or_false] at hx
    rcases hx with rfl | rfl
    · exact (Needs.lit w nA [nB] (by decide) _ _ rfl 1 rfl _ rfl).alloc _
    · exact Needs.lit _ nB [nA] (by decide) _ _ rfl 1 rfl _ (by simp)
  refine ans3 hM ?_ nA _ _ _ _ _ rfl _ rfl ?_ rfl (by decide)
  · exact ⟨by simp, by simp, by simp, by simp⟩
  · simp only [nl, List.map_cons, List.map_nil]
    decide +kernel
theorem call3 (w : World) : Calls Try.prog 8 #[.slice (some ⟨w.heap.size + 1, 0, none⟩) 1 1, .string ⟨#[97]⟩] ((w.alloc (.cells #[.string ⟨#[98]⟩] 9)).alloc (.cells #[.string ⟨#[97]⟩, .slice (some ⟨w.heap.size, 0, none⟩) 1 1] 30))
    (Ans3 ((w.alloc (.cells #[.string ⟨#[98]⟩] 9)).alloc (.cells #[.string ⟨#[97]⟩, .slice (some ⟨w.heap.size, 0, none⟩) 1 1] 30)) [] 0 ⟨#[98]⟩ 3) := by
  have hM : Mods ((w.alloc (.cells #[.string ⟨#[98]⟩] 9)).alloc (.cells #[.string ⟨#[97]⟩, .slice (some ⟨w.heap.size, 0, none⟩) 1 1] 30)) (some ⟨w.heap.size + 1, 0, none⟩) 1 [(nA, [nB], .slice (some ⟨w.heap.size, 0, none⟩) 1 1)] := by
    refine Mods.lit' _ _ _ _ ?_ ?_ ?_ (fun x hx => ?_) _ _ ?_
    · simp
    · rfl
    · simp
    rotate_left
    · rfl
    simp only [List.mem_cons, List.mem_nil_iff, or_false] at hx
    subst hx
    exact Needs.lit w nA [nB] (by decide) _ _ rfl 1 rfl _ rfl
  refine ans3 hM ?_ nA _ _ _ _ _ rfl _ rfl ?_ rfl (by decide)
  · exact ⟨by simp, by simp, by simp, by simp⟩
  · simp only [nl, List.map_cons, List.map_nil]
    decide +kernel
theorem call4 (w : World) : Calls Try.prog 8 #[.slice (some ⟨w.heap.size, 0, none⟩) 2 2, .string ⟨#[120]⟩] (w.alloc (.cells #[.string ⟨#[97]⟩, .slice none 0 0, .string ⟨#[97]⟩, .slice none 0 0] 30))
    (Ans3 (w.alloc (.cells #[.string ⟨#[97]⟩, .slice none 0 0, .string ⟨#[97]⟩, .slice none 0 0] 30)) [] 0 ⟨#[97]⟩ 6) := by
  have hM : Mods (w.alloc (.cells #[.string ⟨#[97]⟩, .slice none 0 0, .string ⟨#[97]⟩, .slice none 0 0] 30)) (some ⟨w.heap.size, 0, none⟩) 2 [(nA, [], .slice none 0 0), (nA, [], .slice none 0 0)] := by
    refine Mods.lit' _ _ _ _ ?_ ?_ ?_ (fun x hx => ?_) _ _ ?_
    · rfl
    · rfl
    · simp
    rotate_left
    · rfl
    simp only [List.mem_cons, List.mem_nil_iff, or_false] at hx
    rcases hx with rfl | rfl <;> exact Needs.none_ _ _
  refine ans3 hM ?_ [120] _ _ _ _ _ rfl _ rfl ?_ rfl (by decide)
  · exact ⟨by simp, by simp, by simp, by simp⟩
  · simp only [nl, List.map_cons, List.map_nil]
    decide +kernel
def AliveR (w : World) (e : Ending) (w' : World) : Prop := e = .returned (.bool true) ∧ Below w.heap.size w w'
set_option maxRecDepth 100000 in
set_option maxHeartbeats 6400000 in
theorem alive_any (w : World) : Calls Try.prog 7 #[] w (AliveR w) := by
  go_enter Try.func7, Try.ntmps7
  go_wp2_with fail
  refine (call1 w).mono ?_
  rintro e w1 ⟨A1, c1, rfl, hn1, hb1⟩
  have hb := ((((Below.refl w.heap.size w).alloc (Nat.le_refl _) (.cells #[.string ⟨#[98]⟩, .string ⟨#[99]⟩] 9)).alloc (by simp) (.cells #[.string ⟨#[99]⟩] 9)).alloc (by simp; omega) (.cells #[.string ⟨#[97]⟩, .slice (some ⟨w.heap.size, 0, none⟩) 2 2, .string ⟨#[98]⟩, .slice (some ⟨w.heap.size + 1, 0, none⟩) 1 1, .string ⟨#[99]⟩, .slice none 0 0] 30)).trans (hb1.mono (by simp; omega))
  have HN1 := Lib.hid hn1
  have HB1 := Lib.hid hb
  clear hn1 hb1 hb
  go_wp2_with fail
  refine (call2 w1).mono ?_
  rintro e w2 ⟨A2, c2, rfl, _, hb2⟩
  have hs1 := HB1.out.size
  have hb := (((HB1.out.alloc hs1 (.cells #[.string ⟨#[98]⟩] 9)).alloc (by simp; omega) (.cells #[.string ⟨#[97]⟩] 9)).alloc (by simp; omega) (.cells #[.string ⟨#[97]⟩, .slice (some ⟨w1.heap.size, 0, none⟩) 1 1, .string ⟨#[98]⟩, .slice (some ⟨w1.heap.size + 1, 0, none⟩) 1 1] 30)).trans (hb2.mono (by simp; omega))
  have hn := HN1.out.below (((((Below.refl w1.heap.size w1).alloc (Nat.le_refl _) (.cells #[.string ⟨#[98]⟩] 9)).alloc (by simp) (.cells #[.string ⟨#[97]⟩] 9)).alloc (by simp; omega) (.cells #[.string ⟨#[97]⟩, .slice (some ⟨w1.heap.size, 0, none⟩) 1 1, .string ⟨#[98]⟩, .slice (some ⟨w1.heap.size + 1, 0, none⟩) 1 1] 30)).trans (hb2.mono (by simp; omega)))
  have HN2 := Lib.hid hn
  have HB2 := Lib.hid hb
  clear hn hb hb2 HN1 HB1 hs1
  go_wp2_with fail
  refine (call3 w2).mono ?_
  rintro e w3 ⟨A3, c3, rfl, _, hb3⟩
  have hs2 := HB2.out.size
  have hb := ((HB2.out.alloc hs2 (.cells #[.string ⟨#[98]⟩] 9)).alloc (by simp; omega) (.cells #[.string ⟨#[97]⟩, .slice (some ⟨w2.heap.size, 0, none⟩) 1 1] 30)).trans (hb3.mono (by simp; omega))
  have hn := HN2.out.below ((((Below.refl w2.heap.size w2).alloc (Nat.le_refl _) (.cells #[.string ⟨#[98]⟩] 9)).alloc (by simp) (.cells #[.string ⟨#[97]⟩, .slice (some ⟨w2.heap.size, 0, none⟩) 1 1] 30)).trans (hb3.mono (by simp; omega)))
  have HN3 := Lib.hid hn
  have HB3 := Lib.hid hb
  clear hn hb hb3 HN2 HB2 hs2
  go_wp2_with fail
  refine (call4 w3).mono ?_
  rintro e w4 ⟨A4, c4, rfl, _, hb4⟩
  have hs3 := HB3.out.size
  have hb := (HB3.out.alloc hs3 (.cells #[.string ⟨#[97]⟩, .slice none 0 0, .string ⟨#[97]⟩, .slice none 0 0] 30)).trans (hb4.mono (by simp; omega))
  have hn := HN3.out.below (((Below.refl w3.heap.size w3).alloc (Nat.le_refl _) (.cells #[.string ⟨#[97]⟩, .slice none 0 0, .string ⟨#[97]⟩, .slice none 0 0] 30)).trans (hb4.mono (by simp)))
  have hnl := NR.lit w4 [nC, nB, nA] (by simp) 9 #[.string ⟨#[99]⟩, .string ⟨#[98]⟩, .string ⟨#[97]⟩] rfl 3 rfl
  have HT := Lib.hid (texts_any (hn.below ((Below.refl w4.heap.size w4).alloc (Nat.le_refl _) (.cells #[.string ⟨#[99]⟩, .string ⟨#[98]⟩, .string ⟨#[97]⟩] 9))) hnl)
  have HB4 := Lib.hid (hb.alloc hb.size (.cells #[.string ⟨#[99]⟩, .string ⟨#[98]⟩, .string ⟨#[97]⟩] 9))
  clear hn hb hb4 hnl HN3 HB3 hs3
  have e1 : ((⟨#[]⟩ : ByteArray) == ⟨#[]⟩) = true := by decide
  have e2 : ((⟨#[97]⟩ : ByteArray) == ⟨#[97]⟩) = true := by decide
  have e3 : ((⟨#[98]⟩ : ByteArray) == ⟨#[98]⟩) = true := by decide
  go_wp2_with fail
  refine HT.out.mono ?_
  rintro e w5 ⟨rfl, n, rfl⟩
  rw [show decide True = true from rfl]
  go_wp2
  go_ret
  exact ⟨rfl, below_dn HB4.out n⟩
end Go.Proofs.Ythonoobbpfgjhaa.Od
