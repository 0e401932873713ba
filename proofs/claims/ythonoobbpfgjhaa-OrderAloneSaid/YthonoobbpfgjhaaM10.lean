/- Reach and Cycle of the program. -/
import Derived.Test.YthonoobbpfgjhaaM9
set_option linter.unusedSimpArgs false
set_option linter.unusedVariables false
namespace Go.Proofs.Ythonoobbpfgjhaa.Od
open Go.RowKit
theorem len_sub : ∀ {l m : List Nm}, l.Nodup → (∀ x ∈ l, x ∈ m) → l.length ≤ m.length
  | [], m, _, _ => Nat.zero_le _
  | a :: l, m, h, hs => by
    rw [List.nodup_cons] at h
    have ha := hs a (List.mem_cons_self ..)
    have := len_sub (l := l) (m := m.erase a) h.2 (fun x hx => (List.mem_erase_of_ne (fun (e : x = a) => h.1 (e ▸ hx))).2 (hs x (List.mem_cons_of_mem _ hx)))
    rw [List.length_erase_of_mem ha] at this
    have hp := List.length_pos_of_mem ha
    rw [List.length_cons]
    omega
structure IsRch (L : NL) (m : Nm) (s : List Nm) : Prop where
  nodup : s.Nodup
  mem : ∀ x, x ∈ s ↔ Rch L m x
structure IsCyc (L : NL) (s : List Nm) : Prop where
  nodup : s.Nodup
  mem : ∀ x, x ∈ s ↔ Rch L x x
theorem IsRch.same {L : NL} {m : Nm} {s s' : List Nm} (h : IsRch L m s) (h' : IsRch L m s') : sortN s = sortN s' := reach_same h.nodup h'.nodup h.mem h'.mem
theorem IsCyc.same {L : NL} {s s' : List Nm} (h : IsCyc L s) (h' : IsCyc L s') : sortN s = sortN s' := sort_eq ((List.perm_ext_iff_of_nodup h.nodup h'.nodup).2 fun x => (h.mem x).trans (h'.mem x).symm)
theorem rch_need {L : NL} {m n : Nm} (h : Rch L m n) : ∃ k, n ∈ needsOf L k := by
  induction h with
  | one h => exact ⟨_, h⟩
  | more _ _ ih => exact ih
theorem IsRch.len {q : List Md} {m : Nm} {s : List Nm} (h : IsRch (nl q) m s) (hs : Small q) : s.length ≤ 1800 := by
  have h1 : s.length ≤ ((nl q).flatMap (·.2)).length := by
    refine len_sub h.nodup fun x hx => ?_
    obtain ⟨k, hk⟩ := rch_need ((h.mem x).1 hx)
    have := needs_all hk
    unfold allN at this
    rwa [List.mem_eraseDups] at this
  have h2 : ∀ l : List Md, (∀ x ∈ l, x.2.1.length ≤ 30) → ((nl l).flatMap (·.2)).length ≤ 30 * l.length := by
    intro l
    induction l with
    | nil => intro _; simp [nl]
    | cons x l ih =>
      intro hx
      have i := ih (fun y hy => hx y (List.mem_cons_of_mem _ hy))
      have := hx x (List.mem_cons_self ..)
      simp only [nl, List.map_cons, List.flatMap_cons, List.length_append, List.length_cons] at i ⊢
      omega
  have := h2 q hs.needs
  have := hs.len
  omega
theorem rch_name {q : List Md} {x y : Nm} (h : Rch (nl q) x y) : x ∈ names q := by
  have := rch_told h
  rw [look_nl] at this
  exact (told_iff q x).2 (fun e => this (by rw [e]; rfl))
def ReachP (w : World) (q : List Md) (m : Nm) (e : Ending) (w' : World) : Prop := ∃ s, IsRch (nl q) m s ∧ RowR w (sortN s) e w'
def ReachN (w : World) (q : List Md) (m : Nm) (e : Ending) (w' : World) : Prop := ∃ s, IsRch (nl q) m s ∧ RowN w (sortN s) e w'
def CycP (w : World) (q : List Md) (e : Ending) (w' : World) : Prop := ∃ s, IsCyc (nl q) s ∧ RowR w (sortN s) e w'
set_option maxRecDepth 100000 in
set_option maxHeartbeats 1600000 in
theorem Reach_new {w : World} {A : Option Addr} {c : Nat} {q : List Md} (h : Mods w A c q) (hs : Small q) (m : Nm) :
    Calls Try.prog 9 #[.slice A q.length c, .string (S m)] w (ReachN w q m) := by
  have H := Lib.hid h
  have HS := Lib.hid hs
  have HC := Lib.hid (needs_any h)
  clear h hs
  go_enter Try.func9, Try.ntmps9
  go_wp2_with (go_at_call 16; refine HC.out.mono ?_; rintro e w1 ⟨b, tw, is, rfl, hb, hbs, hm, _⟩; have HB := Lib.hid hb; have HR := Lib.hid (reach_any (fun x hx => (H.out.each x hx).below hb) hm m); clear hb hm HC)
  go_wp2_with (go_at_call 19; refine HR.out.mono ?_; rintro e w2 ⟨bs, s, rfl, hb2, hbs2, hsm, hn, hx⟩; have HI := Lib.hid (show IsRch (nl q) m s from ⟨hn, hx⟩); have HB2 := Lib.hid (HB.out.trans (hb2.mono HB.out.size)); have HL := Lib.hid (sorted_new hsm (by have := HI.out.len HS.out; omega)); clear hb2 hsm hn hx HR)
  go_wp2_with (go_at_call 18; refine HL.out.mono ?_; rintro e w3 ⟨A', c', rfl, hn3, hb3, hw3⟩; have HW3 := Lib.hid hw3; have hz2 := HB2.out.size; have HN3 := Lib.hid hn3; have HB3 := Lib.hid (HB2.out.trans (hb3.mono HB2.out.size)); clear hn3 hb3 hw3 HL)
  go_ret
  exact ⟨s, HI.out, A', c', rfl, HN3.out, HB3.out, fun h => by obtain ⟨g, e, hg⟩ := HW3.out h; exact ⟨g, e, by omega⟩⟩
theorem Reach_any {w : World} {A : Option Addr} {c : Nat} {q : List Md} (h : Mods w A c q) (hs : Small q) (m : Nm) :
    Calls Try.prog 9 #[.slice A q.length c, .string (S m)] w (ReachP w q m) :=
  (Reach_new h hs m).mono fun e w' ⟨s, h0, A, c, h1, h2, h3, _⟩ => ⟨s, h0, A, c, h1, h2, h3⟩
/-- The map of those that need themselves, with what is still to be looked at. -/
structure CycR (q : List Md) (ks cs left : List Nm) : Prop where
  sub : ∀ x ∈ left, x ∈ ks
  mem : ∀ x, x ∈ cs ↔ x ∈ ks ∧ x ∉ left ∧ Rch (nl q) x x
theorem CycR.yes {q : List Md} {ks cs left : List Nm} {k : Nm} (h : CycR q ks cs left) (hk : k ∈ left) (hr : Rch (nl q) k k) : k ∉ cs ∧ CycR q ks (cs ++ [k]) (left.filter fun x => !decide (x = k)) := by
  have hkc : k ∉ cs := fun hc => ((h.mem k).1 hc).2.1 hk
  refine ⟨hkc, fun x hx => h.sub x (List.mem_filter.1 hx).1, fun x => ?_⟩
  rw [List.mem_append, List.mem_singleton, h.mem, List.mem_filter]
  by_cases e : x = k
  · subst e; simp [hr, h.sub x hk]
  · simp [e]
theorem CycR.no {q : List Md} {ks cs left : List Nm} {k : Nm} (h : CycR q ks cs left) (hr : ¬ Rch (nl q) k k) : CycR q ks cs (left.filter fun x => !decide (x = k)) := by
  refine ⟨fun x hx => h.sub x (List.mem_filter.1 hx).1, fun x => ?_⟩
  rw [h.mem, List.mem_filter]
  by_cases e : x = k
  · subst e; simp [hr]
  · simp [e]
set_option maxRecDepth 100000 in
set_option maxHeartbeats 6400000 in
theorem Cycle_any {w : World} {A : Option Addr} {c : Nat} {q : List Md} (h : Mods w A c q) (hs : Small q) :
    Calls Try.prog 14 #[.slice A q.length c] w (CycP w q) := by
  have hmm := @run_makeMap Try.prog
  have H := Lib.hid h
  have HS := Lib.hid hs
  have HC := Lib.hid (needs_any h)
  clear h hs
  go_enter Try.func14, Try.ntmps14
  go_wp2_with (first
    | (go_at_call 16; refine HC.out.mono ?_; rintro e w1 ⟨b, tw, is, rfl, hb, hbs, hm, _⟩; have HB := Lib.hid hb; have HM := Lib.hid hm; (obtain ⟨ks, hks, hkm⟩ := hm.is); have HK := Lib.hid (hks.alloc (.map #[] 0)); have HKN := Lib.hid hks.nodup; have HKM := Lib.hid hkm; have HS1 := Lib.hid (show SM (w1.alloc (.map #[] 0)) w1.heap.size [] from IsM.made w1 _); have hbl := hks.lt; have HB1 := Lib.hid (hb.alloc hb.size (.map #[] 0)); clear hb hm HC hks hkm)
    | (at_range; refine wpList_range _ rfl _ _ rfl _ _ Try.underlying40 b ks (needV q) rfl HK.out (w1.heap.size + 1) (by rw [World.size_alloc]) ?_; intro w2 hi2 hg2 hs2; have HI := Lib.hid hi2; have HG := Lib.hid hg2; have HZ := Lib.hid hs2; clear hi2 hg2 hs2))
  go_frame
  have HS2 := Lib.hid (show SM w2 w1.heap.size [] from HS1.out.grown HG.out (by simp))
  have HB2 := Lib.hid (HB1.out.grown HG.out HB1.out.size (fun k hk => by cases hk))
  clear HS1 HB1 HG HZ HK
  have hb1z := HB.out.size
  go_loopg [] ks.length (fun g wr => ∃ (cs left : List Nm), left.length ≤ g ∧ Hid (IterM wr (w1.heap.size + 1) b ks (needV q) left) ∧ Hid (SM wr w1.heap.size cs) ∧ Hid (CycR q ks cs left) ∧ Hid (Below w.heap.size w wr))
  case atStart => exact ⟨[], ks, Nat.le_refl _, HI, HS2, Lib.hid ⟨fun x h => h, fun x => ⟨(fun h => by cases h), fun h => absurd h.1 h.2.1⟩⟩, HB2⟩
  case round =>
    clear HI HS2 HB2
    obtain ⟨cs, left, hg, hi, hsm, hcy, hb⟩ := hrel
    go_wp2_with (at_next; refine wpList_next _ rfl _ rfl (w1.heap.size + 1) b ks left (needV q) rfl hi.out ?_ ?_)
    · intro h0
      subst h0
      have HY := Lib.hid (show IsCyc (nl q) cs from ⟨hsm.out.nodup, fun x => by
        rw [hcy.out.mem]
        constructor
        · exact fun h => h.2.2
        · intro h
          exact ⟨(HKM.out x).2 ((told_iff q x).1 (rch_name h)), by simp, h⟩⟩)
      have hlen : cs.length ≤ 60 := by
        have h1 := len_sub (l := cs) (m := names q) hsm.out.nodup (fun x hx => rch_name ((HY.out.mem x).1 hx))
        have h2 := HS.out.len
        simp only [names, List.length_map] at h1
        omega
      have HL := Lib.hid (sorted_any hsm.out (by omega))
      clear hlen
      go_wp2_with (go_at_call 18; refine HL.out.mono ?_; rintro e w3 ⟨A', c', rfl, hn3, hb3⟩; have HN3 := Lib.hid hn3; have HB3 := Lib.hid (hb.out.trans (hb3.mono hb.out.size)); clear hn3 hb3 HL)
      go_ret
      exact ⟨cs, HY.out, A', c', rfl, HN3.out, HB3.out⟩
    · intro k w3 hk hks hi3 hg3 hs3 hen
      have hbz := hb.out.size
      have HI3 := Lib.hid hi3
      have HSM3 := Lib.hid (show SM w3 w1.heap.size cs from hsm.out.grown hg3 (by simp))
      have HB3 := Lib.hid (hb.out.grown hg3 hbz (fun k hk => by injection hk with hk; omega))
      have HR := Lib.hid (reach_any (w := w3) (q := q) (fun x hx => (H.out.each x hx).below HB3.out) (ba := b) ⟨ks, hi3.isM, HKM.out⟩ k)
      have HF := Lib.hid (filter_ne_lt hk)
      have HCY := hcy
      have HKL := Lib.hid hk
      have hbz3 := HB3.out.size
      clear hi3 hg3 hi hsm hcy hb hk hks
      go_wp2_with fail
      refine HR.out.mono ?_
      rintro e w4 ⟨bs, s, rfl, hb4, hbs4, hsm4, hn4, hx4⟩
      have hlk := hsm4.look k
      have HI4 := Lib.hid (HI3.out.kept (hb4.block b HI3.out.isM.lt) (hb4.block _ HI3.out.lt))
      have HSM4 := Lib.hid (show SM w4 w1.heap.size cs from HSM3.out.kept (hb4.block _ HSM3.out.lt))
      have HB4 := Lib.hid (HB3.out.trans (hb4.mono hbz3))
      have hbz4 := HB4.out.size
      by_cases hin : k ∈ s
      · rw [seenV_in hin] at hlk
        obtain ⟨hkc, hcr⟩ := HCY.out.yes HKL.out ((hx4 k).1 hin)
        have HCR := Lib.hid hcr
        have hlk2 := HSM4.out.look k
        rw [seenV_out hkc] at hlk2
        have HKC := Lib.hid hkc
        clear hb4 hsm4 hn4 hx4 hin hcr hkc HR
        go_wp2_with (at_mapUpdate; refine wpList_put _ rfl _ _ _ _ rfl _ _ Try.underlying39 Try.underlying9 w1.heap.size cs (seenV cs) rfl HSM4.out k (.int .i64 1) rfl rfl ?_; intro w5 hp hg5; have HSM5 := Lib.hid (SM.put HKC.out hp); have HG5 := Lib.hid hg5; clear hp hg5)
        have HI5 := Lib.hid (HI4.out.grown HG5.out (fun e => by injection e with e; omega) (fun e => by injection e with e; omega))
        have HB5 := Lib.hid (HB4.out.grown HG5.out hbz4 (fun k hk => by injection hk with hk; omega))
        go_roundg (left.length - 1)
        case rel => exact ⟨cs ++ [k], _, by have := HF.out; omega, HI5, HSM5, HCR, HB5⟩
        case measure => have := HF.out; omega
      · rw [seenV_out hin] at hlk
        have HCR := Lib.hid (HCY.out.no (k := k) (fun h => hin ((hx4 k).2 h)))
        clear hb4 hsm4 hn4 hx4 hin HR
        go_wp2
        go_roundg (left.length - 1)
        case rel => exact ⟨cs, _, by have := HF.out; omega, HI4, HSM4, HCR, HB4⟩
        case measure => have := HF.out; omega
end Go.Proofs.Ythonoobbpfgjhaa.Od
