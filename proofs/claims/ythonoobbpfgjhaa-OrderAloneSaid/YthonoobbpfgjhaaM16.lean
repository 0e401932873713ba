/- The reference's Reach and Cycle. -/
import Derived.Test.YthonoobbpfgjhaaM15
set_option linter.unusedSimpArgs false
set_option linter.unusedVariables false
namespace Go.Proofs.Ythonoobbpfgjhaa.Od
open Go.RowKit
set_option maxRecDepth 100000 in
set_option maxHeartbeats 1600000 in
theorem RReach_any {w : World} {A : Option Addr} {c : Nat} {q : List Md} (h : Mods w A c q) (hs : Small q) (m : Nm) :
    Calls Try.prog 13 #[.slice A q.length c, .string (S m)] w (ReachP w q m) := by
  have HC := Lib.hid (rreach_any h hs m)
  have HS := Lib.hid hs
  clear h hs
  go_enter Try.func13, Try.ntmps13
  go_wp2_with (first
    | (go_at_call 22; refine HC.out.mono ?_; rintro e w1 ⟨s, hr, A1, c1, rfl, hn, hb⟩; have HR := Lib.hid hr; have HB := Lib.hid hb; have HL := Lib.hid (rsorted_any hn (by have := hr.len HS.out; omega)); clear hr hn hb HC)
    | (go_at_call 21; refine HL.out.mono ?_; rintro e w2 ⟨A2, c2, rfl, hn2, hb2⟩; have HN2 := Lib.hid hn2; have HB2 := Lib.hid (HB.out.trans (hb2.mono HB.out.size)); clear hn2 hb2 HL))
  go_ret
  exact ⟨s, HR.out, A2, c2, rfl, HN2.out, HB2.out⟩
/-- Those that need themselves, among the first k. -/
structure CycK (q : List Md) (k : Nat) (cs : List Nm) : Prop where
  nodup : cs.Nodup
  mem : ∀ x, x ∈ cs ↔ x ∈ names (q.take k) ∧ Rch (nl q) x x
theorem names_succ {q : List Md} {k : Nat} (h : k < q.length) : names (q.take (k + 1)) = names (q.take k) ++ [q[k].1] := by
  rw [take_snoc' q k h]; unfold names; rw [List.map_append]; rfl
theorem CycK.yes {q : List Md} {k : Nat} {cs : List Nm} (h : CycK q k cs) (hk : k < q.length) (hn : q[k].1 ∉ names (q.take k)) (hr : Rch (nl q) q[k].1 q[k].1) : CycK q (k + 1) (cs ++ [q[k].1]) := by
  refine ⟨?_, fun x => ?_⟩
  · rw [List.nodup_append]
    refine ⟨h.nodup, by simp, fun a ha b hb => ?_⟩
    rw [List.mem_singleton] at hb
    subst hb
    exact fun e => hn (e ▸ ((h.mem a).1 ha).1)
  · rw [names_succ hk, List.mem_append, List.mem_append, h.mem, List.mem_singleton]
    by_cases e : x = q[k].1
    · subst e; simp [hr]
    · simp [e]
theorem CycK.no {q : List Md} {k : Nat} {cs : List Nm} (h : CycK q k cs) (hk : k < q.length) (hn : q[k].1 ∈ names (q.take k) ∨ ¬ Rch (nl q) q[k].1 q[k].1) : CycK q (k + 1) cs := by
  refine ⟨h.nodup, fun x => ?_⟩
  rw [names_succ hk, h.mem, List.mem_append, List.mem_singleton]
  by_cases e : x = q[k].1
  · subst e
    rcases hn with hn | hn
    · simp [hn]
    · simp [hn]
  · simp [e]
theorem pos_first {q : List Md} {k : Nat} (h : k < q.length) : (posOf (names q) q[k].1 = (k : Int)) ↔ q[k].1 ∉ names (q.take k) := by
  have hlt : k < (names q).length := by simp [names]; exact h
  have hnk : (names q)[k] = q[k].1 := names_at h
  constructor
  · intro e hm
    rw [names_take] at hm
    have hm2 : q[k].1 ∈ names q := hnk ▸ List.getElem_mem hlt
    unfold posOf at e
    rw [if_pos hm2] at e
    have e2 : names q = (names q).take k ++ (names q).drop k := (List.take_append_drop k _).symm
    rw [e2, List.idxOf_append, if_pos hm] at e
    have := List.idxOf_lt_length_of_mem hm
    rw [List.length_take] at this
    omega
  · intro hn
    rw [names_take] at hn
    exact posOf_at hlt hn hnk
set_option maxRecDepth 100000 in
set_option maxHeartbeats 6400000 in
theorem RCycle_any {w : World} {A : Option Addr} {c : Nat} {q : List Md} (h : Mods w A c q) (hs : Small q) :
    Calls Try.prog 15 #[.slice A q.length c] w (CycP w q) := by
  have hcc := h.cap
  have hcb := h.big
  have H := Lib.hid h
  have HS := Lib.hid hs
  have HO := Lib.hid (OwnN.nil w.heap.size w)
  clear h hs
  go_enter Try.func15, Try.ntmps15
  generalize (Value.slice none 0 0) = mv at *
  go_wp2
  go_loopw [3, 4] (fun sv iv wr => ∃ (lv : Value) (k : Nat) (cs : List Nm), lv = sv ∧ k ≤ q.length ∧ iv = .int .i64 k ∧ Hid (OwnN w.heap.size wr lv cs) ∧ Hid (CycK q k cs) ∧ Hid (Below w.heap.size w wr)) (fun _ iv _ => q.length - (intOf iv).toNat)
  case atStart => exact ⟨_, 0, [], rfl, Nat.zero_le _, rfl, HO, Lib.hid ⟨.nil, fun x => by simp [names]⟩, Lib.hid (Below.refl _ _)⟩
  case round =>
    clear HO
    obtain ⟨lv, k, cs, rfl, hk, rfl, HO, HCK, HB⟩ := hrel
    have hcl : cs.length ≤ 60 := by
      have h1 := len_sub (l := cs) (m := names q) HCK.out.nodup (fun x hx => rch_name ((HCK.out.mem x).1 hx).2)
      have h2 := HS.out.len
      simp only [names, List.length_map] at h1
      omega
    by_cases hlt : k < q.length
    · obtain ⟨g, off, rfl, hgl, hcell, _⟩ := (H.out.below HB.out).at_ hlt
      have HA := Lib.hid (At_any (H.out.below HB.out) q[k].1)
      have HR := Lib.hid (rreach_any (H.out.below HB.out) HS.out q[k].1)
      have hbz := HB.out.size
      by_cases hf : q[k].1 ∈ names (q.take k)
      · have hne : posOf (names q) q[k].1 ≠ (k : Int) := fun e => (pos_first hlt).1 e hf
        have t1 : (posOf (names q) q[k].1 == (k : Int)) = false := by simpa using hne
        have HCK2 := Lib.hid (HCK.out.no hlt (.inl hf))
        clear hf hne HCK
        go_wp2_with (go_at_call 20; refine HA.out.mono ?_; rintro e w2 ⟨rfl, rfl⟩)
        go_roundw
        case rel => exact ⟨lv, k + 1, cs, rfl, by omega, by go_num, HO, HCK2, HB⟩
        case measure => simp [intOf]; omega
      · have he : posOf (names q) q[k].1 = (k : Int) := (pos_first hlt).2 hf
        have t1 : (posOf (names q) q[k].1 == (k : Int)) = true := by simpa using he
        have HF := Lib.hid hf
        clear hf he
        by_cases hr : Rch (nl q) q[k].1 q[k].1
        · have HCK2 := Lib.hid (HCK.out.yes hlt HF.out hr)
          have HRR := Lib.hid hr
          clear hr HCK
          go_wp2_with (first
            | (go_at_call 20; refine HA.out.mono ?_; rintro e w2 ⟨rfl, rfl⟩)
            | (go_at_call 22; refine HR.out.mono ?_; rintro e w2 ⟨s, hs2, A2, c2, rfl, hn2, hb2⟩; have HI := Lib.hid (in_any hn2 q[k].1); (have hdi : decide (q[k].1 ∈ s) = true := by simpa using (hs2.mem _).2 HRR.out); rw [hdi] at HI; have HO2 := Lib.hid (HO.out.below hb2); have HB2 := Lib.hid (HB.out.trans (hb2.mono hbz)); clear hs2 hn2 hb2 hdi HR)
            | (go_at_call 23; refine HI.out.mono ?_; rintro e w3 ⟨rfl, rfl⟩)
            | (at_builtin; refine wpList_push _ rfl _ _ rfl w.heap.size lv cs rfl HO2.out (by omega) HB2.out.size q[k].1 _ rfl rfl ?_; rintro lv' w4 _ ho4 hg4 _; have HO4 := Lib.hid ho4; have HB4 := Lib.hid (HB2.out.grown hg4 HB2.out.size (fun j hj => (World.ownsRow.lt HO2.out j hj).1)); clear ho4 hg4))
          go_roundw
          case rel => exact ⟨lv', k + 1, _, rfl, by omega, by go_num, HO4, HCK2, HB4⟩
          case measure => simp [intOf]; omega
        · have HCK2 := Lib.hid (HCK.out.no hlt (.inr hr))
          have HRR := Lib.hid hr
          clear hr HCK
          go_wp2_with (first
            | (go_at_call 20; refine HA.out.mono ?_; rintro e w2 ⟨rfl, rfl⟩)
            | (go_at_call 22; refine HR.out.mono ?_; rintro e w2 ⟨s, hs2, A2, c2, rfl, hn2, hb2⟩; have HI := Lib.hid (in_any hn2 q[k].1); (have hdi : decide (q[k].1 ∈ s) = false := by simpa using fun h => HRR.out ((hs2.mem _).1 h)); rw [hdi] at HI; have HO2 := Lib.hid (HO.out.below hb2); have HB2 := Lib.hid (HB.out.trans (hb2.mono hbz)); clear hs2 hn2 hb2 hdi HR)
            | (go_at_call 23; refine HI.out.mono ?_; rintro e w3 ⟨rfl, rfl⟩))
          go_roundw
          case rel => exact ⟨lv, k + 1, cs, rfl, by omega, by go_num, HO2, HCK2, HB2⟩
          case measure => simp [intOf]; omega
    · have HY := Lib.hid (show IsCyc (nl q) cs from ⟨HCK.out.nodup, fun x => by
        rw [HCK.out.mem, List.take_of_length_le (by omega)]
        exact ⟨fun h => h.2, fun h => ⟨rch_name h, h⟩⟩⟩)
      obtain ⟨A2, c2, rfl, hn2, _⟩ := HO.out.form (by omega)
      have HL := Lib.hid (rsorted_any hn2 (by omega))
      clear hn2 HCK
      go_wp2_with (go_at_call 21; refine HL.out.mono ?_; rintro e w2 ⟨A3, c3, rfl, hn3, hb3⟩; have HN3 := Lib.hid hn3; have HB3 := Lib.hid (HB.out.trans (hb3.mono HB.out.size)); clear hn3 hb3 HL)
      go_ret
      exact ⟨cs, HY.out, A3, c3, rfl, HN3.out, HB3.out⟩
end Go.Proofs.Ythonoobbpfgjhaa.Od
