/- The keys of a map, sorted; Reach. -/
import Derived.Test.YthonoobbpfgjhaaM8
import Derived.Deep.LoopGhost
set_option linter.unusedSimpArgs false
set_option linter.unusedVariables false
namespace Go.Proofs.Ythonoobbpfgjhaa.Od
open Go.RowKit
theorem OwnN.more {base base' : Nat} {w : World} {lv : Value} {l : List Nm} (h : OwnN base w lv l) (hb : base' ≤ base) : OwnN base' w lv l := by
  refine ⟨h.1, h.2.imp id ?_⟩
  rintro ⟨g, cap, cur, h1, h2, h3⟩
  exact ⟨g, cap, cur, h1, by omega, h3⟩
theorem filter_ne_lt {l : List Nm} {k : Nm} (h : k ∈ l) : (l.filter fun x => !decide (x = k)).length < l.length := by
  have := filter_less (l := l) (p := fun x => !decide (x = k)) (q := fun _ => true) (fun _ _ => rfl) h (by simp) rfl
  rwa [List.filter_eq_self.2 (fun _ _ => rfl)] at this
/-- What has come and what is to come. -/
structure AccR (s acc left : List Nm) : Prop where
  nodup : acc.Nodup
  mem : ∀ x, x ∈ s ↔ x ∈ acc ∨ x ∈ left
  out : ∀ x ∈ acc, x ∉ left
  len : acc.length + left.length ≤ s.length
theorem AccR.start (s : List Nm) : AccR s [] s := ⟨.nil, fun x => by simp, (fun x h => by cases h), by simp⟩
theorem AccR.step {s acc left : List Nm} {k : Nm} (h : AccR s acc left) (hk : k ∈ left) : AccR s (acc ++ [k]) (left.filter fun x => !decide (x = k)) := by
  refine ⟨?_, fun x => ?_, fun x hx => ?_, ?_⟩
  · rw [List.nodup_append]
    refine ⟨h.nodup, by simp, fun a ha b hb => ?_⟩
    rw [List.mem_singleton] at hb
    subst hb
    exact fun e => h.out a ha (e ▸ hk)
  · rw [h.mem, List.mem_append, List.mem_singleton, List.mem_filter]
    by_cases e : x = k
    · subst e; simp [hk]
    · simp [e]
  · rw [List.mem_filter]
    rcases List.mem_append.1 hx with hx | hx
    · exact fun h' => h.out x hx h'.1
    · rw [List.mem_singleton] at hx; subst hx; simp
  · have := h.len
    have := filter_ne_lt hk
    rw [List.length_append, List.length_singleton]
    omega
theorem AccR.done {s acc : List Nm} (h : AccR s acc []) (hs : s.Nodup) : sortN acc = sortN s :=
  sort_eq ((List.perm_ext_iff_of_nodup h.nodup hs).2 fun x => by rw [h.mem]; simp)
/-- A row is answered. -/
def RowR (w : World) (l : List Nm) (e : Ending) (w' : World) : Prop := ∃ A c, e = .returned (.slice A l.length c) ∧ NR w' A c l ∧ Below w.heap.size w w'
/-- .. in memory of its own. -/
def NewR (B : Nat) (A : Option Addr) (l : List Nm) : Prop := 0 < l.length → ∃ g, A = some ⟨g, 0, none⟩ ∧ B ≤ g
def RowN (w : World) (l : List Nm) (e : Ending) (w' : World) : Prop := ∃ A c, e = .returned (.slice A l.length c) ∧ NR w' A c l ∧ Below w.heap.size w w' ∧ NewR w.heap.size A l
set_option maxRecDepth 100000 in
set_option maxHeartbeats 3200000 in
theorem sorted_new {w : World} {b : Nat} {s : List Nm} (h : SM w b s) (hs : s.length ≤ 2000) :
    Calls Try.prog 18 #[.map (some b)] w (RowN w (sortN s)) := by
  have hlt := h.lt
  have hN := h.nodup
  have H := Lib.hid h
  have HN := Lib.hid hN
  have HO := Lib.hid (OwnN.nil (w.heap.size + 1))
  clear h hN
  go_enter Try.func18, Try.ntmps18
  generalize hmv : (Value.slice none 0 0) = mv at *
  have HMV := Lib.hid hmv
  clear hmv
  go_wp2_with (at_range; refine wpList_range _ rfl _ _ rfl _ _ Try.underlying39 b s (seenV s) rfl H.out w.heap.size rfl ?_; intro w1 hi1 hg1 hs1; have HI := Lib.hid hi1; have HG := Lib.hid hg1; clear hi1 hg1)
  go_frame
  have HB := Lib.hid ((Below.refl w.heap.size w).grown HG.out (Nat.le_refl _) (fun k h => by cases h))
  have HO := Lib.hid (HO.out w1)
  clear HG
  go_loopg [2] s.length (fun g sv wr => ∃ (lv : Value) (acc left : List Nm), lv = sv ∧ left.length ≤ g ∧ Hid (IterM wr w.heap.size b s (seenV s) left) ∧ Hid (OwnN (w.heap.size + 1) wr lv acc) ∧ Hid (AccR s acc left) ∧ Hid (Below w.heap.size w wr))
  case atStart => exact ⟨_, [], s, rfl, Nat.le_refl _, HI, HO, Lib.hid (AccR.start s), HB⟩
  case round =>
    obtain ⟨lv, acc, left, rfl, hg, hi, ho, ha, hb⟩ := hrel
    go_wp2_with (at_next; refine wpList_next _ rfl _ rfl w.heap.size b s left (seenV s) rfl hi.out ?_ ?_)
    · intro h0
      subst h0
      have hac := ha.out.len
      obtain ⟨A, c, rfl, hA, hnew⟩ := (ho.out.more (Nat.le_succ _)).form (by omega)
      have HNW := Lib.hid hnew
      have HL := Lib.hid (sort_any (ho.out.more (Nat.le_succ _)) (by omega) w hb.out)
      have HD := Lib.hid (ha.out.done HN.out)
      have HSL := Lib.hid (sortN_len acc)
      clear hac hA hnew
      go_wp2_with (go_at_call 24; refine HL.out.mono ?_; rintro e w2 ⟨rfl, hn, hb2⟩; have HN2 := Lib.hid hn; have HB2 := Lib.hid hb2; clear hn hb2)
      go_ret
      rw [← HD.out]
      have e : acc.length = (sortN acc).length := HSL.out.symm
      exact ⟨A, c, by rw [← e]; rfl, HN2.out, HB2.out, fun h => HNW.out (by omega)⟩
    · intro k w2 hk hks hi2 hg2 hs2 hen
      have hbz := hb.out.size
      have hr := hi.out.lt
      have HI2 := Lib.hid hi2
      have hown : ∀ k, lv.ownBlock = some k → w.heap.size + 1 ≤ k ∧ k < wr.heap.size := fun k h => World.ownsRow.lt ho.out k h
      have HOW := Lib.hid hown
      have HO2 := Lib.hid (ho.out.kept hg2 (.inr (fun e => by have := (hown _ e).1; omega)))
      have HB2 := Lib.hid (hb.out.grown hg2 hbz (fun k hk => by injection hk with hk; omega))
      have HA2 := Lib.hid (ha.out.step hk)
      have hac := ha.out.len
      have HF := Lib.hid (filter_ne_lt hk)
      clear hi2 hg2 hi ho ha hb hk hown
      go_wp2_with (at_builtin; refine wpList_push _ rfl _ _ rfl (w.heap.size + 1) lv acc rfl HO2.out (by omega) (by omega) k _ rfl (by omega) ?_; intro lv' w3 hf ho3 hg3 hd3; have HO3 := Lib.hid ho3; have HG3 := Lib.hid hg3; clear hf ho3 hg3 hd3)
      have HI3 := Lib.hid (HI2.out.grown HG3.out (fun e => by have := (HOW.out _ e.symm).1; omega) (fun e => by have := (HOW.out _ e.symm).1; omega))
      have HB3 := Lib.hid (HB2.out.grown HG3.out (by omega) (fun k hk => by have := (HOW.out _ hk).1; omega))
      go_roundg (left.length - 1)
      case rel => exact ⟨lv', acc ++ [k], _, rfl, by have := HF.out; omega, HI3, HO3, HA2, HB3⟩
      case measure => have := HF.out; omega
theorem sorted_any {w : World} {b : Nat} {s : List Nm} (h : SM w b s) (hs : s.length ≤ 2000) :
    Calls Try.prog 18 #[.map (some b)] w (RowR w (sortN s)) :=
  (sorted_new h hs).mono fun e w' ⟨A, c, h1, h2, h3, _⟩ => ⟨A, c, h1, h2, h3⟩
end Go.Proofs.Ythonoobbpfgjhaa.Od
