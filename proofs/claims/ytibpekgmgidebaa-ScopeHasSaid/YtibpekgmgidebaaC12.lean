/- New. -/
import Derived.Test.YtibpekgmgidebaaC11
set_option linter.unusedSimpArgs false
set_option linter.unusedVariables false
namespace Go.Proofs.Ytibpekgmgidebaa.Sc
open Go.RowKit
open Od

def nA : Nm := [97]
def nT : Nm := [84, 82, 85, 69]
/-- What is asked of the outermost scope. -/
def Base (l : Lvl) (t : Bool) : Prop := l.cl = false ∧ nA ∉ l.ks ∧ (t = true → nT ∈ l.ks ∧ (l.f nT).1.v = .iface 41 (.bool true))
theorem Base.nil (b : Nat) (f : Nm → Ent × Value) : Base ⟨false, b, [], f⟩ false := ⟨rfl, by simp, by simp⟩
theorem set_base {w : World} {B vb : Nat} {l : Lvl} {t t' : Bool} (H : EnvAt w B vb [l]) (hb : Base l t) (n : Nm) (nm : ByteArray) (hn : nm = S n) (kk : Nat) (k : Int) (hk : k = kk) (ty at_ : Int) (v : Value) (ho : v.oneCell' = true) (h1 : n ≠ nA)
    (h2 : t' = true → (n = nT ∧ v = .iface 41 (.bool true)) ∨ (t = true ∧ n ≠ nT)) :
    Calls Try.prog 17 #[.pointer (some ⟨vb, 0, none⟩), .agg #[.string nm, .int .u8 k, .int .i64 ty, v, .int .i64 0, .int .i64 at_, .string ⟨#[]⟩]] w fun r w' => r = .returned (.tuple #[]) ∧ w.grownBy w' (some l.b) ∧ ∃ l', EnvAt w' B vb [l'] ∧ Base l' t' ∧ l'.b = l.b := by
  subst hn hk
  refine (set_any (ls := []) H ⟨n, kk, ty, v, 0, at_, ⟨#[]⟩⟩).mono ?_
  rintro r w' ⟨rfl, hg, hm⟩
  refine ⟨rfl, hg, _, H.set (ls := []) hg hm (fun k hk => ?_), ⟨hb.1, ?_, fun ht => ?_⟩, rfl⟩
  · unfold updI
    split
    · exact ⟨ho, rfl⟩
    · rename_i hne
      refine H.one l (by simp) k ?_
      dsimp only at hk
      split at hk
      · exact hk
      · rw [List.mem_append, List.mem_singleton] at hk
        exact hk.resolve_right hne
  · dsimp only
    split
    · exact hb.2.1
    · rw [List.mem_append, List.mem_singleton]
      rintro (h | h)
      · exact hb.2.1 h
      · exact h1 h.symm
  · rcases h2 ht with ⟨rfl, rfl⟩ | ⟨h3, h4⟩
    · refine ⟨?_, ?_⟩
      · dsimp only
        split
        · assumption
        · simp
      · simp [updI]
    · obtain ⟨h5, h6⟩ := hb.2.2 h3
      refine ⟨?_, ?_⟩
      · dsimp only
        split
        · exact h5
        · simp [h5]
      · simp only [updI, if_neg (Ne.symm h4)]
        exact h6
theorem filter_ne_lt {l : List Nm} {k : Nm} (h : k ∈ l) : (l.filter (fun x => !decide (x = k))).length < l.length :=
  List.length_filter_lt_length_iff_exists.2 ⟨k, h, by simp⟩
/-- The map of the five names. -/
def GoodM (w : World) (b : Nat) : Prop := ∃ ks f, IsM w b ks f ∧ ∀ k ∈ ks, k ≠ nA ∧ ∃ i, f k = .int .i64 i
theorem GoodM.put {w : World} {b : Nat} (h : GoodM w b) (n : Nm) (nm : ByteArray) (hn : nm = S n) (h1 : n ≠ nA) (i : Int) :
    ∃ w', (Instr.mapUpdate 27 (.map (some b)) (.string nm) (.int .i64 i)).run Try.prog w = .ok () w' ∧ GoodM w' b ∧ w.grownBy w' (some b) := by
  subst hn
  obtain ⟨ks, f, hm, hg⟩ := h
  obtain ⟨w', hrun, hm', hg'⟩ := hm.put Try.underlying27 Try.underlying9 n (.int .i64 i)
  refine ⟨w', hrun, ⟨_, _, hm', fun k hk => ?_⟩, hg'⟩
  unfold updV
  split
  · rename_i e
    exact ⟨e ▸ h1, _, rfl⟩
  · rename_i hne
    refine hg k ?_
    split at hk
    · exact hk
    · rw [List.mem_append, List.mem_singleton] at hk
      exact hk.resolve_right hne
/-- A row of names lies at b. -/
def RowNm (w : World) (b n : Nat) : Prop := ∃ cs, w.heap[b]? = some (.cells cs 9 (0, 0)) ∧ ∀ i, i < n → ∃ m, cs[i]? = some (.string (S m)) ∧ m ≠ nA ∧ m ≠ nT
theorem RowNm.kept {w w' : World} {b n : Nat} (h : RowNm w b n) (hk : w'.heap[b]? = w.heap[b]?) : RowNm w' b n := by
  obtain ⟨cs, h1, h2⟩ := h
  exact ⟨cs, hk.trans h1, h2⟩
theorem RowNm.lt {w : World} {b n : Nat} (h : RowNm w b n) : b < w.heap.size := by
  obtain ⟨cs, h1, h2⟩ := h
  exact (Array.getElem?_eq_some_iff.1 h1).1
theorem RowNm.made (w : World) (l : List Nm) (h : ∀ m ∈ l, m ≠ nA ∧ m ≠ nT) : RowNm (w.alloc (.cells (l.map fun n => Value.string (S n)).toArray 9)) w.heap.size l.length := by
  refine ⟨_, heap_alloc_new _ _, fun i hi => ⟨l[i], by simp [hi], h _ (List.getElem_mem hi)⟩⟩
def NL : List Nm := [[65, 66, 83], [67, 65, 80], [67, 72, 82], [68, 69, 67], [68, 73, 83, 80, 79, 83, 69], [69, 88, 67, 76], [72, 65, 76, 84], [72, 73, 71, 72], [73, 78, 67], [73, 78, 67, 76], [77, 65, 88], [77, 73, 78], [78, 69, 87], [79, 68, 68], [79, 82, 68], [83, 73, 90, 69], [86, 65, 76]]
/-- What the env lies in is not written. -/
theorem EnvAt.but {w w' : World} {B vb b : Nat} {ls : List Lvl} (h : EnvAt w B vb ls) (hg : w.grownBy w' (some b)) (hc : ∀ cs t r, w.heap[b]? ≠ some (.cells cs t r)) (hb : ∀ l ∈ ls, l.b ≠ b) : EnvAt w' B vb ls := by
  obtain ⟨lo, ⟨g, cap, h1, h2, h3⟩, ne, maps, one, nd⟩ := h
  obtain ⟨cur, b1, b2, _⟩ := own_blk h2
  have k1 : vb ≠ b := fun e => hc _ _ _ (e ▸ h1)
  have k2 : g ≠ b := fun e => hc _ _ _ (e ▸ b2)
  refine ⟨lo, ⟨g, cap, (hg.block vb (Array.getElem?_eq_some_iff.1 h1).1 (fun e => k1 (by injection e))).trans h1, own_kept h2 (hg.block g (Array.getElem?_eq_some_iff.1 b2).1 (fun e => k2 (by injection e))), h3⟩, ne, fun l hl => ?_, one, nd⟩
  obtain ⟨m1, m2⟩ := maps l hl
  exact ⟨m1, m2.kept (hg.block _ m2.lt (fun e => hb l hl (by injection e)))⟩
theorem GoodM.cells {w : World} {b : Nat} (h : GoodM w b) : ∀ cs t r, w.heap[b]? ≠ some (.cells cs t r) := by
  obtain ⟨ks, f, ⟨es, clock, h1, _⟩, _⟩ := h
  intro cs t r e
  rw [h1] at e
  cases e
theorem iter_cells {w : World} {r b : Nat} {ks left : List Nm} {f : Nm → Value} (h : IterM w r b ks f left) : ∀ cs t q, w.heap[r]? ≠ some (.cells cs t q) := by
  obtain ⟨es, clock, since, seen, c0, _, _, _, _, _, h6, _⟩ := h
  intro cs t q e
  rw [h6] at e
  cases e
def W3 (w : World) : World := (((w.alloc (.map #[] 0)).alloc (.cells #[.bool false, .map (some w.heap.size)] 45)).alloc (.cells #[.slice (some ⟨w.heap.size + 1, 0, none⟩) 1 1] 48)).alloc (.map #[] 0)
theorem start_env (w : World) : ∃ f, EnvAt (W3 w) w.heap.size (w.heap.size + 1 + 1) [⟨false, w.heap.size, [], f⟩] ∧ GoodM (W3 w) (w.heap.size + 1 + 1 + 1) ∧ Below w.heap.size w (W3 w) ∧ (W3 w).heap.size = w.heap.size + 1 + 1 + 1 + 1 := by
  have s1 : (w.alloc (.map #[] 0)).heap.size = w.heap.size + 1 := by simp
  have s2 : ((w.alloc (.map #[] 0)).alloc (.cells #[.bool false, .map (some w.heap.size)] 45)).heap.size = w.heap.size + 1 + 1 := by simp
  have s3 : (((w.alloc (.map #[] 0)).alloc (.cells #[.bool false, .map (some w.heap.size)] 45)).alloc (.cells #[.slice (some ⟨w.heap.size + 1, 0, none⟩) 1 1] 48)).heap.size = w.heap.size + 1 + 1 + 1 := by simp
  have m1 : IsM (w.alloc (.map #[] 0)) w.heap.size [] (fun k => itm ((fun _ => (⟨[], 0, 0, .nilIface, 0, 0, ⟨#[]⟩⟩, .nilIface) : Nm → Ent × Value) k)) := IsM.made w _
  have m2 := ((m1.alloc (.cells #[.bool false, .map (some w.heap.size)] 45)).alloc (.cells #[.slice (some ⟨w.heap.size + 1, 0, none⟩) 1 1] 48)).alloc (.map #[] 0)
  have r1 := heap_alloc_new (w.alloc (.map #[] 0)) (.cells #[.bool false, .map (some w.heap.size)] 45)
  rw [s1] at r1
  have r2 := (heap_alloc_old _ (.map #[] 0) (by rw [s3]; omega)).trans ((heap_alloc_old _ (.cells #[.slice (some ⟨w.heap.size + 1, 0, none⟩) 1 1] 48) (by rw [s2]; omega)).trans r1)
  have e1 := heap_alloc_new ((w.alloc (.map #[] 0)).alloc (.cells #[.bool false, .map (some w.heap.size)] 45)) (.cells #[.slice (some ⟨w.heap.size + 1, 0, none⟩) 1 1] 48)
  rw [s2] at e1
  have e2 := (heap_alloc_old _ (.map #[] 0) (by rw [s3]; omega)).trans e1
  have g1 := IsM.made (((w.alloc (.map #[] 0)).alloc (.cells #[.bool false, .map (some w.heap.size)] 45)).alloc (.cells #[.slice (some ⟨w.heap.size + 1, 0, none⟩) 1 1] 48)) (fun _ => .nilIface)
  rw [s3] at g1
  refine ⟨fun _ => (⟨[], 0, 0, .nilIface, 0, 0, ⟨#[]⟩⟩, .nilIface), ⟨by omega, ⟨w.heap.size + 1, 1, e2, ⟨rfl, .inr ⟨w.heap.size + 1, 1, _, rfl, by omega, r2, Nat.le_refl _, by unfold maxLen; omega, rfl, rfl⟩⟩, by omega⟩, by simp, fun l hl => ?_, fun l hl => ?_, by simp⟩, ⟨[], fun _ => .nilIface, g1, by simp⟩, ?_, by unfold W3; simp⟩
  · rw [List.mem_singleton] at hl
    subst hl
    exact ⟨by simp, m2⟩
  · rw [List.mem_singleton] at hl
    subst hl
    simp
  · exact ((((Below.refl _ w).alloc (by omega) _).alloc (by rw [s1]; omega) _).alloc (by rw [s2]; omega) _).alloc (by rw [s3]; omega) _
set_option maxRecDepth 100000 in
set_option maxHeartbeats 3200000 in
theorem new_any (w : World) : Calls Try.prog 5 #[] w fun r w' => ∃ vb l, r = .returned (.pointer (some ⟨vb, 0, none⟩)) ∧ Below w.heap.size w w' ∧ EnvAt w' w.heap.size vb [l] ∧ Base l true := by
  have hmm := @run_makeMap Try.prog
  obtain ⟨f0, hE0, hM0, hB0, hs0⟩ := start_env w
  obtain ⟨w1, q1, m1, g1⟩ := hM0.put [73, 78, 84, 69, 71, 69, 82] ⟨#[73, 78, 84, 69, 71, 69, 82]⟩ rfl (by decide) 1
  obtain ⟨w2, q2, m2, g2⟩ := m1.put [67, 65, 82, 68, 73, 78, 65, 76] ⟨#[67, 65, 82, 68, 73, 78, 65, 76]⟩ rfl (by decide) 2
  obtain ⟨w3, q3, m3, g3⟩ := m2.put [66, 79, 79, 76, 69, 65, 78] ⟨#[66, 79, 79, 76, 69, 65, 78]⟩ rfl (by decide) 3
  obtain ⟨w4, q4, m4, g4⟩ := m3.put [67, 72, 65, 82] ⟨#[67, 72, 65, 82]⟩ rfl (by decide) 4
  obtain ⟨w5, q5, m5, g5⟩ := m4.put [66, 73, 84, 83, 69, 84] ⟨#[66, 73, 84, 83, 69, 84]⟩ rfl (by decide) 9
  have hne : ∀ l ∈ ([⟨false, w.heap.size, [], f0⟩] : List Lvl), l.b ≠ w.heap.size + 1 + 1 + 1 := by
    intro l hl
    rw [List.mem_singleton] at hl
    subst hl
    dsimp only
    omega
  have hE5 := ((((hE0.but g1 hM0.cells hne).but g2 m1.cells hne).but g3 m2.cells hne).but g4 m3.cells hne).but g5 m4.cells hne
  have hr : ∀ (x : Nat), (w.heap.size + 1 + 1 + 1 ≤ x) → ∀ k, some x = some k → w.heap.size ≤ k := fun x hx k e => by injection e with e; omega
  have z1 := g1.size
  have z2 := g2.size
  have z3 := g3.size
  have z4 := g4.size
  have z5 := g5.size
  have hB5 := (((((hB0.grown g1 hB0.size (hr _ (by omega))).grown g2 (by omega) (hr _ (by omega))).grown g3 (by omega) (hr _ (by omega))).grown g4 (by omega) (hr _ (by omega))).grown g5 (by omega) (hr _ (by omega)))
  have hs5 : w.heap.size + 1 + 1 + 1 < w5.heap.size := by omega
  obtain ⟨ks, f, hm, hgood⟩ := m5
  have HE := Lib.hid hE5
  have HB := Lib.hid hB5
  have HM := Lib.hid hm
  have HF := Lib.hid hgood
  have HS := Lib.hid hs5
  clear hE0 hM0 hB0 hs0 m1 m2 m3 m4 g1 g2 g3 g4 g5 hne hE5 hr z1 z2 z3 z4 z5 hB5 hm hgood hs5
  unfold W3 at q1
  go_enter Try.func5, Try.ntmps5
  go_wp2_with (at_range; refine wpList_range _ rfl _ _ rfl _ _ Try.underlying27 (w.heap.size + 1 + 1 + 1) ks f rfl HM.out w5.heap.size rfl ?_; intro w6 hi6 hg6 hs6; have HI := Lib.hid hi6; have HG := Lib.hid hg6; have HZ := Lib.hid hs6; clear hi6 hg6 hs6)
  go_frame
  have HE6 := Lib.hid (HE.out.grown HG.out)
  have HB6 := Lib.hid (HB.out.grown HG.out HB.out.size (fun k h => by cases h))
  clear HG HE HB
  go_loopg [] ks.length (fun gh wr => ∃ (left : List Nm) (l : Lvl), left.length ≤ gh ∧ Hid (l.b = w.heap.size) ∧ Hid (Base l false) ∧ Hid (EnvAt wr w.heap.size (w.heap.size + 1 + 1) [l]) ∧ Hid (IterM wr w5.heap.size (w.heap.size + 1 + 1 + 1) ks f left) ∧ Hid (Below w.heap.size w wr))
  case atStart => exact ⟨ks, _, Nat.le_refl _, Lib.hid rfl, Lib.hid (Base.nil _ _), HE6, HI, HB6⟩
  case round =>
    obtain ⟨left, l, hgh, hlb, hba, he, hi, hb⟩ := hrel
    go_wp2_with (at_next; refine wpList_next _ rfl _ rfl w5.heap.size (w.heap.size + 1 + 1 + 1) ks left f rfl hi.out ?_ ?_)
    · intro h0
      have HBa := Lib.hid hba.out
      have HEE := Lib.hid he.out
      have HBB := Lib.hid hb.out
      have HLB := Lib.hid hlb.out
      clear hba he hb hi hlb hgh
      go_wp2_with (first
        | (go_at_call 17; with_reducible refine (set_base (t' := false) HEE.out HBa.out [70, 65, 76, 83, 69] ⟨#[70, 65, 76, 83, 69]⟩ rfl 1 1 rfl _ _ _ rfl (by decide) (by simp)).mono ?_; rintro r wa ⟨rfl, hg7, l7, he7, hb7, hl7⟩; have HE7 := Lib.hid he7; have HB7 := Lib.hid hb7; have HG7 := Lib.hid hg7; have HL7 := Lib.hid hl7; clear he7 hb7 hg7 hl7))
      have HBB7 := Lib.hid (HBB.out.grown HG7.out HBB.out.size (fun k hk => by injection hk with hk; have := HLB.out; omega))
      have HLB7 := Lib.hid (HL7.out.trans HLB.out)
      clear HBB HLB HG7 HL7 HBa HEE
      go_wp2_with (first
        | (go_at_call 17; with_reducible refine (set_base (t' := true) HE7.out HB7.out [84, 82, 85, 69] ⟨#[84, 82, 85, 69]⟩ rfl 1 1 rfl _ _ _ rfl (by decide) (fun _ => .inl ⟨rfl, rfl⟩)).mono ?_; rintro r wb ⟨rfl, hg8, l8, he8, hb8, hl8⟩; have HE8 := Lib.hid he8; have HB8 := Lib.hid hb8; have HG8 := Lib.hid hg8; have HL8 := Lib.hid hl8; clear he8 hb8 hg8 hl8))
      have HBB8 := Lib.hid (HBB7.out.grown HG8.out HBB7.out.size (fun k hk => by injection hk with hk; have := HLB7.out; omega))
      have HLB8 := Lib.hid (HL8.out.trans HLB7.out)
      clear HBB7 HLB7 HG8 HL8 HB7 HE7
      go_wp2_with (first
        | (go_at_call 17; with_reducible refine (set_base (t' := true) HE8.out HB8.out [78, 73, 76] ⟨#[78, 73, 76]⟩ rfl 1 1 rfl _ _ _ rfl (by decide) (fun _ => .inr ⟨rfl, by decide⟩)).mono ?_; rintro r wc ⟨rfl, hg9, l9, he9, hb9, hl9⟩; have HE9 := Lib.hid he9; have HB9 := Lib.hid hb9; have HG9 := Lib.hid hg9; have HL9 := Lib.hid hl9; clear he9 hb9 hg9 hl9))
      have HBB9 := Lib.hid (HBB8.out.grown HG9.out HBB8.out.size (fun k hk => by injection hk with hk; have := HLB8.out; omega))
      have HLB9 := Lib.hid (HL9.out.trans HLB8.out)
      clear HBB8 HLB8 HG9 HL9 HB8 HE8
      have HR := Lib.hid (RowNm.made wc NL (by decide))
      have HEA := Lib.hid (HE9.out.grown (World.grownBy_alloc wc (.cells (NL.map fun n => Value.string (S n)).toArray 9) none))
      have HBA := Lib.hid (HBB9.out.alloc HBB9.out.size (.cells (NL.map fun n => Value.string (S n)).toArray 9))
      have hwc : w.heap.size < wc.heap.size := by have h := (HE9.out.maps l9 (by simp)).2.lt; rw [HLB9.out] at h; exact h
      clear HE9 HBB9
      go_loopg [39] 17 (fun gh si wr => ∃ (i : Nat) (l : Lvl), si = .int .i64 (i : Nat) ∧ i ≤ 17 ∧ 17 - i ≤ gh ∧ Hid (l.b = w.heap.size) ∧ Hid (Base l true) ∧ Hid (EnvAt wr w.heap.size (w.heap.size + 1 + 1) [l]) ∧ Hid (RowNm wr wc.heap.size 17) ∧ Hid (Below w.heap.size w wr))
      case atStart => exact ⟨0, l9, rfl, by omega, by omega, HLB9, HB9, HEA, HR, HBA⟩
      case round =>
        obtain ⟨i, l, rfl, hi1, hi2, hlb, hba, he, hr, hb⟩ := hrel
        by_cases hi : i < 17
        · have hx1 : (i : Int) < 17 := by omega
          obtain ⟨cs, r1, r2⟩ := id hr.out
          obtain ⟨m, r3, r4, r5⟩ := r2 i hi
          have c0 := (cell_of_row _ _ i _ _ _ r1).trans r3
          have HN := Lib.hid (And.intro r4 r5)
          clear r1 r2 r3 r4 r5
          go_wp2_with (first
            | (go_at_call 17; with_reducible refine (set_base (t' := true) he.out hba.out m (S m) rfl 8 8 rfl _ _ _ rfl HN.out.1 (fun _ => .inr ⟨rfl, HN.out.2⟩)).mono ?_; rintro r wd ⟨rfl, hg8, l8, he8, hb8, hl8⟩; have HE8 := Lib.hid he8; have HB8 := Lib.hid hb8; have HG8 := Lib.hid hg8; have HL8 := Lib.hid hl8; clear he8 hb8 hg8 hl8))
          have HR8 := Lib.hid (hr.out.kept (HG8.out.block _ hr.out.lt (fun e => by injection e with e; have := hlb.out; omega)))
          have HBB8 := Lib.hid (hb.out.grown HG8.out hb.out.size (fun k hk => by injection hk with hk; have := hlb.out; omega))
          go_roundg (17 - i - 1)
          case rel => exact ⟨i + 1, l8, by rfl, by omega, by omega, Lib.hid (HL8.out.trans hlb.out), HB8, HE8, HR8, HBB8⟩
          case measure => omega
        · have hin : i = 17 := by omega
          subst hin
          go_wp2
          go_ret
          exact ⟨_, l, rfl, hb.out, he.out, hba.out⟩
    · intro k w7 hk hks hi7 hg7 hs7 hen
      obtain ⟨hka, i, hfi⟩ := HF.out k hks
      have hsz := HS.out
      have hlb0 := hlb.out
      have hbs := hb.out.size
      have HE7 := Lib.hid (he.out.but hg7 (iter_cells hi.out) (by
        intro x hx
        rw [List.mem_singleton] at hx
        subst hx
        omega))
      have HB7 := Lib.hid (hb.out.grown hg7 hbs (fun k hk => by injection hk with hk; omega))
      have HI7 := Lib.hid hi7
      have HK := Lib.hid (filter_ne_lt hk)
      have HKA := Lib.hid hka
      rw [hfi] at hen
      rw [hfi]
      clear hi7 hg7 hk hks he hi hb hfi hsz hlb0 hbs hs7
      go_wp2_with (first
        | (go_at_call 17; with_reducible refine (set_base (t' := false) HE7.out hba.out k (S k) rfl 2 2 rfl _ _ _ rfl HKA.out (by simp)).mono ?_; rintro r wa ⟨rfl, hg8, l8, he8, hb8, hl8⟩; have HE8 := Lib.hid he8; have HBA := Lib.hid hb8; have HG8 := Lib.hid hg8; have HL8 := Lib.hid hl8; clear he8 hb8 hg8 hl8))
      have HLB8 := Lib.hid (HL8.out.trans hlb.out)
      have HI8 := Lib.hid (HI7.out.grown HG8.out (fun e => by injection e with e; have := hlb.out; omega) (fun e => by injection e with e; have := hlb.out; have := HS.out; omega))
      have HB8 := Lib.hid (HB7.out.grown HG8.out HB7.out.size (fun k hk => by injection hk with hk; have := hlb.out; omega))
      go_roundg (left.length - 1)
      case rel => exact ⟨_, l8, by have := HK.out; omega, HLB8, HBA, HE8, HI8, HB8⟩
      case measure => have := HK.out; omega
end Go.Proofs.Ytibpekgmgidebaa.Sc
