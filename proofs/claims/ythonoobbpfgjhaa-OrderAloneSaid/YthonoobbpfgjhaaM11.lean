/- The closure that goes through the needs; Order. -/
import Derived.Test.YthonoobbpfgjhaaM10
set_option linter.unusedSimpArgs false
set_option linter.unusedVariables false
namespace Go.Proofs.Ythonoobbpfgjhaa.Od
open Go.RowKit
theorem steps_code {L : NL} {f : Nat} (ih : ∀ n x a k, x.1 n = 0 → fresh L x.1 < f → dfs L f n x = .error (a, k) → k = 3 ∨ k = 220) : ∀ ns x a k, fresh L x.1 < f → stepsL (dfs L f) ns x = .error (a, k) → k = 3 ∨ k = 220
  | [], x, a, k, _, h => by cases h
  | n :: ns, x, a, k, hf, h => by
    unfold stepsL at h
    split at h
    · injection h with h; injection h with _ h; exact .inr h.symm
    · split at h
      · rename_i h0
        cases e : dfs L f n x with
        | error q =>
          obtain ⟨a', k'⟩ := q
          rw [e] at h
          injection h with h; injection h with h1 h2; subst h1 h2
          exact ih n x a' k' h0 hf e
        | ok z =>
          rw [e] at h
          exact steps_code ih ns z a k (Nat.lt_of_le_of_lt (fresh_le (dfs_rise L f n x z e)) hf) h
      · exact steps_code ih ns x a k hf h
theorem dfs_code (L : NL) : ∀ f m x a k, x.1 m = 0 → fresh L x.1 < f → dfs L f m x = .error (a, k) → k = 3 ∨ k = 220
  | 0, m, x, a, k, _, h, _ => absurd h (by omega)
  | f + 1, m, x, a, k, h0, hf, h => by
    unfold dfs at h
    cases el : look L m with
    | none => rw [el] at h; injection h with h; injection h with _ h; exact .inl h.symm
    | some ns =>
      rw [el] at h
      cases es : stepsL (dfs L f) ns (upd x.1 m 1, x.2) with
      | ok z => simp only [es] at h; cases h
      | error q =>
        obtain ⟨a', k'⟩ := q
        simp only [es] at h
        injection h with h; injection h with h1 h2; subst h1 h2
        have hlt := fresh_lt (L := L) (s := x.1) (m := m) (x := 1) (by decide) (by rw [el]; exact fun h => by cases h) h0
        exact steps_code (fun n x a k => dfs_code L f n x a k) ns _ a' k' (by show fresh L (upd x.1 m 1) < f; omega) es
/-- What is known of states and order on the way. -/
structure OKx (q : List Md) (x : Sts × List Nm) : Prop where
  di : DI (nl q) x
  told : ∀ n ∈ x.2, look (nl q) n ≠ none
theorem OKx.len {q : List Md} {x : Sts × List Nm} (h : OKx q x) (hs : Small q) : x.2.length ≤ 60 := by
  have h1 := len_sub (l := x.2) (m := names q) h.di.ord.nodup (fun n hn => by
    have := h.told n hn
    rw [look_nl] at this
    exact (told_iff q n).2 (fun e => this (by rw [e]; rfl)))
  have h2 := hs.len
  simp only [names, List.length_map] at h1
  omega
theorem OKx.dfs {q : List Md} {f : Nat} {m : Nm} {x y : Sts × List Nm} (h : OKx q x) (h0 : x.1 m = 0) (e : dfs (nl q) f m x = .ok y) : OKx q y := by
  obtain ⟨D, _⟩ := dfs_di (nl q) f m x y h0 h.di e
  exact ⟨D.inv, fun n hn => (dfs_mem (nl q) f m x y e n hn).elim (h.told n) (fun h => h.2)⟩
def stV (s : Sts) (n : Nm) : Value := .int .u8 (s n : Nat)
/-- The map of states. -/
def StM (w : World) (b : Nat) (s : Sts) : Prop := ∃ ks, IsM w b ks (stV s) ∧ ∀ n, n ∉ ks → s n = 0
theorem StM.lt {w : World} {b : Nat} {s : Sts} (h : StM w b s) : b < w.heap.size := by obtain ⟨ks, h, _⟩ := h; exact h.lt
theorem StM.kept {w w' : World} {b : Nat} {s : Sts} (h : StM w b s) (hk : w'.heap[b]? = w.heap[b]?) : StM w' b s := by obtain ⟨ks, h1, h2⟩ := h; exact ⟨ks, h1.kept hk, h2⟩
theorem StM.look {w : World} {b : Nat} {s : Sts} (h : StM w b s) (n : Nm) {k : Nat} (hk : s n = k) : (Instr.lookup 43 (.map (some b)) (.string (S n)) false).run Try.prog w = .ok (.int .u8 (k : Nat)) w := by
  subst hk
  obtain ⟨ks, h1, h2⟩ := h
  exact h1.look Try.underlying43 Try.underlying9 n (z := .int .u8 0) (by kernel_rfl) (fun hm => by unfold stV; rw [h2 n hm]; rfl)
theorem StM.put {w' : World} {b : Nat} {s : Sts} {ks : List Nm} {n : Nm} {k : Nat} (h2 : ∀ n, n ∉ ks → s n = 0) (h : IsM w' b (if n ∈ ks then ks else ks ++ [n]) (updV (stV s) n (.int .u8 (k : Nat)))) : StM w' b (upd s n k) := by
  refine ⟨_, h.congr fun m _ => ?_, fun m hm => ?_⟩
  · unfold updV stV upd
    split <;> rfl
  · have hne : m ≠ n := fun e => by
      subst e
      split at hm
      · rename_i h; exact hm h
      · exact hm (by simp)
    unfold upd
    rw [if_neg hne]
    refine h2 m fun h => hm ?_
    split
    · exact h
    · exact List.mem_append_left _ h
/-- What stands in memory on the way through the needs. -/
structure OE (W0 : World) (N1 : Nat) (w : World) (bA ba bS bs bT bO : Nat) (q : List Md) (lv : Value) (x : Sts × List Nm) : Prop where
  base : Below W0.heap.size W0 w
  cA : w.cell? ⟨bA, 0, none⟩ = some (.map (some ba))
  cS : w.cell? ⟨bS, 0, none⟩ = some (.map (some bs))
  cT : w.cell? ⟨bT, 0, none⟩ = some (.func (.func 17) #[] #[.pointer (some ⟨bA, 0, none⟩), .pointer (some ⟨bS, 0, none⟩), .pointer (some ⟨bT, 0, none⟩), .pointer (some ⟨bO, 0, none⟩)])
  cO : w.cell? ⟨bO, 0, none⟩ = some lv
  fO : w.frozen? ⟨bO, 0, none⟩ = false
  own : OwnN N1 w lv x.2
  nm : NM w ba q
  st : StM w bs x.1
  n1 : bA ≠ bs ∧ bS ≠ bs ∧ bT ≠ bs ∧ bO ≠ bs ∧ ba ≠ bs
  n2 : bA ≠ bO ∧ bS ≠ bO ∧ bT ≠ bO ∧ ba ≠ bO
  n3 : bA < N1 ∧ bS < N1 ∧ bT < N1 ∧ bO < N1 ∧ ba < N1 ∧ bs < N1
  n4 : W0.heap.size ≤ bs ∧ W0.heap.size ≤ bO ∧ W0.heap.size ≤ N1 ∧ N1 ≤ w.heap.size
section
variable {W0 w w' : World} {N1 bA ba bS bs bT bO : Nat} {q : List Md} {lv lv' : Value} {x : Sts × List Nm}
theorem OE.put (h : OE W0 N1 w bA ba bS bs bT bO q lv x) {s : Sts} (hg : w.grownBy w' (some bs)) (hs : StM w' bs s) : OE W0 N1 w' bA ba bS bs bT bO q lv (s, x.2) := by
  obtain ⟨a1, a2, a3, a4, a5⟩ := h.n1
  obtain ⟨d1, d2, d3, d4⟩ := h.n4
  have hk : ∀ b, b ≠ bs → some b ≠ some bs := fun b hb e => hb (by injection e)
  refine ⟨h.base.grown hg h.base.size (fun k hk => by injection hk with hk; omega), hg.cell h.cA (hk _ a1), hg.cell h.cS (hk _ a2), hg.cell h.cT (hk _ a3), hg.cell h.cO (hk _ a4), ?_, ?_, h.nm.kept (hg.block _ h.nm.lt (hk _ a5)), hs, h.n1, h.n2, h.n3, ⟨d1, d2, d3, Nat.le_trans d4 hg.size⟩⟩
  · have hl : bO < w.heap.size := by have := h.n3; omega
    unfold World.frozen?
    rw [hg.block bO hl (hk _ a4)]
    exact h.fO
  · exact h.own.kept hg (.inr fun e => by have := (World.ownsRow.lt h.own _ e).1; have := h.n3; omega)
theorem OwnN.setCell {base : Nat} {w : World} {lv : Value} {l : List Nm} (h : OwnN base w lv l) {a : Addr} (ha : lv.ownBlock ≠ some a.block) (u : Value) : OwnN base (w.setCell a u) lv l := by
  refine ⟨h.1, h.2.imp id ?_⟩
  rintro ⟨g, cap, cur, h1, h2, h3, h4⟩
  refine ⟨g, cap, cur, h1, h2, ?_, h4⟩
  subst h1
  have hne : a.block ≠ g := fun e => ha (by simp [Value.ownBlock, e])
  rw [← h3]
  unfold World.setCell
  simp [Array.getElem?_modify, hne]
theorem block_setCell {w : World} {a : Addr} {b : Nat} (h : b ≠ a.block) (u : Value) : (w.setCell a u).heap[b]? = w.heap[b]? := by
  unfold World.setCell
  simp [Array.getElem?_modify, Ne.symm h]
theorem OE.push (h : OE W0 N1 w bA ba bS bs bT bO q lv x) {m : Nm} (ho : OwnN N1 w' lv' (x.2 ++ [m])) (hg : w.grownBy w' lv.ownBlock) : OE W0 N1 (w'.setCell ⟨bO, 0, none⟩ lv') bA ba bS bs bT bO q lv' (x.1, x.2 ++ [m]) := by
  obtain ⟨a1, a2, a3, a4, a5⟩ := h.n1
  obtain ⟨b1, b2, b3, b4⟩ := h.n2
  obtain ⟨c1, c2, c3, c4, c5, c6⟩ := h.n3
  obtain ⟨d1, d2, d3, d4⟩ := h.n4
  have hk : ∀ b, b < N1 → some b ≠ lv.ownBlock := fun b hb e => by have := (World.ownsRow.lt h.own _ e.symm).1; omega
  have hb : Below W0.heap.size W0 w' := h.base.grown hg h.base.size (fun k hk => by have := (World.ownsRow.lt h.own _ hk).1; omega)
  have oc : ∀ {b : Nat} {v : Value}, b ≠ bO → w'.cell? ⟨b, 0, none⟩ = some v → (w'.setCell ⟨bO, 0, none⟩ lv').cell? ⟨b, 0, none⟩ = some v := fun {b v} hb hc => by
    rw [World.cell?_setCell_other w' _ _ _ (fun e => hb (by injection e with e; exact e.symm))]; exact hc
  have hO' : w'.cell? ⟨bO, 0, none⟩ = some lv := hg.cell h.cO (hk _ c4)
  refine ⟨hb.setCell (by show W0.heap.size ≤ bO; omega) _, oc b1 (hg.cell h.cA (hk _ c1)), oc b2 (hg.cell h.cS (hk _ c2)), oc b3 (hg.cell h.cT (hk _ c3)), ?_, ?_, ho.setCell (fun e => ?_) _, ?_, ?_, h.n1, h.n2, h.n3, ⟨d1, d2, d3, ?_⟩⟩
  · exact World.cell?_setCell_same _ _ _ hO'
  · rw [World.frozen?_setCell]
    unfold World.frozen?
    rw [hg.block bO (by omega) (hk _ c4)]
    exact h.fO
  · have := (World.ownsRow.lt ho _ e).1
    have e' : (⟨bO, 0, none⟩ : Addr).block = bO := rfl
    omega
  · exact (h.nm.kept (hg.block _ h.nm.lt (hk _ c5))).kept (block_setCell b4 _)
  · exact (h.st.kept (hg.block _ h.st.lt (hk _ c6))).kept (block_setCell (fun e => a4 e.symm) _)
  · have := hg.size
    rw [World.size_setCell]
    omega
end
section
variable {W0 w w' : World} {N1 bA ba bS bs bT bO : Nat} {q : List Md} {lv lv' : Value} {x : Sts × List Nm}
theorem cell_of_push (h : OE W0 N1 w bA ba bS bs bT bO q lv x) (hg : w.grownBy w' lv.ownBlock) : w'.cell? ⟨bO, 0, none⟩ = some lv :=
  hg.cell h.cO (fun e => by have := (World.ownsRow.lt h.own _ e.symm).1; have := h.n3; have e' : (⟨bO, 0, none⟩ : Addr).block = bO := rfl; omega)
theorem fz_of_push (h : OE W0 N1 w bA ba bS bs bT bO q lv x) (hg : w.grownBy w' lv.ownBlock) : w'.frozen? ⟨bO, 0, none⟩ = false := by
  unfold World.frozen?
  rw [hg.block bO (by have := h.n3; have := h.n4; omega) (fun e => by have := (World.ownsRow.lt h.own _ e.symm).1; have := h.n3; omega)]
  exact h.fO
end
/-- What 'through' answers. -/
def ThR (W0 : World) (N1 bA ba bS bs bT bO : Nat) (q : List Md) (r : Ans) (e : Ending) (w' : World) : Prop := match r with
  | .error (n, k) => e = .returned (.tuple #[.string (S n), .int .i64 (k : Nat)]) ∧ (k = 3 ∨ k = 220) ∧ ∃ lv y, OE W0 N1 w' bA ba bS bs bT bO q lv y
  | .ok y => e = .returned (.tuple #[.string (S []), .int .i64 0]) ∧ OKx q y ∧ ∃ lv, OE W0 N1 w' bA ba bS bs bT bO q lv y
theorem stepsL_bad {g : Nm → Sts × List Nm → Ans} {ns : List Nm} {x : Sts × List Nm} {k : Nat} (h : k < ns.length) (h1 : x.1 ns[k] = 1) : stepsL g (ns.drop k) x = .error (ns[k], 220) := by
  rw [List.drop_eq_getElem_cons h]
  show (if _ then _ else _) = _
  rw [if_pos h1]
theorem stepsL_go {g : Nm → Sts × List Nm → Ans} {ns : List Nm} {x : Sts × List Nm} {k : Nat} (h : k < ns.length) (h0 : x.1 ns[k] = 0) : stepsL g (ns.drop k) x = match g ns[k] x with
    | .error e => .error e
    | .ok y => stepsL g (ns.drop (k + 1)) y := by
  rw [List.drop_eq_getElem_cons h]
  show (if _ then _ else if _ then _ else _) = _
  rw [if_neg (by omega), if_pos h0]
  cases g ns[k] x <;> rfl
theorem stepsL_had {g : Nm → Sts × List Nm → Ans} {ns : List Nm} {x : Sts × List Nm} {k : Nat} (h : k < ns.length) (h0 : x.1 ns[k] ≠ 0) (h1 : x.1 ns[k] ≠ 1) : stepsL g (ns.drop k) x = stepsL g (ns.drop (k + 1)) x := by
  rw [List.drop_eq_getElem_cons h]
  show (if _ then _ else if _ then _ else _) = _
  rw [if_neg h1, if_neg h0]
theorem OKx.begin {q : List Md} {x : Sts × List Nm} {m : Nm} (h : OKx q x) (h0 : x.1 m = 0) : OKx q (upd x.1 m 1, x.2) := ⟨di_step h.di h0, h.told⟩
set_option maxRecDepth 100000 in
set_option maxHeartbeats 6400000 in
theorem through_any {W0 : World} {N1 bA ba bS bs bT bO : Nat} {q : List Md} (hq : ∀ x ∈ q, Needs W0 x) (hs : Small q) : ∀ (f : Nat) (m : Nm) (x : Sts × List Nm) (w : World) (lv : Value), OE W0 N1 w bA ba bS bs bT bO q lv x → OKx q x → x.1 m = 0 → fresh (nl q) x.1 < f →
    Calls Try.prog 17 #[.string (S m), .pointer (some ⟨bA, 0, none⟩), .pointer (some ⟨bS, 0, none⟩), .pointer (some ⟨bT, 0, none⟩), .pointer (some ⟨bO, 0, none⟩)] w (ThR W0 N1 bA ba bS bs bT bO q (dfs (nl q) f m x)) := by
  intro f
  induction f with
  | zero => intro m x w lv _ _ _ hf; omega
  | succ f ih =>
    intro m x w lv h hx h0 hf
    have H := Lib.hid h
    have HX := Lib.hid hx
    have H0 := Lib.hid h0
    have HIH := Lib.hid ih
    have HQ := Lib.hid hq
    have HS := Lib.hid hs
    have hcA := h.cA
    have hcS := h.cS
    obtain ⟨ks, hk1, hk2⟩ := h.nm.is
    cases hm : lookM q m with
    | none =>
      have hlk := hk1.look_out Try.underlying40 Try.underlying9 (m := m) (fun hh => (hk2 m).1 hh hm) (z := .slice none 0 0) (by kernel_rfl) true
      have HR := Lib.hid (show dfs (nl q) (f + 1) m x = .error (m, 3) from by unfold dfs; rw [look_nl, hm]; rfl)
      generalize dfs (nl q) (f + 1) m x = res at *
      clear h hx h0 ih hq hs hk1 hk2 hm hf
      go_enter Try.func17, Try.ntmps17
      go_wp2
      go_ret2
      rw [HR.out]
      exact ⟨rfl, .inl rfl, _, _, H.out⟩
    | some y =>
      have hlk := hk1.look_in Try.underlying40 Try.underlying9 (m := m) ((hk2 m).2 (by rw [hm]; exact fun h => by cases h)) true
      obtain ⟨A, c, hv, hN⟩ := needV_form hq m
      rw [hv] at hlk
      have hc := hN.cap
      have hg := hN.big
      have HN := Lib.hid hN
      have hl : look (nl q) m = some (needsOf (nl q) m) := by
        unfold needsOf
        rw [look_nl, hm]
        rfl
      have HR := Lib.hid (show dfs (nl q) (f + 1) m x = match stepsL (dfs (nl q) f) (needsOf (nl q) m) (upd x.1 m 1, x.2) with
        | .error e => .error e
        | .ok y => .ok (upd y.1 m 2, y.2 ++ [m]) from by
          have e : ∀ r : Ans, (match r with | .error e => Except.error e | .ok y => .ok (upd y.1 m 2, y.2 ++ [m])) = (match r with | .error e => (.error e : Ans) | .ok y => .ok (upd y.1 m 2, y.2 ++ [m])) := fun _ => rfl
          rw [← e]
          unfold dfs
          rw [hl]
          rfl)
      have HL := Lib.hid hl
      have HOK := Lib.hid (show ∀ y, dfs (nl q) (f + 1) m x = .ok y → OKx q y from fun y e => hx.dfs h0 e)
      have hlt := fresh_lt (L := nl q) (s := x.1) (m := m) (x := 1) (by decide) (by rw [hl]; exact fun h => by cases h) h0
      have HF := Lib.hid (show fresh (nl q) (upd x.1 m 1) < f by omega)
      obtain ⟨ks2, hst, hst2⟩ := h.st
      have HST := Lib.hid hst
      have HST2 := Lib.hid hst2
      generalize dfs (nl q) (f + 1) m x = res at *
      generalize needsOf (nl q) m = ns at *
      clear h hx h0 ih hq hs hk1 hk2 hm hf hN hv hl hlt hst hst2
      go_enter Try.func17, Try.ntmps17
      go_wp2_with (at_mapUpdate; refine wpList_put _ rfl _ _ _ _ rfl _ _ Try.underlying43 Try.underlying9 bs ks2 (stV x.1) rfl HST.out m (.int .u8 1) rfl rfl ?_; intro w2 hp hg2; have H2 := Lib.hid (H.out.put hg2 (StM.put (k := 1) HST2.out hp)); clear hp hg2)
      clear hcA hcS hlk
      have HX2 := Lib.hid (HX.out.begin H0.out)
      go_loopw [27] (fun i wr => ∃ (k : Nat) (x' : Sts × List Nm) (lv : Value), k ≤ ns.length ∧ i = .int .i64 k ∧ Hid (OE W0 N1 wr bA ba bS bs bT bO q lv x') ∧ Hid (OKx q x') ∧ Hid (fresh (nl q) x'.1 < f) ∧ Hid (res = match stepsL (dfs (nl q) f) (ns.drop k) x' with
        | .error e => .error e
        | .ok y => .ok (upd y.1 m 2, y.2 ++ [m]))) (fun i _ => ns.length - (intOf i).toNat)
      case atStart => exact ⟨0, _, lv, Nat.zero_le _, rfl, H2, HX2, HF, HR⟩
      case round =>
        clear H HX H0 HST HST2 H2 HX2 HF HR
        obtain ⟨k, x', lv2, hk, rfl, hE, hX, hF, hR⟩ := hrel
        by_cases hlt : k < ns.length
        · obtain ⟨g, off, rfl, hgl, hcell⟩ := (HN.out.below hE.out.base).at_ hlt
          have hcS := hE.out.cS
          rcases Nat.lt_trichotomy (x'.1 ns[k]) 1 with hz | hz | hz
          · have hz0 : x'.1 ns[k] = 0 := by omega
            have hlk := hE.out.st.look ns[k] hz0
            have hcT := hE.out.cT
            have HC := Lib.hid (HIH.out ns[k] x' wr lv2 hE.out hX.out hz0 hF.out)
            have HR1 := Lib.hid (hR.out.trans (by rw [stepsL_go hlt hz0]))
            cases hd : dfs (nl q) f ns[k] x' with
            | error p =>
              obtain ⟨a, kk⟩ := p
              have HC := Lib.hid (show Calls _ _ _ _ (ThR W0 N1 bA ba bS bs bT bO q (.error (a, kk))) from hd ▸ HC.out)
              have HR2 := Lib.hid (show res = .error (a, kk) from by rw [HR1.out, hd])
              clear hz hz0 hd HR1 hR
              go_wp2_with fail
              refine HC.out.mono ?_
              rintro e w3 ⟨rfl, hkk, lv9, y9, hb3⟩
              have HKK := Lib.hid hkk
              have HB3 := Lib.hid hb3
              have t1 : ((kk : Int) != 0) = true := by simp only [bne_iff_ne, ne_eq]; omega
              clear hkk hb3 HC
              go_wp2
              go_ret2
              rw [HR2.out]
              exact ⟨rfl, HKK.out, _, _, HB3.out⟩
            | ok y =>
              have HC := Lib.hid (show Calls _ _ _ _ (ThR W0 N1 bA ba bS bs bT bO q (.ok y)) from hd ▸ HC.out)
              have HR2 := Lib.hid (show res = (match stepsL (dfs (nl q) f) (ns.drop (k + 1)) y with
                | .error e => .error e
                | .ok y => .ok (upd y.1 m 2, y.2 ++ [m])) from by rw [HR1.out, hd])
              have HF2 := Lib.hid (Nat.lt_of_le_of_lt (fresh_le (dfs_rise (nl q) f ns[k] x' y hd)) hF.out)
              clear hz hz0 hd HR1 hR
              go_wp2_with fail
              refine HC.out.mono ?_
              rintro e w3 ⟨rfl, hx3, lv3, hE3⟩
              have HX3 := Lib.hid hx3
              have HE3 := Lib.hid hE3
              clear hx3 hE3 HC
              go_wp2
              go_roundw
              case rel => exact ⟨k + 1, y, lv3, by omega, by go_num, HE3, HX3, HF2, HR2⟩
              case measure => simp [intOf]; omega
          · have hlk := hE.out.st.look ns[k] hz
            have HR1 := Lib.hid (show res = .error (ns[k], 220) from hR.out.trans (by rw [stepsL_bad hlt hz]))
            clear hz hR
            go_wp2
            go_ret2
            rw [HR1.out]
            exact ⟨rfl, .inr rfl, _, _, hE.out⟩
          · have hz2 : x'.1 ns[k] = 2 := by have := hX.out.di.le ns[k]; omega
            have hlk := hE.out.st.look ns[k] hz2
            have HR1 := Lib.hid (hR.out.trans (by rw [stepsL_had hlt (by omega) (by omega)]))
            clear hz hz2 hR
            go_wp2
            go_roundw
            case rel => exact ⟨k + 1, x', lv2, by omega, by go_num, hE, hX, hF, HR1⟩
            case measure => simp [intOf]; omega
        · have HR1 := Lib.hid (show res = .ok (upd x'.1 m 2, x'.2 ++ [m]) from hR.out.trans (by rw [List.drop_eq_nil_of_le (by omega)]; rfl))
          have hcS := hE.out.cS
          obtain ⟨ks3, hst, hst2⟩ := hE.out.st
          have HST := Lib.hid hst
          have HST2 := Lib.hid hst2
          clear hst hst2 hR
          have hlen := hX.out.len HS.out
          go_wp2_with (first
            | (at_mapUpdate; refine wpList_put _ rfl _ _ _ _ rfl _ _ Try.underlying43 Try.underlying9 bs ks3 (stV x'.1) rfl HST.out m (.int .u8 2) rfl rfl ?_; intro w4 hp hg4; have H4 := Lib.hid (hE.out.put hg4 (StM.put (k := 2) HST2.out hp)); clear hp hg4; have hcO := H4.out.cO; have hn4 := H4.out.n4.2.2.2)
            | (at_builtin; refine wpList_push _ rfl _ _ rfl N1 lv2 x'.2 rfl H4.out.own (by omega) (by omega) m _ rfl rfl ?_; rintro lv' w5 ⟨g, cap, rfl⟩ ho5 hg5 hd5; have H5 := Lib.hid (H4.out.push ho5 hg5); have hfO : w5.frozen? ⟨bO, 0, none⟩ = false := (fz_of_push H4.out hg5); have hcO5 : w5.cell? ⟨bO, 0, none⟩ = some lv2 := (cell_of_push H4.out hg5); clear ho5 hg5 hd5 hcO))
          go_ret2
          have HOK2 := HOK.out _ HR1.out
          rw [HR1.out]
          exact ⟨rfl, HOK2, _, H5.out⟩
end Go.Proofs.Ythonoobbpfgjhaa.Od
