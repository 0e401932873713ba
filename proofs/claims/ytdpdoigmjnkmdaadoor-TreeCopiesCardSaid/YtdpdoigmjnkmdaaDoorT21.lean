/- What a node's text begins with, read: the plain part. -/
import Derived.Test.YtdpdoigmjnkmdaaDoorT20
import Derived.Lib.ParseIntBTie
set_option linter.unusedSimpArgs false
set_option linter.unusedVariables false
namespace Go.Proofs.YtdpdoigmjnkmdaaDoor.Tr
open Go.RowKit
open Fl
open Num

/-! ### Numbers -/
theorem parse_ok2 : ∀ (l : List UInt8) (acc : Nat), Digits l → valFrom acc l < 18446744073709551616 → Lib.parseUint10 acc l = .ok (valFrom acc l)
  | [], acc, _, _ => rfl
  | c :: r, acc, hd, hv => by
    have hc := hd c (by simp)
    have hge := valFrom_ge r (10 * acc + (c.toNat - 48))
    rw [valFrom_cons] at hv ⊢
    unfold Lib.parseUint10
    rw [if_pos hc, if_neg (by omega), if_neg (by omega), Nat.mul_comm acc 10]
    exact parse_ok2 r _ (fun x hx => hd x (by simp [hx])) hv
theorem mag_dec (n : Nat) (h : n < 18446744073709551616) : Lib.parseMag (Lib.decDigits n) = .ok n := by
  have hd := dec_digits n
  have hv := val_dec n
  unfold Lib.parseMag
  rw [if_neg (dec_ne n), parse_ok2 _ 0 hd (by show val _ < _; omega)]
  show Lib.NumEnd.ok (val _) = _
  rw [hv]
def inR (v : Int) : Prop := -9223372036854775808 ≤ v ∧ v ≤ 9223372036854775807
theorem atoi_itoa (v : Int) (h : inR v) : Lib.atoiAll (Lib.itoa v) = .ok v := by
  obtain ⟨h1, h2⟩ := h
  unfold Lib.itoa
  by_cases hn : v < 0
  · rw [if_pos hn]
    unfold Lib.atoiAll
    simp only
    rw [if_pos (by decide), mag_dec _ (by omega)]
    simp only
    rw [if_neg (by simp), if_neg (by omega), if_pos (by decide)]
    congr 1; omega
  · rw [if_neg hn]
    have hd := dec_digits v.toNat
    have hm := mag_dec v.toNat (by omega)
    cases hl : Lib.decDigits v.toNat with
    | nil => exact absurd hl (dec_ne _)
    | cons c r =>
      rw [hl] at hd hm
      have hc := hd c (by simp)
      unfold Lib.atoiAll
      simp only
      rw [if_neg (by omega), hm]
      simp only
      rw [if_neg (by omega), if_neg (by omega), if_neg (by omega)]
      congr 1; omega
theorem atoi_range {l : List UInt8} {v : Int} (h : Lib.atoiAll l = .ok v) : inR v := by
  rw [← Lib.parseIntB_64] at h
  have := Lib.parseIntB_bounds h
  have e : ((2 ^ (64 - 1) : Nat) : Int) = 9223372036854775808 := by decide
  rw [e] at this
  unfold inR; omega
/-- A whole number that is written in the one way. -/
def numOf (l : List UInt8) : Option Int := match Lib.atoiAll l with
  | .ok v => if Lib.itoa v = l then some v else none
  | _ => none
theorem numOf_some {l : List UInt8} {v : Int} (h : numOf l = some v) : inR v ∧ Lib.itoa v = l ∧ Lib.atoiAll l = .ok v := by
  unfold numOf at h
  split at h
  · rename_i u hu
    split at h
    · injection h with h
      subst h
      exact ⟨atoi_range hu, by assumption, hu⟩
    · cases h
  · cases h
theorem numOf_itoa {v : Int} (h : inR v) : numOf (Lib.itoa v) = some v := by
  unfold numOf; rw [atoi_itoa v h]; simp

/-! ### Cutting -/
/-- What stands ahead of a byte, and behind it. -/
def cutAt (s : UInt8) : List UInt8 → Option (List UInt8 × List UInt8)
  | [] => none
  | c :: r => if c = s then some ([], r) else (cutAt s r).map fun p => (c :: p.1, p.2)
theorem cutAt_some {s : UInt8} : ∀ {l a b : List UInt8}, cutAt s l = some (a, b) → l = a ++ s :: b ∧ s ∉ a
  | [], a, b, h => by cases h
  | c :: r, a, b, h => by
    unfold cutAt at h
    split at h
    · rename_i e
      simp only [Option.some.injEq, Prod.mk.injEq] at h
      obtain ⟨rfl, rfl⟩ := h
      exact ⟨by rw [e]; rfl, by simp⟩
    · rename_i e
      rw [Option.map_eq_some_iff] at h
      obtain ⟨⟨x, y⟩, h1, h2⟩ := h
      simp only [Prod.mk.injEq] at h2
      obtain ⟨rfl, rfl⟩ := h2
      obtain ⟨i1, i2⟩ := cutAt_some h1
      exact ⟨by rw [i1]; rfl, by simp only [List.mem_cons, not_or]; exact ⟨fun e2 => e e2.symm, i2⟩⟩
theorem cutAt_mk {s : UInt8} : ∀ {a : List UInt8} (b : List UInt8), s ∉ a → cutAt s (a ++ s :: b) = some (a, b)
  | [], b, _ => by simp [cutAt]
  | c :: r, b, h => by
    simp only [List.mem_cons, not_or] at h
    show (if c = s then _ else _) = _
    rw [if_neg (fun e => h.1 e.symm)]
    show (cutAt s (r ++ s :: b)).map _ = _
    rw [cutAt_mk b h.2]; rfl
theorem cutAt_none {s : UInt8} : ∀ {l : List UInt8}, cutAt s l = none → s ∉ l
  | [], _ => by simp
  | c :: r, h => by
    unfold cutAt at h
    split at h
    · cases h
    · rename_i e
      rw [Option.map_eq_none_iff] at h
      simp only [List.mem_cons, not_or]
      exact ⟨fun e2 => e e2.symm, cutAt_none h⟩
theorem index_one (s : UInt8) : ∀ l : List UInt8, (∀ a b, cutAt s l = some (a, b) → Lib.index l [s] = a.length) ∧ (cutAt s l = none → Lib.index l [s] = -1)
  | [] => ⟨fun a b h => (by cases h), fun _ => rfl⟩
  | c :: r => by
    have ih := index_one s r
    unfold cutAt Lib.index
    by_cases e : c = s
    · subst e
      simp only [if_pos, List.isPrefixOf, beq_self_eq_true, Bool.and_self, ↓reduceIte]
      refine ⟨fun a b h => ?_, fun h => (by cases h)⟩
      simp only [Option.some.injEq, Prod.mk.injEq] at h
      rw [← h.1]; rfl
    · have e2 : ([s].isPrefixOf (c :: r)) = false := by
        simp [List.isPrefixOf]; exact fun h => e h.symm
      rw [if_neg e, e2]
      simp only [Bool.false_eq_true, ↓reduceIte]
      refine ⟨fun a b h => ?_, fun h => ?_⟩
      · rw [Option.map_eq_some_iff] at h
        obtain ⟨⟨x, y⟩, h1, h2⟩ := h
        simp only [Prod.mk.injEq] at h2
        obtain ⟨rfl, rfl⟩ := h2
        rw [ih.1 x y h1]
        rw [if_neg (by simp <;> omega)]
        simp
      · rw [Option.map_eq_none_iff] at h
        rw [ih.2 h]; rfl
theorem cut_one (s : UInt8) (l : List UInt8) : Lib.cut l [s] = match cutAt s l with
    | some (a, b) => (a, b, true)
    | none => (l, [], false) := by
  have hi := index_one s l
  unfold Lib.cut
  cases h : cutAt s l with
  | none => rw [hi.2 h]; rfl
  | some p =>
    obtain ⟨a, b⟩ := p
    rw [hi.1 a b h, if_pos (by omega)]
    obtain ⟨h1, _⟩ := cutAt_some h
    rw [h1]
    simp [List.take_left', List.drop_append]
theorem indexByte_one (s : UInt8) : ∀ l : List UInt8, (∀ a b, cutAt s l = some (a, b) → Lib.indexByte l s = a.length) ∧ (cutAt s l = none → Lib.indexByte l s = -1)
  | [] => ⟨fun a b h => (by cases h), fun _ => rfl⟩
  | c :: r => by
    have ih := indexByte_one s r
    unfold cutAt Lib.indexByte
    by_cases e : c = s
    · subst e
      simp only [beq_self_eq_true, ↓reduceIte]
      refine ⟨fun a b h => ?_, fun h => (by cases h)⟩
      simp only [Option.some.injEq, Prod.mk.injEq] at h
      rw [← h.1]; rfl
    · have e2 : (c == s) = false := by simpa using e
      rw [if_neg e, e2]
      simp only [Bool.false_eq_true, ↓reduceIte]
      refine ⟨fun a b h => ?_, fun h => ?_⟩
      · rw [Option.map_eq_some_iff] at h
        obtain ⟨⟨x, y⟩, h1, h2⟩ := h
        simp only [Prod.mk.injEq] at h2
        obtain ⟨rfl, rfl⟩ := h2
        rw [ih.1 x y h1]
        rw [if_neg (by simp <;> omega)]
        simp
      · rw [Option.map_eq_none_iff] at h
        rw [ih.2 h]; rfl

/-! ### Where the number behind a name ends -/
/-- What stands ahead of the first blank or closing bracket; and that, with all behind. -/
def upTo : List UInt8 → Option (List UInt8 × List UInt8)
  | [] => none
  | c :: r => if c = 32 ∨ c = 41 then some ([], c :: r) else (upTo r).map fun p => (c :: p.1, p.2)
def ends (r : List UInt8) : Prop := ∃ c r', r = c :: r' ∧ (c = 32 ∨ c = 41)
theorem upTo_some : ∀ {l a b : List UInt8}, upTo l = some (a, b) → l = a ++ b ∧ 32 ∉ a ∧ 41 ∉ a ∧ ends b
  | [], a, b, h => by cases h
  | c :: r, a, b, h => by
    unfold upTo at h
    split at h
    · rename_i e
      simp only [Option.some.injEq, Prod.mk.injEq] at h
      obtain ⟨rfl, rfl⟩ := h
      exact ⟨rfl, by simp, by simp, c, r, rfl, e⟩
    · rename_i e
      rw [Option.map_eq_some_iff] at h
      obtain ⟨⟨x, y⟩, h1, h2⟩ := h
      simp only [Prod.mk.injEq] at h2
      obtain ⟨rfl, rfl⟩ := h2
      obtain ⟨i1, i2, i3, i4⟩ := upTo_some h1
      simp only [not_or] at e
      exact ⟨by rw [i1]; rfl, by simp only [List.mem_cons, not_or]; exact ⟨fun e2 => e.1 e2.symm, i2⟩, by simp only [List.mem_cons, not_or]; exact ⟨fun e2 => e.2 e2.symm, i3⟩, i4⟩
theorem upTo_mk : ∀ {a b : List UInt8}, 32 ∉ a → 41 ∉ a → ends b → upTo (a ++ b) = some (a, b)
  | [], b, _, _, ⟨c, r, e, h⟩ => by subst e; simp [upTo, h]
  | c :: r, b, h1, h2, h => by
    simp only [List.mem_cons, not_or] at h1 h2
    show (if c = 32 ∨ c = 41 then _ else _) = _
    rw [if_neg (by simp only [not_or]; exact ⟨fun e => h1.1 e.symm, fun e => h2.1 e.symm⟩)]
    show (upTo (r ++ b)).map _ = _
    rw [upTo_mk h1.2 h2.2 h]; rfl
theorem upTo_none : ∀ {l : List UInt8}, upTo l = none → 32 ∉ l ∧ 41 ∉ l
  | [], _ => by simp
  | c :: r, h => by
    unfold upTo at h
    split at h
    · cases h
    · rename_i e
      rw [Option.map_eq_none_iff] at h
      simp only [not_or] at e
      obtain ⟨i1, i2⟩ := upTo_none h
      exact ⟨by simp only [List.mem_cons, not_or]; exact ⟨fun e2 => e.1 e2.symm, i1⟩, by simp only [List.mem_cons, not_or]; exact ⟨fun e2 => e.2 e2.symm, i2⟩⟩

/-! ### A node's head -/
/-- A node's text behind its bracket, up to its kids. -/
def hdT (d : Nd) : List UInt8 := Lib.itoa d.kind ++ 32 :: (posT d.pos ++ 32 :: (Lib.itoa d.name.size ++ 58 :: (d.name.data.toList ++ 32 :: Lib.itoa d.n)))
theorem ndT_hd (d : Nd) : ndT d = 40 :: hdT d := by unfold ndT hdT; simp
/-- A node that is read just as it is written. -/
def Nd.nrm (d : Nd) : Prop := d.kind < 256 ∧ (d.pos = (0, 0) ∨ Pl.isN d.pos = true) ∧ inR d.n ∧ inR d.name.size
open Classical in
noncomputable def posOf (a : List UInt8) : Option (Nat × Nat) := if a = [45] then some (0, 0) else if Pl.isN (Pl.readN a) then some (Pl.readN a) else none
/-- What is read of a node's head, and what is left. -/
noncomputable def hd (l : List UInt8) : Option (Nd × List UInt8) :=
  match cutAt 32 l with
  | none => none
  | some (a1, l1) => match numOf a1 with
    | none => none
    | some kind => match cutAt 32 l1 with
      | none => none
      | some (a2, l2) => match cutAt 58 l2 with
        | none => none
        | some (a3, l3) => match numOf a3 with
          | none => none
          | some n => if 0 ≤ kind ∧ kind ≤ 255 ∧ 0 ≤ n ∧ n ≤ l3.length then match posOf a2 with
              | none => none
              | some p => match l3.drop n.toNat with
                | 32 :: l5 => match upTo l5 with
                  | none => none
                  | some (a6, l6) => match numOf a6 with
                    | none => none
                    | some v => some (⟨kind.toNat, p, ⟨(l3.take n.toNat).toArray⟩, v⟩, l6)
                | _ => none
            else none
theorem itoa_clean (v : Int) : ∀ c ∈ Lib.itoa v, c = 45 ∨ 48 ≤ c.toNat ∧ c.toNat ≤ 57 := by
  intro c hc
  unfold Lib.itoa at hc
  split at hc
  · simp only [List.mem_cons] at hc
    rcases hc with h | h
    · exact .inl h
    · exact .inr (dec_digits _ c h)
  · exact .inr (dec_digits _ c hc)
theorem itoa_not (v : Int) (s : UInt8) (h : s = 32 ∨ s = 58 ∨ s = 41) : s ∉ Lib.itoa v := by
  intro hm
  have := itoa_clean v s hm
  rcases h with rfl | rfl | rfl <;> revert this <;> decide
theorem posT_not (p : Nat × Nat) : (32 : UInt8) ∉ posT p := by
  unfold posT
  split
  · rename_i h
    rw [Pl.textN_in h]
    intro hm
    rw [List.mem_append, List.mem_cons] at hm
    rcases hm with hm | hm | hm
    · have := dec_digits _ _ hm; revert this; decide
    · revert hm; decide
    · have := dec_digits _ _ hm; revert this; decide
  · decide
theorem text_read (l pre : List UInt8) (hpre : ∀ c ∈ pre, c.toNat ≠ 58) (h : Pl.isN (Pl.readFrom pre l) = true) : Pl.textN (Pl.readFrom pre l) = pre ++ l := by
  induction l generalizing pre with
  | nil => simp [Pl.readFrom, Pl.isN, Pl.inN] at h
  | cons c r ih =>
    by_cases hc : c.toNat = 58
    · rw [Pl.readFrom_here _ hc] at h ⊢
      cases hx : Pl.isN (numN pre, numN r)
      · rw [Pl.readP_no hx] at h; simp [Pl.isN, Pl.inN] at h
      · rw [Pl.readP_ok hx]
        have e : c = 58 := by apply UInt8.toNat_inj.1; rw [hc]; rfl
        rw [(Pl.text_of_parts hx).2.2, e]
    · rw [Pl.readFrom_next _ hc] at h ⊢
      rw [ih (pre ++ [c]) (fun x hx => by
        rw [List.mem_append] at hx
        rcases hx with hx | hx
        · exact hpre x hx
        · simp only [List.mem_singleton] at hx; subst hx; exact hc) h]
      simp
theorem readFrom_app : ∀ (d pre r : List UInt8), (∀ c ∈ d, c.toNat ≠ 58) → Pl.readFrom pre (d ++ 58 :: r) = Pl.readP (pre ++ d) r
  | [], pre, r, _ => by rw [List.nil_append, Pl.readFrom_here _ (by decide), List.append_nil]
  | c :: d, pre, r, h => by
    rw [List.cons_append, Pl.readFrom_next _ (h c (by simp)), readFrom_app d _ r (fun x hx => h x (by simp [hx]))]
    simp
theorem readN_text {p : Nat × Nat} (h : Pl.isN p = true) : Pl.readN (Pl.textN p) = p := by
  have bd := Pl.isN_bd h
  rw [Pl.textN_in h]
  unfold Pl.readN
  rw [readFrom_app _ _ _ (Pl.dec_no_colon p.1), List.nil_append, Pl.readP_ok]
  · rw [Pl.inN_dec _ bd.1, Pl.inN_dec _ bd.2]
  · rw [Pl.inN_dec _ bd.1, Pl.inN_dec _ bd.2]; exact h
theorem posOf_some {a : List UInt8} {p : Nat × Nat} (h : posOf a = some p) : posT p = a ∧ (p = (0, 0) ∨ Pl.isN p = true) := by
  unfold posOf at h
  split at h
  · rename_i e
    injection h with h
    subst h e
    exact ⟨by decide, .inl rfl⟩
  · split at h
    · rename_i hn
      injection h with h
      subst h
      refine ⟨?_, .inr hn⟩
      unfold posT
      rw [if_pos hn]
      exact text_read a [] (by simp) hn
    · cases h
theorem textN_ne {p : Nat × Nat} (h : Pl.isN p = true) : Pl.textN p ≠ [45] := by
  rw [Pl.textN_in h]
  intro e
  have := congrArg List.length e
  have h1 := dec_ne p.1
  have h2 := dec_ne p.2
  rw [← List.length_pos_iff] at h1 h2
  simp at this; omega
theorem posOf_mk {p : Nat × Nat} (h : p = (0, 0) ∨ Pl.isN p = true) : posOf (posT p) = some p := by
  by_cases hn : Pl.isN p = true
  · unfold posOf posT
    rw [if_pos hn, if_neg (textN_ne hn), readN_text hn, if_pos hn]
  · rcases h with h | h
    · subst h; unfold posOf posT; rw [if_neg hn]; simp
    · exact absurd h hn
theorem hd_some {l r : List UInt8} {d : Nd} (h : hd l = some (d, r)) : d.nrm ∧ l = hdT d ++ r ∧ ends r := by
  unfold hd at h
  split at h <;> try cases h
  rename_i a1 l1 e1
  split at h <;> try cases h
  rename_i kind e2
  split at h <;> try cases h
  rename_i a2 l2 e3
  split at h <;> try cases h
  rename_i a3 l3 e4
  split at h <;> try cases h
  rename_i n e5
  split at h <;> try cases h
  rename_i hb
  split at h <;> try cases h
  rename_i p e6
  split at h <;> try cases h
  rename_i l5 e7
  split at h <;> try cases h
  rename_i a6 l6 e8
  split at h <;> try cases h
  rename_i v e9
  obtain ⟨c1, _⟩ := cutAt_some e1
  obtain ⟨n1, n2, _⟩ := numOf_some e2
  obtain ⟨c2, _⟩ := cutAt_some e3
  obtain ⟨c3, _⟩ := cutAt_some e4
  obtain ⟨n3, n4, _⟩ := numOf_some e5
  obtain ⟨n5, n6, _⟩ := numOf_some e9
  obtain ⟨p1, p2⟩ := posOf_some e6
  obtain ⟨u1, _, _, u4⟩ := upTo_some e8
  have hk : ((kind.toNat : Nat) : Int) = kind := by omega
  have hsz : (⟨(l3.take n.toNat).toArray⟩ : ByteArray).size = n.toNat := by rw [bsize, List.length_take]; omega
  have hsn : ((⟨(l3.take n.toNat).toArray⟩ : ByteArray).size : Int) = n := by rw [hsz]; omega
  refine ⟨⟨by show kind.toNat < 256; omega, p2, n5, by show inR ((⟨(l3.take n.toNat).toArray⟩ : ByteArray).size : Int); rw [hsn]; exact n3⟩, ?_, u4⟩
  unfold hdT
  simp only
  rw [hk, hsn, n2, p1, n4, n6, c1, c2, c3]
  have e3 : l3 = l3.take n.toNat ++ 32 :: (a6 ++ r) := by rw [← u1, ← e7, List.take_append_drop]
  simp only [List.append_assoc, List.cons_append]
  rw [← e3]
theorem hd_mk (d : Nd) (r : List UInt8) (h : d.nrm) (hr : ends r) : hd (hdT d ++ r) = some (d, r) := by
  obtain ⟨h1, h2, h3, h4⟩ := h
  obtain ⟨kind, pos, name, n⟩ := d
  simp only at h1 h2 h3 h4
  unfold hd hdT
  simp only [List.append_assoc, List.cons_append]
  rw [cutAt_mk _ (itoa_not _ _ (.inl rfl))]
  simp only
  rw [numOf_itoa (by unfold inR; omega)]
  simp only
  rw [cutAt_mk _ (posT_not _)]
  simp only
  rw [cutAt_mk _ (itoa_not _ _ (.inr (.inl rfl)))]
  simp only
  rw [numOf_itoa h4]
  simp only
  have hns : name.data.toList.length = name.size := by simp
  rw [if_pos (by simp only [List.length_append]; omega), posOf_mk h2]
  simp only
  have hd0 : (name.data.toList ++ 32 :: (Lib.itoa n ++ r)).drop (name.size : Int).toNat = 32 :: (Lib.itoa n ++ r) := by
    rw [Int.toNat_natCast, List.drop_left' hns]
  rw [hd0]
  simp only
  rw [upTo_mk (itoa_not _ _ (.inl rfl)) (itoa_not _ _ (.inr (.inr rfl))) hr]
  simp only
  rw [numOf_itoa h3]
  simp only
  rw [Int.toNat_natCast, Int.toNat_natCast, List.take_left' hns]
end Go.Proofs.YtdpdoigmjnkmdaaDoor.Tr
