/- The walks of Row, Expr, Designator, Qualident, Labels, does. The walk of works. -/
import Derived.Test.YtecmjhohniipoaaE26
import Derived.Test.YtecmjhohniipoaaF4
import Derived.Test.YtecmjhohniipoaaR11
set_option linter.unusedSimpArgs false
set_option linter.unusedVariables false

namespace Go.Proofs.Ytecmjhohniipoaa.Ex
open Go.RowKit
open Tr (Nd Fo RepS RepN Rep)
open Lx (Tk noTk Blk run_store_complexL TokAt scanL flat scanEnd at_ flat_len)
open Fl
attribute [local go_sem] run_store_complexL run_field1 run_field3

/-- A row of tokens in memory. -/
structure RowAt (w : World) (A : Option Addr) (L : List PT) : Prop where
  reads : Reads w w.heap.size 5 A L.length (flatP L)
  low : ∀ ad, A = some ad → ad.block < w.heap.size
  len : L.length ≤ 20000
theorem RowAt.below {w w' : World} {A : Option Addr} {L : List PT} (h : RowAt w A L) (hb : Below w.heap.size w w') : RowAt w' A L :=
  ⟨(h.reads.below hb).more hb.size, fun ad e => Nat.lt_of_lt_of_le (h.low ad e) hb.size, h.len⟩
theorem reads_front {w : World} {B m n : Nat} {A : Option Addr} {xs ys : List Value} (h : Reads w B 5 A n (xs ++ ys)) (hm : xs.length = m * 5) (hmn : m ≤ n) : Reads w B 5 A m xs :=
  ⟨hm, fun h0 => by
    obtain ⟨ad, e, hb, hc⟩ := h.2 (by omega)
    refine ⟨ad, e, hb, fun j u hu => hc j u ?_⟩
    obtain ⟨hj, _⟩ := List.getElem?_eq_some_iff.1 hu
    rw [List.getElem?_append_left hj]; exact hu⟩
theorem scanF_len : ∀ (f i : Nat) (s : List UInt8) (l : List Lx.Tok), s.length < f → Lx.scanF f i s = .ok l → 1 ≤ l.length ∧ l.length ≤ s.length + 1 := by
  intro f
  induction f with
  | zero => intro i s l h; omega
  | succ f ih =>
    intro i s l h e
    unfold Lx.scanF at e
    by_cases hs : s = []
    · rw [if_pos hs] at e; cases e; simp
    · rw [if_neg hs] at e
      obtain ⟨h1, h2⟩ := Lx.item_bd s hs
      cases e1 : Lx.item s with
      | bad k => rw [e1] at e; cases e
      | blank n =>
        have := h1 n e1
        rw [e1] at e
        have := ih _ _ _ (by rw [List.length_drop]; omega) e
        rw [List.length_drop] at this
        omega
      | tok t n =>
        have h3 := h2 t n e1
        rw [e1] at e
        dsimp only at e
        cases e2 : Lx.scanF f (i + n) (s.drop n) with
        | error k => rw [e2] at e; cases e
        | ok l2 =>
          rw [e2] at e
          cases e
          have := ih _ _ _ (by rw [List.length_drop]; omega) e2
          rw [List.length_drop] at this
          simp only [List.length_cons]
          omega
theorem scanL_len {s : List UInt8} {l : List Lx.Tok} (h : scanL s = .ok l) : 1 ≤ l.length ∧ l.length ≤ 16385 ∧ s.length ≤ 16384 := by
  unfold scanL at h
  split at h
  · cases h
  · have := scanF_len _ _ _ _ (Nat.lt_succ_self _) h
    omega
theorem flatP_row {s : List UInt8} {l : List Lx.Tok} (h : scanL s = .ok l) : rowP s = l.dropLast.map (fun x => (x.1, at_ s x.2.1, at_ s x.2.2)) := by
  unfold rowP; rw [h]
theorem flat_snoc_last {s : List UInt8} {l : List Lx.Tok} (h : scanL s = .ok l) : ∃ ys, flat s l = flatP (rowP s) ++ ys ∧ (rowP s).length + 1 = l.length := by
  have hl := scanL_len h
  rw [flatP_row h]
  obtain ⟨l1, x, rfl⟩ : ∃ l1 x, l = l1 ++ [x] := by
    rcases List.eq_nil_or_concat l with e | ⟨l1, x, e⟩
    · subst e; simp at hl
    · exact ⟨l1, x, by simpa using e⟩
  refine ⟨Lx.Tok.vals s x, ?_, by simp⟩
  rw [Lx.flat_snoc, List.dropLast_concat]
  congr 1
  simp only [flat, flatP, List.flatMap_map]
  rfl
theorem rowP_len (s : List UInt8) : (rowP s).length ≤ 16384 := by
  unfold rowP
  cases h : scanL s with
  | error k => simp
  | ok l =>
    have := scanL_len h
    simp
    omega
theorem item_err (s : List UInt8) (k : Nat) (h : Lx.item s = .bad k) : k ≠ 0 := by
  unfold Lx.item at h
  split at h
  · cases h
  · split at h
    · split at h
      · injection h with h; omega
      · cases h
    · split at h
      · rename_i e
        injection h with h
        have := Lx.oneN_err _ _ e
        omega
      · cases h
theorem scanF_err : ∀ (f i : Nat) (s : List UInt8) (j k : Nat), s.length < f → Lx.scanF f i s = .error (j, k) → k ≠ 0 := by
  intro f
  induction f with
  | zero => intro i s j k h; omega
  | succ f ih =>
    intro i s j k h e
    unfold Lx.scanF at e
    by_cases hs : s = []
    · rw [if_pos hs] at e; cases e
    · rw [if_neg hs] at e
      obtain ⟨h1, h2⟩ := Lx.item_bd s hs
      cases e1 : Lx.item s with
      | bad k' => rw [e1] at e; cases e; exact item_err s k e1
      | blank n =>
        have := h1 n e1
        rw [e1] at e
        exact ih _ _ _ _ (by rw [List.length_drop]; omega) e
      | tok t n =>
        have h3 := h2 t n e1
        rw [e1] at e
        dsimp only at e
        cases e2 : Lx.scanF f (i + n) (s.drop n) with
        | error k' =>
          rw [e2] at e
          cases e
          exact ih _ _ _ _ (by rw [List.length_drop]; omega) e2
        | ok l2 => rw [e2] at e; cases e
theorem scanL_err {s : List UInt8} {j k : Nat} (h : scanL s = .error (j, k)) : k ≠ 0 := by
  unfold scanL at h
  split at h
  · cases h; omega
  · exact scanF_err _ _ _ _ _ (Nat.lt_succ_self _) h
theorem RowAt.take {w : World} {A : Option Addr} {L : List PT} (h : RowAt w A L) {m : Nat} (hm : m ≤ L.length) : RowAt w A (L.take m) := by
  have hl : (L.take m).length = m := by rw [List.length_take]; omega
  refine ⟨?_, h.low, by rw [hl]; have := h.len; omega⟩
  rw [hl]
  refine reads_front (n := L.length) (ys := flatP (L.drop m)) ?_ (by rw [flatP_len, hl]) hm
  have : flatP (L.take m) ++ flatP (L.drop m) = flatP L := by
    simp only [flatP]
    rw [← List.flatMap_append, List.take_append_drop]
  rw [this]
  exact h.reads
/-- What Row hands back. -/
def RowR (w : World) (L : List PT) (e : Ending) (w' : World) : Prop := ∃ A c, e = .returned (.slice A L.length c) ∧ L.length ≤ c ∧ RowAt w' A L ∧ Below w.heap.size w w'
set_option maxHeartbeats 1600000 in
theorem row_any (s : ByteArray) (hs : s.size ≤ 9223372036854775800) (w : World) : Calls Try.prog 9 #[.string s] w (RowR w (rowP s.data.toList)) := by
  have d1 := Lx.rScan_any s hs w
  cases hx : scanL s.data.toList with
  | error x =>
    obtain ⟨i, k⟩ := x
    rw [hx] at d1
    have HR := Lib.hid (show rowP s.data.toList = [] by unfold rowP; rw [hx])
    have hk0 := scanL_err hx
    have b1 : ((k : Int) == 0) = false := by simp only [beq_eq_false_iff_ne, ne_eq]; omega
    have b2 : ((k : Int) != 0) = true := by simp [bne, b1]
    have D1 := Lib.hid d1
    clear d1 hx hk0
    go_enter Try.func9, Try.ntmps9
    go_wp2_with fail
    ((with_reducible refine D1.out.mono ?_); rintro e w1 ⟨rfl, hb⟩)
    have HB := Lib.hid hb
    clear hb
    go_wp2
    go_ret
    rw [HR.out]
    exact ⟨none, 0, rfl, Nat.le_refl _, ⟨Reads.none_, (fun ad e => by cases e), by simp⟩, HB.out⟩
  | ok l =>
    rw [hx] at d1
    have hl := scanL_len hx
    obtain ⟨ys, hf, hn⟩ := flat_snoc_last hx
    have HF := Lib.hid hf
    have HN := Lib.hid hn
    have x1 : (1 : Int) ≤ (l.length : Int) := by omega
    have D1 := Lib.hid d1
    have hlr := rowP_len s.data.toList
    clear d1 hx hf hn
    go_enter Try.func9, Try.ntmps9
    go_wp2_with fail
    ((with_reducible refine D1.out.mono ?_); rintro e w1 ⟨g, cap, rfl, hown, hb⟩)
    have HB := Lib.hid hb
    have RD := Lib.hid (Reads.of_own hown)
    have hcap : l.length ≤ cap := by
      rcases hown.2 with ⟨h0, _⟩ | ⟨g', cap', cur, e1, h3, h4⟩
      · cases h0
      · injection e1 with e1 e2 e3
        subst e3
        first | exact h4.1 | omega
    have hlt := (hown.lt g rfl).2
    clear hb hown
    go_wp2
    go_ret
    have hz : l.length - 1 = (rowP s.data.toList).length := by have := HN.out; omega
    refine ⟨some ⟨g, 0, none⟩, cap, by rw [← hz]; rfl, by omega, ⟨reads_front (n := l.length) (ys := ys) (by rw [← HF.out]; exact RD.out) (flatP_len _) (by omega), (fun ad e => by injection e with e; subst e; exact hlt), by omega⟩, HB.out⟩
section
variable {w : World} {A : Option Addr} {L : List PT} (h : RowAt w A L) (c : Nat) {i : Nat} (hi : i ≤ 60000)
include h hi
theorem parE_any : Calls Try.prog 73 #[.slice A L.length c, .int .i64 i, .func (.func 85) #[] #[]] w (ParR w (exprP L i)) :=
  parse_expr exprP (fun w0 br c A L ht => expr_all ht) A c L i hi h.len w h.reads h.low
theorem parD_any : Calls Try.prog 73 #[.slice A L.length c, .int .i64 i, .func (.func 78) #[] #[]] w (ParR w (designP L (exprP L) i)) :=
  parse_designator (fun L => designP L (exprP L)) (fun w0 br c A L ht => design_all ht) A c L i hi h.len w h.reads h.low
theorem parQ_any : Calls Try.prog 73 #[.slice A L.length c, .int .i64 i, .func (.func 88) #[] #[]] w (ParR w (qualP L i)) :=
  parse_qualident (fun L => qualP L) (fun w0 br c A L ht j _ hj w hw => qual_any ht (by omega) w hw) A c L i hi h.len w h.reads h.low
theorem parL_any : Calls Try.prog 73 #[.slice A L.length c, .int .i64 i, .func (.func 74) #[] #[]] w (ParR w (labelsP L i)) :=
  parse_labels labelsP (fun w0 br c A L ht => labels1_any ht) A c L i hi h.len w h.reads h.low
end
theorem par_split {w : World} {r : Except Nat (T1 × Nat)} {F : Nat} {args : Array Value} (h : Calls Try.prog F args w (ParR w r)) :
    Calls Try.prog F args w fun e w' => ∃ (v j k : Value), e = .returned (.tuple #[v, j, k]) ∧ Hid (ParR w r (.returned (.tuple #[v, j, k])) w') := by
  refine h.mono fun e w' h => ?_
  cases r with
  | error k => obtain ⟨rfl, hb⟩ := h; exact ⟨_, _, _, rfl, Lib.hid ⟨rfl, hb⟩⟩
  | ok x =>
    obtain ⟨x, j⟩ := x
    obtain ⟨b, rfl, hr, hb⟩ := h
    exact ⟨_, _, _, rfl, Lib.hid ⟨b, rfl, hr, hb⟩⟩
set_option maxHeartbeats 1600000 in
theorem Expr_any {w : World} {A : Option Addr} {L : List PT} (h : RowAt w A L) (c : Nat) {i : Nat} (hi : i ≤ 60000) : Calls Try.prog 72 #[.slice A L.length c, .int .i64 i] w (ParR w (exprP L i)) := by
  have D1 := Lib.hid (par_split (parE_any h c hi))
  clear h
  generalize exprP L i = r at *
  go_enter Try.func72, Try.ntmps72
  go_wp2_with fail
  ((with_reducible refine D1.out.mono ?_); rintro e w1 ⟨v, j, k, rfl, HP⟩)
  go_wp2
  go_ret3
  exact HP.out
set_option maxHeartbeats 1600000 in
theorem Design_any {w : World} {A : Option Addr} {L : List PT} (h : RowAt w A L) (c : Nat) {i : Nat} (hi : i ≤ 60000) : Calls Try.prog 58 #[.slice A L.length c, .int .i64 i] w (ParR w (designP L (exprP L) i)) := by
  have D1 := Lib.hid (par_split (parD_any h c hi))
  clear h
  generalize designP L (exprP L) i = r at *
  go_enter Try.func58, Try.ntmps58
  go_wp2_with fail
  ((with_reducible refine D1.out.mono ?_); rintro e w1 ⟨v, j, k, rfl, HP⟩)
  go_wp2
  go_ret3
  exact HP.out
set_option maxHeartbeats 1600000 in
theorem Labels_any {w : World} {A : Option Addr} {L : List PT} (h : RowAt w A L) (c : Nat) {i : Nat} (hi : i ≤ 60000) : Calls Try.prog 56 #[.slice A L.length c, .int .i64 i] w (ParR w (labelsP L i)) := by
  have D1 := Lib.hid (par_split (parL_any h c hi))
  clear h
  generalize labelsP L i = r at *
  go_enter Try.func56, Try.ntmps56
  go_wp2_with fail
  ((with_reducible refine D1.out.mono ?_); rintro e w1 ⟨v, j, k, rfl, HP⟩)
  go_wp2
  go_ret3
  exact HP.out
/-- The four, by their number. -/
def doP (L : List PT) (i : Nat) : Nat → Except Nat (T1 × Nat)
  | 0 => exprP L i
  | 1 => designP L (exprP L) i
  | 2 => qualP L i
  | _ => labelsP L i
theorem doP_cut (L : List PT) (m i k : Nat) (hi : i ≤ m) (hm : m ≤ L.length) : Lock m (doP L i k) (doP (L.take m) i k) := by
  rcases k with _ | _ | _ | k
  · exact expr_cut L m i hi hm
  · exact design_cut L m i hi hm
  · exact qual_cut L m i hi hm
  · exact labels_cut L m i hi hm
theorem doP_len (L : List PT) (k : Nat) : posE (doP L 0 k) ≤ L.length := by
  have h := doP_cut L L.length 0 k (Nat.zero_le _) (Nat.le_refl _)
  rw [List.take_length] at h
  rcases h with ⟨_, h⟩ | ⟨h, _⟩
  · cases e : doP L 0 k with
    | error j => rw [e] at h; exact Nat.le_of_lt h
    | ok x => obtain ⟨x, j⟩ := x; rw [e] at h; exact h
  · exact Nat.le_of_eq h
theorem doP_err {L : List PT} {k n : Nat} (h : doP L 0 k = .error n) (hn : n < L.length) : doP (L.take (n + 1)) 0 k = .error n := by
  rcases doP_cut L (n + 1) 0 k (Nat.zero_le _) hn with ⟨h1, _⟩ | ⟨_, h2⟩
  · rw [h1, h]
  · rw [h] at h2
    have h3 : n + 1 ≤ n := h2
    omega
theorem doP_at {L : List PT} {k m : Nat} (hm : m ≤ posE (doP L 0 k)) : (∃ y j, doP (L.take m) 0 k = .ok (y, j) ∧ j ≤ m) ∨ doP (L.take m) 0 k = .error m := by
  have hl := doP_len L k
  rcases doP_cut L m 0 k (Nat.zero_le _) (by omega) with ⟨h1, h2⟩ | ⟨h1, _⟩
  · rw [h1]
    cases e : doP L 0 k with
    | error j =>
      rw [e] at h2 hm
      have h3 : j < m := h2
      have h4 : m ≤ j := hm
      omega
    | ok x => obtain ⟨x, j⟩ := x; rw [e] at h2; exact .inl ⟨x, j, rfl, h2⟩
  · cases e : doP (L.take m) 0 k with
    | error j => rw [e] at h1; exact .inr (by rw [show j = m from h1])
    | ok x => obtain ⟨x, j⟩ := x; rw [e] at h1; exact .inl ⟨x, j, rfl, Nat.le_of_eq h1⟩
end Go.Proofs.Ytecmjhohniipoaa.Ex

namespace Go.Proofs.Ytecmjhohniipoaa.Ex
open Go.RowKit
open Tr (Nd Fo RepS RepN Rep)
open Lx (Tk noTk Blk run_store_complexL TokAt scanL flat scanEnd at_ flat_len)
open Fl
attribute [local go_sem] run_store_complexL run_field1 run_field3

abbrev txt1 : ByteArray := ⟨#[97, 32, 45, 32, 98, 32, 42, 32, 99]⟩
abbrev txt2 : ByteArray := ⟨#[112, 94, 46, 120, 91, 105, 44, 32, 50, 93, 32, 58, 61, 32, 49]⟩
abbrev txt3 : ByteArray := ⟨#[40, 97]⟩
def rootIs (r : Except Nat (T1 × Nat)) (kind j : Nat) (name : ByteArray) : Bool := match r with
  | .ok (x, j') => decide (x.1.kind = kind) && decide (x.1.name = name) && decide (j' = j)
  | .error _ => false
def errIs (r : Except Nat (T1 × Nat)) (k : Nat) : Bool := match r with
  | .ok _ => false
  | .error k' => decide (k' = k)
theorem work1 : rootIs (exprP (rowP txt1.data.toList) 0) 11 5 ⟨#[45]⟩ = true := by decide +kernel
theorem work2 : rootIs (designP (rowP txt2.data.toList) (exprP (rowP txt2.data.toList)) 0) 3 9 ⟨#[]⟩ = true := by decide +kernel
theorem work3 : errIs (exprP (rowP txt3.data.toList) 0) 2 = true := by decide +kernel
theorem rootIs_ok {r : Except Nat (T1 × Nat)} {kind j : Nat} {name : ByteArray} (h : rootIs r kind j name = true) : ∃ x : T1, r = .ok (x, j) ∧ x.1.kind = kind ∧ x.1.name = name := by
  unfold rootIs at h
  cases r with
  | error k => cases h
  | ok x =>
    obtain ⟨x, j'⟩ := x
    simp only [Bool.and_eq_true, decide_eq_true_eq] at h
    exact ⟨x, by rw [h.2], h.1.1, h.1.2⟩
theorem errIs_ok {r : Except Nat (T1 × Nat)} {k : Nat} (h : errIs r k = true) : r = .error k := by
  unfold errIs at h
  cases r with
  | error k' => simp only [decide_eq_true_eq] at h; rw [h]
  | ok x => cases h
/-- The root of a tree in memory. -/
theorem rep_root {S : Nat → Prop} {w : World} {d : Nd} {k r : Fo} {b : Nat} {vs : List Value} (h : RepS S w (.node d k r) (.pointer (some ⟨b, 0, none⟩) :: vs)) : w.cell? ⟨b, 0, none⟩ = some (.int .u8 d.kind) ∧ w.cell? ⟨b, 2, none⟩ = some (.string d.name) ∧ S b ∧ b < w.heap.size := by
  unfold RepS at h
  obtain ⟨b', A, c, ks, vs', e, hS, ⟨h0, h1, h2, h3, h4⟩, _⟩ := h
  injection e with e _
  injection e with e
  injection e with e
  injection e with e
  subst e
  exact ⟨h0, h2, hS, Tr.cell_lt h0⟩
theorem Expr_0 {w : World} {A : Option Addr} {L : List PT} (h : RowAt w A L) (c : Nat) : Calls Try.prog 72 #[.slice A L.length c, .int .i64 0] w (ParR w (exprP L 0)) := Expr_any h c (i := 0) (by omega)
theorem Design_0 {w : World} {A : Option Addr} {L : List PT} (h : RowAt w A L) (c : Nat) : Calls Try.prog 58 #[.slice A L.length c, .int .i64 0] w (ParR w (designP L (exprP L) 0)) := Design_any h c (i := 0) (by omega)
theorem row_at (s : ByteArray) (hs : s.size ≤ 9223372036854775800) (L : List PT) (hL : rowP s.data.toList = L) (w : World) : Calls Try.prog 9 #[.string s] w (RowR w L) := hL ▸ row_any s hs w
end Go.Proofs.Ytecmjhohniipoaa.Ex
