/- Tokens and their texts: what is written is read again. Plain. -/
import Derived.Test.YtkiedbanobjmlaaDoorL16
import Derived.Test.YtkiedbanobjmlaaDoorS1
set_option linter.unusedSimpArgs false
set_option linter.unusedVariables false
namespace Go.Proofs.YtkiedbanobjmlaaDoor.Lx
open Go.RowKit
open Pl Fl

/-! ### Digits -/
theorem dec_digs : ∀ n : Nat, Lib.decDigits n = digs 10 n := by
  intro n
  induction n using Nat.strongRecOn with
  | _ n ih =>
    by_cases h : 9 < n
    · rw [dec_big n h, digs_big (by omega) (by omega), ih _ (Nat.div_lt_self (by omega) (by omega))]
      congr 1
      unfold chD
      rw [if_pos (Nat.mod_lt n (by omega))]
    · rw [dec_small n h, digs_small (by omega)]
      unfold chD
      rw [if_pos (by omega)]
theorem oct_digs : ∀ n : Nat, octN n = digs 8 n := by
  intro n
  induction n using Nat.strongRecOn with
  | _ n ih =>
    by_cases h : n < 8
    · rw [octN, dif_pos h, digs_small h]
      unfold chD
      rw [if_pos (by omega)]
    · rw [octN, dif_neg h, digs_big (by omega) (by omega), ih _ (Nat.div_lt_self (by omega) (by omega))]
      congr 1
      unfold chD
      rw [if_pos (by have := Nat.mod_lt n (show 8 > 0 by omega); omega)]
theorem digs_len {B : Nat} (hB : 2 ≤ B) : ∀ (k n : Nat), n < B ^ (k + 1) → (digs B n).length ≤ k + 1 := by
  intro k
  induction k with
  | zero => intro n h; rw [digs_small (by simpa using h)]; simp
  | succ k ih =>
    intro n h
    by_cases hn : n < B
    · rw [digs_small hn]; simp
    · rw [digs_big (by omega) hB, List.length_append]
      have := ih (n / B) (by rw [Nat.div_lt_iff_lt_mul (by omega)]; rw [Nat.pow_succ] at h; exact h)
      simp only [List.length_singleton]
      omega
theorem digs_head {B : Nat} (hB : 2 ≤ B) (h10 : B ≤ 10) (n : Nat) : ∃ c r, digs B n = c :: r ∧ isD c = true := by
  rcases h : digs B n with _ | ⟨c, r⟩
  · exact absurd h (digs_ne B n)
  · exact ⟨c, r, rfl, digs_isD hB h10 n c (by rw [h]; simp)⟩
theorem num_dec {n : Nat} (hn : n ≤ 65535) : NumText (digs 10 n) (some (mkNum 2 n)) := by
  refine ⟨digs_head (by omega) (by omega) n, .inl (digs_isX (by omega) (by omega) n), ?_⟩
  have hv := valR_digs (B := 10) (M := 65535) (by omega) (by omega) (by omega) 0 (n := n) (by omega)
  rw [List.replicate_zero, List.nil_append, if_pos hn] at hv
  unfold numN numX
  have hd : isD ((digs 10 n).getLast?.getD 0) = true := by
    rcases h : (digs 10 n).getLast? with _ | x
    · rw [List.getLast?_eq_none_iff] at h; exact absurd h (digs_ne 10 n)
    · exact digs_isD (by omega) (by omega) n x (List.mem_of_getLast? h)
  have h72 : ¬ (digs 10 n).getLast?.getD 0 = 72 := fun e => by rw [e] at hd; revert hd; decide
  rw [if_neg h72, hv, if_pos (by rfl)]
  rfl
theorem num_oct {n : Nat} (hn : n ≤ 255) : NumText (digs 8 n ++ [67]) (some (mkNum 3 n)) := by
  obtain ⟨c, r, e, hc⟩ := digs_head (B := 8) (by omega) (by omega) n
  refine ⟨⟨c, r ++ [67], by rw [e]; rfl, hc⟩, .inl ?_, ?_⟩
  · intro x hx
    rcases List.mem_append.1 hx with hx | hx
    · exact digs_isX (by omega) (by omega) n x hx
    · rw [List.mem_singleton.1 hx]; rfl
  · have hv := valR_digs (B := 8) (M := 255) (by omega) (by omega) (by omega) 0 (n := n) (by omega)
    rw [List.replicate_zero, List.nil_append, if_pos hn] at hv
    rw [numN_snoc]
    unfold numX
    rw [if_neg (by decide), not10 (by decide), if_neg (by simp), if_neg (by decide), if_pos rfl, hv]
    rfl

/-! ### Tokens that are scanned -/
def symsP : List ByteArray := [⟨#[58, 61]⟩, ⟨#[60, 61]⟩, ⟨#[62, 61]⟩, ⟨#[46, 46]⟩, ⟨#[35]⟩, ⟨#[43]⟩, ⟨#[45]⟩, ⟨#[42]⟩, ⟨#[47]⟩, ⟨#[46]⟩, ⟨#[44]⟩, ⟨#[59]⟩, ⟨#[40]⟩, ⟨#[91]⟩, ⟨#[123]⟩, ⟨#[94]⟩, ⟨#[61]⟩, ⟨#[60]⟩, ⟨#[62]⟩, ⟨#[58]⟩, ⟨#[41]⟩, ⟨#[93]⟩, ⟨#[125]⟩, ⟨#[124]⟩]
inductive TkOK : Tk → Prop
  | name (x : ByteArray) (h0 : ∃ c r, x.data.toList = c :: r ∧ isL c = true) (hp : ∀ c ∈ x.data.toList, isP c = true) (hl : x.data.toList.length ≤ 32) (hw : isW x = false) : TkOK ⟨1, x, 0⟩
  | word (x : ByteArray) (hw : isW x = true) : TkOK ⟨6, x, 0⟩
  | num (n : Nat) (h : n ≤ 65535) : TkOK ⟨2, ⟨#[]⟩, n⟩
  | chr (n : Nat) (h : n ≤ 255) : TkOK ⟨3, ⟨#[]⟩, n⟩
  | str (x : ByteArray) (h10 : 10 ∉ x.data.toList) (hq : 34 ∉ x.data.toList ∨ 39 ∉ x.data.toList) : TkOK ⟨4, x, 0⟩
  | sym (x : ByteArray) (h : x ∈ symsP) : TkOK ⟨5, x, 0⟩
theorem TkOK.kind {t : Tk} (h : TkOK t) : t.kind ≠ 0 ∧ t.kind < 256 := by cases h <;> exact ⟨by simp, by simp⟩
/-- What may stand behind a token's text. -/
def sepR (r : List UInt8) : Prop := r = [] ∨ ∃ c r', r = c :: r' ∧ (c = 32 ∨ c = 10 ∨ c = 9 ∨ c = 40)
theorem sep_not {r : List UInt8} (h : sepR r) : ∀ c, r.head? = some c → isP c = false ∧ isX c = false ∧ c ≠ 72 := by
  intro c hc
  rcases h with rfl | ⟨x, r', rfl, hx⟩
  · cases hc
  · injection hc with hc
    subst hc
    rcases hx with rfl | rfl | rfl | rfl <;> decide
theorem isL_not {c : UInt8} (h : isL c = true) : isB c = false ∧ c ≠ 40 := by
  have h2 := h
  unfold isL at h2
  simp only [Bool.or_eq_true, Bool.and_eq_true, decide_eq_true_eq] at h2
  refine ⟨?_, ?_⟩
  · cases hb : isB c
    · rfl
    · exfalso
      unfold isB at hb
      simp only [Bool.or_eq_true, beq_iff_eq] at hb
      rcases hb with ((rfl | rfl) | rfl) | rfl <;> revert h2 <;> decide
  · rintro rfl; revert h2; decide
theorem item_of_one {s : List UInt8} {c : UInt8} (hh : s.head? = some c) (hb : isB c = false) (h40 : c ≠ 40) : item s = match oneN s with | .error e => .bad e | .ok (t, n) => .tok t n := by
  have h2 : ¬ s.take 2 = [40, 42] := by
    intro e
    rcases s with _ | ⟨a, s⟩
    · cases hh
    · injection hh with hh
      subst hh
      have := congrArg List.head? e
      simp at this
      exact h40 this
  rw [Lx.item, if_neg (by rw [hh]; simp [hb]), if_neg h2] <;> (cases oneN s <;> rfl)
theorem item_name {x : ByteArray} {c : UInt8} {r0 : List UInt8} (h0 : x.data.toList = c :: r0) (hc : isL c = true) (hp : ∀ c ∈ x.data.toList, isP c = true) (hl : x.data.toList.length ≤ 32) {r : List UInt8} (hr : sepR r) : item (x.data.toList ++ r) = .tok ⟨if isW x then 6 else 1, x, 0⟩ x.data.toList.length := by
  obtain ⟨n1, n2⟩ := isL_not hc
  have hh : (x.data.toList ++ r).head? = some c := by rw [h0]; rfl
  rw [item_of_one hh n1 n2]
  have hrun : runN isP (x.data.toList ++ r) = x.data.toList.length := runN_all_eq hp fun y hy => (sep_not hr y hy).1
  have ho : oneN (x.data.toList ++ r) = .ok (⟨if isW x then 6 else 1, x, 0⟩, x.data.toList.length) := by
    unfold oneN
    rw [hh]
    simp only [Option.getD_some, hc, if_true]
    rw [hrun, if_neg (by omega), List.take_left, bt_data]
  rw [ho]
theorem words_ok : ∀ x ∈ words, (∃ c r, x.data.toList = c :: r ∧ isL c = true) ∧ (∀ c ∈ x.data.toList, isP c = true) ∧ x.data.toList.length ≤ 32 := by
  intro x hx
  have h : (words.all fun x => (match x.data.toList with | [] => false | c :: _ => isL c) && x.data.toList.all isP && decide (x.data.toList.length ≤ 32)) = true := by decide +kernel
  have := List.all_eq_true.1 h x hx
  simp only [Bool.and_eq_true, decide_eq_true_eq, List.all_eq_true] at this
  refine ⟨?_, this.1.2, this.2⟩
  have h1 := this.1.1
  rcases he : x.data.toList with _ | ⟨c, r⟩
  · rw [he] at h1; cases h1
  · rw [he] at h1; exact ⟨c, r, rfl, h1⟩
theorem isW_mem {x : ByteArray} (h : isW x = true) : x ∈ words := by
  unfold isW at h
  obtain ⟨y, hy, e⟩ := List.any_eq_true.1 h
  rw [← bytes_ext (eq_of_beq e)]
  exact hy
theorem item_str {x : ByteArray} {q : UInt8} (hq : q = 34 ∨ q = 39) (h10 : 10 ∉ x.data.toList) (hx : q ∉ x.data.toList) (r : List UInt8) : item (q :: (x.data.toList ++ [q]) ++ r) = .tok ⟨4, x, 0⟩ (x.data.toList.length + 2) := by
  have hf : isB q = false ∧ q ≠ 40 ∧ isL q = false ∧ isD q = false := by rcases hq with rfl | rfl <;> decide
  have hh : (q :: (x.data.toList ++ [q]) ++ r).head? = some q := rfl
  rw [item_of_one hh hf.1 hf.2.1]
  have hrun : runN (fun y => y != q && y != 10) (q :: (x.data.toList ++ [q]) ++ r).tail = x.data.toList.length := by
    show runN _ ((x.data.toList ++ [q]) ++ r) = _
    rw [List.append_assoc]
    refine runN_all_eq (fun c hc => ?_) (fun c hc => ?_)
    · have h1 : c ≠ q := fun e => hx (e ▸ hc)
      have h2 : c ≠ 10 := fun e => h10 (e ▸ hc)
      simp [h1, h2]
    · injection hc with hc
      subst hc
      simp
  have hg : (q :: (x.data.toList ++ [q]) ++ r)[1 + x.data.toList.length]? = some q := by
    show (q :: ((x.data.toList ++ [q]) ++ r))[1 + x.data.toList.length]? = some q
    rw [Nat.add_comm, List.getElem?_cons_succ, List.append_assoc, List.getElem?_append_right (Nat.le_refl _), Nat.sub_self]
    rfl
  have hq10 : q ≠ 10 := by rcases hq with rfl | rfl <;> decide
  have ht : ((q :: (x.data.toList ++ [q]) ++ r).take (1 + x.data.toList.length)).drop 1 = x.data.toList := by
    show ((q :: ((x.data.toList ++ [q]) ++ r)).take (1 + x.data.toList.length)).drop 1 = _
    rw [Nat.add_comm, List.take_succ_cons, List.drop_succ_cons, List.drop_zero, List.append_assoc, List.take_left]
  have ho : oneN (q :: (x.data.toList ++ [q]) ++ r) = .ok (⟨4, x, 0⟩, x.data.toList.length + 2) := by
    unfold oneN
    rw [hh]
    simp only [Option.getD_some, hf.2.2.1, hf.2.2.2, Bool.false_eq_true, if_false]
    rw [if_pos hq, hrun, hg, if_neg (by simp [hq10]), ht, bt_data]
    congr 2
    omega
  rw [ho]
theorem item_sym {x : ByteArray} (h : x ∈ symsP) {r : List UInt8} (hr : sepR r) : item (x.data.toList ++ r) = .tok ⟨5, x, 0⟩ x.data.toList.length := by
  simp only [symsP, List.mem_cons, List.not_mem_nil, or_false] at h
  rcases hr with rfl | ⟨c, r', rfl, rfl | rfl | rfl | rfl⟩ <;>
    rcases h with rfl | rfl | rfl | rfl | rfl | rfl | rfl | rfl | rfl | rfl | rfl | rfl | rfl | rfl | rfl | rfl | rfl | rfl | rfl | rfl | rfl | rfl | rfl | rfl <;> rfl
/-- WHAT IS WRITTEN IS READ AGAIN. -/
theorem item_txt {t : Tk} (h : TkOK t) {r : List UInt8} (hr : sepR r) : item (txt t ++ r) = .tok t (txt t).length ∧ txt t ≠ [] := by
  cases h with
  | name x h0 hp hl hw =>
    obtain ⟨c, r0, e, hc⟩ := h0
    have ht : txt ⟨1, x, 0⟩ = x.data.toList := rfl
    rw [ht]
    refine ⟨?_, by rw [e]; simp⟩
    rw [item_name e hc hp hl hr, hw]
    rfl
  | word x hw =>
    obtain ⟨⟨c, r0, e, hc⟩, hp, hl⟩ := words_ok x (isW_mem hw)
    have ht : txt ⟨6, x, 0⟩ = x.data.toList := rfl
    rw [ht]
    refine ⟨?_, by rw [e]; simp⟩
    rw [item_name e hc hp hl hr, hw]
    rfl
  | num n h =>
    have ht : txt ⟨2, ⟨#[]⟩, n⟩ = digs 10 n := by
      show Lib.itoa (n : Int) = _
      rw [Lib.itoa_nonneg, dec_digs]
    rw [ht]
    exact ⟨(num_dec h).item r (fun c hc => ⟨(sep_not hr c hc).2.1, (sep_not hr c hc).2.2⟩), digs_ne _ _⟩
  | chr n h =>
    have ht : txt ⟨3, ⟨#[]⟩, n⟩ = digs 8 n ++ [67] := by
      show octN (n : Int).toNat ++ [67] = _
      rw [Int.toNat_natCast, oct_digs]
    rw [ht]
    exact ⟨(num_oct h).item r (fun c hc => ⟨(sep_not hr c hc).2.1, (sep_not hr c hc).2.2⟩), by simp⟩
  | str x h10 hq =>
    have ht : txt ⟨4, x, 0⟩ = if x.data.toList.contains 34 then 39 :: (x.data.toList ++ [39]) else 34 :: (x.data.toList ++ [34]) := rfl
    rw [ht]
    by_cases h34 : x.data.toList.contains 34 = true
    · rw [if_pos h34]
      have h39 : 39 ∉ x.data.toList := by
        rcases hq with hq | hq
        · exact absurd (by simpa using h34) hq
        · exact hq
      refine ⟨?_, by simp⟩
      rw [item_str (.inr rfl) h10 h39 r]
      simp
    · rw [if_neg h34]
      refine ⟨?_, by simp⟩
      rw [item_str (.inl rfl) h10 (by simpa using h34) r]
      simp
  | sym x h =>
    have ht : txt ⟨5, x, 0⟩ = x.data.toList := rfl
    rw [ht]
    refine ⟨item_sym h hr, ?_⟩
    simp only [symsP, List.mem_cons, List.not_mem_nil, or_false] at h
    rcases h with rfl | rfl | rfl | rfl | rfl | rfl | rfl | rfl | rfl | rfl | rfl | rfl | rfl | rfl | rfl | rfl | rfl | rfl | rfl | rfl | rfl | rfl | rfl | rfl <;> simp
theorem lex_txt {t : Tk} (h : TkOK t) {r : List UInt8} (hr : sepR r) : lex (txt t ++ r) = (lex r).map (t :: ·) := by
  obtain ⟨h1, h2⟩ := item_txt h hr
  rw [lex_tok (by simp [h2]) h1, List.drop_left]
theorem lex_join : ∀ (l : List Tk), (∀ t ∈ l, TkOK t) → lex (Lib.join (l.map txt) [32]) = some l
  | [], _ => rfl
  | [t], h => by
    rw [List.map_cons, List.map_nil, Lib.join_one]
    have := lex_txt (h t (by simp)) (r := []) (.inl rfl)
    rw [List.append_nil] at this
    rw [this]
    rfl
  | t :: t2 :: l, h => by
    have e : Lib.join ((t :: t2 :: l).map txt) [32] = txt t ++ 32 :: Lib.join ((t2 :: l).map txt) [32] := by
      simp [Lib.join, List.intercalate, List.intersperse]
    rw [e, lex_txt (h t (by simp)) (.inr ⟨32, _, rfl, .inl rfl⟩), lex_sp, lex_join (t2 :: l) fun x hx => h x (List.mem_cons_of_mem _ hx)]
    rfl
end Go.Proofs.YtkiedbanobjmlaaDoor.Lx
