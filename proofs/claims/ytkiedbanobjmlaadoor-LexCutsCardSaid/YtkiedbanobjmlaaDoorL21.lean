/- Tokens that are scanned may be written; blanks between them make no difference. Plain. -/
import Derived.Test.YtkiedbanobjmlaaDoorL17
set_option linter.unusedSimpArgs false
set_option linter.unusedVariables false
namespace Go.Proofs.YtkiedbanobjmlaaDoor.Lx
open Go.RowKit
open Pl Fl

theorem valN_le : ∀ (l : List UInt8) (B M n v : Nat), valN B M n l = some v → v ≤ M
  | [], B, M, n, v, h => by
    unfold valN at h
    split at h
    · injection h with h; omega
    · cases h
  | c :: l, B, M, n, v, h => by
    unfold valN at h
    split at h
    · cases h
    · exact valN_le l _ _ _ _ h
theorem valR_le {B M v : Nat} {l : List UInt8} (h : valR B M l = some v) : v ≤ M := by
  unfold valR at h
  split at h
  · cases h
  · exact valN_le _ _ _ _ _ h
theorem numN_ok {l : List UInt8} {t : Tk} (h : numN l = some t) : (∃ v, v ≤ 65535 ∧ t = mkNum 2 v) ∨ (∃ v, v ≤ 255 ∧ t = mkNum 3 v) := by
  unfold numN numX at h
  split at h
  · obtain ⟨v, hv, rfl⟩ := Option.map_eq_some_iff.1 h
    exact .inl ⟨v, valR_le hv, rfl⟩
  · split at h
    · obtain ⟨v, hv, rfl⟩ := Option.map_eq_some_iff.1 h
      exact .inl ⟨v, valR_le hv, rfl⟩
    · split at h
      · obtain ⟨v, hv, rfl⟩ := Option.map_eq_some_iff.1 h
        exact .inl ⟨v, valR_le hv, rfl⟩
      · split at h
        · obtain ⟨v, hv, rfl⟩ := Option.map_eq_some_iff.1 h
          exact .inr ⟨v, valR_le hv, rfl⟩
        · cases h
theorem txt_num (v : Nat) : txt (mkNum 2 v) = digs 10 v := by
  show Lib.itoa (v : Int) = _
  rw [Lib.itoa_nonneg, dec_digs]
theorem txt_chr (v : Nat) : txt (mkNum 3 v) = digs 8 v ++ [67] := by
  show octN (v : Int).toNat ++ [67] = _
  rw [Int.toNat_natCast, oct_digs]
theorem num_one {c : UInt8} (hc : isD c = true) {t : Tk} (h : numN [c] = some t) : (txt t).length ≤ 3 := by
  have h2 := hc
  unfold isD at h2
  simp only [Bool.and_eq_true, decide_eq_true_eq] at h2
  have hd : dgt c = c.toNat - 48 := by unfold dgt; rw [if_neg (by omega)]
  have hv : valR 10 65535 [c] = some (dgt c) := by
    unfold valR
    rw [if_neg (by simp)]
    unfold valN
    rw [if_neg (by omega)]
    unfold valN
    rw [if_pos (by omega)]
    simp
  have h72 : c ≠ 72 := by rintro rfl; revert hc; decide
  have : numN [c] = some (mkNum 2 (dgt c)) := by
    have e := numN_snoc [] c
    rw [List.nil_append] at e
    rw [e]
    unfold numX
    rw [if_neg h72, hv, if_pos (by rfl)]
    rfl
  rw [this] at h
  injection h with h
  subst h
  rw [txt_num, digs_small (by omega)]
  simp
theorem ok_of5 {t : Tk} (h : t.kind = 5 ∧ t.n = 0 ∧ (symsP.any fun y => y.data.toList == t.text.data.toList) = true ∧ t.text.data.toList.length ≤ 3) : TkOK t ∧ (txt t).length ≤ 3 := by
  obtain ⟨k, x, n⟩ := t
  obtain ⟨rfl, rfl, h, hl⟩ := h
  obtain ⟨y, hy, e⟩ := List.any_eq_true.1 h
  have e2 : y = x := bytes_ext (eq_of_beq e)
  exact ⟨.sym x (e2 ▸ hy), hl⟩
theorem ok_of6 {t : Tk} (h : t.kind = 6 ∧ t.n = 0 ∧ isW t.text = true ∧ t.text.data.toList.length ≤ 3) : TkOK t ∧ (txt t).length ≤ 3 := by
  obtain ⟨k, x, n⟩ := t
  obtain ⟨rfl, rfl, h, hl⟩ := h
  exact ⟨.word x h, hl⟩
theorem sym_one : ∀ c ∈ ones, TkOK (plainT (bt [c])) ∧ (txt (plainT (bt [c]))).length ≤ 3 := by
  intro c hc
  simp only [ones, List.mem_cons, List.not_mem_nil, or_false] at hc
  rcases hc with rfl | rfl | rfl | rfl | rfl | rfl | rfl | rfl | rfl | rfl | rfl | rfl | rfl | rfl | rfl | rfl | rfl | rfl | rfl | rfl | rfl | rfl <;>
    first
    | exact ok_of5 (by decide +kernel)
    | exact ok_of6 (by decide +kernel)
theorem sym_two : ∀ x ∈ twos, TkOK (plainT x) ∧ (txt (plainT x)).length ≤ 3 := by
  intro c hc
  simp only [twos, List.mem_cons, List.not_mem_nil, or_false] at hc
  rcases hc with rfl | rfl | rfl | rfl | rfl <;> exact ok_of5 (by decide +kernel)
/-- A token that is scanned may be written, in at most three bytes for one. -/
theorem oneN_ok {s : List UInt8} (hs : s ≠ []) {t : Tk} {n : Nat} (h : oneN s = .ok (t, n)) : TkOK t ∧ (txt t).length ≤ 3 * n := by
  have hbd := oneN_bd s hs t n h
  obtain ⟨c, r, rfl⟩ : ∃ c r, s = c :: r := by
    rcases s with _ | ⟨c, r⟩
    · exact absurd rfl hs
    · exact ⟨c, r, rfl⟩
  unfold oneN at h
  dsimp only [List.head?_cons, Option.getD_some, List.tail_cons] at h
  split at h
  · rename_i hc
    split at h
    · cases h
    · rename_i h32
      injection h with h
      injection h with h1 h2
      subst h1 h2
      have hall : ∀ y ∈ (bt ((c :: r).take (runN isP (c :: r)))).data.toList, isP y = true := by
        intro y hy
        have : (bt ((c :: r).take (runN isP (c :: r)))).data.toList = (c :: r).take (runN isP (c :: r)) := by simp [bt]
        rw [this] at hy
        exact runN_all isP _ y hy
      have hlen : (bt ((c :: r).take (runN isP (c :: r)))).data.toList.length = runN isP (c :: r) := by
        have := runN_le isP (c :: r)
        show ((c :: r).take (runN isP (c :: r))).toArray.toList.length = _
        rw [List.toList_toArray, List.length_take]
        omega
      have hhd : ∃ d q, (bt ((c :: r).take (runN isP (c :: r)))).data.toList = d :: q ∧ isL d = true := by
        obtain ⟨m, hm⟩ : ∃ m, runN isP (c :: r) = m + 1 := ⟨_, by rw [runN_yes (by unfold isP; rw [hc]; rfl)]⟩
        rw [hm]
        exact ⟨c, r.take m, rfl, hc⟩
      cases hw : isW (bt ((c :: r).take (runN isP (c :: r))))
      · refine ⟨.name _ hhd hall (by omega) hw, ?_⟩
        show (bt _).data.toList.length ≤ _
        omega
      · refine ⟨.word _ hw, ?_⟩
        show (bt _).data.toList.length ≤ _
        omega
  · split at h
    · rename_i hd
      split at h
      · cases h
      · rename_i t' hn
        injection h with h
        injection h with h1 h2
        subst h1
        have hone : n = 1 → (txt t').length ≤ 3 := by
          intro e
          rw [h2, e] at hn
          exact num_one hd hn
        rcases numN_ok hn with ⟨v, hv, rfl⟩ | ⟨v, hv, rfl⟩
        · refine ⟨.num v hv, ?_⟩
          rcases Nat.lt_or_ge n 2 with h3 | h3
          · have := hone (by omega); omega
          · rw [txt_num]
            have := digs_len (B := 10) (by omega) 4 v (by omega)
            omega
        · refine ⟨.chr v hv, ?_⟩
          rcases Nat.lt_or_ge n 2 with h3 | h3
          · have := hone (by omega); omega
          · rw [txt_chr, List.length_append]
            have := digs_len (B := 8) (by omega) 2 v (by omega)
            simp only [List.length_singleton]
            omega
    · split at h
      · rename_i hq
        split at h
        · cases h
        · injection h with h
          injection h with h1 h2
          have hx : (bt (((c :: r).take (1 + runN (fun x => x != c && x != 10) r)).drop 1)).data.toList = r.take (runN (fun x => x != c && x != 10) r) := by
            rw [Nat.add_comm, List.take_succ_cons, List.drop_succ_cons, List.drop_zero]
            simp [bt]
          have hall := runN_all (fun x => x != c && x != 10) r
          rw [← hx] at hall
          have hlen : (bt (((c :: r).take (1 + runN (fun x => x != c && x != 10) r)).drop 1)).data.toList.length = runN (fun x => x != c && x != 10) r := by
            have := runN_le (fun x => x != c && x != 10) r
            rw [hx, List.length_take]
            omega
          generalize bt (((c :: r).take (1 + runN (fun x => x != c && x != 10) r)).drop 1) = x at *
          subst h1
          have hno : c ∉ x.data.toList := fun hm => by have := hall c hm; simp at this
          refine ⟨.str x (fun hm => by have := hall 10 hm; simp at this) (hq.imp (fun e => by rw [← e]; exact hno) (fun e => by rw [← e]; exact hno)), ?_⟩
          have : (txt ⟨4, x, 0⟩).length = x.data.toList.length + 2 := by
            have e4 : txt ⟨4, x, 0⟩ = if x.data.toList.contains 34 then 39 :: (x.data.toList ++ [39]) else 34 :: (x.data.toList ++ [34]) := rfl
            rw [e4]
            split <;> simp
          rw [this]
          omega
      · split at h
        · cases h
        · rename_i h0
          injection h with h
          injection h with h1 h2
          subst h2
          unfold symN at h1 h0
          have key : TkOK t ∧ (txt t).length ≤ 3 := by
            rw [← h1]
            by_cases htw : (twos.any fun x => x.data.toList == (c :: r).take 2) = true
            · rw [if_pos htw]
              obtain ⟨x, hx, e⟩ := List.any_eq_true.1 htw
              have e2 := eq_of_beq e
              rw [← e2, bt_data]
              exact sym_two x hx
            · rw [if_neg htw] at h0 ⊢
              by_cases hon : (ones.any fun x => (c :: r).head? == some x) = true
              · rw [if_pos hon]
                obtain ⟨x, hx, e⟩ := List.any_eq_true.1 hon
                have e2 := eq_of_beq e
                injection e2 with e2
                subst e2
                exact sym_one c hx
              · rw [if_neg hon] at h0; exact absurd rfl h0
          exact ⟨key.1, by have := key.2; omega⟩
/-- The tokens of a source: the end's behind all, each other one may be written; so much text. -/
theorem scanF_ok : ∀ (f i : Nat) (s : List UInt8) (l : List Tok), scanF f i s = .ok l → ∃ l' : List Tok, ∃ j, l = l' ++ [(noTk, j, j)] ∧ (∀ t ∈ l', TkOK t.1) ∧ (l'.map fun t => (txt t.1).length + 1).sum ≤ 4 * s.length ∧ l'.length ≤ s.length := by
  intro f
  induction f with
  | zero => intro i s l h; unfold scanF at h; cases h
  | succ f ih =>
    intro i s l h
    unfold scanF at h
    split at h
    · injection h with h; subst h; exact ⟨[], i, rfl, by simp, by simp, by simp⟩
    · rename_i hs
      obtain ⟨b1, b2⟩ := item_bd s hs
      split at h
      · cases h
      · rename_i n hi
        have hb := b1 n hi
        obtain ⟨l', j, h1, h2, h3, h4⟩ := ih _ _ _ h
        rw [List.length_drop] at h3 h4
        exact ⟨l', j, h1, h2, by omega, by omega⟩
      · rename_i t n hi
        have hb := b2 t n hi
        cases e : scanF f (i + n) (s.drop n) with
        | error k => rw [e] at h; cases h
        | ok l0 =>
          rw [e] at h
          injection h with h
          subst h
          obtain ⟨l', j, h1, h2, h3, h4⟩ := ih _ _ _ e
          rw [List.length_drop] at h3 h4
          have ho : oneN s = .ok (t, n) := by
            unfold item at hi
            split at hi
            · cases hi
            · split at hi
              · split at hi
                · cases hi
                · cases hi
              · split at hi
                · cases hi
                · rename_i t' n' e'
                  injection hi with e1 e2
                  rw [e', e1, e2]
          have hk := oneN_ok hs ho
          refine ⟨(t, i, i + n) :: l', j, by rw [h1]; rfl, ?_, ?_, by simp only [List.length_cons]; omega⟩
          · intro x hx
            rcases List.mem_cons.1 hx with rfl | hx
            · exact hk.1
            · exact h2 x hx
          · simp only [List.map_cons, List.sum_cons]
            have := hk.2
            omega
theorem scanL_ok {s : List UInt8} {l : List Tok} (h : scanL s = .ok l) : ∃ l' : List Tok, ∃ j, l = l' ++ [(noTk, j, j)] ∧ (∀ t ∈ l', TkOK t.1) ∧ (l'.map fun t => (txt t.1).length + 1).sum ≤ 4 * s.length ∧ l'.length ≤ s.length := by
  unfold scanL at h
  split at h
  · cases h
  · exact scanF_ok _ _ _ _ h
/-- A text whose tokens are known, without places, is scanned as them. -/
theorem scan_of_lex {s : List UInt8} {L : List Tk} (h : lex s = some L) (hs : s.length ≤ 16384) : ∃ l, scanL s = .ok l ∧ l.map (·.1) = L ++ [noTk] := by
  have h2 := scan_lex hs
  rw [h] at h2
  cases e : scanL s with
  | error k => rw [e] at h2; cases h2
  | ok l =>
    rw [e] at h2
    injection h2 with h2
    obtain ⟨l', j, rfl, _⟩ := scanL_ok e
    refine ⟨_, rfl, ?_⟩
    rw [List.dropLast_concat] at h2
    rw [h2, List.map_append]
    rfl
/-! ### Blanks -/
def blks : List ByteArray := [⟨#[32]⟩, ⟨#[10]⟩, ⟨#[9, 13]⟩, ⟨#[40, 42, 42, 41]⟩, ⟨#[40, 42, 32, 97, 32, 40, 42, 32, 98, 32, 42, 41, 32, 10, 32, 99, 32, 42, 41]⟩, ⟨#[32, 40, 42, 39, 42, 41, 32]⟩]
theorem lex_at (n : Nat) {s r : List UInt8} (h : item s = .blank n) (hs : s ≠ []) (hd : s.drop n = r) : lex s = lex r := by rw [lex_blank hs h, hd]
theorem lex_blk {b : ByteArray} (h : b ∈ blks) (r : List UInt8) : lex (b.data.toList ++ r) = lex r ∧ sepR (b.data.toList ++ r) := by
  simp only [blks, List.mem_cons, List.not_mem_nil, or_false] at h
  rcases h with rfl | rfl | rfl | rfl | rfl | rfl
  · exact ⟨lex_at 1 rfl (by simp) rfl, .inr ⟨32, r, rfl, by simp⟩⟩
  · exact ⟨lex_at 1 rfl (by simp) rfl, .inr ⟨10, r, rfl, by simp⟩⟩
  · exact ⟨(lex_at (r := 13 :: r) 1 rfl (by simp) rfl).trans (lex_at 1 rfl (by simp) rfl), .inr ⟨9, _, rfl, by simp⟩⟩
  · exact ⟨lex_at 4 rfl (by simp) rfl, .inr ⟨40, _, rfl, by simp⟩⟩
  · exact ⟨lex_at 19 rfl (by simp) rfl, .inr ⟨40, _, rfl, by simp⟩⟩
  · exact ⟨((lex_at (r := 40 :: 42 :: 39 :: 42 :: 41 :: 32 :: r) 1 rfl (by simp) rfl).trans (lex_at (r := 32 :: r) 5 rfl (by simp) rfl)).trans (lex_at 1 rfl (by simp) rfl), .inr ⟨32, _, rfl, by simp⟩⟩
end Go.Proofs.YtkiedbanobjmlaaDoor.Lx
