/- slices.Sort and slices.Sorted over words; Live of a heap. -/
import Derived.Test.YtfdpcjdghmdkkaaS10
import Derived.Test.YtfdpcjdghmdkkaaH11
set_option linter.unusedSimpArgs false
set_option linter.unusedVariables false
namespace Go.Proofs.Ytfdpcjdghmdkkaa.Hp
open Go.RowKit Go.Sort
set_option maxRecDepth 100000 in
theorem ins_none (w : World) : Calls Try.prog 39 #[.slice none 0 0, .int .i64 0, .int .i64 0] w fun e w' => e = .returned (.tuple #[]) ∧ w' = w := by
  go_enter Try.func39, Try.ntmps39
  go_wp2
  refine wp_loop_rounds 1 ?_
  rw [rounds_succ]
  go_wp2
  go_end0
  exact ⟨rfl, rfl⟩
set_option maxRecDepth 100000 in
theorem pdq_none (lim : Int) (w : World) : Calls Try.prog 34 #[.slice none 0 0, .int .i64 0, .int .i64 0, .int .i64 lim] w fun e w' => e = .returned (.tuple #[]) ∧ w' = w := by
  have hi := ins_none
  go_enter Try.func34, Try.ntmps34
  go_wp2
  refine wp_loop_rounds 1 ?_
  rw [rounds_succ]
  go_wp2_with (go_at_call 39; refine (hi _).mono ?_; rintro e w' ⟨rfl, rfl⟩)
  (try simp only [Exit.inBlock, Exit.then]); refine bodyPost_ret (results_none rfl _ _ _) rfl ?_
  exact ⟨rfl, rfl⟩
set_option maxRecDepth 100000 in
theorem sort_none (w : World) : Calls Try.prog 28 #[.slice none 0 0] w fun e w' => e = .returned (.tuple #[]) ∧ w' = w := by
  have hl := fun W => Try.bits_Len 0 W (by omega) (by omega)
  have hp := pdq_none
  go_enter Try.func28, Try.ntmps28
  go_wp2_with (first
    | (go_at_call 35; refine (hl _).mono ?_; rintro e w' ⟨rfl, rfl⟩)
    | (go_at_call 34; refine (hp _ _).mono ?_; rintro e w' ⟨rfl, rfl⟩))
  go_end0
  exact ⟨rfl, rfl⟩
theorem row_SU {w : World} {base g n c : Nat} {l : List Nat} (h : w.ownsRow base 23 1 (.slice (some ⟨g, 0, none⟩) n c) n (l.map keyV)) : SU w g c l.toArray w := by
  have hn : n = l.length := by have := h.1; simpa using this.symm
  rcases h.2 with ⟨h0, _⟩ | ⟨g', cap, cur, h1, h2, h3, h4, h5, h6, h7⟩
  · cases h0
  · injection h1 with e1 e2 e3
    injection e1 with e1
    injection e1 with e1
    subst e1 e3
    refine SU.start w ⟨cur, h3, by omega, by simp; omega, fun i hi => ?_⟩
    have hi' : i < l.length := by simpa using hi
    have e := congrArg (fun q : List Value => q[i]?) h7
    simp only [List.getElem?_take, if_pos (show i < n * 1 by omega), Array.getElem?_toList, List.getElem?_map, List.getElem?_eq_getElem hi', Option.map_some] at e
    rw [e, getElem!_pos _ i hi]
    simp [keyV]
theorem SU_row {w w' : World} {base g n c : Nat} {d : Array Nat} (h : SU w g c d w') (hd : d.size = n) (hb : base ≤ g) (hc : c ≤ maxLen) : w'.ownsRow base 23 1 (.slice (some ⟨g, 0, none⟩) n c) n (d.toList.map keyV) := by
  obtain ⟨cur, h1, h2, h3, h4⟩ := h.row
  refine ⟨by simp [hd], .inr ⟨g, c, cur, rfl, hb, h1, by omega, hc, by omega, ?_⟩⟩
  apply List.ext_getElem?
  intro i
  rw [List.getElem?_take]
  by_cases hi : i < n
  · rw [if_pos (by omega), Array.getElem?_toList, h4 i (by omega)]
    simp [keyV, hd, hi, getElem!_pos d i (by omega)]
  · rw [if_neg (by omega), List.getElem?_eq_none (by simp; omega)]
theorem SU_below {w w' : World} {B g c : Nat} {d : Array Nat} (h : SU w g c d w') (hB : B ≤ w.heap.size) (hg : B ≤ g) : RowKit.Below B w w' :=
  ⟨h.os, h.tape, h.output, h.size, fun k hk => h.block k (by omega) (by omega)⟩
set_option maxRecDepth 100000 in
set_option maxHeartbeats 1000000 in
theorem sort_any {base : Nat} {w : World} {v : Value} {n : Nat} {l : List Nat} (h : w.ownsRow base 23 1 v n (l.map keyV)) (hl : n ≤ 100000) (hb : base ≤ w.heap.size) :
    Calls Try.prog 28 #[v] w fun e w' => e = .returned (.tuple #[]) ∧ ∃ l' : List Nat, l'.Perm l ∧ (l'.Pairwise (· ≤ ·)) ∧ w'.ownsRow base 23 1 v n (l'.map keyV) ∧ RowKit.Below base w w' := by
  have hn : n = l.length := by have := h.1; simpa using this.symm
  rcases h.2 with ⟨rfl, h0⟩ | ⟨g, cap, cur, rfl, h2, h3, h4, h5, _⟩
  · subst h0
    have : l = [] := List.eq_nil_of_length_eq_zero hn.symm
    subst this
    exact (sort_none w).mono fun e w' ⟨he, hw⟩ => by subst hw; exact ⟨he, [], .refl _, .nil, h, .refl _ _⟩
  · have hS := row_SU h
    have hsz : l.toArray.size = n := by simp [hn]
    have hlim : Lib.bitLen n < 1000 := Nat.lt_of_le_of_lt (Lib.bitLen_le n 62 (by omega) (by omega)) (by omega)
    have hp := pdq_any (w0 := w) (g := g) (cap := cap) (n := n) (by omega) (n + 1) 0 n (Lib.bitLen n) l.toArray w (by omega) hS hsz (by omega) (Nat.le_refl _) hlim (Or.inl rfl)
    have hq := pdq_sorts ltU swoU l.toArray 0 n (Lib.bitLen n) true true (by omega) (by omega) (Or.inl rfl)
    have hbl : ∀ W, Calls Try.prog 35 #[.int .u64 (n : Int)] W fun e w' => e = .returned (.int .i64 (Lib.bitLen n : Nat)) ∧ w' = W := fun W => by
      have := Try.bits_Len (n : Int) W (by omega) (by omega)
      rwa [Int.toNat_natCast] at this
    have hp : Calls Try.prog 34 #[.slice (some ⟨g, 0, none⟩) n cap, .int .i64 0, .int .i64 (n : Int), .int .i64 (Lib.bitLen n : Nat)] w fun e w' => e = .returned (.tuple #[]) ∧ SU w g cap (pdq ltU l.toArray 0 n (Lib.bitLen n) true true) w' := hp
    have HP := Lib.hid hp
    have HQ := Lib.hid hq
    have wr : IntKind.u64.wrap (n : Int) = n := by simp [IntKind.wrap, IntKind.bits, IntKind.signed]; omega
    have hcap : cap ≤ maxLen := h5
    clear hp hq hS h3 h5 h4
    refine Calls.mono (R := fun e w' => e = .returned (.tuple #[]) ∧ SU w g cap (pdq ltU l.toArray 0 n (Lib.bitLen n) true true) w') ?_ ?_
    · clear h hn hsz
      go_enter Try.func28, Try.ntmps28
      go_wp2_with (first
        | (go_at_call 35; refine (hbl _).mono ?_; rintro e w' ⟨rfl, hw⟩; have hw2 := hw.symm; subst hw2; clear hw)
        | (go_at_call 34; refine HP.out.mono ?_; rintro e w' ⟨rfl, hw1⟩; have HW := Lib.hid hw1; clear hw1))
      go_end0
      exact ⟨rfl, HW.out⟩
    · rintro e w' ⟨he, hw⟩
      obtain ⟨⟨hs1, _, hperm⟩, hso⟩ := HQ.out
      have hds : (pdq ltU l.toArray 0 n (Lib.bitLen n) true true).size = n := by rw [hs1]; exact hsz
      refine ⟨he, (pdq ltU l.toArray 0 n (Lib.bitLen n) true true).toList, ?_, ?_, SU_row hw hds h2 hcap, SU_below hw hb h2⟩
      · have e1 : ∀ q : Array Nat, q.size = n → (q.extract 0 n).toList = q.toList := fun q hq => by rw [Array.toList_extract]; simp; exact List.take_of_length_le (by simp; omega)
        rw [e1 _ hds, e1 _ hsz] at hperm
        exact hperm
      · rw [List.pairwise_iff_getElem]
        intro i j hi hj hij
        have := hso i j (Nat.zero_le _) hij (by simp at hj; omega)
        rw [getElem!_pos _ j (by simpa using hj), getElem!_pos _ i (by simpa using hi)] at this
        simp only [ltU, Array.getElem_toList] at this ⊢
        have := of_decide_eq_false this
        omega
set_option maxRecDepth 100000 in
set_option maxHeartbeats 1000000 in
theorem sorted_any {w : World} {Bm b : Nat} {ks : List Nat} {f : Nat → Value} (hBm : Bm < w.heap.size) (hm : w.cell? ⟨Bm, 0, none⟩ = some (.map (some b))) (h : IsM w b ks f) (hk : ks.length ≤ 70000) :
    Calls Try.prog 24 #[.func (.func 29) #[] #[.pointer (some ⟨Bm, 0, none⟩)]] w fun e w' =>
      ∃ (v : Value) (l : List Nat), e = .returned v ∧ l.Perm ks ∧ (l.Pairwise (· ≤ ·)) ∧ w'.ownsRow w.heap.size 23 1 v l.length (l.map keyV) ∧ RowKit.Below w.heap.size w w' := by
  have hc := collect_key (w := w) (S := fun ss => ks.Perm ss) (Sp := fun _ => True) (N := ks.length) (w0 := w) (by omega) (enters_of Try.func29 (by kernel_rfl) rfl) (.refl _ _) (seqT_of (keys_seq hBm hm h))
  have HK := Lib.hid hk
  have HC := Lib.hid hc
  clear hk h hm hBm hc
  go_enter Try.func24, Try.ntmps24
  go_wp2_with (first
    | (go_at_call 27
       refine HC.out.mono ?_
       rintro e w1 ⟨ss, v, rfl, hS, hrow, hb⟩
       rw [flatMap_one] at hrow
       have hlen : ss.length = ks.length := hS.length_eq.symm
       have hs := sort_any hrow (by have := HK.out; omega) hb.size
       have HS := Lib.hid hS
       have HB := Lib.hid hb
       have HS2 := Lib.hid hs
       clear hS hb hs hrow hlen)
    | (go_at_call 28
       refine HS2.out.mono ?_
       rintro e w2 ⟨rfl, l, hp, hw, hrow, hb2⟩
       have HR := Lib.hid (And.intro hp (And.intro hw (And.intro hrow hb2)))
       clear hp hw hrow hb2))
  go_ret
  obtain ⟨hp, hw, hrow, hb2⟩ := HR.out
  rw [hp.length_eq.symm] at hrow
  exact ⟨v, l, rfl, hp.trans HS.out.symm, hw, hrow, HB.out.trans hb2⟩
set_option maxRecDepth 100000 in
set_option maxHeartbeats 1000000 in
theorem live_any {w : World} {h b fr n last : Nat} {ks : List Nat} {g : Nat → Bk} (H : HpAt w h b fr n last ks g) (hk : ks.length ≤ 70000) :
    Calls Try.prog 17 #[.pointer (some ⟨h, 0, none⟩)] w fun e w' =>
      ∃ (v : Value) (l : List Nat), e = .returned v ∧ l.Perm ks ∧ (l.Pairwise (· ≤ ·)) ∧ w'.ownsRow w.heap.size 23 1 v l.length (l.map keyV) ∧ RowKit.Below w.heap.size w w' := by
  have c3 := H.c3
  have hlt := H.lt
  have hn := Lib.hid (none_any H)
  have HS := Lib.hid (sorted_any (w := w.alloc (.cells #[.map (some b)] 54)) (Bm := w.heap.size) (b := b) (ks := ks) (f := fun k => bkV (g k)) (by simp) (by simp) (H.alloc _).map hk)
  have HF := Lib.hid (fun (W : World) => keysF_any (some b) W)
  clear H hk
  go_enter Try.func17, Try.ntmps17
  go_wp2_with (first
    | (go_at_call 23; refine hn.out.mono ?_; rintro e w' ⟨rfl, hw⟩; have hw2 := hw.symm; subst hw2; clear hw)
    | (go_at_call 25; refine (HF.out _).mono ?_; rintro e w1 ⟨rfl, rfl⟩)
    | (go_at_call 24; refine HS.out.mono ?_; rintro e w2 ⟨v, l, rfl, hp, hw, hrow, hb⟩; have HR := Lib.hid (And.intro hp (And.intro hw (And.intro hrow hb))); clear hp hw hrow hb))
  go_ret
  obtain ⟨hp, hw, hrow, hb⟩ := HR.out
  refine ⟨v, l, rfl, hp, hw, ⟨hrow.1, hrow.2.imp id ?_⟩, ((RowKit.Below.refl _ w).alloc (Nat.le_refl _) _).trans (hb.mono (by simp))⟩
  rintro ⟨q1, q2, q3, e1, e2, e3⟩
  exact ⟨q1, q2, q3, e1, by simp at e2; omega, e3⟩
end Go.Proofs.Ytfdpcjdghmdkkaa.Hp
