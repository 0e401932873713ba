/- What Join writes, characters too; joined tokens, read again, plain. -/
import Derived.Test.YtkiedbanobjmlaaDoorL24
import Derived.Test.YtkiedbanobjmlaaDoorL22
set_option linter.unusedSimpArgs false
set_option linter.unusedVariables false
namespace Go.Proofs.YtkiedbanobjmlaaDoor.Lx
open Go.RowKit
open Pl Fl
attribute [local go_sem] run_store_complexL

structure EnvK (w : World) : Prop extends EnvJ w where
  tz : Tz w
theorem EnvK.below {w w' : World} (E : EnvK w) (h : Below w.heap.size w w') : EnvK w' := ⟨E.toEnvJ.below h, E.tz.below h⟩
def WkOK (t : Tk) : Prop := ∀ (p q : Nat × Nat) (w : World), EnvK w → Calls Tryd.prog 38 #[t.val p q] w fun e w' => e = .returned (.string (bt (txt t))) ∧ Below w.heap.size w w'
set_option maxRecDepth 100000 in
set_option maxHeartbeats 3200000 in
theorem written3 (n : Nat) (hn : n ≤ 255) (tt : ByteArray) : WkOK ⟨3, tt, n⟩ := by
  intro p q w E
  have HB := Lib.hid (fun (o : Obj) => (Below.refl w.heap.size w).alloc (Nat.le_refl _) o)
  have HT := Lib.hid E.tz
  have HR := Lib.hid (show (bt (digs 8 n)) ++ ⟨#[67]⟩ = bt (txt ⟨3, tt, n⟩) by
    rw [show txt ⟨3, tt, n⟩ = octN n ++ [67] from rfl, oct_digs]; apply bytes_ext; simp [bt])
  have hz : ¬ 9223372036854775807 < (bt (digs 8 n)).size + 1 := by
    have := digs_len (B := 8) (by omega) 2 n (by omega)
    rw [bt_size]; omega
  simp only [Tk.val, Tk.vals, C]
  clear E
  go_enter Tryd.func38, Tryd.ntmps38
  go_wp2_with fail
  refine (fmt8 n hn (HT.out.below (HB.out _))).mono ?_
  rintro e w1 ⟨rfl, hb1⟩
  have HB1 := Lib.hid ((HB.out _).trans (hb1.mono (by simp)))
  clear hb1
  go_wp2
  go_ret
  exact ⟨by rw [← HR.out]; rfl, HB1.out⟩
theorem TkOK.wk {t : Tk} (h : TkOK t) (hl : (txt t).length ≤ 1000000) : WkOK t := by
  by_cases h3 : t.kind = 3
  · cases h with
    | chr n h => exact written3 n h _
    | _ => exact absurd h3 (by simp)
  · have hr := h.toR (by omega)
    intro p q w E
    exact written_ok (t := t) ⟨hr.txt, by
      by_cases h2 : t.kind = 2
      · have := hr.num (.inl h2); omega
      · cases h <;> simp at h2 ⊢, by
      by_cases h2 : t.kind = 2
      · have := hr.num (.inl h2); omega
      · cases h <;> simp at h2 h3 ⊢, fun h => absurd h h3, hr.kind⟩ h3 p q w E.toEnvJ
theorem txts_real (l : List Tok) : (txts l).map (·.data.toList) = (real l).map txt := by
  unfold txts real
  rw [List.map_map, List.map_map]
  apply List.map_congr_left
  intro t _
  simp [bt]
theorem join_real (l : List Tok) : joinT l = Lib.join ((real l).map txt) [32] := by unfold joinT; rw [txts_real]
theorem real_eq {l m : List Tok} (h : m.map (·.1) = l.map (·.1)) : real m = real l := by
  have e : ∀ x : List Tok, real x = (x.map (·.1)).filter fun t => t.kind != 0 := fun x => by
    unfold real
    rw [List.filter_map]
    rfl
  rw [e, e, h]
theorem join_len : ∀ (l : List (List UInt8)), (Lib.join l [32]).length ≤ (l.map fun x => x.length + 1).sum
  | [] => by simp [Lib.join]
  | [x] => by simp [Lib.join]
  | x :: y :: r => by
    have := join_len (y :: r)
    have e : Lib.join (x :: y :: r) [32] = x ++ [32] ++ Lib.join (y :: r) [32] := by simp [Lib.join, List.intercalate]
    rw [e]
    simp only [List.length_append, List.map_cons, List.sum_cons, List.length_cons, List.length_nil] at this ⊢
    omega
theorem join_fits {s : List UInt8} {l : List Tok} (h : scanL s = .ok l) : (joinT l).length ≤ 4 * s.length := by
  obtain ⟨l', j, rfl, h2, h3, h4⟩ := scanL_ok h
  have hr : real (l' ++ [(noTk, j, j)]) = l'.map (·.1) := by
    unfold real
    rw [List.filter_append, List.filter_eq_self.2 (fun t ht => by have := (h2 t ht).kind.1; simpa using this)]
    simp [noTk]
  rw [join_real, hr]
  refine Nat.le_trans (join_len _) ?_
  rw [List.map_map, List.map_map]
  exact h3
/-- Joined tokens are scanned as the same ones. -/
theorem join_scan {s : List UInt8} {l : List Tok} (h : scanL s = .ok l) (hs : s.length ≤ 4096) : ∃ m, scanL (joinT l) = .ok m ∧ m.map (·.1) = l.map (·.1) ∧ joinT m = joinT l := by
  have S := src_of h
  have hlx : lex (joinT l) = some (real l) := by
    rw [join_real]
    apply lex_join
    intro t ht
    unfold real at ht
    obtain ⟨x, hx, rfl⟩ := List.mem_map.1 ht
    rw [List.mem_filter] at hx
    exact S.ok x hx.1 (by simpa using hx.2)
  obtain ⟨m, hm, hmm⟩ := scan_of_lex hlx (by have := join_fits h; omega)
  have e : m.map (·.1) = l.map (·.1) := by rw [hmm, S.real]
  exact ⟨m, hm, e, by rw [join_real, join_real, real_eq e]⟩
set_option maxRecDepth 100000 in
set_option maxHeartbeats 6400000 in
theorem joinK_any {src : List UInt8} {l : List Tok} (hl : l.length ≤ 1000000) (hw : ∀ t ∈ l, t.1.kind ≠ 0 → WkOK t.1) (hk : ∀ t ∈ l, t.1.kind < 256) (hj : (joinT l).length ≤ 1073741824) {A : Option Addr} {c : Nat} {w : World} (R : Reads w w.heap.size 5 A l.length (flat src l)) (E : EnvK w) :
    Calls Tryd.prog 17 #[.slice A l.length c] w fun e w' => e = .returned (.string (bt (joinT l))) ∧ Below w.heap.size w w' := by
  obtain ⟨i0, hi0, hz0, hz1, hz2⟩ := info_parts infoStr
  have HR := Lib.hid R
  have HE := Lib.hid E
  have HW := Lib.hid hw
  have HK := Lib.hid hk
  have HJ := Lib.hid hj
  clear R E hw hk hj
  go_enter Tryd.func17, Tryd.ntmps17
  go_wp2
  go_loopg [3, 8] l.length (fun gh lv si wr => ∃ (i : Nat), si = .int .i64 (i : Nat) ∧ i ≤ l.length ∧ l.length - i ≤ gh ∧ Hid (wr.ownsRow w.heap.size 9 1 lv (txts (l.take i)).length ((txts (l.take i)).map Value.string)) ∧ Hid (Below w.heap.size w wr))
  case atStart => exact ⟨0, rfl, by omega, by omega, Lib.hid ⟨rfl, .inl ⟨rfl, rfl⟩⟩, Lib.hid (Below.refl _ _)⟩
  case round =>
    obtain ⟨i, rfl, hi1, hi2, hrow, hb⟩ := hrel
    by_cases hi : i < l.length
    · obtain ⟨b1, o1, e1, l1, p0, p1, p2, p3, p4⟩ := tok_spot (((HR.out.below hb.out).more hb.out.size)) hi
      have HTK := Lib.hid (txts_take l hi)
      have hmem := List.getElem_mem hi
      have HWT := Lib.hid (HW.out l[i] hmem)
      have hkk := HK.out l[i] hmem
      subst e1
      unfold C at p1 p2
      generalize hti : l[i] = ti at *
      obtain ⟨⟨tk, tt, tn⟩, ia, ib⟩ := ti
      dsimp only at p0 p1 p2 p3 p4 HTK HWT hkk
      clear hti hmem
      by_cases h0 : tk = 0
      · subst h0
        have HN := Lib.hid (show (wr.alloc (.cells #[.int .u8 0, .complex .f64 (fl (at_ src ia).1) (fl (at_ src ia).2), .complex .f64 (fl (at_ src ib).1) (fl (at_ src ib).2), .string tt, .int .i64 tn] 35)).ownsRow w.heap.size 9 1 u3 (txts (l.take (i + 1))).length ((txts (l.take (i + 1))).map Value.string) by
          rw [HTK.out]; simp only [if_true, List.append_nil]; exact hrow.out.alloc _)
        have HB2 := Lib.hid (hb.out.alloc hb.out.size (.cells #[.int .u8 0, .complex .f64 (fl (at_ src ia).1) (fl (at_ src ia).2), .complex .f64 (fl (at_ src ib).1) (fl (at_ src ib).2), .string tt, .int .i64 tn] 35))
        go_wp2
        go_roundg (l.length - i - 1)
        case rel => exact ⟨i + 1, by rfl, by omega, by omega, HN, HB2⟩
        case measure => omega
      · have k0 : ((tk : Int) != 0) = true := by simp only [bne_iff_ne, ne_eq]; omega
        have HWR := Lib.hid (HWT.out h0 (at_ src ia) (at_ src ib) (wr.alloc (.cells #[.int .u8 tk, .complex .f64 (fl (at_ src ia).1) (fl (at_ src ia).2), .complex .f64 (fl (at_ src ib).1) (fl (at_ src ib).2), .string tt, .int .i64 tn] 35)) (HE.out.below (hb.out.alloc hb.out.size _)))
        have hln := txts_len l i
        have hszw := hb.out.size
        generalize hnn : (txts (l.take i)).length = nn at *
        have HNN := Lib.hid hnn
        clear hnn
        go_wp2_with fail
        refine HWR.out.mono ?_
        rintro e w2 ⟨rfl, hb2⟩
        have HB2 := Lib.hid (((Below.refl wr.heap.size wr).alloc (Nat.le_refl _) _).trans (hb2.mono (by simp)))
        have hrow2 := own_below hrow.out HB2.out
        have hsz2 := HB2.out.size
        clear hb2
        go_wp2_with (at_builtin; refine wpList_append_lies _ rfl _ _ _ rfl w.heap.size 9 i0 _ 1 16 Tryd.underlying33 hi0 hz0 hz1 hz2 rfl (by omega) _ _ _ rfl (World.ownsRow.alloc hrow2 _) ⟨w2.heap.size, 0, none⟩ 1 1 [.string (bt (txt ⟨tk, tt, tn⟩))] rfl rfl (World.news_of_block (cs := #[.string (bt (txt ⟨tk, tt, tn⟩))]) (heap_alloc_new w2 _)) (fun v hv => by simp only [List.mem_singleton] at hv; subst hv; rfl) (by omega) (by unfold maxLen; omega) (by omega) (by rw [World.size_alloc]; omega) (w2.heap.size + 1) (by rw [World.size_alloc]) ?_; intro g cap w3 hown hgrow hor hlt)
        have HN := Lib.hid (show w3.ownsRow w.heap.size 9 1 (.slice (some ⟨g, 0, none⟩) (nn + 1) cap) (txts (l.take (i + 1))).length ((txts (l.take (i + 1))).map Value.string) by
          rw [HTK.out, if_neg h0, List.length_append, List.map_append, HNN.out]; exact hown)
        have HB3 := Lib.hid (below_grown (hb.out.trans (HB2.out.mono hszw)) ((World.grownBy_alloc w2 (.cells #[.string (bt (txt ⟨tk, tt, tn⟩))] 9) _).trans hgrow) (fun k hk => (hrow.out.lt k hk).1) (by omega))
        clear hown hgrow hor hlt hrow2
        go_roundg (l.length - i - 1)
        case rel => exact ⟨i + 1, by rfl, by omega, by omega, HN, HB3⟩
        case measure => omega
    · have hin : i = l.length := by omega
      subst hin
      rw [List.take_length] at hrow
      by_cases hz : (txts l).length = 0
      · have htz : txts l = [] := List.length_eq_zero_iff.1 hz
        have HZ := Lib.hid (show joinT l = [] by unfold joinT; rw [htz]; rfl)
        obtain ⟨A2, c2, hv, _⟩ := own_form hrow.out
        rw [hz] at hv
        subst hv
        have HJN := Lib.hid (fun (w' : World) => Tryd.strings_Join_none A2 c2 ⟨#[32]⟩ w')
        go_wp2_with fail
        refine (HJN.out _).mono ?_
        rintro e w3 ⟨rfl, hw⟩
        have hw2 := hw.symm
        subst hw2
        clear hw
        go_wp2
        go_ret
        exact ⟨by rw [HZ.out]; rfl, hb.out⟩
      · obtain ⟨n', hn'⟩ : ∃ n', (txts l).length = n' + 1 := ⟨(txts l).length - 1, by omega⟩
        have hrow2 := hrow.out
        rw [hn'] at hrow2
        obtain ⟨g, cap, rfl⟩ := ownsRow_succ hrow2
        rw [← hn'] at hrow2 ⊢
        have hgl := (hrow2.lt g rfl).2
        have hcp := own_cap hrow2
        have HJN := Lib.hid (Tryd.strings_Join g 0 cap (txts l) ⟨#[32]⟩ wr (fun j x hx => by
          have := hrow2.cells (g := g) rfl j (.string x) (by rw [List.getElem?_map, hx]; rfl)
          rw [show (⟨g, 0, none⟩ : Addr).add j = ⟨g, 0 + j, none⟩ from by unfold Addr.add; split <;> simp_all] at this
          exact this) hgl (by have := txts_len l l.length; rw [List.take_length] at this; omega) hcp (by have := HJ.out; unfold joinT at this; show (Lib.join _ [32]).length ≤ _; omega))
        clear hn' hrow2
        go_wp2_with fail
        refine HJN.out.mono ?_
        rintro e w3 ⟨rfl, hb3⟩
        have HB3 := Lib.hid (hb.out.trans (hb3.mono hb.out.size))
        clear hb3
        go_wp2
        go_ret
        exact ⟨rfl, HB3.out⟩
end Go.Proofs.YtkiedbanobjmlaaDoor.Lx
