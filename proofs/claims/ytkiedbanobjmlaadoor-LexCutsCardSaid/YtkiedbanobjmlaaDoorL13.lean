/- The walks of the program's written, Join. -/
import Derived.Test.YtkiedbanobjmlaaDoorL12
import Derived.Deep.AppendLies
set_option linter.unusedSimpArgs false
set_option linter.unusedVariables false
namespace Go.Proofs.YtkiedbanobjmlaaDoor.Lx
open Go.RowKit
open Pl Fl
attribute [local go_sem] run_store_complexL

structure EnvJ (w : World) : Prop extends EnvS w where
  tab : Tab w
theorem EnvJ.below {w w' : World} (E : EnvJ w) (h : Below w.heap.size w w') : EnvJ w' := ⟨E.toEnvS.below (Nat.le_refl _) h, tab_below E.tab h⟩
/-- A number's digits, base 8. -/
def octN (n : Nat) : List UInt8 := if h : n < 8 then [UInt8.ofNat (48 + n)] else octN (n / 8) ++ [UInt8.ofNat (48 + n % 8)]
termination_by n
decreasing_by omega
/-- A token, as Join writes it. -/
def txt (t : Tk) : List UInt8 := if t.kind = 2 then Lib.itoa t.n else if t.kind = 3 then octN t.n.toNat ++ [67] else if t.kind = 4 then (if t.text.data.toList.contains 34 then 39 :: (t.text.data.toList ++ [39]) else 34 :: (t.text.data.toList ++ [34])) else t.text.data.toList
/-- A token that may be written. -/
structure TkW (t : Tk) : Prop where
  txt : t.text.size ≤ 1073741824
  lo : -9223372036854775808 ≤ t.n
  hi : t.n ≤ 9223372036854775807
  oct : t.kind = 3 → 0 ≤ t.n ∧ t.n ≤ 255
  kind : t.kind < 256
def WrOK (t : Tk) : Prop := ∀ (p q : Nat × Nat) (w : World), EnvJ w → Calls Tryd.prog 38 #[t.val p q] w fun e w' => e = .returned (.string (bt (txt t))) ∧ Below w.heap.size w w'
theorem quoted (q : UInt8) (s : ByteArray) : (⟨#[q]⟩ : ByteArray) ++ s ++ ⟨#[q]⟩ = bt (q :: (s.data.toList ++ [q])) := by
  apply bytes_ext
  simp [bt]
theorem fmt10 (n : Int) (h0 : -9223372036854775808 ≤ n) (h1 : n ≤ 9223372036854775807) (w : World) (ht : Tab w) : Calls Tryd.prog 54 #[.int .i64 n, .int .i64 10] w fun e w' => e = .returned (.string (bt (Lib.itoa n))) ∧ Below w.heap.size w w' :=
  (Tryd.strconv_FormatInt_10 n h0 h1 w ht).mono fun e w' ⟨he, k, os, hw⟩ => ⟨he, by subst hw; exact Lib.below_grow _ _ (Nat.le_refl _) _ _⟩
set_option maxRecDepth 100000 in
set_option maxHeartbeats 3200000 in
theorem written_ok {t : Tk} (h : TkW t) (h3 : t.kind ≠ 3) : WrOK t := by
  intro p q w E
  obtain ⟨tk, tt, tn⟩ := t
  have hb := fun (o : Obj) => (Below.refl w.heap.size w).alloc (Nat.le_refl _) o
  have HB := Lib.hid hb
  have HE := Lib.hid E
  have z1 : ¬ 9223372036854775807 < 1 + tt.size := by have := h.txt; dsimp only at this; omega
  have z2 : ¬ 9223372036854775807 < 1 + tt.size + 1 := by have := h.txt; dsimp only at this; omega
  have HT := Lib.hid h
  simp only [Tk.val, Tk.vals, C]
  dsimp only at h3
  clear hb E h
  by_cases h2 : tk = 2
  · subst h2
    have HR := Lib.hid (show txt ⟨2, tt, tn⟩ = Lib.itoa tn from rfl)
    go_enter Tryd.func38, Tryd.ntmps38
    go_wp2_with fail
    refine (fmt10 tn HT.out.lo HT.out.hi _ (tab_below HE.out.tab (HB.out _))).mono ?_
    rintro e w1 ⟨rfl, hb1⟩
    have HB1 := Lib.hid ((HB.out _).trans (hb1.mono (by simp)))
    clear hb1
    go_wp2
    go_ret
    exact ⟨by rw [HR.out]; rfl, HB1.out⟩
  have k2 : ((tk : Int) == 2) = false := by simp only [beq_eq_false_iff_ne, ne_eq]; omega
  have k3 : ((tk : Int) == 3) = false := by simp only [beq_eq_false_iff_ne, ne_eq]; omega
  by_cases h4 : tk = 4
  · have k4 : ((tk : Int) == 4) = true := by simp [h4]
    have HR := Lib.hid (show txt ⟨tk, tt, tn⟩ = if tt.data.toList.contains 34 then 39 :: (tt.data.toList ++ [39]) else 34 :: (tt.data.toList ++ [34]) by unfold txt; rw [if_neg h2, if_neg h3, if_pos h4])
    have HC := Lib.hid (fun (w' : World) => Tryd.strings_Contains_one tt 34 w')
    clear h2 h3 h4
    go_enter Tryd.func38, Tryd.ntmps38
    go_wp2_with fail
    ((with_reducible refine (HC.out _).mono ?_); rintro e w1 ⟨rfl, hw⟩)
    have hw2 := hw.symm
    subst hw2
    clear hw
    rw [indexByte_nonneg]
    cases hq : tt.data.toList.contains 34
    · have HR2 := Lib.hid (show txt ⟨tk, tt, tn⟩ = 34 :: (tt.data.toList ++ [34]) by rw [HR.out, hq]; rfl)
      clear HR hq
      go_wp2
      go_ret
      refine ⟨by rw [HR2.out, ← quoted]; rfl, HB.out _⟩
    · have HR2 := Lib.hid (show txt ⟨tk, tt, tn⟩ = 39 :: (tt.data.toList ++ [39]) by rw [HR.out, hq]; rfl)
      clear HR hq
      go_wp2
      go_ret
      refine ⟨by rw [HR2.out, ← quoted]; rfl, HB.out _⟩
  · have k4 : ((tk : Int) == 4) = false := by simp only [beq_eq_false_iff_ne, ne_eq]; omega
    have HR := Lib.hid (show txt ⟨tk, tt, tn⟩ = tt.data.toList by unfold txt; rw [if_neg h2, if_neg h3, if_neg h4])
    clear h2 h3 h4
    go_enter Tryd.func38, Tryd.ntmps38
    go_wp2
    go_ret
    refine ⟨by rw [HR.out, bt_data]; rfl, HB.out _⟩
/-- The texts of a row of tokens, without the end's. -/
def txts (l : List Tok) : List ByteArray := (l.filter fun t => t.1.kind != 0).map fun t => bt (txt t.1)
theorem txts_take (l : List Tok) {i : Nat} (h : i < l.length) : txts (l.take (i + 1)) = txts (l.take i) ++ (if l[i].1.kind = 0 then [] else [bt (txt l[i].1)]) := by
  unfold txts
  rw [List.take_add_one, List.getElem?_eq_getElem h]
  simp only [Option.toList, List.filter_append, List.map_append]
  congr 1
  by_cases hk : l[i].1.kind = 0
  · simp [hk]
  · simp [hk]
theorem txts_len (l : List Tok) (i : Nat) : (txts (l.take i)).length ≤ i := by
  unfold txts
  rw [List.length_map]
  exact Nat.le_trans (List.length_filter_le _ _) (by rw [List.length_take]; omega)
theorem infoStr : (Tryd.prog.info? 9).map (fun i => (i.zero, i.size, i.bytes)) = some (some (.string ⟨#[]⟩), 1, 16) := by kernel_rfl
theorem own_cap {w : World} {base : Nat} {e : TypeId} {size n g cap : Nat} {xs : List Value} (h : w.ownsRow base e size (.slice (some ⟨g, 0, none⟩) n cap) n xs) : n ≤ cap := by
  rcases h.2 with ⟨h1, _⟩ | ⟨g', cap', cur, e1, _, _, h2, _⟩
  · cases h1
  · injection e1 with _ _ e1; subst e1; exact h2
def joinT (l : List Tok) : List UInt8 := Lib.join ((txts l).map (·.data.toList)) [32]
set_option maxRecDepth 100000 in
set_option maxHeartbeats 6400000 in
theorem Join_any {src : List UInt8} {l : List Tok} (hl : l.length ≤ 1000000) (hw : ∀ t ∈ l, t.1.kind ≠ 0 → WrOK t.1) (hk : ∀ t ∈ l, t.1.kind < 256) (hj : (joinT l).length ≤ 1073741824) {A : Option Addr} {c : Nat} {w : World} (R : Reads w w.heap.size 5 A l.length (flat src l)) (E : EnvJ w) :
    Calls Tryd.prog 17 #[.slice A l.length c] w fun e w' => e = .returned (.string (bt (joinT l))) ∧ Below w.heap.size w w' := by
  obtain ⟨i0, hi0, hz0, hz1, hz2⟩ := info_parts infoStr
  have HR := Lib.hid R
  have HE := Lib.hid E
  have HW := Lib.hid hw
  have HK := Lib.hid hk
  have HJ := Lib.hid hj
  clear R E hw hk hj
  go_enter Tryd.func17, Tryd.ntmps17
  go_wp2
  go_loopg [3, 8] l.length (fun gh lv si wr => ∃ (i : Nat), si = .int .i64 (i : Nat) ∧ i ≤ l.length ∧ l.length - i ≤ gh ∧ Hid (wr.ownsRow w.heap.size 9 1 lv (txts (l.take i)).length ((txts (l.take i)).map Value.string)) ∧ Hid (Below w.heap.size w wr))
  case atStart => exact ⟨0, rfl, by omega, by omega, Lib.hid ⟨rfl, .inl ⟨rfl, rfl⟩⟩, Lib.hid (Below.refl _ _)⟩
  case round =>
    obtain ⟨i, rfl, hi1, hi2, hrow, hb⟩ := hrel
    by_cases hi : i < l.length
    · obtain ⟨b1, o1, e1, l1, p0, p1, p2, p3, p4⟩ := tok_spot (((HR.out.below hb.out).more hb.out.size)) hi
      have HTK := Lib.hid (txts_take l hi)
      have hmem := List.getElem_mem hi
      have HWT := Lib.hid (HW.out l[i] hmem)
      have hkk := HK.out l[i] hmem
      subst e1
      unfold C at p1 p2
      generalize hti : l[i] = ti at *
      obtain ⟨⟨tk, tt, tn⟩, ia, ib⟩ := ti
      dsimp only at p0 p1 p2 p3 p4 HTK HWT hkk
      clear hti hmem
      by_cases h0 : tk = 0
      · subst h0
        have HN := Lib.hid (show (wr.alloc (.cells #[.int .u8 0, .complex .f64 (fl (at_ src ia).1) (fl (at_ src ia).2), .complex .f64 (fl (at_ src ib).1) (fl (at_ src ib).2), .string tt, .int .i64 tn] 35)).ownsRow w.heap.size 9 1 u3 (txts (l.take (i + 1))).length ((txts (l.take (i + 1))).map Value.string) by
          rw [HTK.out]; simp only [if_true, List.append_nil]; exact hrow.out.alloc _)
        have HB2 := Lib.hid (hb.out.alloc hb.out.size (.cells #[.int .u8 0, .complex .f64 (fl (at_ src ia).1) (fl (at_ src ia).2), .complex .f64 (fl (at_ src ib).1) (fl (at_ src ib).2), .string tt, .int .i64 tn] 35))
        go_wp2
        go_roundg (l.length - i - 1)
        case rel => exact ⟨i + 1, by rfl, by omega, by omega, HN, HB2⟩
        case measure => omega
      · have k0 : ((tk : Int) != 0) = true := by simp only [bne_iff_ne, ne_eq]; omega
        have HWR := Lib.hid (HWT.out h0 (at_ src ia) (at_ src ib) (wr.alloc (.cells #[.int .u8 tk, .complex .f64 (fl (at_ src ia).1) (fl (at_ src ia).2), .complex .f64 (fl (at_ src ib).1) (fl (at_ src ib).2), .string tt, .int .i64 tn] 35)) (HE.out.below (hb.out.alloc hb.out.size _)))
        have hln := txts_len l i
        have hszw := hb.out.size
        generalize hnn : (txts (l.take i)).length = nn at *
        have HNN := Lib.hid hnn
        clear hnn
        go_wp2_with fail
        refine HWR.out.mono ?_
        rintro e w2 ⟨rfl, hb2⟩
        have HB2 := Lib.hid (((Below.refl wr.heap.size wr).alloc (Nat.le_refl _) _).trans (hb2.mono (by simp)))
        have hrow2 := own_below hrow.out HB2.out
        have hsz2 := HB2.out.size
        clear hb2
        go_wp2_with (at_builtin; refine wpList_append_lies _ rfl _ _ _ rfl w.heap.size 9 i0 _ 1 16 Tryd.underlying33 hi0 hz0 hz1 hz2 rfl (by omega) _ _ _ rfl (World.ownsRow.alloc hrow2 _) ⟨w2.heap.size, 0, none⟩ 1 1 [.string (bt (txt ⟨tk, tt, tn⟩))] rfl rfl (World.news_of_block (cs := #[.string (bt (txt ⟨tk, tt, tn⟩))]) (heap_alloc_new w2 _)) (fun v hv => by simp only [List.mem_singleton] at hv; subst hv; rfl) (by omega) (by unfold maxLen; omega) (by omega) (by rw [World.size_alloc]; omega) (w2.heap.size + 1) (by rw [World.size_alloc]) ?_; intro g cap w3 hown hgrow hor hlt)
        have HN := Lib.hid (show w3.ownsRow w.heap.size 9 1 (.slice (some ⟨g, 0, none⟩) (nn + 1) cap) (txts (l.take (i + 1))).length ((txts (l.take (i + 1))).map Value.string) by
          rw [HTK.out, if_neg h0, List.length_append, List.map_append, HNN.out]; exact hown)
        have HB3 := Lib.hid (below_grown (hb.out.trans (HB2.out.mono hszw)) ((World.grownBy_alloc w2 (.cells #[.string (bt (txt ⟨tk, tt, tn⟩))] 9) _).trans hgrow) (fun k hk => (hrow.out.lt k hk).1) (by omega))
        clear hown hgrow hor hlt hrow2
        go_roundg (l.length - i - 1)
        case rel => exact ⟨i + 1, by rfl, by omega, by omega, HN, HB3⟩
        case measure => omega
    · have hin : i = l.length := by omega
      subst hin
      rw [List.take_length] at hrow
      by_cases hz : (txts l).length = 0
      · have htz : txts l = [] := List.length_eq_zero_iff.1 hz
        have HZ := Lib.hid (show joinT l = [] by unfold joinT; rw [htz]; rfl)
        obtain ⟨A2, c2, hv, _⟩ := own_form hrow.out
        rw [hz] at hv
        subst hv
        have HJN := Lib.hid (fun (w' : World) => Tryd.strings_Join_none A2 c2 ⟨#[32]⟩ w')
        go_wp2_with fail
        refine (HJN.out _).mono ?_
        rintro e w3 ⟨rfl, hw⟩
        have hw2 := hw.symm
        subst hw2
        clear hw
        go_wp2
        go_ret
        exact ⟨by rw [HZ.out]; rfl, hb.out⟩
      · obtain ⟨n', hn'⟩ : ∃ n', (txts l).length = n' + 1 := ⟨(txts l).length - 1, by omega⟩
        have hrow2 := hrow.out
        rw [hn'] at hrow2
        obtain ⟨g, cap, rfl⟩ := ownsRow_succ hrow2
        rw [← hn'] at hrow2 ⊢
        have hgl := (hrow2.lt g rfl).2
        have hcp := own_cap hrow2
        have HJN := Lib.hid (Tryd.strings_Join g 0 cap (txts l) ⟨#[32]⟩ wr (fun j x hx => by
          have := hrow2.cells (g := g) rfl j (.string x) (by rw [List.getElem?_map, hx]; rfl)
          rw [show (⟨g, 0, none⟩ : Addr).add j = ⟨g, 0 + j, none⟩ from by unfold Addr.add; split <;> simp_all] at this
          exact this) hgl (by have := txts_len l l.length; rw [List.take_length] at this; omega) hcp (by have := HJ.out; unfold joinT at this; show (Lib.join _ [32]).length ≤ _; omega))
        clear hn' hrow2
        go_wp2_with fail
        refine HJN.out.mono ?_
        rintro e w3 ⟨rfl, hb3⟩
        have HB3 := Lib.hid (hb.out.trans (hb3.mono hb.out.size))
        clear hb3
        go_wp2
        go_ret
        exact ⟨rfl, HB3.out⟩
end Go.Proofs.YtkiedbanobjmlaaDoor.Lx
