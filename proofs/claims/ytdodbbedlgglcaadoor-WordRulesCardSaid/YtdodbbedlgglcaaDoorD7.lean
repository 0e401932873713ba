/- How words are written: word.Text (by strconv.Itoa) and the reference's Text: both are the decimal numeral. -/
import Derived.Test.YtdodbbedlgglcaaDoorD6
import Derived.Test.YtdodbbedlgglcaaDoorShelf
import Derived.Laws.BytesString
import Derived.Laws.Concat
import Derived.Lib.AppendIntMem
set_option linter.unusedSimpArgs false
set_option linter.unusedVariables false
namespace Go.Proofs.YtdodbbedlgglcaaDoor.Wd
open Go.RowKit
open WPlain

/-- The table that strconv reads. -/
def Tab (w : World) : Prop := Lib.TabIs Tryd.prog w "internal/strconv.uint64pow10" .u64 Lib.pow10Tab
theorem tab_below {w w' : World} (h : Tab w) (hb : Below w.heap.size w w') : Tab w' := by
  unfold Tab Lib.TabIs World.var? at h ⊢
  cases hg : Tryd.prog.globalNamed "internal/strconv.uint64pow10" with
  | none => rw [hg] at h; exact h
  | some g =>
    rw [hg] at h
    simp only [Option.bind_some] at h ⊢
    cases hh : w.heap[g]? with
    | none => rw [hh] at h; simp at h
    | some o => rw [hb.block g (Array.getElem?_eq_some_iff.1 hh).1, hh]; rw [hh] at h; exact h

def textN (s : Bool) (a : Nat) : Int := if s then sg a else (a : Int)
def textP (s : Bool) (a : Nat) : List UInt8 := Lib.itoa (textN s a)
theorem textN_bd (s : Bool) (a : Nat) (ha : a < 65536) : -32768 ≤ textN s a ∧ textN s a ≤ 65535 := by
  have := sg_bd a ha
  unfold textN; split <;> omega

theorem itoa_any (n : Int) (w : World) (h0 : -9223372036854775808 ≤ n) (h1 : n ≤ 9223372036854775807) (ht : Tab w) :
    Calls Tryd.prog 29 #[.int .i64 n] w fun e w' => e = .returned (.string ⟨(Lib.itoa n).toArray⟩) ∧ Below w.heap.size w w' :=
  (Tryd.strconv_Itoa n h0 h1 w ht).mono fun e w' ⟨he, k, os, hw⟩ => ⟨he, by subst hw; exact Lib.below_grow _ _ (Nat.le_refl _) _ _⟩

set_option maxHeartbeats 400000 in
theorem text_any (s : Bool) (a : Nat) (w : World) (ha : a < 65536) (ht : Tab w) : Calls Tryd.prog 16 #[.bool s, .int .u16 a] w fun e w' => e = .returned (.string ⟨(textP s a).toArray⟩) ∧ Below w.heap.size w w' := by
  have hb := textN_bd s a ha
  have hc := itoa_any (textN s a) w (by omega) (by omega) ht
  have HC := Lib.hid hc
  clear hc hb ht
  have HP : Hid (textP s a = Lib.itoa (textN s a)) := rfl
  cases s
  · have HN : Hid (textN false a = (a : Int)) := rfl
    rw [HN.out] at HC HP
    generalize Lib.itoa (a : Int) = l at *
    go_enter Tryd.func16, Tryd.ntmps16
    go_wp2_with fail
    refine HC.out.mono ?_
    rintro e w' ⟨rfl, hb⟩
    go_wp2
    go_ret
    exact ⟨by rw [HP.out]; rfl, hb⟩
  · have HI := Lib.hid (int_any a w ha)
    have HN : Hid (textN true a = sg a) := rfl
    rw [HN.out] at HC HP
    generalize sg a = x at *
    generalize Lib.itoa x = l at *
    go_enter Tryd.func16, Tryd.ntmps16
    go_wp2_with fail
    refine HI.out.mono ?_
    rintro e w' ⟨rfl, rfl⟩
    go_wp2_with fail
    refine HC.out.mono ?_
    rintro e w' ⟨rfl, hb⟩
    go_wp2
    go_ret
    exact ⟨by rw [HP.out]; rfl, hb⟩

theorem dec_len (n : Nat) : (Lib.decDigits n).length ≤ n + 1 := by
  induction n using Nat.strongRecOn with
  | ind n ih =>
    rw [Lib.decDigits]
    split
    · simp
    · have := ih (n / 10) (by omega)
      simp; omega
theorem dec_big (n : Nat) (h : 9 < n) : Lib.decDigits n = Lib.decDigits (n / 10) ++ [UInt8.ofNat (48 + n % 10)] := by
  rw [Lib.decDigits, dif_neg (by omega)]
theorem dec_small (n : Nat) (h : ¬ 9 < n) : Lib.decDigits n = [UInt8.ofNat (48 + n)] := by
  rw [Lib.decDigits, dif_pos (by omega)]

/-- One byte made a string. -/
theorem conv_one (W : World) (z : Int) (h0 : 0 ≤ z) (h1 : z < 256) : (convert 48 9 (.slice (some ⟨W.heap.size, 0, none⟩) 1 1)).run Tryd.prog (W.alloc (.cells #[.int .u8 z] 5)) = .ok (.string ⟨#[UInt8.ofNat z.toNat]⟩) (W.alloc (.cells #[.int .u8 z] 5)) := by
  rw [run_convert_bytes_string _ _ _ _ _ _ _ Tryd.underlying48 Tryd.underlying5 Tryd.underlying9]
  rw [run_bytesToString _ _ _ _ [z] (by simp [loadCells, loadCellsFrom, go_sem, Addr.add])]
  rfl

theorem str_cons (d : UInt8) (l : List UInt8) : (ByteArray.mk #[d] ++ ByteArray.mk l.toArray) = ByteArray.mk (d :: l).toArray := ByteArray.mk_append_mk [d] l

end Go.Proofs.YtdodbbedlgglcaaDoor.Wd
