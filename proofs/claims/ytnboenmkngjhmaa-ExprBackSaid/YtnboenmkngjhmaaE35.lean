/- The walk of ExprBack. -/
import Derived.Test.YtnboenmkngjhmaaE34
import Derived.Test.YtnboenmkngjhmaaE30
set_option linter.unusedSimpArgs false
set_option linter.unusedVariables false
namespace Go.Proofs.Ytnboenmkngjhmaa.Ex
open Go.RowKit
open Tr (Nd Fo RepS RepN Rep cellsN)
open Lx (Tk noTk run_store_complexL bt)
open Fl
attribute [local go_sem] run_store_complexL run_field1 run_field3

theorem grown_any : ∀ d, d ≤ 1000 → GrownIH d := by
  intro d
  induction d with
  | zero =>
    intro _ l A c w hl h D hD
    exact grown_z 0 l A c w D (.inr hD) rfl
  | succ d ih =>
    intro hd l A c w hl h D hD
    have IH := ih (by omega)
    rcases l with _ | ⟨⟨a, n⟩, l⟩
    · exact grown_z (d + 1) [] A c w D (.inl rfl) rfl
    · obtain e | e | e | e | e | e | e | e | e : a % 9 = 0 ∨ a % 9 = 1 ∨ a % 9 = 2 ∨ a % 9 = 3 ∨ a % 9 = 4 ∨ a % 9 = 5 ∨ a % 9 = 6 ∨ a % 9 = 7 ∨ a % 9 = 8 := by omega
      · exact grown_bin0 d IH a n l A c w hl h D hD (by omega) e
      · exact grown_bin1 d IH a n l A c w hl h D hD (by omega) e
      · exact grown_bin2 d IH a n l A c w hl h D hD (by omega) e
      · exact grown_un d IH a n l A c w hl h D hD (by omega) e
      · exact grown_num d IH a n l A c w hl h D hD (by omega) e
      · exact grown_idx d IH a n l A c w hl h D hD (by omega) e
      · exact grown_call d IH a n l A c w hl h D hD (by omega) e
      · exact grown_rng d IH a n l A c w hl h D hD (by omega) e
      · exact grown_str d IH a n l A c w hl h D hD (by omega) e
abbrev endsV : Array Value := #[.string ⟨#[]⟩, .string ⟨#[41]⟩, .string ⟨#[59]⟩, .string ⟨#[84, 72, 69, 78]⟩, .string ⟨#[93]⟩, .string ⟨#[58, 61]⟩, .string ⟨#[69, 78, 68]⟩, .string ⟨#[46, 46]⟩]
theorem end_at (k : Nat) (hk : k < 8) (W : World) : (W.alloc (.cells endsV 9)).cell? ⟨W.heap.size, k, none⟩ = some (.string (endB k)) := by
  rw [(Lx.Blk.new W 9 endsV).cell k]
  iterate 8 (rcases k with _ | k; · rfl)
  omega
theorem end_size : ∀ k, k < 8 → (endB k).size ≤ 4 := by decide
theorem end_text (l : List UInt8) (s : ByteArray) : ((bt l ++ ⟨#[32]⟩) ++ s).data.toList = l ++ 32 :: s.data.toList := by
  simp [bt_data, ByteArray.data_append]
set_option maxRecDepth 100000 in
set_option maxHeartbeats 3200000 in
theorem back_walk (l : List (Nat × Nat)) (A : Option Addr) (c : Nat) (a1 : Int) (w : World) (h : Seeds w A c l) (h1 : 0 ≤ a1 ∧ a1 ≤ 255) :
    Calls Try.prog 3 #[.slice A l.length c, .int .u8 a1] w fun e w' => e = .returned (.bool true) ∧ Below w.heap.size w w' := by
  have hcap := h.cap
  have hbig := h.big
  by_cases hh : 60 < l.length
  · have WK := Lib.hid (works_any w)
    have x1 : (60 : Int) < (l.length : Int) := by omega
    clear h hh
    go_enter Try.func3, Try.ntmps3
    go_wp2_with fail
    ((with_reducible refine WK.out.mono ?_); rintro e w1 ⟨rfl, hb⟩)
    go_wp2
    go_ret
    exact ⟨rfl, hb⟩
  · have x1 : ¬ (60 : Int) < (l.length : Int) := by omega
    have GR := Lib.hid (grown_any 12 (by omega) l A c w (by omega) h 12 rfl)
    obtain ⟨fg, u1, u2, u3⟩ := grown_ok 12 l (fun s hs => (h.fit s hs).2)
    obtain ⟨g, m, e1⟩ : ∃ g m, grownP 12 l = (g, m) := ⟨_, _, rfl⟩
    rw [e1] at GR fg u1 u2 u3
    simp only at fg u1 u2 u3
    obtain ⟨k, ek⟩ : ∃ k : Nat, a1 % 8 = (k : Int) := ⟨(a1 % 8).toNat, by omega⟩
    have hk : k < 8 := by omega
    have x2 : 0 ≤ a1 := h1.1
    have x3 : a1 ≤ 255 := h1.2
    have x4 : (0 : Int) ≤ (k : Int) := by omega
    have x5 : (k : Int) < 8 := by omega
    have hes := end_size k hk
    have htl : g.text.length ≤ 541 := by omega
    have hts : (bt g.text).size ≤ 541 := by show g.text.toArray.size ≤ 541; simp; omega
    obtain ⟨x, hx, hbare⟩ := back_plain g fg k hk (by omega) (by omega)
    obtain ⟨L1, l1⟩ : ∃ L, rowP g.text = L := ⟨_, rfl⟩
    obtain ⟨L2, l2⟩ : ∃ L, rowP (g.text ++ 32 :: (endB k).data.toList) = L := ⟨_, rfl⟩
    rw [l1, l2] at hx
    have R1 := Lib.hid (fun W => row_at (bt g.text) (by omega) L1 (by rw [bt_data]; exact l1) W)
    have hsz : ((bt g.text ++ ⟨#[32]⟩) ++ endB k).size ≤ 600 := by
      rw [ByteArray.size_append, ByteArray.size_append]
      show (bt g.text).size + 1 + (endB k).size ≤ 600
      omega
    have R2 := Lib.hid (fun W => row_at ((bt g.text ++ ⟨#[32]⟩) ++ endB k) (by omega) L2 (by rw [end_text]; exact l2) W)
    have HX := Lib.hid hx
    have HC := Lib.hid (show cntT g.tree ≤ 1000000 by omega)
    clear h hh h1 l1 l2 hx e1 u1 u2 u3 hsz htl fg
    go_enter Try.func3, Try.ntmps3
    go_wp2_with fail
    ((with_reducible refine GR.out.mono ?_); rintro e w1 ⟨b1, rfl, hr, hb⟩)
    have HB := Lib.hid hb
    have HR := Lib.hid hr
    clear hr hb GR
    have D1 := Lib.hid (R1.out (w1.alloc (.cells endsV 9)))
    have hend := end_at k hk w1
    go_wp2_with fail
    ((with_reducible refine D1.out.mono ?_); rintro e w2 ⟨A1, c1, rfl, _, _, hb⟩)
    have hlt : w1.heap.size < (w1.alloc (.cells endsV 9)).heap.size := by rw [World.size_alloc]; exact Nat.lt_succ_self _
    have v1 := (hb.cell (p := ⟨w1.heap.size, k, none⟩) hlt).trans hend
    have hbz : Below w1.heap.size w1 w2 := (bel1 w1 _).trans (hb.mono (Nat.le_of_lt hlt))
    have HZ := Lib.hid hbz
    clear hend hb hlt D1 hbz
    have D2 := Lib.hid (R2.out w2)
    go_wp2_with fail
    ((with_reducible refine D2.out.mono ?_); rintro e w3 ⟨A2, c2, rfl, _, ha, hb⟩)
    have HZ := Lib.hid (HZ.out.trans (hb.mono HZ.out.size))
    have D3 := Expr_0 ha c2
    rw [HX.out] at D3
    have D3 := Lib.hid D3
    clear ha hb D2 v1
    go_wp2_with fail
    ((with_reducible refine D3.out.mono ?_); rintro e w4 ⟨b2, rfl, hr, hb⟩)
    have HZ := Lib.hid (HZ.out.trans (hb.mono HZ.out.size))
    have SM := Lib.hid (same_at (HR.out.below HZ.out) hr hbare HC.out)
    clear hr hb D3
    go_wp2_with fail
    ((with_reducible refine SM.out.mono ?_); rintro e w5 ⟨rfl, j, rfl⟩)
    have HB := Lib.hid (Lx.below_drewN (HB.out.trans (HZ.out.mono HB.out.size)) j)
    have WK := Lib.hid (works_any (w4.drewN j))
    clear SM
    go_wp2_with fail
    ((with_reducible refine WK.out.mono ?_); rintro e w9 ⟨rfl, hb⟩)
    have HB := Lib.hid (HB.out.trans (hb.mono HB.out.size))
    clear hb WK
    go_wp2
    go_ret
    exact ⟨rfl, HB.out⟩
end Go.Proofs.Ytnboenmkngjhmaa.Ex
