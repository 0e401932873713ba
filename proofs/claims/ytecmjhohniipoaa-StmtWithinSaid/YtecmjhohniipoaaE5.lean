/- The walks of qualident, element, many, between, plain. -/
import Derived.Test.YtecmjhohniipoaaE4
set_option linter.unusedSimpArgs false
set_option linter.unusedVariables false
namespace Go.Proofs.Ytecmjhohniipoaa.Ex
open Go.RowKit
open Tr (Nd Fo RepS RepN)
open Lx (Tk noTk Blk run_store_complexL TokAt)
open Fl
attribute [local go_sem] run_store_complexL run_field1 run_field3

/-- Where the row stands, read off the world. -/
def atW (w : World) (br : Nat) : Nat := match w.cell? ⟨br, 1, none⟩ with
  | some (.int _ n) => n.toNat
  | _ => 0
theorem PInv.atW {w0 w : World} {br c i : Nat} {A : Option Addr} {L : List PT} (h : PInv w0 w br A c L i) : atW w br = i := by
  unfold Ex.atW
  rw [h.at_.1]
  simp
theorem dotsP_succ (L : List PT) (f : Nat) (x : T1) (i : Nat) : dotsP L (f + 1) x i = if isT L i sDot = true then (match dotP L x i with
    | .error k => .error k
    | .ok (y, j) => dotsP L f y j) else .ok (x, i) := rfl
theorem nameP_le {L : List PT} {i j : Nat} {t : PT} (h : nameP L i = .ok (t, j)) : j = i + 1 ∧ t = tk L i ∧ (tk L i).1.kind = 1 := by
  unfold nameP at h
  split at h
  · injection h with h; injection h with h1 h2; exact ⟨h2.symm, h1.symm, by assumption⟩
  · cases h
theorem need_le {L : List PT} {i j : Nat} {s : ByteArray} (h : need L i s = .ok j) : j = i + 1 ∧ isT L i s = true := by
  unfold need at h
  split at h
  · injection h with h; exact ⟨h.symm, by assumption⟩
  · cases h
theorem dotP_le {L : List PT} {i j : Nat} {x y : T1} (h : dotP L x i = .ok (y, j)) : j = i + 2 := by
  unfold dotP at h
  split at h
  · cases h
  · rename_i j1 h1
    split at h
    · cases h
    · rename_i t j2 h2
      injection h with h; injection h with h3 h4
      have := need_le h1
      have := nameP_le h2
      omega
set_option maxRecDepth 100000 in
set_option maxHeartbeats 3200000 in
theorem qual_any {w0 : World} {br c i : Nat} {A : Option Addr} {L : List PT} (ht : Toks w0 br A L) (hi : i ≤ 100000) (w : World) (h : PInv w0 w br A c L i) :
    Calls Try.prog 88 #[.pointer (some ⟨br, 0, none⟩)] w (TreeR w.heap.size w0 w br A c L (qualP L i)) := by
  have hbr0 := h.row.lt
  have hlen := ht.len
  have H := Lib.hid (PG.start h)
  by_cases hk : (tk L i).1.kind = 1
  · obtain ⟨k2, a1, a2, b1, b2, t2, n2, e3, e4⟩ := val_form (tk L i)
    have nm := name_ok ht (by omega) w h hk
    rw [e4] at nm
    have NM := Lib.hid nm
    have HS := Lib.hid (show qualP L i = dotsP L (L.length + 1) (⟨1, (a1, a2), t2, 0⟩, .no) (i + 1) from by
      unfold qualP nameP
      rw [if_pos hk]
      dsimp only
      rw [e3]
      rfl)
    have IS := Lib.hid (fun j (hj : j ≤ 200000) w h => is_any ht (i := j) (by omega) (c := c) sDot w h)
    have DT := Lib.hid (fun j (hj : j ≤ 200000) x bx W h hW hx hT => dot_any ht (i := j) (by omega) (c := c) x bx W h hbr0 (B := w.heap.size) hW hx hT)
    clear nm hk e3 e4 h ht
    go_enter Try.func88, Try.ntmps88
    go_wp2_with fail
    ((with_reducible refine (NM.out).mono ?_); rintro e w1 ⟨rfl, hb⟩)
    have H := Lib.hid (H.out.trans hb)
    clear hb
    have NW := Lib.hid (fun W (hW : w.heap.size ≤ W.heap.size) => new_at (B := w.heap.size) (w := W) hW 1 1 rfl a1 a2 t2 0 none 0 0 [] .no rfl (by omega) Reads.none_ (by unfold RepN; rfl))
    have hz := Nat.le_trans H.out.2.size (((Below.refl w1.heap.size w1).alloc (Nat.le_refl _) (.cells #[.int .u8 k2, .complex .f64 (fl a1) (fl a2), .complex .f64 (fl b1) (fl b2), .string t2, .int .i64 n2] 68)).size)
    go_wp2_with fail
    ((with_reducible refine (NW.out _ hz).mono ?_); rintro e w2 ⟨bx, rfl, hb, hr⟩)
    have H := Lib.hid ((H.out.alloc _).below hb)
    have HR := Lib.hid hr
    clear hb hr hz NW
    go_wp2_with fail
    go_loopw [4] (fun xv wr => ∃ (x : T1) (bx j f : Nat), xv = .pointer (some ⟨bx, 0, none⟩) ∧ j ≤ i + 1 + L.length + 2 ∧ L.length < j + f ∧ Hid (PG w0 w wr br A c L j) ∧ Hid (RepS (fun y => w.heap.size ≤ y) wr (.node x.1 x.2 .no) [.pointer (some ⟨bx, 0, none⟩)]) ∧ Hid (qualP L i = dotsP L f x j)) (fun _ wr => L.length + 1 - atW wr br)
    case atStart => exact ⟨_, bx, i + 1, L.length + 1, rfl, by omega, by omega, H, HR, HS⟩
    case round =>
      clear H HR HS NM
      obtain ⟨x, bx, j, f, rfl, hj, hf, H, HR, HS⟩ := hrel
      have HW := Lib.hid H.out.1.atW
      cases hT : isT L j sDot
      · have i1 := IS.out j (by omega) _ H.out.1
        rw [hT] at i1
        have I1 := Lib.hid i1
        have HS2 := Lib.hid (show qualP L i = .ok (x, j) by
          rw [HS.out]
          cases f with
          | zero => rfl
          | succ f => unfold dotsP; rw [if_neg (by rw [hT]; simp)])
        clear i1
        go_wp2_with fail
        ((with_reducible refine I1.out.mono ?_); rintro e w3 ⟨rfl, hb⟩)
        have H := Lib.hid (H.out.below hb)
        have HR := Lib.hid (HR.out.below hb)
        clear hb
        go_wp2
        go_ret
        rw [HS2.out]
        exact ⟨bx, rfl, H.out.1, H.out.2, HR.out⟩
      · have hjl := isT_lt hT
        have i1 := IS.out j (by omega) _ H.out.1
        rw [hT] at i1
        have I1 := Lib.hid i1
        obtain ⟨f, rfl⟩ : ∃ f', f = f' + 1 := ⟨f - 1, by omega⟩
        have HS2 := Lib.hid (show qualP L i = (match dotP L x j with
          | .error k => .error k
          | .ok (y, j) => dotsP L f y j) by rw [HS.out, dotsP_succ, if_pos hT])
        clear i1
        go_wp2_with fail
        ((with_reducible refine I1.out.mono ?_); rintro e w3 ⟨rfl, hb⟩)
        have H := Lib.hid (H.out.below hb)
        have HR := Lib.hid (HR.out.below hb)
        clear hb
        have d1 := DT.out j (by omega) x bx w3 H.out.1 H.out.2.size HR.out hT
        cases hd : dotP L x j with
        | error k =>
          rw [hd] at d1 HS2
          have D1 := Lib.hid d1
          clear d1
          go_wp2_with fail
          ((with_reducible refine D1.out.mono ?_); rintro e w4 ⟨rfl, hb⟩)
          have H3 := Lib.hid (grown_trans H.out.2 hb)
          clear hb
          go_wp2
          refine ⟨rfl, ?_⟩
          rw [HS2.out]
          exact ⟨rfl, H3.out⟩
        | ok r =>
          obtain ⟨y, j2⟩ := r
          rw [hd] at d1 HS2
          have hj2 := dotP_le hd
          have D1 := Lib.hid d1
          clear d1 hd
          go_wp2_with fail
          ((with_reducible refine D1.out.mono ?_); rintro e w4 ⟨by_, rfl, hp, hg, hr⟩)
          have H2 := Lib.hid (H.out.trans ⟨hp, hg⟩)
          have HR := Lib.hid hr
          clear hp hg hr
          go_wp2
          go_roundw
          case rel => exact ⟨y, by_, j2, f, rfl, by omega, by omega, H2, HR, HS2⟩
          case measure => rw [H2.out.1.atW, HW.out]; omega
  · have HS := Lib.hid (show qualP L i = .error i by
      unfold qualP nameP
      rw [if_neg hk])
    have NM := Lib.hid (name_no ht (by omega) w h hk)
    clear hk h ht
    go_enter Try.func88, Try.ntmps88
    go_wp2_with fail
    ((with_reducible refine (NM.out).mono ?_); rintro e w1 ⟨rfl, hb⟩)
    have H3 := Lib.hid (grown_trans H.out.2 hb)
    clear hb
    go_wp2
    refine ⟨rfl, ?_⟩
    rw [HS.out]
    exact ⟨rfl, H3.out⟩
end Go.Proofs.Ytecmjhohniipoaa.Ex
