/- A part of the proof: E9, E10. -/
import Derived.Test.YtkemhmfdooghkaaGreatDoorW1
import Derived.Test.YtkemhmfdooghkaaGreatDoorW18
import Derived.Deep.AppendLies
import Derived.Deep.LoopGhost
import Derived.MapKept
set_option linter.unusedSimpArgs false
set_option linter.unusedVariables false
set_option maxRecDepth 100000
set_option maxHeartbeats 6400000
namespace Go.Proofs.YtkemhmfdooghkaaGreatDoor.Ex
open Go.RowKit
open Tr (Nd Fo RepS RepN)
open Lx (Tk noTk Blk run_store_complexL TokAt)
open Fl
attribute [local go_sem] run_store_complexL run_field1 run_field3
theorem forest_snoc (l : List T1) (x : T1) : forest (l ++ [x]) = (forest l).snoc x.1 x.2 := by
 induction l with
 | nil => rfl
 | cons y l ih => show Fo.node y.1 y.2 (forest (l ++ [x])) = _; rw [ih]; rfl
structure MB (w wr : World) (lv : Value) (acc : List T1) (vs : List Value) : Prop where
 own : wr.ownsRow w.heap.size 31 1 lv vs.length vs
 rep : RepS (fun x => w.heap.size ≤ x ∧ lv.ownBlock ≠ some x) wr (forest acc) vs
 len : vs.length = acc.length
 one : ∀ v ∈ vs, v.oneCell' = true
section
variable {w0 w wr w1 w2 : World} {br c i i' : Nat} {A : Option Addr} {L : List PT} {lv : Value} {acc : List T1} {vs : List Value}
theorem MB.grown (h : MB w wr lv acc vs) (hg : wr.grownBy w1 (some br)) (hbr : br < w.heap.size) : MB w w1 lv acc vs :=
 ⟨h.own.kept hg (.inr fun e => by have := (h.own.lt _ e).1; omega), h.rep.keep hg.size (fun x hx hl => hg.block x hl (fun e => by injection e with e; have := hx.1; omega)) (fun x hx _ => hx), h.len, h.one⟩
theorem MB.start {x : T1} {b : Nat} (hw : w.heap.size ≤ wr.heap.size) (hx : RepS (fun y => w.heap.size ≤ y) wr (.node x.1 x.2 .no) [.pointer (some ⟨b, 0, none⟩)]) :
 MB w (wr.alloc (.cells #[.pointer (some ⟨b, 0, none⟩)] 31)) (.slice (some ⟨wr.heap.size, 0, none⟩) 1 1) [x] [.pointer (some ⟨b, 0, none⟩)] := by
 refine ⟨World.ownsRow_lit wr #[.pointer (some ⟨b, 0, none⟩)] 1 hw (by unfold maxLen; omega) rfl, ?_, rfl, fun v hv => ?_⟩
 ·refine hx.keep (by rw [World.size_alloc]; exact Nat.le_succ _) (fun x _ hl => Below.heap_alloc wr _ x hl) (fun x hx hl => ⟨hx, fun e => ?_⟩)
  have : wr.heap.size = x := by simpa [Value.ownBlock] using e
  omega
 ·simp only [List.mem_singleton] at hv; subst hv; rfl
theorem MB.appended {x : T1} {b g cap : Nat} {B : Nat} (h : MB w wr lv acc vs) (hx : RepS (fun y => B ≤ y) wr (.node x.1 x.2 .no) [.pointer (some ⟨b, 0, none⟩)]) (hB : ∀ k, lv.ownBlock = some k → k < B) (hBw : w.heap.size ≤ B)
 (hown : w1.ownsRow w.heap.size 31 1 (.slice (some ⟨g, 0, none⟩) (vs.length + 1) cap) (vs.length + 1) (vs ++ [.pointer (some ⟨b, 0, none⟩)]))
 (hg : (wr.alloc (.cells #[.pointer (some ⟨b, 0, none⟩)] 31)).grownBy w1 lv.ownBlock) (hor : lv.ownBlock = some g ∨ g = wr.heap.size + 1) :
 MB w w1 (.slice (some ⟨g, 0, none⟩) (vs.length + 1) cap) (acc ++ [x]) (vs ++ [.pointer (some ⟨b, 0, none⟩)]) := by
 have hs : wr.heap.size ≤ w1.heap.size := by have := hg.size; rw [World.size_alloc] at this; omega
 have hk : ∀ y, y < wr.heap.size → lv.ownBlock ≠ some y → w1.heap[y]? = wr.heap[y]? := fun y hy hne =>
  (hg.block y (by rw [World.size_alloc]; omega) (fun e => hne e.symm)).trans (Below.heap_alloc wr _ y hy)
 have hS : ∀ y, y < wr.heap.size → lv.ownBlock ≠ some y → (Value.slice (some ⟨g, 0, none⟩) (vs.length + 1) cap).ownBlock ≠ some y := fun y hy hne e => by
  have : g = y := by simpa [Value.ownBlock] using e
  subst this
  rcases hor with h | h
  ·exact hne h
  ·omega
 refine ⟨by rw [List.length_append]; exact hown, ?_, by rw [List.length_append, List.length_append, h.len]; rfl, fun v hv => ?_⟩
 ·rw [forest_snoc]
  refine RepS.snoc (hx.keep hs (fun y hy hl => hk y hl (fun e => by have := hB _ e; omega)) (fun y hy hl => ⟨by omega, hS y hl (fun e => by have := hB _ e; omega)⟩)) (h.rep.keep hs (fun y hy hl => hk y hl hy.2) (fun y hy hl => ⟨hy.1, hS y hl hy.2⟩))
 ·rcases List.mem_append.1 hv with hv | hv
  ·exact h.one v hv
  ·simp only [List.mem_singleton] at hv; subst hv; rfl
theorem MB.bd (h : MB w wr lv acc vs) : ∀ k, lv.ownBlock = some k → k < wr.heap.size := fun k e => (h.own.lt _ e).2
theorem PG.appended {o : Obj} {row : Option Nat} (h : PG w0 w wr br A c L i) (hw : PInv w0 w br A c L i') (hg : (wr.alloc o).grownBy w1 row) (hr : ∀ k, row = some k → w.heap.size ≤ k) : PG w0 w w1 br A c L i := by
 have hl := hw.row.lt
 have hs := hw.grown.size
 have h' := h.alloc o
 have hk : ∀ (a : World), a.heap.size ≤ w.heap.size → a.grownBy (wr.alloc o) (some br) → a.grownBy w1 (some br) := fun a ha h =>
  ⟨hg.os.trans h.os, hg.tape.trans h.tape, hg.output.trans h.output, Nat.le_trans h.size hg.size, fun k hk hne => (hg.block k (Nat.lt_of_lt_of_le hk h.size) (fun e => by have := hr k e.symm; omega)).trans (h.block k hk hne)⟩
 exact ⟨⟨h'.1.row.grown hg (fun e => by have := hr _ e.symm; omega), hk w0 hs h'.1.grown⟩, hk w (Nat.le_refl _) h'.2⟩
theorem own_loc {A' : Option Addr} {c' n base size : Nat} {e : TypeId} {xs : List Value} (h : wr.ownsRow base e size (.slice A' n c') n xs) : ∀ ad, A' = some ad → base ≤ ad.block := by
 rintro ad rfl
 exact (h.lt ad.block rfl).1
theorem reads_grown {A' : Option Addr} {n : Nat} (h : Reads wr wr.heap.size 1 A' n vs) (hg : wr.grownBy w1 (some br)) (hloc : ∀ ad, A' = some ad → ad.block ≠ br) : Reads w1 w1.heap.size 1 A' n vs :=
 ⟨h.1, fun hn => by
   obtain ⟨ad, e, hb, hc⟩ := h.2 hn
   exact ⟨ad, e, Nat.lt_of_lt_of_le hb hg.size, fun j u hu => (World.cell?_of_block (by rw [block_of_add]; exact hg.block _ hb (fun e2 => hloc _ e (by injection e2)))).trans (hc j u hu)⟩⟩
def ListR (w0 w : World) (br : Nat) (A : Option Addr) (c : Nat) (L : List PT) (r : Except Nat (List T1 × Nat)) (e : Ending) (w' : World) : Prop := match r with
 | .ok (l, j) => ∃ A' c' vs, e = .returned (.slice A' (List.length vs) c') ∧ PInv w0 w' br A c L j ∧ w.grownBy w' (some br) ∧ Reads w' w'.heap.size 1 A' vs.length vs ∧ RepS (fun y => w.heap.size ≤ y) w' (forest l) vs ∧ vs.length = l.length ∧ (∀ v ∈ vs, v.oneCell' = true) ∧ l.length ≤ 20001 ∧ (∀ ad, A' = some ad → w.heap.size ≤ ad.block)
 | .error k => e = bad k ∧ w.grownBy w' (some br)
end
theorem manyR_succ (L : List PT) (sp : Nat → Except Nat (T1 × Nat)) (f : Nat) (acc : List T1) (i : Nat) : manyR L sp (f + 1) acc i = if isT L i sCom = true then (match sp (i + 1) with
 | .error k => .error k
 | .ok (y, j) => manyR L sp f (acc ++ [y]) j) else .ok (acc, i) := rfl
section
variable {L : List PT} {sp : Nat → Except Nat (T1 × Nat)} (hm : SpOK L sp)
include hm
theorem manyR_ok : ∀ (f : Nat) (acc : List T1) (i : Nat) (l : List T1) (j : Nat), manyR L sp f acc i = .ok (l, j) → i ≤ L.length → i ≤ j ∧ j ≤ L.length := by
 intro f
 induction f with
 | zero => intro x i y j h hi; injection h with h; injection h with h1 h2; omega
 | succ f ih =>
   intro x i y j h hi
   rw [manyR_succ] at h
   split at h
   ·split at h
    ·cases h
    ·rename_i y1 j1 h1
     have g := hm _ _ _ h1
     have := ih _ _ _ _ h g.2
     omega
   ·injection h with h; injection h with h1 h2; omega
theorem manyP_ok {i j : Nat} {l : List T1} (h : manyP L sp i = .ok (l, j)) : i < j ∧ j ≤ L.length := by
 unfold manyP at h
 split at h
 ·cases h
 ·rename_i x j1 h1
  have g := hm _ _ _ h1
  have := manyR_ok hm _ _ _ _ _ h g.2
  omega
theorem betweenP_ok {i j : Nat} {l : List T1} {s : ByteArray} (h : betweenP L sp s i = .ok (l, j)) : i < j ∧ j ≤ L.length := by
 unfold betweenP at h
 split at h
 ·rename_i hT
  have := isT_lt hT
  injection h with h; injection h with h1 h2; omega
 ·split at h
  ·cases h
  ·rename_i l1 j1 h1
   have g := manyP_ok hm h1
   split at h
   ·cases h
   ·rename_i j2 h2
    have g2 := need_le h2
    have := isT_lt g2.2
    injection h with h; injection h with h3 h4; omega
end
theorem infoN : (Tryz.prog.info? 31).map (fun i => (i.zero, i.size, i.bytes)) = some (some (.pointer none), 1, 8) := by kernel_rfl
theorem many_fn {F : Nat} (hev : ∀ args w, (callFunc F args).run Tryz.prog w = .ok (.enter F args) w) {sp : Nat → Except Nat (T1 × Nat)} {lo : Nat} {w0 : World} {br c : Nat} {A : Option Addr} {L : List PT} (ht : Toks w0 br A L) (hF : FnOK F sp lo w0 br A c L) (hm : SpOK L sp) (i : Nat) (hlo : lo ≤ i) (hi : i ≤ 60000) (w : World) (h : PInv w0 w br A c L i) :
 Calls Tryz.prog 156 #[.pointer (some ⟨br, 0, none⟩), .func (.func F) #[.pointer (some ⟨br, 0, none⟩)] #[]] w (ListR w0 w br A c L (manyP L sp i)) := by
 have hbr0 := h.row.lt
 have hlen := ht.len
 have H0 := qh h
 have H := qh (PG.start h)
 have HF := qh hF
 have HM := qh hm
 have HT := qh ht
 have HS0 := qh (show manyP L sp i = (match sp i with
  | .error k => .error k
  | .ok (x, j) => manyR L sp (L.length + 1) [x] j) from rfl)
 have d1 := hF i hlo hi w h
 clear hF h ht hm
 generalize manyP L sp i = res at *
 obtain ⟨i0, hi0, hz0, hz1, hz2⟩ := info_parts infoN
 go_enter Tryz.func156, Tryz.ntmps156
 cases hx : sp i with
 | error k =>
   rw [hx] at d1
   have HS := qh (show res = .error k by rw [HS0.out, hx])
   have D1 := qh d1
   clear d1 hx HS0
   go_wp2_with fail
   ((with_reducible refine (D1.out).mono ?_); rintro e w1 ⟨rfl, hb⟩)
   have H3 := qh (grown_trans H.out.2 hb)
   clear hb
   go_wp2
   refine ⟨rfl, ?_⟩
   rw [HS.out]
   exact ⟨rfl, H3.out⟩
 | ok r =>
   obtain ⟨x, j⟩ := r
   rw [hx] at d1
   have hj := HM.out _ _ _ hx
   have HS := qh (show res = manyR L sp (L.length + 1) [x] j by rw [HS0.out, hx])
   have D1 := qh d1
   clear d1 hx HS0
   go_wp2_with fail
   ((with_reducible refine D1.out.mono ?_); rintro e w2 ⟨bx, rfl, hp, hg, hr⟩)
   have HB := qh (MB.start (x := x) hg.size hr)
   have H := qh ((H.out.trans ⟨hp, hg⟩).alloc (.cells #[.pointer (some ⟨bx, 0, none⟩)] 31))
   clear hp hg hr D1
   go_wp2_with fail
   go_loopw [5] (fun lv wr => ∃ (mv : Value) (acc : List T1) (vs : List Value) (j f : Nat), mv = lv ∧ lo ≤ j ∧ j ≤ L.length ∧ L.length < j + f ∧ acc.length ≤ j ∧ Hid (PG w0 w wr br A c L j) ∧ Hid (MB w wr mv acc vs) ∧ Hid (res = manyR L sp f acc j)) (fun _ wr => L.length + 1 - atW wr br)
   case atStart => exact ⟨_, [x], _, j, L.length + 1, rfl, by omega, by omega, by omega, by simp only [List.length_singleton]; omega, H, HB, HS⟩
   case round =>
    clear H HB HS hj
    obtain ⟨mv, acc, vs, j, f, rfl, hjl, hj, hf, hac, H, HB, HS⟩ := hrel
    have HW := qh H.out.1.atW
    obtain ⟨f, rfl⟩ : ∃ f', f = f' + 1 := ⟨f - 1, by omega⟩
    have HS1 := qh (HS.out.trans (manyR_succ L sp f acc j))
    clear HS
    cases hC : isT L j sCom with
    | false =>
      have EN := qh (eat_no HT.out (by omega) sCom _ H.out.1 hC)
      have HS := qh (HS1.out.trans (if_neg (by rw [hC]; simp)))
      clear HS1
      go_wp2_with fail
      ((with_reducible refine EN.out.mono ?_); rintro e v1 ⟨rfl, hb⟩)
      have H := qh (H.out.trans hb)
      have HB := qh (HB.out.grown hb.2 hbr0)
      clear hb
      go_wp2
      go_ret
      rw [HS.out]
      obtain ⟨A', c', rfl, hR⟩ := own_form HB.out.own
      exact ⟨A', c', vs, rfl, H.out.1, H.out.2, hR, HB.out.rep.more fun x hx _ => hx.1, HB.out.len, HB.out.one, by omega, own_loc HB.out.own⟩
    | true =>
      have hjlt := isT_lt hC
      have EY := qh (eat_yes HT.out (by omega) sCom _ H.out.1 hC)
      have HS2 := qh (HS1.out.trans (if_pos hC))
      clear HS1
      go_wp2_with fail
      ((with_reducible refine EY.out.mono ?_); rintro e v1 ⟨rfl, hb⟩)
      have H := qh (H.out.trans hb)
      have HB := qh (HB.out.grown hb.2 hbr0)
      clear hb
      have d3 := HF.out (j + 1) (by omega) (by omega) v1 H.out.1
      cases hy : sp (j + 1) with
      | error k =>
        rw [hy] at d3
        have HS := qh (show res = .error k by rw [HS2.out, hy])
        have D3 := qh d3
        clear d3 HS2
        go_wp2_with fail
        ((with_reducible refine (D3.out).mono ?_); rintro e w1 ⟨rfl, hb⟩)
        have H3 := qh (grown_trans H.out.2 hb)
        clear hb
        go_wp2
        refine ⟨rfl, ?_⟩
        rw [HS.out]
        exact ⟨rfl, H3.out⟩
      | ok r =>
        obtain ⟨y, j4⟩ := r
        rw [hy] at d3
        have hj4 := HM.out _ _ _ hy
        have HS7 := qh (show res = manyR L sp f (acc ++ [y]) j4 by rw [HS2.out, hy])
        have D3 := qh d3
        clear d3 hy HS2
        go_wp2_with fail
        ((with_reducible refine D3.out.mono ?_); rintro e v2 ⟨by_, rfl, hp, hg, hr⟩)
        have HBD := qh HB.out.bd
        have HB := qh (HB.out.grown hg hbr0)
        have HY := qh hr
        have hv1 := H.out.2.size
        have H := qh (H.out.trans ⟨hp, hg⟩)
        clear hp hg hr D3
        have hvl := Nat.le_of_eq HB.out.len
        have Q : Hid ((∀ i v, [Value.pointer (some ⟨by_, 0, none⟩)][i]? = some v → (v2.alloc (.cells #[.pointer (some ⟨by_, 0, none⟩)] 31)).cell? ((⟨v2.heap.size, 0, none⟩ : Addr).add i) = some v) ∧ (∀ v ∈ [Value.pointer (some ⟨by_, 0, none⟩)], v.oneCell' = true) ∧ vs.length + 1 ≤ maxLen ∧ w.heap.size ≤ (v2.alloc (.cells #[.pointer (some ⟨by_, 0, none⟩)] 31)).heap.size ∧ (v2.alloc (.cells #[.pointer (some ⟨by_, 0, none⟩)] 31)).ownsRow w.heap.size 31 1 mv vs.length vs) :=
         qh ⟨World.news_of_block (cs := #[.pointer (some ⟨by_, 0, none⟩)]) (heap_alloc_new v2 _), fun v hv => by simp only [List.mem_singleton] at hv; subst hv; rfl, by unfold maxLen; omega, by have := H.out.2.size; rw [World.size_alloc]; omega, HB.out.own.alloc _⟩
        go_wp2_with (at_builtin; refine wpList_append_lies _ rfl _ _ _ rfl w.heap.size 31 i0 _ 1 8 Tryz.underlying36 hi0 hz0 hz1 hz2 rfl (by omega) mv vs.length vs rfl Q.out.2.2.2.2 ⟨v2.heap.size, 0, none⟩ 1 1 [.pointer (some ⟨by_, 0, none⟩)] rfl rfl Q.out.1 Q.out.2.1 (by omega) Q.out.2.2.1 (by omega) Q.out.2.2.2.1 (v2.heap.size + 1) (by rw [World.size_alloc]) ?_; intro g' cap w5 hown1 hgrow hor hlt5; have HB2 := qh (MB.appended HB.out HY.out HBD.out hv1 hown1 hgrow hor); have H2 := qh (PG.appended H.out H0.out hgrow (fun k e => (HB.out.own.lt _ e).1)); clear hown1 hgrow hor hlt5)
        go_roundw
        case rel => exact ⟨_, acc ++ [y], vs ++ [.pointer (some ⟨by_, 0, none⟩)], j4, f, rfl, by omega, by omega, by omega, by rw [List.length_append]; simp only [List.length_singleton]; omega, H2, HB2, HS7⟩
        case measure => rw [H2.out.1.atW, HW.out]; omega
theorem many_elem {sp : Nat → Except Nat (T1 × Nat)} {lo : Nat} {w0 : World} {br c : Nat} {A : Option Addr} {L : List PT} (ht : Toks w0 br A L) (hF : FnOK 157 sp lo w0 br A c L) (hm : SpOK L sp) (i : Nat) (hlo : lo ≤ i) (hi : i ≤ 60000) (w : World) (h : PInv w0 w br A c L i) :
 Calls Tryz.prog 156 #[.pointer (some ⟨br, 0, none⟩), .func (.func 157) #[.pointer (some ⟨br, 0, none⟩)] #[]] w (ListR w0 w br A c L (manyP L sp i)) := many_fn (by intro _ _; kernel_rfl) ht hF hm i hlo hi w h
end Go.Proofs.YtkemhmfdooghkaaGreatDoor.Ex
namespace Go.Proofs.YtkemhmfdooghkaaGreatDoor.Ex
open Go.RowKit
open Tr (Nd Fo RepS RepN Rep)
open Lx (Tk noTk Blk run_store_complexL TokAt)
open Fl
attribute [local go_sem] run_store_complexL run_field1 run_field3
def dotOK : Fo → Prop
 | .no => True
 | .node d k _ => d.kind = 2 → k ≠ .no ∧ dotOK k
def dotT (x : T1) : Prop := dotOK (.node x.1 x.2 .no)
theorem dotP_dot {L : List PT} {i j : Nat} {x y : T1} (hx : dotT x) (h : dotP L x i = .ok (y, j)) : dotT y := by
 unfold dotP at h
 split at h
 ·cases h
 ·split at h
  ·cases h
  ·injection h with h; injection h with h1 h2
   rw [← h1]
   intro _
   exact ⟨(by intro e; cases e), hx⟩
theorem dotsP_dot {L : List PT} : ∀ (f : Nat) (x : T1) (i : Nat) (y : T1) (j : Nat), dotT x → dotsP L f x i = .ok (y, j) → dotT y := by
 intro f
 induction f with
 | zero => intro x i y j hx h; injection h with h; injection h with h1 h2; rw [← h1]; exact hx
 | succ f ih =>
   intro x i y j hx h
   rw [dotsP_succ] at h
   split at h
   ·split at h
    ·cases h
    ·rename_i y1 j1 h1
     exact ih _ _ _ _ (dotP_dot hx h1) h
   ·injection h with h; injection h with h1 h2; rw [← h1]; exact hx
theorem qualP_dot {L : List PT} {i j : Nat} {y : T1} (h : qualP L i = .ok (y, j)) : dotT y := by
 unfold qualP at h
 split at h
 ·cases h
 ·exact dotsP_dot _ _ _ _ _ (fun e => by cases e) h
theorem commasP_dot {L : List PT} {ex : Nat → Except Nat (T1 × Nat)} : ∀ (f : Nat) (x : T1) (i : Nat) (y : T1) (j : Nat), dotT x → commasP L ex f x i = .ok (y, j) → dotT y := by
 intro f
 induction f with
 | zero => intro x i y j hx h; injection h with h; injection h with h1 h2; rw [← h1]; exact hx
 | succ f ih =>
   intro x i y j hx h
   rw [commasP_succ] at h
   split at h
   ·split at h
    ·cases h
    ·exact ih _ _ _ _ (fun e => by cases e) h
   ·injection h with h; injection h with h1 h2; rw [← h1]; exact hx
theorem desP_dot {L : List PT} {ex : Nat → Except Nat (T1 × Nat)} : ∀ (f : Nat) (x : T1) (i : Nat) (y : T1) (j : Nat), dotT x → desP L ex f x i = .ok (y, j) → dotT y := by
 intro f
 induction f with
 | zero => intro x i y j hx h; injection h with h; injection h with h1 h2; rw [← h1]; exact hx
 | succ f ih =>
   intro x i y j hx h
   rw [desP_succ] at h
   split at h
   ·split at h
    ·cases h
    ·rename_i y1 j1 h1
     exact ih _ _ _ _ (dotP_dot hx h1) h
   ·split at h
    ·exact ih _ _ _ _ (fun e => by cases e) h
    ·split at h
     ·split at h
      ·cases h
      ·split at h
       ·cases h
       ·rename_i z j2 h2
        split at h
        ·cases h
        ·exact ih _ _ _ _ (commasP_dot _ _ _ _ _ (fun e => by cases e) h2) h
     ·injection h with h; injection h with h1 h2; rw [← h1]; exact hx
theorem designP_dot {L : List PT} {ex : Nat → Except Nat (T1 × Nat)} {i j : Nat} {y : T1} (h : designP L ex i = .ok (y, j)) : dotT y := by
 unfold designP at h
 split at h
 ·cases h
 ·rename_i x j1 h1
  exact desP_dot _ _ _ _ _ (qualP_dot h1) h
theorem plain_any (d : Nd) (k : Fo) (b : Nat) (w : World) (hd : dotOK (.node d k .no)) (hr : Rep w (.node d k .no) [.pointer (some ⟨b, 0, none⟩)]) :
 Calls Tryz.prog 161 #[.pointer (some ⟨b, 0, none⟩)] w fun e w' => e = .returned (.bool (plainF (.node d k .no))) ∧ w = w' := by
 obtain ⟨res, hres⟩ : ∃ r, r = plainF (.node d k .no) := ⟨_, rfl⟩
 rw [← hres]
 have HRES := qh hres
 have HR := qh hr
 have HD := qh hd
 clear hr hd hres
 go_enter Tryz.func161, Tryz.ntmps161
 go_wp2
 go_loopg [0] k.count (fun g p wr => wr = w ∧ ∃ (d : Nd) (k : Fo) (b : Nat), g = k.count ∧ p = .pointer (some ⟨b, 0, none⟩) ∧ Hid (res = plainF (.node d k .no)) ∧ Hid (Rep w (.node d k .no) [.pointer (some ⟨b, 0, none⟩)]) ∧ Hid (dotOK (.node d k .no)))
 case atStart => exact ⟨rfl, d, k, b, rfl, rfl, HRES, HR, HD⟩
 case round =>
  clear HRES HR HD
  obtain ⟨rfl, d, k, b, rfl, rfl, HRES, HR, HD⟩ := hrel
  obtain ⟨b', A, c, ks, e, hat, hA, hk⟩ := HR.out.one
  have hb : b' = b := by injection e with e; injection e with e; injection e with e; exact e.symm
  subst hb
  obtain ⟨a0, a1, a2, a3, a4⟩ := hat
  by_cases h2 : d.kind = 2
  ·obtain ⟨hne, hdk⟩ := HD.out h2
   cases k with
   | no => exact absurd rfl hne
   | node d1 k1 r1 =>
     obtain ⟨v, vs', rfl, hv, _⟩ := hk.head
     obtain ⟨b1, _, _, _, rfl, _⟩ := hv.one
     obtain ⟨bb, off, rfl, hcell⟩ := Tr.Reads.nth (i := 0) hA (by simp)
     simp only [List.getElem_cons_zero, Nat.add_zero] at hcell
     have hlen : (0 : Int) < (((Value.pointer (some ⟨b1, 0, none⟩) :: vs').length : Nat) : Int) := by simp only [List.length_cons]; omega
     have HR2 := qh hv
     have HRES2 := qh (show res = plainF (.node d1 k1 .no) by rw [HRES.out]; show (if d.kind = 2 then _ else _) = _; rw [if_pos h2]; rfl)
     have HD2 := qh (show dotOK (.node d1 k1 .no) from hdk)
     have k2 : ((d.kind : Int) == 2) = true := by rw [h2]; rfl
     generalize (Value.pointer (some ⟨b1, 0, none⟩) :: vs').length = m at *
     clear e a1 a2 a3 hk hv hA HRES HR HD hne hdk h2
     go_wp2
     go_roundg k1.count
     case rel => exact ⟨rfl, d1, k1, b1, rfl, rfl, HRES2, HR2, HD2⟩
     case measure => simp [Fo.count]; omega
  ·have HRES2 := qh (show res = decide (d.kind = 1) by rw [HRES.out]; show (if d.kind = 2 then _ else _) = _; rw [if_neg h2])
   have k2 : ((d.kind : Int) == 2) = false := by simp only [beq_eq_false_iff_ne, ne_eq]; omega
   have k1 : ((d.kind : Int) == 1) = decide (d.kind = 1) := by rw [Bool.eq_iff_iff, beq_iff_eq, decide_eq_true_eq]; omega
   generalize decide (d.kind = 1) = bb at *
   clear e a1 a2 a3 a4 hk hA HRES HR HD h2
   go_wp2
   go_ret
   exact ⟨by rw [HRES2.out]; rfl, rfl⟩
theorem between_fn {F : Nat} (hev : ∀ args w, (callFunc F args).run Tryz.prog w = .ok (.enter F args) w) {sp : Nat → Except Nat (T1 × Nat)} {lo : Nat} {w0 : World} {br c : Nat} {A : Option Addr} {L : List PT} (ht : Toks w0 br A L) (hF : FnOK F sp lo w0 br A c L) (hm : SpOK L sp) (i : Nat) (hlo : lo ≤ i) (hi : i ≤ 60000) (s : ByteArray) (w : World) (h : PInv w0 w br A c L i) :
 Calls Tryz.prog 160 #[.pointer (some ⟨br, 0, none⟩), .string s, .func (.func F) #[.pointer (some ⟨br, 0, none⟩)] #[]] w (ListR w0 w br A c L (betweenP L sp s i)) := by
 have hbr0 := h.row.lt
 have hlen := ht.len
 have H := qh (PG.start h)
 have HT := qh ht
 have HM := qh hm
 have MN := qh (fun w h => many_fn hev ht hF hm i hlo hi w h)
 have HS0 := qh (show betweenP L sp s i = if isT L i s = true then .ok ([], i + 1) else match manyP L sp i with
 | .error k => .error k
 | .ok (l, j) => match need L j s with
   | .error k => .error k
   | .ok j2 => .ok (l, j2) from rfl)
 generalize betweenP L sp s i = res at *
 clear hF hm
 cases hT : isT L i s with
 | true =>
   have hjl := isT_lt hT
   have EY := qh (eat_yes ht (by omega) s _ h hT)
   have HS := qh (HS0.out.trans (if_pos hT))
   clear h ht HS0 MN
   go_enter Tryz.func160, Tryz.ntmps160
   go_wp2_with fail
   ((with_reducible refine EY.out.mono ?_); rintro e v1 ⟨rfl, hb⟩)
   have H := qh (H.out.trans hb)
   clear hb
   go_wp2
   go_ret
   rw [HS.out]
   exact ⟨none, 0, [], rfl, H.out.1, H.out.2, Reads.none_, (by unfold forest; unfold RepS; rfl), rfl, (fun v hv => by cases hv), by simp, (fun ad e => by cases e)⟩
 | false =>
   have EN := qh (eat_no ht (by omega) s _ h hT)
   have HS1 := qh (HS0.out.trans (if_neg (by rw [hT]; simp)))
   clear h ht HS0
   go_enter Tryz.func160, Tryz.ntmps160
   go_wp2_with fail
   ((with_reducible refine EN.out.mono ?_); rintro e v1 ⟨rfl, hb⟩)
   have hv1 := hb.2.size
   have H := qh (H.out.trans hb)
   clear hb EN
   have d1 := MN.out v1 H.out.1
   cases hx : manyP L sp i with
   | error k =>
     rw [hx] at d1
     have HS := qh (show res = .error k by rw [HS1.out, hx])
     have D1 := qh d1
     clear d1 hx HS1
     go_wp2_with fail
     ((with_reducible refine (D1.out).mono ?_); rintro e w1 ⟨rfl, hb⟩)
     have H3 := qh (grown_trans H.out.2 hb)
     clear hb
     go_wp2
     refine ⟨rfl, ?_⟩
     rw [HS.out]
     exact ⟨rfl, H3.out⟩
   | ok r =>
     obtain ⟨l, j⟩ := r
     rw [hx] at d1
     have hj := manyP_ok HM.out hx
     have HS2 := qh (show res = match need L j s with
      | .error k => .error k
      | .ok j2 => .ok (l, j2) by rw [HS1.out, hx])
     have D1 := qh d1
     clear d1 hx HS1
     go_wp2_with fail
     ((with_reducible refine D1.out.mono ?_); rintro e w2 ⟨A', c', vs, rfl, hp, hg, hrd, hr, hvl, hone, hll, hlc⟩)
     have HK := qh (And.intro hrd (And.intro hr (And.intro hvl (And.intro hone (And.intro hll hlc)))))
     have H := qh (H.out.trans ⟨hp, hg⟩)
     clear hp hg hr hvl hone hrd hll hlc D1 MN
     cases hK : isT L j s with
     | false =>
       have ND := qh (need_no HT.out (by omega) s _ H.out.1 hK)
       have HS := qh (show res = .error j by rw [HS2.out]; unfold need; rw [if_neg (by rw [hK]; simp)])
       clear HS2
       go_wp2_with fail
       ((with_reducible refine (ND.out).mono ?_); rintro e w1 ⟨rfl, hb⟩)
       have H3 := qh (grown_trans H.out.2 hb)
       clear hb
       go_wp2
       refine ⟨rfl, ?_⟩
       rw [HS.out]
       exact ⟨rfl, H3.out⟩
     | true =>
       have hjl := isT_lt hK
       have ND := qh (need_ok HT.out (by omega) s _ H.out.1 hK)
       have HS := qh (show res = .ok (l, j + 1) by rw [HS2.out]; unfold need; rw [if_pos hK])
       clear HS2
       go_wp2_with fail
       ((with_reducible refine ND.out.mono ?_); rintro e w3 ⟨rfl, hb⟩)
       have hs3 := H.out.2.size
       have H2 := qh (H.out.trans hb)
       have HG := qh hb.2
       clear hb
       go_wp2
       go_ret
       rw [HS.out]
       obtain ⟨hrd, hr, hvl, hone, hll, hlc⟩ := HK.out
       exact ⟨A', c', vs, rfl, H2.out.1, H2.out.2, reads_grown hrd HG.out (fun ad e => by have := hlc ad e; omega), (repS_grown hr HG.out (by omega)).more fun x hx _ => by omega, hvl, hone, hll, fun ad e => by have := hlc ad e; omega⟩
theorem between_elem {sp : Nat → Except Nat (T1 × Nat)} {lo : Nat} {w0 : World} {br c : Nat} {A : Option Addr} {L : List PT} (ht : Toks w0 br A L) (hF : FnOK 157 sp lo w0 br A c L) (hm : SpOK L sp) (i : Nat) (hlo : lo ≤ i) (hi : i ≤ 60000) (s : ByteArray) (w : World) (h : PInv w0 w br A c L i) :
 Calls Tryz.prog 160 #[.pointer (some ⟨br, 0, none⟩), .string s, .func (.func 157) #[.pointer (some ⟨br, 0, none⟩)] #[]] w (ListR w0 w br A c L (betweenP L sp s i)) := between_fn (by intro _ _; kernel_rfl) ht hF hm i hlo hi s w h
theorem between_expr {sp : Nat → Except Nat (T1 × Nat)} {lo : Nat} {w0 : World} {br c : Nat} {A : Option Addr} {L : List PT} (ht : Toks w0 br A L) (hF : FnOK 120 sp lo w0 br A c L) (hm : SpOK L sp) (i : Nat) (hlo : lo ≤ i) (hi : i ≤ 60000) (s : ByteArray) (w : World) (h : PInv w0 w br A c L i) :
 Calls Tryz.prog 160 #[.pointer (some ⟨br, 0, none⟩), .string s, .func (.func 120) #[.pointer (some ⟨br, 0, none⟩)] #[]] w (ListR w0 w br A c L (betweenP L sp s i)) := between_fn (by intro _ _; kernel_rfl) ht hF hm i hlo hi s w h
end Go.Proofs.YtkemhmfdooghkaaGreatDoor.Ex
namespace Go.Proofs.YtkemhmfdooghkaaGreatDoor.Ex
open Go.RowKit
def esF : Nat → List (Value × Value) → List MapEntry
 | _, [] => []
 | i, (k, v) :: r => { key := k, val := v, born := i } :: esF (i + 1) r
def mapO (l : List (Value × Value)) : Obj := .map (esF 0 l).toArray l.length
theorem esF_snoc (l : List (Value × Value)) (k v : Value) (i : Nat) : esF i (l ++ [(k, v)]) = esF i l ++ [{ key := k, val := v, born := i + l.length }] := by
 induction l generalizing i with
 | nil => rfl
 | cons a l ih => obtain ⟨a1, a2⟩ := a; simp only [List.cons_append, esF, ih, List.length_cons]; rw [show i + 1 + l.length = i + (l.length + 1) from by omega]
section
variable {P : Program} {T K E : TypeId} {d : TypeDesc} (hT : P.underlying T = some (.map K E)) (hK : P.underlying K = some d)
include hT hK
theorem run_ins (l : List (Value × Value)) (k v : Value) (hk : MapKept.IsKey d k) (hf : Instr.findNow d k (esF 0 l) 0 = some none) (W : World) (m : Nat) (hm : W.heap.size = m) :
 (Instr.mapUpdate T (.map (some m)) k v).run P (W.alloc (mapO l)) = .ok () (W.alloc (mapO (l ++ [(k, v)]))) := by
 subst hm
 have hb : (W.alloc (mapO l)).heap[W.heap.size]? = some (.map (esF 0 l).toArray l.length) := heap_alloc_new W _
 have hc : ∀ e, (Instr.checkKey e 10000 K k).run P (W.alloc (mapO l)) = .ok () (W.alloc (mapO l)) := fun e => MapKept.run_checkKey hK hk e 9999
 have e1 : (mapO (l ++ [(k, v)])) = .map (esF 0 l ++ [({ key := k, val := v, born := l.length } : MapEntry)]).toArray (l.length + 1) := by
  unfold mapO
  rw [esF_snoc]
  simp
 rw [e1]
 simp [Instr.mapUpdate, run_underlying hT, MapKept.run_getObj_map hb, hc, MapKept.run_findKey (l := esF 0 l) hK hf, MapKept.run_setObj_map _ hb, Result.andThen]
 unfold World.alloc
 simp [Array.setIfInBounds, Array.set_push]
theorem run_look (l : List (Value × Value)) (k : Value) (hk : MapKept.IsKey d k) {j : Nat} {v : Value} (hf : Instr.findNow d k (esF 0 l) 0 = some (some (j, v))) (ok : Bool) (w : World) (m : Nat) (hm : w.heap[m]? = some (mapO l)) :
 (Instr.lookup T (.map (some m)) k ok).run P w = .ok (if ok then .tuple #[v, .bool true] else v) w := by
 have hb : w.heap[m]? = some (.map (esF 0 l).toArray l.length) := hm
 have hc : ∀ e, (Instr.checkKey e 10000 K k).run P w = .ok () w := fun e => MapKept.run_checkKey hK hk e 9999
 simp [Instr.lookup, run_underlying hT, MapKept.run_getObj_map hb, hc, MapKept.run_findKey (l := esF 0 l) hK hf, Result.andThen]
theorem run_look_no (l : List (Value × Value)) (k : Value) (hk : MapKept.IsKey d k) {z : Value} (hf : Instr.findNow d k (esF 0 l) 0 = some none) (ok : Bool) (w : World) (hz : (zeroValue E).run P w = .ok z w) (m : Nat) (hm : w.heap[m]? = some (mapO l)) :
 (Instr.lookup T (.map (some m)) k ok).run P w = .ok (if ok then .tuple #[z, .bool false] else z) w := by
 have hb : w.heap[m]? = some (.map (esF 0 l).toArray l.length) := hm
 have hc : ∀ e, (Instr.checkKey e 10000 K k).run P w = .ok () w := fun e => MapKept.run_checkKey hK hk e 9999
 simp [Instr.lookup, run_underlying hT, MapKept.run_getObj_map hb, hc, MapKept.run_findKey (l := esF 0 l) hK hf, hz, Result.andThen]
end
def trues (l : List ByteArray) : List (Value × Value) := l.map fun s => (.string s, .bool true)
theorem find_trues (t : ByteArray) : ∀ (l : List ByteArray) (i b : Nat), (l.any (fun s => decide (s = t)) = true → ∃ j, Instr.findNow .string (.string t) (esF b (trues l)) i = some (some (j, .bool true))) ∧ (l.any (fun s => decide (s = t)) = false → Instr.findNow .string (.string t) (esF b (trues l)) i = some none)
 | [], i, b => ⟨(fun h => by cases h), fun _ => rfl⟩
 | s :: l, i, b => by
   have ih := find_trues t l (i + 1) (b + 1)
   have e : Instr.findNow .string (.string t) (esF b (trues (s :: l))) i = if (t == s) = true then some (some (i, .bool true)) else Instr.findNow .string (.string t) (esF (b + 1) (trues l)) (i + 1) := by
    show (match Instr.sameNow .string (.string t) (.string s) with | some true => _ | some false => _ | none => _) = _
    simp only [Instr.sameNow]
    all_goals (cases h : t == s <;> rfl)
   have hb : (t == s) = decide (s = t) := by
    rw [Bool.eq_iff_iff, decide_eq_true_eq]
    constructor
    ·intro h; exact ((MapKept.bytes_beq _ _).1 h).symm
    ·intro h; exact (MapKept.bytes_beq _ _).2 h.symm
   rw [e, hb]
   simp only [List.any_cons]
   cases h : decide (s = t)
   ·simp only [Bool.false_or, Bool.false_eq_true, if_false]
    exact ih
   ·simp
end Go.Proofs.YtkemhmfdooghkaaGreatDoor.Ex
