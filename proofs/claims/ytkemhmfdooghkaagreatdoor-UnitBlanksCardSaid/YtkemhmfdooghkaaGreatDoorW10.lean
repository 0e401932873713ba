/- A part of the proof: L11. -/
import Derived.Test.YtkemhmfdooghkaaGreatDoorW1
import Derived.Test.YtkemhmfdooghkaaGreatDoorW9
import Derived.Maps.AppendAt
set_option linter.unusedSimpArgs false
set_option linter.unusedVariables false
set_option maxRecDepth 100000
set_option maxHeartbeats 6400000
namespace Go.Proofs.YtkemhmfdooghkaaGreatDoor.Lx
open Go.RowKit
open Pl Fl
attribute [local go_sem] run_store_complexL
attribute [local go_sem] Oper.semAt_some
theorem tokens_any (s : ByteArray) (w : World) : Calls Tryz.prog 45 #[.string s] w fun e w' => e = .returned (.func (.func 54) #[] #[.pointer (some ⟨w.heap.size, 0, none⟩)]) ∧ w' = w.alloc (.cells #[.string s] 9) := by
 go_enter Tryz.func45, Tryz.ntmps45
 go_wp2
 go_ret
 exact ⟨rfl, rfl⟩
theorem scan_ret {fn : Func} {p q r : Tmp} (h : fn.results = #[.cell p 28, .cell q 35, .cell r 32]) (tmps : Array Value) (w : World) (b1 b2 b3 : Nat) (v1 v2 v3 : Value) (hp : tmps.getD p undef = .pointer (some ⟨b1, 0, none⟩)) (hq : tmps.getD q undef = .pointer (some ⟨b2, 0, none⟩)) (hr : tmps.getD r undef = .pointer (some ⟨b3, 0, none⟩))
 (h1 : w.cell? ⟨b1, 0, none⟩ = some v1) (h2 : w.cell? ⟨b2, 0, none⟩ = some v2) (h3 : w.cell? ⟨b3, 0, none⟩ = some v3) :
 (results fn tmps).run Tryz.prog w = .ok (.tuple #[v1, v2, v3]) w := by
 have hp' : tmps[p]?.getD undef = .pointer (some ⟨b1, 0, none⟩) := by simpa using hp
 have hq' : tmps[q]?.getD undef = .pointer (some ⟨b2, 0, none⟩) := by simpa using hq
 have hr' : tmps[r]?.getD undef = .pointer (some ⟨b3, 0, none⟩) := by simpa using hr
 have l1 : (loadVar 28 ⟨b1, 0, none⟩).run Tryz.prog w = .ok v1 w := by simp [loadVar, Sem.run_bind, Tryz.isAgg28, run_load, h1]
 have l2 : (loadVar 35 ⟨b2, 0, none⟩).run Tryz.prog w = .ok v2 w := by simp [loadVar, Sem.run_bind, Tryz.isAgg35, run_load, h2]
 have l3 : (loadVar 32 ⟨b3, 0, none⟩).run Tryz.prog w = .ok v3 w := by simp [loadVar, Sem.run_bind, Tryz.isAgg32, run_load, h3]
 simp [results, h, hp', hq', hr', asAddr, l1, l2, l3, Sem.run_bind]
structure ScI (src : List UInt8) (w : World) (pre : List Yi) (W : World) : Prop where
 row : ∃ lv, Boxed W w.heap.size 28 lv ∧ W.ownsRow (w.heap.size + 1 + 1 + 1 + 1) 40 5 lv pre.length (flat src (pre.map (·.1)))
 at_ : Boxed W (w.heap.size + 1) 35 (.complex .f64 0 0)
 er : Boxed W (w.heap.size + 1 + 1) 32 (.int .i64 0)
 bel : Below w.heap.size w W
 ok : ∀ x ∈ pre, x.2 = 0
structure ScX (src : List UInt8) (w : World) (c : Code) (W : World) : Prop where
 ret : c = .ret
 err : ∃ i k, scanL src = .error (i, k) ∧ Boxed W w.heap.size 28 (.slice none 0 0) ∧ Boxed W (w.heap.size + 1) 35 (.complex .f64 (fl (Lx.at_ src i).1) (fl (Lx.at_ src i).2)) ∧ Boxed W (w.heap.size + 1 + 1) 32 (.int .i64 (k : Nat))
 bel : Below w.heap.size w W
theorem scanF_ne : ∀ (f i : Nat) (s : List UInt8), scanF f i s ≠ .ok [] := by
 intro f
 induction f with
 | zero => intro i s; simp [scanF]
 | succ f ih =>
   intro i s
   unfold scanF
   split
   ·simp
   ·split
    ·simp
    ·exact ih _ _
    ·rename_i t n _
     intro e
     cases e3 : scanF f (i + n) (s.drop n) with
     | error k => rw [e3] at e; cases e
     | ok l => rw [e3] at e; injection e with e; cases e
theorem scanL_ne {s : List UInt8} {l : List Tok} (h : scanL s = .ok l) : l ≠ [] := by
 rintro rfl
 unfold scanL at h
 split at h
 ·cases h
 ·exact scanF_ne _ _ _ h
theorem loopT_box {g B B0 r : Nat} {o : Obj} (h : LoopT (boxT g B0) B r o) : (r = g ∧ ∃ cs f, o = .cells cs 9 f) ∨ (B ≤ r ∧ o.isCells = false) := by
 rcases h with h | ⟨h, ⟨L, rfl⟩ | ⟨d, rfl⟩⟩
 ·exact .inl h
 ·exact .inr ⟨h, rfl⟩
 ·exact .inr ⟨h, rfl⟩
theorem boxed_ab {w : World} {b : Nat} {t : TypeId} {v : Value} (ht : t ≠ 9) {g B B0 : Nat} {W W' : World} {row : Option Nat} (h : Boxed W b t v) (hg : W.grownBy W' row) (hr : ∀ r, row = some r → ∃ o : Obj, W.heap[r]? = some o ∧ LoopT (boxT g B0) B r o) : Boxed W' b t v := by
 refine (hg.block b h.lt (fun e => ?_)).trans h
 obtain ⟨o, h1, h2⟩ := hr b e.symm
 rw [show W.heap[b]? = _ from h] at h1
 injection h1 with h1
 subst h1
 rcases loopT_box h2 with ⟨_, cs, f, h3⟩ | ⟨_, h3⟩
 ·injection h3 with _ h3 _; exact ht h3
 ·cases h3
theorem row_ab {g B B0 base n : Nat} {W W' : World} {row : Option Nat} {lv : Value} {xs : List Value} (h : W.ownsRow base 40 5 lv n xs) (hg : W.grownBy W' row) (hr : ∀ r, row = some r → ∃ o : Obj, W.heap[r]? = some o ∧ LoopT (boxT g B0) B r o) : W'.ownsRow base 40 5 lv n xs := by
 rcases row with _ | r
 ·exact h.kept hg (by cases lv.ownBlock <;> simp)
 ·refine h.kept hg (.inr fun e => ?_)
  obtain ⟨o, h1, h2⟩ := hr r rfl
  rcases h.2 with ⟨rfl, _⟩ | ⟨q, cap, cur, rfl, _, hqb, _⟩
  ·simp [Value.ownBlock] at e
  ·obtain rfl : q = r := by simpa [Value.ownBlock] using e
   rw [hqb] at h1
   injection h1 with h1
   subst h1
   rcases loopT_box h2 with ⟨_, cs, f, h3⟩ | ⟨_, h3⟩
   ·injection h3 with _ h3 _; cases h3
   ·cases h3
theorem scI_ab (src : List UInt8) (w : World) {g B B0 : Nat} (hg : w.heap.size ≤ g) (hB : w.heap.size ≤ B) : AbT (LoopT (boxT g B0) B) (ScI src w) := by
 intro s W W' row hs hgr hr
 obtain ⟨⟨lv, h1, h2⟩, h3, h4, h5, h6⟩ := hs
 refine ⟨⟨lv, boxed_ab (w := w) (by decide) h1 hgr hr, row_ab h2 hgr hr⟩, boxed_ab (w := w) (by decide) h3 hgr hr, boxed_ab (w := w) (by decide) h4 hgr hr, h5.grown hgr h5.size (fun k e => ?_), h6⟩
 obtain ⟨o, q1, q2⟩ := hr k e
 rcases loopT_box q2 with ⟨rfl, _⟩ | ⟨q3, _⟩ <;> omega
theorem scX_ab (src : List UInt8) (w : World) (c : Code) {g B B0 : Nat} (hg : w.heap.size ≤ g) (hB : w.heap.size ≤ B) : AbT (LoopT (boxT g B0) B) (fun (_ : List Yi) W => ScX src w c W) := by
 intro s W W' row hs hgr hr
 obtain ⟨h0, ⟨i, k, h1, h2, h3, h4⟩, h5⟩ := hs
 refine ⟨h0, ⟨i, k, h1, boxed_ab (w := w) (by decide) h2 hgr hr, boxed_ab (w := w) (by decide) h3 hgr hr, boxed_ab (w := w) (by decide) h4 hgr hr⟩, h5.grown hgr h5.size (fun k e => ?_)⟩
 obtain ⟨o, q1, q2⟩ := hr k e
 rcases loopT_box q2 with ⟨rfl, _⟩ | ⟨q3, _⟩ <;> omega
theorem Scan_any (s : ByteArray) (hs : s.size ≤ 9223372036854775800) {w : World} (E : EnvS w) :
 Calls Tryz.prog 27 #[.string s] w fun e w' => scanEnd w s.data.toList (scanL s.data.toList) e w' := by
 obtain ⟨i0, hi, hz0, hz1, hz2⟩ := info_parts info40
 have hsl : s.data.toList.length = s.size := by simp
 refine (callsIn_wide (n := 2)).1 (callsIn_of_wp_marks Tryz.func27 rfl trivial ?_ rfl)
 simp only [Tryz.ntmps27, List.size_toArray, List.length_cons, List.length_nil, Nat.reduceAdd, Nat.reduceSub, Array.replicate_succ, Array.replicate_zero, List.push_toArray, List.append_toArray, List.nil_append, List.cons_append]
 by_cases hbig : 16384 < s.size
 ·have HS := qh (show scanL s.data.toList = .error (0, 5) by unfold scanL; rw [if_pos (by omega)])
  have hbig' : (16384 : Int) < (s.size : Int) := by omega
  have HBG := qh (fun (w : World) => Begin_any w)
  clear hi hz0 hz1 hz2
  gi_wp2_with fail
  refine ⟨trivial, ?_⟩
  with_reducible refine (callsIn_wide.2 (HBG.out _)).mono ?_
  rintro e w1 ⟨rfl, rfl⟩
  simp only [C]
  gi_wp2
  refine ⟨_, scan_ret rfl _ _ w.heap.size (w.heap.size + 1) (w.heap.size + 1 + 1) (.slice none 0 0) (.complex .f64 (fl 1) (fl 1)) (.int .i64 5) rfl rfl rfl ?_ ?_ ?_, ?_⟩
  ·exact (((Blk.new w 28 #[.slice none 0 0]).alloc _).alloc _).cell 0
  ·have h2 := ((Blk.new (w.alloc (.cells #[.slice none 0 0] 28)) 35 #[.complex .f64 (fl 1) (fl 1)]).alloc (.cells #[.int .i64 5] 32)).cell 0
   rw [World.size_alloc] at h2
   exact h2
  ·rw [cell_top (by simp)]
   rfl
  rw [HS.out]
  exact ⟨rfl, (((Below.refl _ w).alloc (Nat.le_refl _) _).alloc (by simp) _).alloc (by simp; omega) _⟩
 ·have hbig' : ¬ (16384 : Int) < (s.size : Int) := by omega
  have HTA := qh (fun (W : World) => tokens_any s W)
  have hal : Below w.heap.size w (((w.alloc (.cells #[.slice none 0 0] 28)).alloc (.cells #[.complex .f64 0 0] 35)).alloc (.cells #[.int .i64 0] 32)) := (((Below.refl _ w).alloc (Nat.le_refl _) _).alloc (by simp) _).alloc (by simp; omega) _
  have HAL := qh hal
  gi_wp2_with fail
  refine ⟨trivial, ?_⟩
  with_reducible refine (callsIn_wide.2 (HTA.out _)).mono ?_
  rintro e w1 ⟨rfl, rfl⟩
  have hal4 := hal.alloc (o := .cells #[.string s] 9) (by simp; omega)
  have hgb := Blk.new (((w.alloc (.cells #[.slice none 0 0] 28)).alloc (.cells #[.complex .f64 0 0] 35)).alloc (.cells #[.int .i64 0] 32)) 9 #[.string s]
  have hI0 : ScI s.data.toList w [] ((((w.alloc (.cells #[.slice none 0 0] 28)).alloc (.cells #[.complex .f64 0 0] 35)).alloc (.cells #[.int .i64 0] 32)).alloc (.cells #[.string s] 9)) := by
   refine ⟨⟨.slice none 0 0, (((Boxed.new w _ _).alloc _).alloc _).alloc _, ⟨rfl, .inl ⟨rfl, rfl⟩⟩⟩, ?_, ?_, hal4, by simp⟩
   ·have := ((Boxed.new (w.alloc (.cells #[.slice none 0 0] 28)) 35 (.complex .f64 0 0)).alloc (.cells #[.int .i64 0] 32)).alloc (.cells #[.string s] 9)
    rwa [World.size_alloc] at this
   ·have := (Boxed.new ((w.alloc (.cells #[.slice none 0 0] 28)).alloc (.cells #[.complex .f64 0 0] 35)) 32 (.int .i64 0)).alloc (.cells #[.string s] 9)
    rwa [World.size_alloc, World.size_alloc] at this
  have hsz4 : ((((w.alloc (.cells #[.slice none 0 0] 28)).alloc (.cells #[.complex .f64 0 0] 35)).alloc (.cells #[.int .i64 0] 32)).alloc (.cells #[.string s] 9)).heap.size = w.heap.size + 1 + 1 + 1 + 1 := by simp
  simp only [World.size_alloc] at hgb
  clear hal HAL HTA
  gi_wp2
  generalize (((w.alloc (.cells #[.slice none 0 0] 28)).alloc (.cells #[.complex .f64 0 0] 35)).alloc (.cells #[.int .i64 0] 32)).alloc (.cells #[.string s] 9) = W0 at *
  refine range_T (by decide) (gf := 54) (lb := #[.pointer (some ⟨w.heap.size + 1 + 1 + 1, 0, none⟩)]) rfl (enters_of Tryz.func54 (by kernel_rfl) rfl) (tokens_seq E s (by omega) (w.heap.size + 1 + 1 + 1) (by omega) hgb hal4)
   (fun B r o h => by obtain ⟨_, cs, f, rfl⟩ := h; exact ⟨fun L e => (by cases e), fun d e => (by cases e)⟩) (fun h k => ⟨h.1.trans k.1, k.2.trans h.2⟩)
   (fun W l L L' hl h => ⟨belowK_b (w := W0) (by omega) W l _ _ hl h rfl rfl, World.putObj_heap_other (by omega)⟩) (Below.refl _ _) (fun _ => rfl)
   (ScI s.data.toList w) (fun pre x a1 W => ∃ b, w.heap.size + 1 + 1 + 1 + 1 ≤ b ∧ a1 = { tmps := #[.string s, undef, .pointer (some ⟨w.heap.size, 0, none⟩), .pointer (some ⟨w.heap.size + 1, 0, none⟩), .pointer (some ⟨w.heap.size + 1 + 1, 0, none⟩), .pointer (some ⟨b, 0, none⟩), .int .i64 x.2, .string s, .int .i64 s.size, .bool false, undef, .string s, .func (.func 54) #[] #[.pointer (some ⟨w.heap.size + 1 + 1 + 1, 0, none⟩)], x.1.1.val (at_ s.data.toList x.1.2.1) (at_ s.data.toList x.1.2.2), .int .i64 x.2, undef, undef, undef, undef, undef, undef, undef, undef, undef, undef], defers := [] } ∧ Blk W b 40 (Tok.vals s.data.toList x.1).toArray ∧ ScI s.data.toList w pre W) (fun c _ W => ScX s.data.toList w c W)
   (scI_ab _ w (by omega) (by omega)) ?ab (fun c => scX_ab _ w c (by omega) (by omega)) hI0 ?assign ?body ?done ?stop
  case ab =>
   intro a1 x pre W W' row hs hg hr
   obtain ⟨b, h0, h1, h2, h3⟩ := hs
   refine ⟨b, h0, h1, ?_, scI_ab _ w (by omega) (by omega) pre W W' row h3 hg hr⟩
   refine (hg.block b h2.lt (fun e => ?_)).trans h2
   obtain ⟨o, q1, q2⟩ := hr b e.symm
   rw [show W.heap[b]? = _ from h2] at q1
   injection q1 with q1
   subst q1
   rcases loopT_box q2 with ⟨_, cs, f, h3⟩ | ⟨_, h3⟩
   ·injection h3 with _ h3 _; cases h3
   ·cases h3
  case assign =>
   intro l pre x W hi' hok hsz
   obtain ⟨⟨⟨ka, kb, kc⟩, i, j⟩, k⟩ := x
   obtain ⟨pl, pc, hp⟩ : ∃ a b, at_ s.data.toList i = (a, b) := ⟨_, _, rfl⟩
   obtain ⟨ql, qc, hq⟩ : ∃ a b, at_ s.data.toList j = (a, b) := ⟨_, _, rfl⟩
   simp only [Yi.enc, hp, hq, Tk.val, Tk.vals, Tok.vals, C]
   gi_wp2
   have hsw := hi'.bel.size
   exact ⟨KeepsOthers.alloc _ _, ⟨(Below.refl _ _).alloc hsw _, Below.heap_alloc _ _ _ (by omega)⟩, W.heap.size, by omega, rfl, Blk.new _ _ _, (scI_ab _ w (g := w.heap.size + 1 + 1 + 1) (B := W0.heap.size) (B0 := 0) (by omega) (by omega)).alloc hi' _⟩
  case body =>
   rintro l pre x a1 W ⟨b, hbb, rfl, hbk, ⟨⟨lv, hv, hrow⟩, hat, her, hbel, hpre⟩⟩ hok
   obtain ⟨⟨⟨ka, kb, kc⟩, i, j⟩, k⟩ := x
   obtain ⟨pl, pc, hp⟩ : ∃ a b, at_ s.data.toList i = (a, b) := ⟨_, _, rfl⟩
   obtain ⟨ql, qc, hq⟩ : ∃ a b, at_ s.data.toList j = (a, b) := ⟨_, _, rfl⟩
   simp only [hp, hq, Tk.val, Tk.vals, Tok.vals, C] at hbk ⊢
   obtain ⟨m0, m1, m2, m3, m4, f0, f1, f2, f3, f4⟩ := hbk.tok
   have hc1 := hv.cell
   have hf1 := hv.frozen
   have hc2 := hat.cell
   have hf2 := hat.frozen
   have hc3 := her.cell
   have hf3 := her.frozen
   have hltW := hbk.lt
   have hsw := hbel.size
   by_cases hk : k = 0
   ·subst hk
    have hrw := own_mono hrow (show w.heap.size ≤ w.heap.size + 1 + 1 + 1 + 1 by omega)
    have hpl : pre.length ≤ 16384 := by have := hok.1; omega
    have hlen5 : lv.ownBlock = none ∨ ∃ q, lv.ownBlock = some q ∧ w.heap.size + 1 + 1 + 1 + 1 ≤ q := by
     cases h : lv.ownBlock with
     | none => exact .inl rfl
     | some q => exact .inr ⟨q, rfl, (hrow.lt q h).1⟩
    have HL5 := qh hlen5
    have HAT := qh hat
    have HER := qh her
    have HPR := qh hpre
    have HBE := qh hbel
    clear hlen5 hat her hpre hbel hok hc2 hf2 hc3 hf3
    gi_wp2_with (first
     | (gi_at_builtin; refine wpListIn_append_own _ rfl _ _ 28 rfl (w.heap.size + 1 + 1 + 1 + 1) 40 i0 _ 5 64 Tryz.underlying28 hi hz0 hz1 hz2 rfl (by decide) _ _ _ rfl (hrow.alloc _) ⟨W.heap.size, 0, none⟩ 1 1 [.int .u8 ka, .complex .f64 (fl pl) (fl pc), .complex .f64 (fl ql) (fl qc), .string kb, .int .i64 kc] rfl rfl (World.news_of_block (heap_alloc_new W _)) (by simp [Value.oneCell']) (by simp [maxLen]; omega) (by omega) (by simp; omega) ?_
        intro v' w3 hown' hg3 hnil3
        obtain ⟨hv3, hv4, hrow4, hko, hb4⟩ := hv.appended (by decide) hrw (by omega) (Nat.le_refl _) (own_mono hown' (show w.heap.size ≤ w.heap.size + 1 + 1 + 1 + 1 by omega)) hg3
        have hown5 := hown'.kept (grownBy_setCell' w3 w.heap.size v') (.inr (fun e => by have := (hown'.lt _ e).1; omega))
        obtain ⟨g', cap', rfl⟩ := ownsRow_succ hown'
        have hc3 := hv3.cell
        have hf3 := hv3.frozen
        clear hown' hnil3 hrow4
        try go_frame)
     | gi_in)
    have hltg : w.heap.size + 1 + 1 + 1 < W.heap.size := by omega
    have hne : ∀ q, q < w.heap.size + 1 + 1 + 1 + 1 → some q ≠ lv.ownBlock := fun q hq e => by
     rcases HL5.out with h | ⟨q', h, hq'⟩
     ·rw [h] at e; cases e
     ·rw [h] at e; injection e with e; omega
    refine ⟨hko, ⟨hb4, ?_⟩, ⟨⟨_, hv4, ?_⟩, ?_, ?_, HBE.out.trans hb4, ?_⟩⟩
    ·exact (Below.heap_setCell w3 _ _ _ (by simp; omega)).trans ((hg3.block _ (by simp; omega) (hne _ (by omega))).trans (Below.heap_alloc W _ _ hltg))
    ·rw [List.map_append, List.length_append]
     simp only [List.map_cons, List.map_nil, List.length_singleton]
     rw [flat_snoc]
     simp only [Tok.vals, hp, hq, Tk.vals, C]
     exact hown5
    ·exact (((show Blk W _ _ _ from HAT.out).alloc _).grown hg3 (hne _ (by omega))).far (by simp) _
    ·exact (((show Blk W _ _ _ from HER.out).alloc _).grown hg3 (hne _ (by omega))).far (by simp; omega) _
    ·intro y hy
     rcases List.mem_append.1 hy with hy | hy
     ·exact HPR.out y hy
     ·rw [List.mem_singleton.1 hy]
   ·have k0 : ((k : Int) != 0) = true := by simp only [bne_iff_ne, ne_eq]; omega
    have n1 : ¬ b = w.heap.size := by omega
    have n2 : ¬ b = w.heap.size + 1 := by omega
    have n3 : ¬ b = w.heap.size + 1 + 1 := by omega
    gi_wp2
    gi_region
    all_goals
     gi_wp2
     refine ⟨(((KeepsOthers.setCell _ _ _).trans (KeepsOthers.setCell _ _ _)).trans (KeepsOthers.setCell _ _ _)).trans (KeepsOthers.drew _), rfl, ⟨i, k, hok.2 hk, ?_, ?_, ?_⟩, (((hbel.setCell (Nat.le_refl _) _).setCell (by show _ ≤ w.heap.size + 1; omega) _).setCell (by show _ ≤ w.heap.size + 1 + 1; omega) _).drew⟩
     ·exact ((show Blk _ _ _ _ from hv.set _).far (by simp) _).far (by simp; omega) _
     ·rw [hp]
      have h1 : Blk (W.setCell ⟨w.heap.size, 0, none⟩ (.slice none 0 0)) (w.heap.size + 1) 35 #[.complex .f64 0 0] := (show Blk W _ _ _ from hat).far (by simp) _
      exact (h1.set_ 0 _).far (by simp) _
     ·have h1 : Blk (W.setCell ⟨w.heap.size, 0, none⟩ (.slice none 0 0)) (w.heap.size + 1 + 1) 32 #[.int .i64 0] := (show Blk W _ _ _ from her).far (by simp; omega) _
      exact (h1.far (by simp) (.complex .f64 (fl pl) (fl pc))).set_ 0 _
  case done =>
   rintro D xs W hD hS ⟨⟨lv, hv, hrow⟩, hat, her, hbel, hpre⟩ hK
   have HR := qh (hS hpre)
   have hne := scanL_ne (hS hpre)
   obtain ⟨m, hm⟩ : ∃ m, xs.length = m + 1 := ⟨xs.length - 1, by
    rcases xs with _ | ⟨x, xs⟩
    ·exact absurd rfl hne
    ·simp⟩
   rw [hm] at hrow
   obtain ⟨g', cap', rfl⟩ := ownsRow_succ hrow
   have hc1 := hv.cell
   have hf1 := hv.frozen
   have hc2 := hat.cell
   have hf2 := hat.frozen
   have hc3 := her.cell
   have hf3 := her.frozen
   have HRW := qh hrow
   have HBE := qh hbel
   have hltD := (Array.getElem?_eq_some_iff.1 hK).1
   clear hrow hbel hpre hS hne
   gi_wp2
   have B1 : Blk W w.heap.size 28 #[.slice (some ⟨g', 0, none⟩) (m + 1) cap'] := hv
   have B2 : Blk W (w.heap.size + 1) 35 #[.complex .f64 0 0] := hat
   have B3 : Blk W (w.heap.size + 1 + 1) 32 #[.int .i64 0] := her
   have C1 := ((B1.set_ 0 (.slice (some ⟨g', 0, none⟩) (m + 1) cap')).far (p := ⟨w.heap.size + 1, 0, none⟩) (by simp) (.complex .f64 0 0)).far (p := ⟨w.heap.size + 1 + 1, 0, none⟩) (by simp; omega) (.int .i64 0)
   have C2 := ((B2.far (p := ⟨w.heap.size, 0, none⟩) (by simp) (.slice (some ⟨g', 0, none⟩) (m + 1) cap')).set_ 0 (.complex .f64 0 0)).far (p := ⟨w.heap.size + 1 + 1, 0, none⟩) (by simp) (.int .i64 0)
   have C3 := ((B3.far (p := ⟨w.heap.size, 0, none⟩) (by simp; omega) (.slice (some ⟨g', 0, none⟩) (m + 1) cap')).far (p := ⟨w.heap.size + 1, 0, none⟩) (by simp) (.complex .f64 0 0)).set_ 0 (.int .i64 0)
   have K1 := (Below.heap_setCell ((W.setCell ⟨w.heap.size, 0, none⟩ (.slice (some ⟨g', 0, none⟩) (m + 1) cap')).setCell ⟨w.heap.size + 1, 0, none⟩ (.complex .f64 0 0)) ⟨w.heap.size + 1 + 1, 0, none⟩ (.int .i64 0) D (by simp; omega)).trans ((Below.heap_setCell (W.setCell ⟨w.heap.size, 0, none⟩ (.slice (some ⟨g', 0, none⟩) (m + 1) cap')) ⟨w.heap.size + 1, 0, none⟩ (.complex .f64 0 0) D (by simp; omega)).trans ((Below.heap_setCell W ⟨w.heap.size, 0, none⟩ (.slice (some ⟨g', 0, none⟩) (m + 1) cap') D (by simp; omega)).trans hK))
   have hgl := (HRW.out.lt g' rfl).1
   have R1 := ((HRW.out.kept (grownBy_setCell' W w.heap.size (.slice (some ⟨g', 0, none⟩) (m + 1) cap')) (.inr (by simp [Value.ownBlock]; omega))).kept (grownBy_setCell' _ (w.heap.size + 1) (.complex .f64 0 0)) (.inr (by simp [Value.ownBlock]; omega))).kept (grownBy_setCell' _ (w.heap.size + 1 + 1) (.int .i64 0)) (.inr (by simp [Value.ownBlock]; omega))
   have L1 := ((HBE.out.setCell (p := ⟨w.heap.size, 0, none⟩) (Nat.le_refl _) (.slice (some ⟨g', 0, none⟩) (m + 1) cap')).setCell (p := ⟨w.heap.size + 1, 0, none⟩) (by show _ ≤ w.heap.size + 1; omega) (.complex .f64 0 0)).setCell (p := ⟨w.heap.size + 1 + 1, 0, none⟩) (by show _ ≤ w.heap.size + 1 + 1; omega) (.int .i64 0)
   refine ⟨by simp, .inl ⟨_, _, rfl, run_takeDeferred K1, ?_⟩⟩
   refine ⟨_, scan_ret rfl _ _ w.heap.size (w.heap.size + 1) (w.heap.size + 1 + 1) (.slice (some ⟨g', 0, none⟩) (m + 1) cap') (.complex .f64 0 0) (.int .i64 0) rfl rfl rfl (Blk.cell (t := 28) ((World.putObj_heap_other (by omega)).trans C1) 0) (Blk.cell (t := 35) ((World.putObj_heap_other (by omega)).trans C2) 0) (Blk.cell (t := 32) ((World.putObj_heap_other (by omega)).trans C3) 0), ?_⟩
   rw [HR.out]
   refine ⟨g', cap', by rw [List.length_map, hm], ?_, L1.grown (grownBy_putObj' _ _ _) L1.size (fun k e => by cases e; omega)⟩
   rw [List.length_map, hm]
   exact own_mono (ownsRow_putObj R1 (.deferred none) K1 rfl) (by omega)
  case stop =>
   rintro D c pre W hD _ ⟨rfl, ⟨i, k, h1, h2, h3, h4⟩, hbel⟩ hK
   have hc1 := h2.cell
   have hc2 := h3.cell
   have hc3 := h4.cell
   gi_wp2
   refine ⟨by simp, .inl ⟨_, _, rfl, run_takeDeferred hK, ?_⟩⟩
   refine ⟨_, scan_ret rfl _ _ w.heap.size (w.heap.size + 1) (w.heap.size + 1 + 1) _ _ _ rfl rfl rfl (Blk.cell (t := 28) ((World.putObj_heap_other (by omega)).trans h2) 0) (Blk.cell (t := 35) ((World.putObj_heap_other (by omega)).trans h3) 0) (Blk.cell (t := 32) ((World.putObj_heap_other (by omega)).trans h4) 0), ?_⟩
   rw [h1]
   exact ⟨rfl, hbel.grown (grownBy_putObj' _ _ _) hbel.size (fun k e => by cases e; omega)⟩
end Go.Proofs.YtkemhmfdooghkaaGreatDoor.Lx
