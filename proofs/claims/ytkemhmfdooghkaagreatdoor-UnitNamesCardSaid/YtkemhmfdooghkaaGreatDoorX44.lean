import Derived.Test.YtkemhmfdooghkaaGreatDoorX43
import Derived.Test.YtkemhmfdooghkaaGreatDoorX38
set_option linter.unusedSimpArgs false
set_option linter.unusedVariables false
set_option maxRecDepth 100000
set_option maxHeartbeats 6400000
namespace Go.Proofs.YtkemhmfdooghkaaGreatDoor
namespace Lx
open Go.RowKit
open Pl Fl
attribute [local go_sem] run_store_complexL
attribute [local go_sem] Oper.semAt_some
theorem tokens_any (s : ByteArray) (w : World) : Calls Tryz.prog 45 #[.string s] w fun e w' => e = .returned (.func (.func 54) #[] #[.pointer (some ⟨w.heap.size, 0, none⟩)]) ∧ w' = w.alloc (.cells #[.string s] 9) := by
 go_enter Tryz.func45, Tryz.ntmps45
 go_wp2
 go_ret
 exact ⟨rfl, rfl⟩
theorem scan_ret {fn : Func} {p q r : Tmp} (h : fn.results = #[.cell p 28, .cell q 35, .cell r 32]) (tmps : Array Value) (w : World) (b1 b2 b3 : Nat) (v1 v2 v3 : Value) (hp : tmps.getD p undef = .pointer (some ⟨b1, 0, none⟩)) (hq : tmps.getD q undef = .pointer (some ⟨b2, 0, none⟩)) (hr : tmps.getD r undef = .pointer (some ⟨b3, 0, none⟩))
 (h1 : w.cell? ⟨b1, 0, none⟩ = some v1) (h2 : w.cell? ⟨b2, 0, none⟩ = some v2) (h3 : w.cell? ⟨b3, 0, none⟩ = some v3) :
 (results fn tmps).run Tryz.prog w = .ok (.tuple #[v1, v2, v3]) w := by
 have hp' : tmps[p]?.getD undef = .pointer (some ⟨b1, 0, none⟩) := by simpa using hp
 have hq' : tmps[q]?.getD undef = .pointer (some ⟨b2, 0, none⟩) := by simpa using hq
 have hr' : tmps[r]?.getD undef = .pointer (some ⟨b3, 0, none⟩) := by simpa using hr
 have l1 : (loadVar 28 ⟨b1, 0, none⟩).run Tryz.prog w = .ok v1 w := by simp [loadVar, Sem.run_bind, Tryz.isAgg28, run_load, h1]
 have l2 : (loadVar 35 ⟨b2, 0, none⟩).run Tryz.prog w = .ok v2 w := by simp [loadVar, Sem.run_bind, Tryz.isAgg35, run_load, h2]
 have l3 : (loadVar 32 ⟨b3, 0, none⟩).run Tryz.prog w = .ok v3 w := by simp [loadVar, Sem.run_bind, Tryz.isAgg32, run_load, h3]
 simp [results, h, hp', hq', hr', asAddr, l1, l2, l3, Sem.run_bind]
structure ScI (src : List UInt8) (w : World) (pre : List Yi) (W : World) : Prop where
 row : ∃ lv, Boxed W w.heap.size 28 lv ∧ W.ownsRow (w.heap.size + 1 + 1 + 1 + 1) 40 5 lv pre.length (flat src (pre.map (·.1)))
 at_ : Boxed W (w.heap.size + 1) 35 (.complex .f64 0 0)
 er : Boxed W (w.heap.size + 1 + 1) 32 (.int .i64 0)
 bel : Below w.heap.size w W
 ok : ∀ x ∈ pre, x.2 = 0
structure ScX (src : List UInt8) (w : World) (c : Code) (W : World) : Prop where
 ret : c = .ret
 err : ∃ i k, scanL src = .error (i, k) ∧ Boxed W w.heap.size 28 (.slice none 0 0) ∧ Boxed W (w.heap.size + 1) 35 (.complex .f64 (fl (Lx.at_ src i).1) (fl (Lx.at_ src i).2)) ∧ Boxed W (w.heap.size + 1 + 1) 32 (.int .i64 (k : Nat))
 bel : Below w.heap.size w W
theorem scanF_ne : ∀ (f i : Nat) (s : List UInt8), scanF f i s ≠ .ok [] := by
 intro f
 induction f with
 | zero => intro i s; simp [scanF]
 | succ f ih =>
   intro i s
   unfold scanF
   split
   ·simp
   ·split
    ·simp
    ·exact ih _ _
    ·rename_i t n _
     intro e
     cases e3 : scanF f (i + n) (s.drop n) with
     | error k => rw [e3] at e; cases e
     | ok l => rw [e3] at e; injection e with e; cases e
theorem scanL_ne {s : List UInt8} {l : List Tok} (h : scanL s = .ok l) : l ≠ [] := by
 rintro rfl
 unfold scanL at h
 split at h
 ·cases h
 ·exact scanF_ne _ _ _ h
theorem loopT_box {g B B0 r : Nat} {o : Obj} (h : LoopT (boxT g B0) B r o) : (r = g ∧ ∃ cs f, o = .cells cs 9 f) ∨ (B ≤ r ∧ o.isCells = false) := by
 rcases h with h | ⟨h, ⟨L, rfl⟩ | ⟨d, rfl⟩⟩
 ·exact .inl h
 ·exact .inr ⟨h, rfl⟩
 ·exact .inr ⟨h, rfl⟩
theorem boxed_ab {w : World} {b : Nat} {t : TypeId} {v : Value} (ht : t ≠ 9) {g B B0 : Nat} {W W' : World} {row : Option Nat} (h : Boxed W b t v) (hg : W.grownBy W' row) (hr : ∀ r, row = some r → ∃ o : Obj, W.heap[r]? = some o ∧ LoopT (boxT g B0) B r o) : Boxed W' b t v := by
 refine (hg.block b h.lt (fun e => ?_)).trans h
 obtain ⟨o, h1, h2⟩ := hr b e.symm
 rw [show W.heap[b]? = _ from h] at h1
 injection h1 with h1
 subst h1
 rcases loopT_box h2 with ⟨_, cs, f, h3⟩ | ⟨_, h3⟩
 ·injection h3 with _ h3 _; exact ht h3
 ·cases h3
theorem row_ab {g B B0 base n : Nat} {W W' : World} {row : Option Nat} {lv : Value} {xs : List Value} (h : W.ownsRow base 40 5 lv n xs) (hg : W.grownBy W' row) (hr : ∀ r, row = some r → ∃ o : Obj, W.heap[r]? = some o ∧ LoopT (boxT g B0) B r o) : W'.ownsRow base 40 5 lv n xs := by
 rcases row with _ | r
 ·exact h.kept hg (by cases lv.ownBlock <;> simp)
 ·refine h.kept hg (.inr fun e => ?_)
  obtain ⟨o, h1, h2⟩ := hr r rfl
  rcases h.2 with ⟨rfl, _⟩ | ⟨q, cap, cur, rfl, _, hqb, _⟩
  ·simp [Value.ownBlock] at e
  ·obtain rfl : q = r := by simpa [Value.ownBlock] using e
   rw [hqb] at h1
   injection h1 with h1
   subst h1
   rcases loopT_box h2 with ⟨_, cs, f, h3⟩ | ⟨_, h3⟩
   ·injection h3 with _ h3 _; cases h3
   ·cases h3
theorem scI_ab (src : List UInt8) (w : World) {g B B0 : Nat} (hg : w.heap.size ≤ g) (hB : w.heap.size ≤ B) : AbT (LoopT (boxT g B0) B) (ScI src w) := by
 intro s W W' row hs hgr hr
 obtain ⟨⟨lv, h1, h2⟩, h3, h4, h5, h6⟩ := hs
 refine ⟨⟨lv, boxed_ab (w := w) (by decide) h1 hgr hr, row_ab h2 hgr hr⟩, boxed_ab (w := w) (by decide) h3 hgr hr, boxed_ab (w := w) (by decide) h4 hgr hr, h5.grown hgr h5.size (fun k e => ?_), h6⟩
 obtain ⟨o, q1, q2⟩ := hr k e
 rcases loopT_box q2 with ⟨rfl, _⟩ | ⟨q3, _⟩ <;> omega
theorem scX_ab (src : List UInt8) (w : World) (c : Code) {g B B0 : Nat} (hg : w.heap.size ≤ g) (hB : w.heap.size ≤ B) : AbT (LoopT (boxT g B0) B) (fun (_ : List Yi) W => ScX src w c W) := by
 intro s W W' row hs hgr hr
 obtain ⟨h0, ⟨i, k, h1, h2, h3, h4⟩, h5⟩ := hs
 refine ⟨h0, ⟨i, k, h1, boxed_ab (w := w) (by decide) h2 hgr hr, boxed_ab (w := w) (by decide) h3 hgr hr, boxed_ab (w := w) (by decide) h4 hgr hr⟩, h5.grown hgr h5.size (fun k e => ?_)⟩
 obtain ⟨o, q1, q2⟩ := hr k e
 rcases loopT_box q2 with ⟨rfl, _⟩ | ⟨q3, _⟩ <;> omega
theorem Scan_any (s : ByteArray) (hs : s.size ≤ 9223372036854775800) {w : World} (E : EnvS w) :
 Calls Tryz.prog 27 #[.string s] w fun e w' => scanEnd w s.data.toList (scanL s.data.toList) e w' := by
 obtain ⟨i0, hi, hz0, hz1, hz2⟩ := info_parts info40
 have hsl : s.data.toList.length = s.size := by simp
 refine (callsIn_wide (n := 2)).1 (callsIn_of_wp_marks Tryz.func27 rfl trivial ?_ rfl)
 simp only [Tryz.ntmps27, List.size_toArray, List.length_cons, List.length_nil, Nat.reduceAdd, Nat.reduceSub, Array.replicate_succ, Array.replicate_zero, List.push_toArray, List.append_toArray, List.nil_append, List.cons_append]
 by_cases hbig : 16384 < s.size
 ·have HS := qh (show scanL s.data.toList = .error (0, 5) by unfold scanL; rw [if_pos (by omega)])
  have hbig' : (16384 : Int) < (s.size : Int) := by omega
  have HBG := qh (fun (w : World) => Begin_any w)
  clear hi hz0 hz1 hz2
  gi_wp2_with fail
  refine ⟨trivial, ?_⟩
  with_reducible refine (callsIn_wide.2 (HBG.out _)).mono ?_
  rintro e w1 ⟨rfl, rfl⟩
  simp only [C]
  gi_wp2
  refine ⟨_, scan_ret rfl _ _ w.heap.size (w.heap.size + 1) (w.heap.size + 1 + 1) (.slice none 0 0) (.complex .f64 (fl 1) (fl 1)) (.int .i64 5) rfl rfl rfl ?_ ?_ ?_, ?_⟩
  ·exact (((Blk.new w 28 #[.slice none 0 0]).alloc _).alloc _).cell 0
  ·have h2 := ((Blk.new (w.alloc (.cells #[.slice none 0 0] 28)) 35 #[.complex .f64 (fl 1) (fl 1)]).alloc (.cells #[.int .i64 5] 32)).cell 0
   rw [World.size_alloc] at h2
   exact h2
  ·rw [cell_top (by simp)]
   rfl
  rw [HS.out]
  exact ⟨rfl, (((Below.refl _ w).alloc nl _).alloc (by simp) _).alloc (by simp; omega) _⟩
 ·have hbig' : ¬ (16384 : Int) < (s.size : Int) := by omega
  have HTA := qh (fun (W : World) => tokens_any s W)
  have hal : Below w.heap.size w (((w.alloc (.cells #[.slice none 0 0] 28)).alloc (.cells #[.complex .f64 0 0] 35)).alloc (.cells #[.int .i64 0] 32)) := (((Below.refl _ w).alloc nl _).alloc (by simp) _).alloc (by simp; omega) _
  have HAL := qh hal
  gi_wp2_with fail
  refine ⟨trivial, ?_⟩
  with_reducible refine (callsIn_wide.2 (HTA.out _)).mono ?_
  rintro e w1 ⟨rfl, rfl⟩
  have hal4 := hal.alloc (o := .cells #[.string s] 9) (by simp; omega)
  have hgb := Blk.new (((w.alloc (.cells #[.slice none 0 0] 28)).alloc (.cells #[.complex .f64 0 0] 35)).alloc (.cells #[.int .i64 0] 32)) 9 #[.string s]
  have hI0 : ScI s.data.toList w [] ((((w.alloc (.cells #[.slice none 0 0] 28)).alloc (.cells #[.complex .f64 0 0] 35)).alloc (.cells #[.int .i64 0] 32)).alloc (.cells #[.string s] 9)) := by
   refine ⟨⟨.slice none 0 0, (((Boxed.new w _ _).alloc _).alloc _).alloc _, ⟨rfl, .inl ⟨rfl, rfl⟩⟩⟩, ?_, ?_, hal4, by simp⟩
   ·have := ((Boxed.new (w.alloc (.cells #[.slice none 0 0] 28)) 35 (.complex .f64 0 0)).alloc (.cells #[.int .i64 0] 32)).alloc (.cells #[.string s] 9)
    rwa [World.size_alloc] at this
   ·have := (Boxed.new ((w.alloc (.cells #[.slice none 0 0] 28)).alloc (.cells #[.complex .f64 0 0] 35)) 32 (.int .i64 0)).alloc (.cells #[.string s] 9)
    rwa [World.size_alloc, World.size_alloc] at this
  have hsz4 : ((((w.alloc (.cells #[.slice none 0 0] 28)).alloc (.cells #[.complex .f64 0 0] 35)).alloc (.cells #[.int .i64 0] 32)).alloc (.cells #[.string s] 9)).heap.size = w.heap.size + 1 + 1 + 1 + 1 := by simp
  simp only [World.size_alloc] at hgb
  clear hal HAL HTA
  gi_wp2
  generalize (((w.alloc (.cells #[.slice none 0 0] 28)).alloc (.cells #[.complex .f64 0 0] 35)).alloc (.cells #[.int .i64 0] 32)).alloc (.cells #[.string s] 9) = W0 at *
  refine range_T (by decide) (gf := 54) (lb := #[.pointer (some ⟨w.heap.size + 1 + 1 + 1, 0, none⟩)]) rfl (enters_of Tryz.func54 (by kernel_rfl) rfl) (tokens_seq E s (by omega) (w.heap.size + 1 + 1 + 1) (by omega) hgb hal4)
   (fun B r o h => by obtain ⟨_, cs, f, rfl⟩ := h; exact ⟨fun L e => (by cases e), fun d e => (by cases e)⟩) (fun h k => ⟨h.1.trans k.1, k.2.trans h.2⟩)
   (fun W l L L' hl h => ⟨belowK_b (w := W0) (by omega) W l _ _ hl h rfl rfl, World.putObj_heap_other (by omega)⟩) (Below.refl _ _) (fun _ => rfl)
   (ScI s.data.toList w) (fun pre x a1 W => ∃ b, w.heap.size + 1 + 1 + 1 + 1 ≤ b ∧ a1 = { tmps := #[.string s, undef, .pointer (some ⟨w.heap.size, 0, none⟩), .pointer (some ⟨w.heap.size + 1, 0, none⟩), .pointer (some ⟨w.heap.size + 1 + 1, 0, none⟩), .pointer (some ⟨b, 0, none⟩), .int .i64 x.2, .string s, .int .i64 s.size, .bool false, undef, .string s, .func (.func 54) #[] #[.pointer (some ⟨w.heap.size + 1 + 1 + 1, 0, none⟩)], x.1.1.val (at_ s.data.toList x.1.2.1) (at_ s.data.toList x.1.2.2), .int .i64 x.2, undef, undef, undef, undef, undef, undef, undef, undef, undef, undef], defers := [] } ∧ Blk W b 40 (Tok.vals s.data.toList x.1).toArray ∧ ScI s.data.toList w pre W) (fun c _ W => ScX s.data.toList w c W)
   (scI_ab _ w (by omega) (by omega)) ?ab (fun c => scX_ab _ w c (by omega) (by omega)) hI0 ?assign ?body ?done ?stop
  case ab =>
   intro a1 x pre W W' row hs hg hr
   obtain ⟨b, h0, h1, h2, h3⟩ := hs
   refine ⟨b, h0, h1, ?_, scI_ab _ w (by omega) (by omega) pre W W' row h3 hg hr⟩
   refine (hg.block b h2.lt (fun e => ?_)).trans h2
   obtain ⟨o, q1, q2⟩ := hr b e.symm
   rw [show W.heap[b]? = _ from h2] at q1
   injection q1 with q1
   subst q1
   rcases loopT_box q2 with ⟨_, cs, f, h3⟩ | ⟨_, h3⟩
   ·injection h3 with _ h3 _; cases h3
   ·cases h3
  case assign =>
   intro l pre x W hi' hok hsz
   obtain ⟨⟨⟨ka, kb, kc⟩, i, j⟩, k⟩ := x
   obtain ⟨pl, pc, hp⟩ : ∃ a b, at_ s.data.toList i = (a, b) := ⟨_, _, rfl⟩
   obtain ⟨ql, qc, hq⟩ : ∃ a b, at_ s.data.toList j = (a, b) := ⟨_, _, rfl⟩
   simp only [Yi.enc, hp, hq, Tk.val, Tk.vals, Tok.vals, C]
   gi_wp2
   have hsw := hi'.bel.size
   exact ⟨KeepsOthers.alloc _ _, ⟨(Below.refl _ _).alloc hsw _, Below.heap_alloc _ _ _ (by omega)⟩, W.heap.size, by omega, rfl, Blk.new _ _ _, (scI_ab _ w (g := w.heap.size + 1 + 1 + 1) (B := W0.heap.size) (B0 := 0) (by omega) (by omega)).alloc hi' _⟩
  case body =>
   rintro l pre x a1 W ⟨b, hbb, rfl, hbk, ⟨⟨lv, hv, hrow⟩, hat, her, hbel, hpre⟩⟩ hok
   obtain ⟨⟨⟨ka, kb, kc⟩, i, j⟩, k⟩ := x
   obtain ⟨pl, pc, hp⟩ : ∃ a b, at_ s.data.toList i = (a, b) := ⟨_, _, rfl⟩
   obtain ⟨ql, qc, hq⟩ : ∃ a b, at_ s.data.toList j = (a, b) := ⟨_, _, rfl⟩
   simp only [hp, hq, Tk.val, Tk.vals, Tok.vals, C] at hbk ⊢
   obtain ⟨m0, m1, m2, m3, m4, f0, f1, f2, f3, f4⟩ := hbk.tok
   have hc1 := hv.cell
   have hf1 := hv.frozen
   have hc2 := hat.cell
   have hf2 := hat.frozen
   have hc3 := her.cell
   have hf3 := her.frozen
   have hltW := hbk.lt
   have hsw := hbel.size
   by_cases hk : k = 0
   ·subst hk
    have hrw := own_mono hrow (show w.heap.size ≤ w.heap.size + 1 + 1 + 1 + 1 by omega)
    have hpl : pre.length ≤ 16384 := by have := hok.1; omega
    have hlen5 : lv.ownBlock = none ∨ ∃ q, lv.ownBlock = some q ∧ w.heap.size + 1 + 1 + 1 + 1 ≤ q := by
     cases h : lv.ownBlock with
     | none => exact .inl rfl
     | some q => exact .inr ⟨q, rfl, (hrow.lt q h).1⟩
    have HL5 := qh hlen5
    have HAT := qh hat
    have HER := qh her
    have HPR := qh hpre
    have HBE := qh hbel
    clear hlen5 hat her hpre hbel hok hc2 hf2 hc3 hf3
    gi_wp2_with (first
     | (gi_at_builtin; refine wpListIn_append_own _ rfl _ _ 28 rfl (w.heap.size + 1 + 1 + 1 + 1) 40 i0 _ 5 64 Tryz.underlying28 hi hz0 hz1 hz2 rfl (by decide) _ _ _ rfl (hrow.alloc _) ⟨W.heap.size, 0, none⟩ 1 1 [.int .u8 ka, .complex .f64 (fl pl) (fl pc), .complex .f64 (fl ql) (fl qc), .string kb, .int .i64 kc] rfl rfl (World.news_of_block (heap_alloc_new W _)) (by simp [Value.oneCell']) (by simp [maxLen]; omega) (by omega) (by simp; omega) ?_
        intro v' w3 hown' hg3 hnil3
        obtain ⟨hv3, hv4, hrow4, hko, hb4⟩ := hv.appended (by decide) hrw (by omega) nl (own_mono hown' (show w.heap.size ≤ w.heap.size + 1 + 1 + 1 + 1 by omega)) hg3
        have hown5 := hown'.kept (grownBy_setCell' w3 w.heap.size v') (.inr (fun e => by have := (hown'.lt _ e).1; omega))
        obtain ⟨g', cap', rfl⟩ := ownsRow_succ hown'
        have hc3 := hv3.cell
        have hf3 := hv3.frozen
        clear hown' hnil3 hrow4
        try go_frame)
     | gi_in)
    have hltg : w.heap.size + 1 + 1 + 1 < W.heap.size := by omega
    have hne : ∀ q, q < w.heap.size + 1 + 1 + 1 + 1 → some q ≠ lv.ownBlock := fun q hq e => by
     rcases HL5.out with h | ⟨q', h, hq'⟩
     ·rw [h] at e; cases e
     ·rw [h] at e; injection e with e; omega
    refine ⟨hko, ⟨hb4, ?_⟩, ⟨⟨_, hv4, ?_⟩, ?_, ?_, HBE.out.trans hb4, ?_⟩⟩
    ·exact (Below.heap_setCell w3 _ _ _ (by simp; omega)).trans ((hg3.block _ (by simp; omega) (hne _ (by omega))).trans (Below.heap_alloc W _ _ hltg))
    ·rw [List.map_append, List.length_append]
     simp only [List.map_cons, List.map_nil, List.length_singleton]
     rw [flat_snoc]
     simp only [Tok.vals, hp, hq, Tk.vals, C]
     exact hown5
    ·exact (((show Blk W _ _ _ from HAT.out).alloc _).grown hg3 (hne _ (by omega))).far (by simp) _
    ·exact (((show Blk W _ _ _ from HER.out).alloc _).grown hg3 (hne _ (by omega))).far (by simp; omega) _
    ·intro y hy
     rcases List.mem_append.1 hy with hy | hy
     ·exact HPR.out y hy
     ·rw [List.mem_singleton.1 hy]
   ·have k0 : ((k : Int) != 0) = true := by simp only [bne_iff_ne, ne_eq]; omega
    have n1 : ¬ b = w.heap.size := by omega
    have n2 : ¬ b = w.heap.size + 1 := by omega
    have n3 : ¬ b = w.heap.size + 1 + 1 := by omega
    gi_wp2
    gi_region
    all_goals
     gi_wp2
     refine ⟨(((KeepsOthers.setCell _ _ _).trans (KeepsOthers.setCell _ _ _)).trans (KeepsOthers.setCell _ _ _)).trans (KeepsOthers.drew _), rfl, ⟨i, k, hok.2 hk, ?_, ?_, ?_⟩, (((hbel.setCell nl _).setCell (by show _ ≤ w.heap.size + 1; omega) _).setCell (by show _ ≤ w.heap.size + 1 + 1; omega) _).drew⟩
     ·exact ((show Blk _ _ _ _ from hv.set _).far (by simp) _).far (by simp; omega) _
     ·rw [hp]
      have h1 : Blk (W.setCell ⟨w.heap.size, 0, none⟩ (.slice none 0 0)) (w.heap.size + 1) 35 #[.complex .f64 0 0] := (show Blk W _ _ _ from hat).far (by simp) _
      exact (h1.set_ 0 _).far (by simp) _
     ·have h1 : Blk (W.setCell ⟨w.heap.size, 0, none⟩ (.slice none 0 0)) (w.heap.size + 1 + 1) 32 #[.int .i64 0] := (show Blk W _ _ _ from her).far (by simp; omega) _
      exact (h1.far (by simp) (.complex .f64 (fl pl) (fl pc))).set_ 0 _
  case done =>
   rintro D xs W hD hS ⟨⟨lv, hv, hrow⟩, hat, her, hbel, hpre⟩ hK
   have HR := qh (hS hpre)
   have hne := scanL_ne (hS hpre)
   obtain ⟨m, hm⟩ : ∃ m, xs.length = m + 1 := ⟨xs.length - 1, by
    rcases xs with _ | ⟨x, xs⟩
    ·exact absurd rfl hne
    ·simp⟩
   rw [hm] at hrow
   obtain ⟨g', cap', rfl⟩ := ownsRow_succ hrow
   have hc1 := hv.cell
   have hf1 := hv.frozen
   have hc2 := hat.cell
   have hf2 := hat.frozen
   have hc3 := her.cell
   have hf3 := her.frozen
   have HRW := qh hrow
   have HBE := qh hbel
   have hltD := (Array.getElem?_eq_some_iff.1 hK).1
   clear hrow hbel hpre hS hne
   gi_wp2
   have B1 : Blk W w.heap.size 28 #[.slice (some ⟨g', 0, none⟩) (m + 1) cap'] := hv
   have B2 : Blk W (w.heap.size + 1) 35 #[.complex .f64 0 0] := hat
   have B3 : Blk W (w.heap.size + 1 + 1) 32 #[.int .i64 0] := her
   have C1 := ((B1.set_ 0 (.slice (some ⟨g', 0, none⟩) (m + 1) cap')).far (p := ⟨w.heap.size + 1, 0, none⟩) (by simp) (.complex .f64 0 0)).far (p := ⟨w.heap.size + 1 + 1, 0, none⟩) (by simp; omega) (.int .i64 0)
   have C2 := ((B2.far (p := ⟨w.heap.size, 0, none⟩) (by simp) (.slice (some ⟨g', 0, none⟩) (m + 1) cap')).set_ 0 (.complex .f64 0 0)).far (p := ⟨w.heap.size + 1 + 1, 0, none⟩) (by simp) (.int .i64 0)
   have C3 := ((B3.far (p := ⟨w.heap.size, 0, none⟩) (by simp; omega) (.slice (some ⟨g', 0, none⟩) (m + 1) cap')).far (p := ⟨w.heap.size + 1, 0, none⟩) (by simp) (.complex .f64 0 0)).set_ 0 (.int .i64 0)
   have K1 := (Below.heap_setCell ((W.setCell ⟨w.heap.size, 0, none⟩ (.slice (some ⟨g', 0, none⟩) (m + 1) cap')).setCell ⟨w.heap.size + 1, 0, none⟩ (.complex .f64 0 0)) ⟨w.heap.size + 1 + 1, 0, none⟩ (.int .i64 0) D (by simp; omega)).trans ((Below.heap_setCell (W.setCell ⟨w.heap.size, 0, none⟩ (.slice (some ⟨g', 0, none⟩) (m + 1) cap')) ⟨w.heap.size + 1, 0, none⟩ (.complex .f64 0 0) D (by simp; omega)).trans ((Below.heap_setCell W ⟨w.heap.size, 0, none⟩ (.slice (some ⟨g', 0, none⟩) (m + 1) cap') D (by simp; omega)).trans hK))
   have hgl := (HRW.out.lt g' rfl).1
   have R1 := ((HRW.out.kept (grownBy_setCell' W w.heap.size (.slice (some ⟨g', 0, none⟩) (m + 1) cap')) (.inr (by simp [Value.ownBlock]; omega))).kept (grownBy_setCell' _ (w.heap.size + 1) (.complex .f64 0 0)) (.inr (by simp [Value.ownBlock]; omega))).kept (grownBy_setCell' _ (w.heap.size + 1 + 1) (.int .i64 0)) (.inr (by simp [Value.ownBlock]; omega))
   have L1 := ((HBE.out.setCell (p := ⟨w.heap.size, 0, none⟩) nl (.slice (some ⟨g', 0, none⟩) (m + 1) cap')).setCell (p := ⟨w.heap.size + 1, 0, none⟩) (by show _ ≤ w.heap.size + 1; omega) (.complex .f64 0 0)).setCell (p := ⟨w.heap.size + 1 + 1, 0, none⟩) (by show _ ≤ w.heap.size + 1 + 1; omega) (.int .i64 0)
   refine ⟨by simp, .inl ⟨_, _, rfl, run_takeDeferred K1, ?_⟩⟩
   refine ⟨_, scan_ret rfl _ _ w.heap.size (w.heap.size + 1) (w.heap.size + 1 + 1) (.slice (some ⟨g', 0, none⟩) (m + 1) cap') (.complex .f64 0 0) (.int .i64 0) rfl rfl rfl (Blk.cell (t := 28) ((World.putObj_heap_other (by omega)).trans C1) 0) (Blk.cell (t := 35) ((World.putObj_heap_other (by omega)).trans C2) 0) (Blk.cell (t := 32) ((World.putObj_heap_other (by omega)).trans C3) 0), ?_⟩
   rw [HR.out]
   refine ⟨g', cap', by rw [List.length_map, hm], ?_, L1.grown (grownBy_putObj' _ _ _) L1.size (fun k e => by cases e; omega)⟩
   rw [List.length_map, hm]
   exact own_mono (ownsRow_putObj R1 (.deferred none) K1 rfl) (by omega)
  case stop =>
   rintro D c pre W hD _ ⟨rfl, ⟨i, k, h1, h2, h3, h4⟩, hbel⟩ hK
   have hc1 := h2.cell
   have hc2 := h3.cell
   have hc3 := h4.cell
   gi_wp2
   refine ⟨by simp, .inl ⟨_, _, rfl, run_takeDeferred hK, ?_⟩⟩
   refine ⟨_, scan_ret rfl _ _ w.heap.size (w.heap.size + 1) (w.heap.size + 1 + 1) _ _ _ rfl rfl rfl (Blk.cell (t := 28) ((World.putObj_heap_other (by omega)).trans h2) 0) (Blk.cell (t := 35) ((World.putObj_heap_other (by omega)).trans h3) 0) (Blk.cell (t := 32) ((World.putObj_heap_other (by omega)).trans h4) 0), ?_⟩
   rw [h1]
   exact ⟨rfl, hbel.grown (grownBy_putObj' _ _ _) hbel.size (fun k e => by cases e; omega)⟩
end Lx
namespace Un
open Go.RowKit
open Tr (Nd Fo RepS RepN Rep cellsN)
open Lx (Tk noTk Blk run_store_complexL TokAt scanL scanF flat scanEnd at_ lex EnvS)
open Fl
open Ex
open St (TkS)
attribute [local go_sem] run_store_complexL run_field1 run_field3
def rowT (s : List UInt8) (l : List Lx.Tok) : List PT := l.map fun x => (x.1, at_ s x.2.1, at_ s x.2.2)
theorem flat_rowT (s : List UInt8) (l : List Lx.Tok) : flatP (rowT s l) = flat s l := by
 unfold flatP rowT flat
 rw [List.flatMap_map]
 rfl
theorem rowT_len (s : List UInt8) (l : List Lx.Tok) : (rowT s l).length = l.length := List.length_map _
def ReadR (w : World) (L : List PT) (r : Except Nat (T1 × Nat)) (e : Ending) (w' : World) : Prop := match r with
 | .ok (x, _) => ∃ b, e = .returned (.tuple #[.pointer (some ⟨b, 0, none⟩), .complex .f64 0 0, .int .i64 0]) ∧ RepS (fun y => w.heap.size ≤ y) w' (.node x.1 x.2 .no) [.pointer (some ⟨b, 0, none⟩)] ∧ Below w.heap.size w w'
 | .error k => e = .returned (.tuple #[.pointer none, .complex .f64 (fl (tk L k).2.1.1) (fl (tk L k).2.1.2), .int .i64 60]) ∧ Below w.heap.size w w'
theorem row_pos {w : World} {A : Option Addr} {L : List PT} (h : RowAt w A L) {k : Nat} (hk : k < L.length) : ∃ g off, A = some ⟨g, off, none⟩ ∧ w.cell? ⟨g, off + k * 5 + 1, none⟩ = some (.complex .f64 (fl (tk L k).2.1.1) (fl (tk L k).2.1.2)) := by
 obtain ⟨⟨g, off, sp⟩, e, hlt, hc⟩ := h.reads.2 (by omega)
 have hl := flatP_len L
 have hget : ∀ m, m < L.length * 5 → ∃ u, (flatP L)[m]? = some u := fun m hm => ⟨(flatP L)[m]'(by omega), List.getElem?_eq_getElem (by omega)⟩
 have hs : sp = none := by
  obtain ⟨u, hu⟩ := hget 0 (by omega)
  have := World.cell?_spot (hc 0 u hu)
  simpa [Addr.add] using this
 subst hs
 refine ⟨g, off, e, ?_⟩
 have ht : tk L k = L[k] := by unfold tk; rw [List.getElem?_eq_getElem hk]; rfl
 have h1 := flatP_at L k 1 hk (by omega)
 rw [show (PT.vals L[k])[1]? = some (.complex .f64 (fl (tk L k).2.1.1) (fl (tk L k).2.1.2)) from by rw [ht]; rfl] at h1
 have := hc _ _ h1
 rw [show (⟨g, off, none⟩ : Addr).add (k * 5 + 1) = ⟨g, off + k * 5 + 1, none⟩ by unfold Addr.add; split <;> simp_all [Nat.add_assoc]] at this
 exact this
theorem Read_ok (s : ByteArray) {w : World} (E : EnvS w) {l : List Lx.Tok} (hl : scanL s.data.toList = .ok l) {r : Except Nat (T1 × Nat)} (hr : ∀ k, r = .error k → k < l.length)
 (HP : ∀ w A c, RowAt w A (rowT s.data.toList l) → Calls Tryz.prog 10 #[.slice A (rowT s.data.toList l).length c] w (ParU w r)) :
 Calls Tryz.prog 13 #[.string s] w (ReadR w (rowT s.data.toList l) r) := by
 have hll := Ex.scanL_len hl
 have hsz : s.data.toList.length = s.size := by simp
 have d1 := Lx.Scan_any s (by omega) E
 rw [hl] at d1
 have D1 := qh d1
 have hP := qh HP
 have HR := qh hr
 have hrl := rowT_len s.data.toList l
 have HFL := qh (flat_rowT s.data.toList l)
 clear d1 HP hr hl E
 go_enter Tryz.func13, Tryz.ntmps13
 go_wp2_with fail
 ((with_reducible refine D1.out.mono ?_); rintro e w1 ⟨g, cap, rfl, hown, hb⟩)
 have hlt := (hown.lt g rfl).2
 have HROW := qh (show RowAt w1 (some ⟨g, 0, none⟩) (rowT s.data.toList l) from ⟨by rw [HFL.out, hrl]; exact Reads.of_own hown, (fun ad e => by injection e with e; subst e; exact hlt), by omega⟩)
 have HB := qh hb
 clear hb hown D1 HFL
 cases r with
 | ok r =>
   obtain ⟨x, j⟩ := r
   have D2 := qh (hrl ▸ hP.out w1 _ cap HROW.out)
   clear hP
   go_wp2_with fail
   ((with_reducible refine D2.out.mono ?_); rintro e w2 ⟨b, rfl, hr, hb⟩)
   have HB2 := qh (HB.out.trans (hb.mono HB.out.size))
   have HX := qh (hr.more (S' := fun y => w.heap.size ≤ y) fun y hy _ => Nat.le_trans HB.out.size hy)
   clear hb hr D2
   go_wp2
   go_ret3
   exact ⟨b, rfl, HX.out, HB2.out⟩
 | error k =>
   have D2 := qh (hrl ▸ hP.out w1 _ cap HROW.out)
   have hk := HR.out k rfl
   clear hP HR
   go_wp2_with fail
   ((with_reducible refine D2.out.mono ?_); rintro e w2 ⟨rfl, hb⟩)
   have HB2 := qh (HB.out.trans (hb.mono HB.out.size))
   obtain ⟨g', off, e0, c1⟩ := row_pos (HROW.out.below hb) (k := k) (by omega)
   injection e0 with e0; injection e0 with e1 e2 e3
   subst e1 e2
   clear hb D2 e3
   simp only [Nat.zero_add] at c1
   have hIW : IntKind.i64.wrap ((l.length : Int) - 1) = (l.length : Int) - 1 := IntWalk.i64_in _ (by omega)
   have hk1 : (k : Int) ≤ (l.length : Int) - 1 := by omega
   have hk2 : ¬ ((l.length : Int) - 1 < (k : Int)) := by omega
   have hk3 : (k : Int) < (l.length : Int) := by omega
   have hk4 : ¬ ((k : Int) < 0) := by omega
   have hmin : (min (k : Int) ((l.length : Int) - 1)).toNat = k := by omega
   have hk5 : ¬ (min (k : Int) ((l.length : Int) - 1) < 0) := by omega
   have hk6 : min (k : Int) ((l.length : Int) - 1) < (l.length : Int) := by omega
   go_wp2
   go_region
   all_goals
    go_wp2
    go_ret3
    exact ⟨rfl, HB2.out.drew⟩
end Un
namespace Un
open Go.RowKit
open Tr (Nd Fo RepS RepN Rep cellsN)
open Lx (Tk noTk Blk TokAt scanL scanF flat scanEnd at_ lex EnvS)
open Fl
open Ex
open St (TkS)
open De (blockF defF)
theorem fin_parse {g : Nat} {L : List PT} {j : Nat} {bl : Par T1} {df : Par (List T1)} : parseG g bl df L j = finR L (unitG g bl df L j) := by
 unfold parseG bindP finR posP
 cases unitG g bl df L j with
 | error k => rfl
 | ok r =>
   obtain ⟨x, i⟩ := r
   show (if isFin (tk L i) = true then retP x else failP) L i = if isFin (tk L i) = true then .ok (x, i) else .error i
   split <;> rfl
theorem Parse_all {g : Nat} {w : World} {A : Option Addr} {L : List PT} (h : RowAt w A L) (hg : L.length < g) (c : Nat) : Calls Tryz.prog 10 #[.slice A L.length c] w (ParU w (parseU g L 0)) := by
 have hlen := h.len
 rw [show parseU g L 0 = finR L (unitG g (blockF g g) (defF g) L 0) from fin_parse]
 have hg2u := g2_unit (g := g) (De.g2_blockF (g := g) g) (De.g2_defF (g := g))
 refine Parse_any h c (fun x j hu => ?_) fun w0 br ht hw => ?_
 ·have := St.g2_max hg2u L 0
  rw [hu] at this
  simp only [posE] at this
  omega
 ·exact unit2_any ht hg (De.g2_blockF g) De.g2_defF (fun i hi wx hx => De.Block_any hx hg c hi) (fun i hi wx hx => De.Decls_any hx hg c hi) (fun i l j hi he => Nat.le_trans (De.def_len hi he) (by omega)) 0 (Nat.zero_le _) w0 hw
section
variable {L : List PT}
theorem g2_parse (g : Nat) : St.Good2 (parseU g) :=
 St.g2_bind (g2_unit (De.g2_blockF g) De.g2_defF) fun x => by
  refine ⟨fun L i => ?_, fun L i h => ?_, fun L m i him hm => ?_⟩
  ·unfold posP; dsimp only; split <;> exact Nat.le_refl _
  ·unfold posP; dsimp only; split <;> rfl
  ·unfold posP
   dsimp only
   rcases Nat.lt_or_ge i m with h1 | h1
   ·rw [tk_take h1]
    split
    ·exact .inl ⟨rfl, Nat.le_of_lt h1⟩
    ·exact .inl ⟨rfl, h1⟩
   ·obtain rfl : i = m := by omega
    refine .inr ⟨?_, ?_⟩
    ·split <;> rfl
    ·split <;> exact Nat.le_refl _
end
end Un
namespace Rn
open Tr (Nd Fo)
open Lx (Tk noTk lex scanL)
open Ex
open St (Good2 g2_max g2_le g2_at isNm isWd6 sEnd sSem)
section
variable {α β : Type}
structure Ta0 (p : Par α) : Prop where
 mono : ∀ {L i a j}, p L i = .ok (a, j) → i ≤ j
 bd : ∀ {L i a j}, i ≤ L.length → p L i = .ok (a, j) → j ≤ L.length
 down : ∀ {L i m a j}, i ≤ m → m ≤ L.length → p (L.take m) i = .ok (a, j) → p L i = .ok (a, j)
 up : ∀ {L i m a j}, i ≤ m → m ≤ L.length → p L i = .ok (a, j) → j ≤ m → p (L.take m) i = .ok (a, j)
structure Ta1 (p : Par α) : Prop extends Ta0 p where
 strict : ∀ {L i a j}, p L i = .ok (a, j) → i < j
theorem bind_inv {p : Par α} {q : α → Par β} {L : List PT} {i j : Nat} {b : β} (h : bindP p q L i = .ok (b, j)) : ∃ a j1, p L i = .ok (a, j1) ∧ q a L j1 = .ok (b, j) := by
 unfold bindP at h
 cases e : p L i with
 | error k => rw [e] at h; cases h
 | ok r => obtain ⟨a, j1⟩ := r; rw [e] at h; exact ⟨a, j1, rfl, h⟩
theorem bind_mk {p : Par α} {q : α → Par β} {L : List PT} {i j j1 : Nat} {a : α} {b : β} (h : p L i = .ok (a, j1)) (h2 : q a L j1 = .ok (b, j)) : bindP p q L i = .ok (b, j) := by
 unfold bindP; rw [h]; exact h2
theorem t0_ret (a : α) : Ta0 (retP a) := ⟨fun h => by cases h; exact Nat.le_refl _, fun hi h => by cases h; exact hi, fun _ _ h => by cases h; rfl, fun _ _ h _ => by cases h; rfl⟩
theorem t1_fail : Ta1 (failP (α := α)) := ⟨⟨fun h => (by cases h), fun _ h => (by cases h), fun _ _ h => (by cases h), fun _ _ h => (by cases h)⟩, fun h => (by cases h)⟩
theorem t1_tok {t : PT → Bool} {A : PT → Par α} {B : Par α} (t0 : t noPT = false) (hA : ∀ x, Ta0 (A x)) (hB : Ta1 B) : Ta1 (tokP t A B) := by
 have hs : ∀ {L i a j}, tokP t A B L i = .ok (a, j) → i < j := fun {L i a j} h => by
  unfold tokP at h
  split at h
  ·exact (hA _).mono h
  ·exact hB.strict h
 have hbd : ∀ {L i a j}, i ≤ L.length → tokP t A B L i = .ok (a, j) → j ≤ L.length := fun {L i a j} hi h => by
  unfold tokP at h
  split at h
  ·rename_i ht
   rcases Nat.lt_or_ge i L.length with h1 | h1
   ·exact (hA _).bd h1 h
   ·rw [tk_end h1, t0] at ht; cases ht
  ·exact hB.bd hi h
 refine ⟨⟨fun h => Nat.le_of_lt (hs h), hbd, fun {L i m a j} hi hm h => ?_, fun {L i m a j} hi hm h hj => ?_⟩, hs⟩
 ·have h1 := hs h
  have h2 := hbd (by rw [Ex.take_len hm]; exact hi) h
  rw [Ex.take_len hm] at h2
  have him : i < m := by omega
  unfold tokP at h ⊢
  rw [tk_take him] at h
  split at h
  ·rename_i ht; rw [if_pos ht]; exact (hA _).down him hm h
  ·rename_i ht; rw [if_neg ht]; exact hB.down hi hm h
 ·have h1 := hs h
  have him : i < m := by omega
  unfold tokP at h ⊢
  rw [tk_take him]
  split at h
  ·rename_i ht; rw [if_pos ht]; exact (hA _).up him hm h hj
  ·rename_i ht; rw [if_neg ht]; exact hB.up hi hm h hj
theorem t1_pos {f : PT → Par α} (hf : ∀ x, Ta1 (f x)) : Ta1 (posP f) := by
 refine ⟨⟨fun h => (hf _).mono h, fun hi h => (hf _).bd hi h, fun {L i m a j} hi hm h => ?_, fun {L i m a j} hi hm h hj => ?_⟩, fun h => (hf _).strict h⟩
 ·have h1 := (hf _).strict h
  have h2 := (hf _).bd (by rw [Ex.take_len hm]; exact hi) h
  rw [Ex.take_len hm] at h2
  unfold posP at h ⊢
  rw [tk_take (by omega)] at h
  exact (hf _).down hi hm h
 ·have h1 := (hf _).strict h
  unfold posP at h ⊢
  rw [tk_take (by omega)]
  exact (hf _).up hi hm h hj
theorem t1_bind {p : Par α} {q : α → Par β} (hp : Good2 p) (hq : ∀ a, Ta1 (q a)) : Ta1 (bindP p q) := by
 have hm1 : ∀ {L i a j}, p L i = .ok (a, j) → i ≤ j ∧ (i ≤ L.length → j ≤ L.length) := fun {L i a j} h => by
  have := g2_max hp L i
  rw [h] at this
  exact ⟨this.1, this.2.1⟩
 refine ⟨⟨fun h => ?_, fun hi h => ?_, fun {L i m b j} hi hm h => ?_, fun {L i m b j} hi hm h hj => ?_⟩, fun h => ?_⟩
 ·obtain ⟨a, j1, h1, h2⟩ := bind_inv h
  exact Nat.le_trans (hm1 h1).1 ((hq a).mono h2)
 ·obtain ⟨a, j1, h1, h2⟩ := bind_inv h
  exact (hq a).bd ((hm1 h1).2 hi) h2
 ·obtain ⟨a, j1, h1, h2⟩ := bind_inv h
  have h3 := (hm1 h1).2 (by rw [Ex.take_len hm]; exact hi)
  have h4 := (hq a).bd h3 h2
  have h5 := (hq a).strict h2
  rw [Ex.take_len hm] at h3 h4
  rcases hp.lock L m i hi hm with ⟨e, _⟩ | ⟨e, _⟩
  ·rw [e] at h1
   exact bind_mk h1 ((hq a).down h3 hm h2)
  ·rw [h1] at e
   have : j1 = m := e
   omega
 ·obtain ⟨a, j1, h1, h2⟩ := bind_inv h
  have h5 := (hq a).strict h2
  rcases hp.lock L m i hi hm with ⟨e, _⟩ | ⟨_, e⟩
  ·exact bind_mk (e.trans h1) ((hq a).up (by omega) hm h2 hj)
  ·rw [h1] at e
   have : m ≤ j1 := e
   omega
 ·obtain ⟨a, j1, h1, h2⟩ := bind_inv h
  exact Nat.lt_of_le_of_lt (hm1 h1).1 ((hq a).strict h2)
theorem t1_bind0 {p : Par α} {q : α → Par β} (hp : Ta1 p) (hq : ∀ a, Ta0 (q a)) : Ta1 (bindP p q) := by
 refine ⟨⟨fun h => ?_, fun hi h => ?_, fun {L i m b j} hi hm h => ?_, fun {L i m b j} hi hm h hj => ?_⟩, fun h => ?_⟩
 ·obtain ⟨a, j1, h1, h2⟩ := bind_inv h
  exact Nat.le_trans (hp.mono h1) ((hq a).mono h2)
 ·obtain ⟨a, j1, h1, h2⟩ := bind_inv h
  exact (hq a).bd (hp.bd hi h1) h2
 ·obtain ⟨a, j1, h1, h2⟩ := bind_inv h
  have h3 := hp.bd (by rw [Ex.take_len hm]; exact hi) h1
  rw [Ex.take_len hm] at h3
  exact bind_mk (hp.down hi hm h1) ((hq a).down h3 hm h2)
 ·obtain ⟨a, j1, h1, h2⟩ := bind_inv h
  have h3 := (hq a).mono h2
  exact bind_mk (hp.up hi hm h1 (by omega)) ((hq a).up (by omega) hm h2 hj)
 ·obtain ⟨a, j1, h1, h2⟩ := bind_inv h
  exact Nat.lt_of_lt_of_le (hp.strict h1) ((hq a).mono h2)
theorem t1_need {s : ByteArray} {p : Par α} (h : Ta0 p) : Ta1 (needF s p) := t1_tok (tT_no s) (fun _ => h) t1_fail
theorem t1_if {c : Prop} [Decidable c] {p q : Par α} (h1 : Ta1 p) (h2 : Ta1 q) : Ta1 (if c then p else q) := by split <;> assumption
end
section
variable (g : Nat) (bl : Par T1) (df : Par (List T1))
abbrev Pre := (Nat × (Nat × Nat)) × (ByteArray × List T1)
def preT (k : Nat) (p : Nat × Nat) : Par Pre := needF De.sModule (tokP isNm (fun n => needF sSem (bindP (Un.importsR g g []) fun l => bindP (Un.restF bl df k l) fun l2 => retP ((k, p), (n.1.text, l2)))) failP)
def preG : Par Pre := posP fun t => tokP (isWd6 Un.sDefn) (fun _ => preT g bl df 50 t.2.1) (tokP (isWd6 Un.sImpl) (fun _ => preT g bl df 51 t.2.1) (preT g bl df 52 t.2.1))
def endT (r : Pre) : Par T1 := tokP (Un.isThe r.2.1) (fun _ => needF sDot (retP (mk r.1.1 r.1.2 r.2.1 0 r.2.2))) failP
variable {g bl df}
theorem fail_bind {α β : Type} {q : α → Par β} : bindP failP q = failP := rfl
theorem tail_pre {k : Nat} {p : Nat × Nat} : Un.tailF g bl df k p = bindP (preT g bl df k p) endT := by
 unfold Un.tailF preT endT
 simp only [sb_need, sb_tok, sb_assoc, sb_ret, fail_bind]
theorem unit_pre : Un.unitG g bl df = bindP (preG g bl df) endT := by
 unfold Un.unitG preG
 simp only [sb_pos, sb_tok, ← tail_pre]
theorem t1_pre (hb : Ta1 bl) (hd : Good2 df) : Ta1 (preG g bl df) := by
 have h1 : ∀ k l, Ta1 (Un.restF bl df k l) := fun k l => t1_if (t1_bind hd fun d => t1_need (t0_ret _)) (t1_bind0 hb fun b => t0_ret _)
 have h2 : ∀ k p, Ta1 (preT g bl df k p) := fun k p => t1_need (t1_tok rfl (fun n => (t1_need (t1_bind (Un.g2_imports _ _) fun l => t1_bind0 (h1 k l) fun l2 => t0_ret _).toTa0).toTa0) t1_fail).toTa0
 exact t1_pos fun t => t1_tok rfl (fun _ => (h2 _ _).toTa0) (t1_tok rfl (fun _ => (h2 _ _).toTa0) (h2 _ _))
theorem t1_block {f : Nat} : Ta1 (De.blockF g (f + 1)) := by
 show Ta1 (De.blockG g (De.typF g g) (De.blockF g f))
 unfold De.blockG
 exact t1_pos fun t => t1_bind (De.g2_decls (De.g2_typF _) (De.g2_blockF _) _ _) fun l => t1_tok (tT_no _) (fun _ => (t1_bind De.g2_bdF fun b => t1_need (t0_ret _)).toTa0) (t1_pos fun u => t1_need (t0_ret _))
theorem t1_end (r : Pre) : Ta1 (endT r) := t1_tok rfl (fun _ => (t1_need (t0_ret _)).toTa0) t1_fail
end
section
variable {g : Nat} {L L' : List PT} {x : T1}
theorem g2_pre (hg : 0 < g) : Ta1 (preG g (De.blockF g g) (De.defF g)) := by
 obtain ⟨f, rfl⟩ : ∃ f, g = f + 1 := ⟨g - 1, by omega⟩
 exact t1_pre t1_block De.g2_defF
structure Whole (g : Nat) (L : List PT) (x : T1) : Prop where
 big : L.length < g
 parse : Un.parseU g L 0 = .ok (x, L.length)
theorem Whole.unit (h : Whole g L x) : Un.unitG g (De.blockF g g) (De.defF g) L 0 = .ok (x, L.length) := by
 obtain ⟨a, j, h1, h2⟩ := bind_inv h.parse
 unfold posP at h2
 dsimp only at h2
 split at h2
 ·cases h2; exact h1
 ·cases h2
theorem Whole.pre (h : Whole g L x) : ∃ r, preG g (De.blockF g g) (De.defF g) L 0 = .ok (r, L.length - 2) ∧ 2 ≤ L.length ∧ (tk L (L.length - 2)).1.kind = 1 ∧ x.1.name = r.2.1 ∧ (r.2.1 ≠ sNil → (tk L (L.length - 2)).1.text = r.2.1) := by
 have h1 := h.unit
 rw [unit_pre] at h1
 obtain ⟨r, j, h2, h3⟩ := bind_inv h1
 unfold endT needF at h3
 unfold tokP at h3
 dsimp only at h3
 split at h3
 ·rename_i ht
  split at h3
  ·injection h3 with h3
   injection h3 with h4 h5
   have hj : j = L.length - 2 := by omega
   subst hj
   unfold Un.isThe isNm at ht
   simp only [Bool.and_eq_true, decide_eq_true_eq, Bool.or_eq_true] at ht
   exact ⟨r, h2, by omega, ht.1, by rw [← h4]; rfl, fun hn => ht.2.resolve_left hn⟩
  ·cases h3
 ·cases h3
theorem Whole.t1 (h : Whole g L x) : Ta1 (Un.unitG g (De.blockF g g) (De.defF g)) := by
 rw [unit_pre]
 exact t1_bind0 (g2_pre (by have := h.big; omega)) fun r => (t1_end r).toTa0
theorem Whole.cut (h : Whole g L x) {m : Nat} (hm : m < L.length) : Un.parseU g (L.take m) 0 = .error m := by
 rcases g2_at (Un.g2_parse g) (L := L) (i := 0) (m := m) (Nat.zero_le _) (by rw [h.parse]; exact Nat.le_of_lt hm) (Nat.le_of_lt hm) with ⟨y, j, h1, h2⟩ | h1
 ·exfalso
  obtain ⟨a, j1, h3, h4⟩ := bind_inv h1
  unfold posP at h4
  dsimp only at h4
  split at h4
  ·cases h4
   have := h.t1.down (Nat.zero_le _) (Nat.le_of_lt hm) h3
   rw [h.unit] at this
   injection this with this
   injection this with _ this
   omega
  ·cases h4
 ·exact h1
theorem Whole.named (h : Whole g L x) (hx : x.1.name ≠ sNil) (hl : L'.length = L.length) (ht : L'.take (L.length - 2) = L.take (L.length - 2)) (hn : (tk L' (L.length - 2)).1.text ≠ x.1.name) : Un.parseU g L' 0 = .error (L.length - 2) := by
 obtain ⟨r, h1, h2, _, h4, _⟩ := h.pre
 have hp := g2_pre (g := g) (by have := h.big; omega)
 have h5 := hp.up (Nat.zero_le _) (Nat.sub_le _ 2) h1 nl
 rw [← ht] at h5
 have h6 := hp.down (Nat.zero_le _) (by omega) h5
 have h7 : Un.unitG g (De.blockF g g) (De.defF g) L' 0 = .error (L.length - 2) := by
  rw [unit_pre]
  unfold bindP
  rw [h6]
  dsimp only
  unfold endT tokP
  rw [if_neg]
  ·rfl
  ·unfold Un.isThe
   rw [← h4, decide_eq_false hx, decide_eq_false hn]
   simp
 unfold Un.parseU Un.parseG bindP
 rw [h7]
theorem Whole.behind (h : Whole g L x) (t : PT) (ht : t.1.kind ≠ 0) : Un.parseU g (L ++ [t]) 0 = .error L.length := by
 have hl : (L ++ [t]).length = L.length + 1 := by rw [List.length_append]; rfl
 have h1 : (L ++ [t]).take L.length = L := List.take_left' rfl
 have h2 := h.t1.down (L := L ++ [t]) (i := 0) (m := L.length) (Nat.zero_le _) (by omega) (by rw [h1]; exact h.unit)
 unfold Un.parseU Un.parseG bindP
 rw [h2]
 dsimp only
 show (if Un.isFin (tk (L ++ [t]) L.length) = true then _ else _ : Par T1) _ _ = _
 rw [if_neg]
 ·rfl
 ·unfold Un.isFin tk
  rw [List.getElem?_append_right nl, Nat.sub_self]
  simpa using ht
end
end Rn
end Go.Proofs.YtkemhmfdooghkaaGreatDoor
