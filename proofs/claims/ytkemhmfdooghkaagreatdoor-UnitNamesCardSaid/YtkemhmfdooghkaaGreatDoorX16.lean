import Derived.Test.YtkemhmfdooghkaaGreatDoorX15
set_option linter.unusedSimpArgs false
set_option linter.unusedVariables false
set_option maxRecDepth 100000
set_option maxHeartbeats 6400000
namespace Go.Proofs.YtkemhmfdooghkaaGreatDoor
namespace Ex
open Go.RowKit
open Tr (Nd Fo RepS RepN Rep)
open Lx (Tk noTk Blk run_store_complexL TokAt)
open Fl
open St (Good2 g2_max)
attribute [local go_sem] run_store_complexL run_field1 run_field3
theorem commas_y {e : Par T1} {f : Nat} {z : T1} {Q : T1 → Par T1} : bindP (commasF e (f + 1) z) Q = tokP (tT sCom) (fun t0 => bindP e fun y => bindP (commasF e f (mk 3 t0.2.1 sNil 0 [z, y])) Q) (Q z) := by
 rw [commasF]
 simp only [sb_tok, sb_assoc, sb_ret]
theorem strict_q {α : Type} {p : Par α} (h : Strict p) : ∀ L i x j, p L i = .ok (x, j) → i < j := h
theorem S1.treeS {β : Type} {w0 w wx : World} {br c j : Nat} {A : Option Addr} {L : List PT} {res : Except Nat (β × Nat)} {K : Ending → World → Prop} {P : Par T1} {q : T1 → Par β} {F : Nat} {args : Array Value} (S : S1 w0 w wx br c A L res (bindP P q) j) (D : Calls Tryz.prog F args wx (TreeR wx.heap.size w0 wx br A c L (P L j))) (G : Good2 P) {Q : Nat → T1 → Nat → Prop} (hs : ∀ L i x j, P L i = .ok (x, j) → Q i x j) (E : EK res w br K)
 (C : ∀ x b j' w', Q j x j' → j ≤ j' → Hid (S1 w0 w w' br c A L res (q x) j') → Hid (wx.grownBy w' (some br)) → Hid (RepS (fun y => wx.heap.size ≤ y) w' (.node x.1 x.2 .no) [.pointer (some ⟨b, 0, none⟩)]) → K (.returned (.pointer (some ⟨b, 0, none⟩))) w') :
 Calls Tryz.prog F args wx K := by
 have hm := g2_max G L j
 cases hx : P L j with
 | error k =>
   rw [hx] at D
   refine D.mono ?_
   rintro e w' ⟨rfl, hb⟩
   exact E k w' (qh (S.eq.trans (yb_err hx))) (qh (grown_trans S.pg.2 hb))
 | ok r =>
   obtain ⟨x, j'⟩ := r
   rw [hx] at D hm
   refine D.mono ?_
   rintro e w' ⟨b, rfl, hp, hg, hr⟩
   exact C x b j' w' (hs L j x j' hx) hm.1 (qh ⟨S.pg.trans ⟨hp, hg⟩, S.eq.trans (yb_ok hx), hm.2.1 S.le⟩) (qh hg) (qh hr)
theorem design_y {g : Nat} {w0 : World} {br c : Nat} {A : Option Addr} {L : List PT} (ht : Toks w0 br A L) (hgL : L.length < g) {e : Par T1} (he : Good2 e) {lo : Nat} (HE : Hid (TyE 120 e lo w0 br A c L)) (i : Nat) (hlo : lo ≤ i + 1) (hi : i ≤ L.length) (w : World) (h : PInv w0 w br A c L i) :
 Calls Tryz.prog 158 #[.pointer (some ⟨br, 0, none⟩)] w (TreeR w.heap.size w0 w br A c L (designF e g L i)) := by
 have hbr := h.row.lt
 have H0 := qh h
 have HT := qh ht
 obtain ⟨res, hs0⟩ : ∃ r, r = designF e g L i := ⟨_, rfl⟩
 rw [← hs0]
 have S := qh (S1.start h hi hs0)
 clear h ht hs0 hi
 go_enter Tryz.func158, Tryz.ntmps158
 unfold designF at S
 have HZ := qh S.out.pg.2.size
 go_wp2_with fail
 (with_reducible refine S.out.treeS (qual_y HT.out hgL _ S.out.le _ S.out.pg.1) (St.g2_of (good_qualF g)) (Q := fun i _ j => i < j) (strict_q (strict_qualF g)) ?_ ?_)
 ·intro k w1 h hg; go_wp2; exact ⟨rfl, S1.errT h.out hg.out _⟩
 clear S
 intro x bx j0 wx hj0 hjz S hg Hx
 have Hx := qh (Hx.out.more (S' := fun y => w.heap.size ≤ y) fun y hy _ => Nat.le_trans HZ.out hy)
 clear HZ
 go_wp2_with fail
 go_loopg [3] (L.length + 1) (fun gh xv wr => ∃ (x : T1) (bx j f : Nat), xv = .pointer (some ⟨bx, 0, none⟩) ∧ lo ≤ j ∧ L.length + 1 - j ≤ gh ∧ L.length < j + f ∧ Hid (S1 w0 w wr br c A L res (desF e g f x) j) ∧ Hid (RepS (fun y => w.heap.size ≤ y) wr (.node x.1 x.2 .no) [.pointer (some ⟨bx, 0, none⟩)]))
 case atStart => exact ⟨x, bx, j0, g, rfl, by omega, by omega, by omega, S, Hx⟩
 case round =>
  clear S Hx
  obtain ⟨x, bx, j, f, rfl, hlj, hgh, hf, S, Hx⟩ := hrel
  have hjl := S.out.le
  obtain ⟨f, rfl⟩ : ∃ f', f = f' + 1 := ⟨f - 1, by omega⟩
  go_wp2_with fail
  (with_reducible refine S.out.now' HT.out ?_)
  clear S
  intro k_p p1 p2 q3_p q4_p t_p n_p wx HPp S hg
  have Hx := qh (repS_grown Hx.out hg.out hbr)
  have S := qh (S.out.of (q := tokP (tT sDot) (fun t0 => bindP nameP fun t => desF e g f (mk 2 t0.2.1 t.1.text 0 [x])) (tokP (tT sHat) (fun t0 => desF e g f (mk 4 t0.2.1 sNil 0 [x])) (tokP (tT sBra) (fun t0 => bindP e fun y => bindP (commasF e g (mk 3 t0.2.1 sNil 0 [x, y])) fun z => needF sKet (desF e g f z)) (retP x)))) rfl)
  go_wp2_with fail
  (with_reducible refine S.out.is HT.out ?_)
  clear S
  intro wx S hg
  have Hx := qh (repS_grown Hx.out hg.out hbr)
  cases hT : isT L j sDot with
  | true =>
    go_wp2_with fail
    (with_reducible refine S.out.dot HT.out hT hbr Hx.out ?_ ?_)
    ·intro k w1 h hg; go_wp2; exact ⟨rfl, S1.errT h.out hg.out _⟩
    clear S
    intro y b9 j2 wx hj2 S hg Hy
    have hjl2 := S.out.le
    go_wp2
    go_roundg (L.length + 1 - j2)
    case rel => exact ⟨_, b9, j2, f, rfl, by omega, by omega, by omega, S, Hy⟩
    case measure => omega
  | false =>
    have S := qh (S.out.of (yt_n (t := tT sDot) hT))
    go_wp2_with fail
    (with_reducible refine S.out.eat HT.out ?_ ?_)
    ·clear S
     intro wx S hg hT
     have Hx := qh (repS_grown Hx.out hg.out hbr)
     have S := qh (by have h := S.out; (try dsimp only at h); rw [HPp.out] at h; exact h)
     have NW := qh (new_litE (B := w.heap.size) (w := wx) S.out.pg.2.size 4 4 rfl p1 p2 sNil [.pointer (some ⟨bx, 0, none⟩)] [x] wx.heap.size rfl 1 rfl (by decide) (repN_of Hx.out))
     go_wp2_with fail
     ((with_reducible refine NW.out.mono ?_); rintro e wy ⟨b, rfl, hb, hr⟩)
     have Hb := qh hr
     have S := qh (S.out.below hb)
     clear hb hr NW
     have hjl2 := S.out.le
     go_wp2
     go_roundg (L.length + 1 - (j + 1))
     case rel => exact ⟨_, b, j + 1, f, rfl, by omega, by omega, by omega, S, Hb⟩
     case measure => omega
    ·clear S
     intro wx S hg hT
     have Hx := qh (repS_grown Hx.out hg.out hbr)
     go_wp2_with fail
     (with_reducible refine S.out.eat HT.out ?_ ?_)
     ·clear S
      intro wx S hg hT
      have Hx := qh (repS_grown Hx.out hg.out hbr)
      have S := qh (by have h := S.out; (try dsimp only at h); rw [HPp.out] at h; exact h)
      have HZ := qh S.out.pg.2.size
      go_wp2_with fail
      (with_reducible refine S.out.tree (HE.out _ (by omega) S.out.le _ S.out.pg.1) (he) ?_ ?_)
      ·intro k w1 h hg; go_wp2; exact ⟨rfl, S1.errT h.out hg.out _⟩
      clear S
      intro y b_y j2 wx hj2 S hg Hy
      have Hx := qh (repS_grown Hx.out hg.out hbr)
      have Hy := qh (Hy.out.more (S' := fun y => w.heap.size ≤ y) fun y hy _ => Nat.le_trans HZ.out hy)
      clear HZ
      have NW := qh (new_litE (B := w.heap.size) (w := wx) S.out.pg.2.size 3 3 rfl p1 p2 sNil [.pointer (some ⟨bx, 0, none⟩), .pointer (some ⟨b_y, 0, none⟩)] [x, y] wx.heap.size rfl 2 rfl (by decide) (repN_of (repS_cons Hx.out Hy.out)))
      go_wp2_with fail
      ((with_reducible refine NW.out.mono ?_); rintro e wy ⟨b, rfl, hb, hr⟩)
      have Hb := qh hr
      have S := qh (S.out.below hb)
      clear hb hr NW
      go_wp2_with fail
      (with_reducible refine S.out.now' HT.out ?_)
      clear S
      intro k_u u1 u2 q3_u q4_u t_u n_u wx HPu S hg
      have Hb := qh (repS_grown Hb.out hg.out hbr)
      have hjl2 := S.out.le
      go_wp2_with fail
      go_loopg [3, 4] (L.length + 1) (fun gh2 xv pv wq => ∃ (z : T1) (bz j3 f2 r1 r2 : Nat), xv = .pointer (some ⟨bz, 0, none⟩) ∧ pv = .complex .f64 (fl r1) (fl r2) ∧ j < j3 ∧ L.length + 1 - j3 ≤ gh2 ∧ L.length < j3 + f2 ∧ Hid ((tk L j3).2.1 = (r1, r2)) ∧ Hid (S1 w0 w wq br c A L res (bindP (commasF e f2 z) (fun z => needF sKet (desF e g f z))) j3) ∧ Hid (RepS (fun y => w.heap.size ≤ y) wq (.node z.1 z.2 .no) [.pointer (some ⟨bz, 0, none⟩)]))
      case atStart => exact ⟨_, b, j2, g, u1, u2, rfl, rfl, by omega, by omega, by omega, qh (by rw [HPu.out]; rfl), S, Hb⟩
      case round =>
       clear S Hb
       obtain ⟨z, bz, j3, f2, r1, r2, rfl, rfl, hjj, hgh2, hf2, HP3, S, Hz⟩ := hrel
       have hjl3 := S.out.le
       obtain ⟨f2, rfl⟩ : ∃ f', f2 = f' + 1 := ⟨f2 - 1, by omega⟩
       have S := qh (S.out.of (q := tokP (tT sCom) (fun t0 => bindP e fun y => bindP (commasF e f2 (mk 3 t0.2.1 sNil 0 [z, y])) (fun z => needF sKet (desF e g f z))) ((fun z => needF sKet (desF e g f z)) z)) (by rw [commas_y]))
       go_wp2_with fail
       (with_reducible refine S.out.eat HT.out ?_ ?_)
       ·clear S
        intro wx S hg hT
        have Hz := qh (repS_grown Hz.out hg.out hbr)
        have S := qh (by have h := S.out; (try dsimp only at h); rw [HP3.out] at h; exact h)
        have HZ := qh S.out.pg.2.size
        go_wp2_with fail
        (with_reducible refine S.out.tree (HE.out _ (by omega) S.out.le _ S.out.pg.1) (he) ?_ ?_)
        ·intro k w1 h hg; go_wp2; exact ⟨rfl, S1.errT h.out hg.out _⟩
        clear S
        intro y b_y j4 wx hj4 S hg Hy
        have Hz := qh (repS_grown Hz.out hg.out hbr)
        have Hy := qh (Hy.out.more (S' := fun y => w.heap.size ≤ y) fun y hy _ => Nat.le_trans HZ.out hy)
        clear HZ
        have NW := qh (new_litE (B := w.heap.size) (w := wx) S.out.pg.2.size 3 3 rfl r1 r2 sNil [.pointer (some ⟨bz, 0, none⟩), .pointer (some ⟨b_y, 0, none⟩)] [z, y] wx.heap.size rfl 2 rfl (by decide) (repN_of (repS_cons Hz.out Hy.out)))
        go_wp2_with fail
        ((with_reducible refine NW.out.mono ?_); rintro e wy ⟨b2, rfl, hb, hr⟩)
        have Hb2 := qh hr
        have S := qh (S.out.below hb)
        clear hb hr NW
        go_wp2_with fail
        (with_reducible refine S.out.now' HT.out ?_)
        clear S
        intro k_u u1 u2 q3_u q4_u t_u n_u wx HPu S hg
        have Hb2 := qh (repS_grown Hb2.out hg.out hbr)
        have hjl2 := S.out.le
        go_wp2
        go_roundg (L.length + 1 - j4)
        case rel => exact ⟨_, b2, j4, f2, u1, u2, rfl, rfl, by omega, by omega, by omega, qh (by rw [HPu.out]; rfl), S, Hb2⟩
        case measure => omega
       ·clear S
        intro wx S hg hT
        have Hz := qh (repS_grown Hz.out hg.out hbr)
        go_wp2_with fail
        (with_reducible refine S.out.need HT.out ?_ ?_)
        ·intro k w1 h hg; go_wp2; exact ⟨rfl, S1.errT h.out hg.out _⟩
        clear S
        intro wx S hg
        have Hz := qh (repS_grown Hz.out hg.out hbr)
        have hjl2 := S.out.le
        go_wp2
        go_roundg (L.length + 1 - (j3 + 1))
        case rel => exact ⟨_, bz, j3 + 1, f, rfl, by omega, by omega, by omega, S, Hz⟩
        case measure => omega
     ·clear S
      intro wx S hg hT
      have Hx := qh (repS_grown Hx.out hg.out hbr)
      go_wp2
      go_ret
      exact S.out.doneT Hx.out
theorem forest_snoc (l : List T1) (x : T1) : forest (l ++ [x]) = (forest l).snoc x.1 x.2 := by
 induction l with
 | nil => rfl
 | cons y l ih => show Fo.node y.1 y.2 (forest (l ++ [x])) = _; rw [ih]; rfl
theorem infoN : (Tryz.prog.info? 31).map (fun i => (i.zero, i.size, i.bytes)) = some (some (.pointer none), 1, 8) := by kernel_rfl
theorem kid_factsE {B : Nat} {sv : Value} {xs : List Value} {W : World} {cs : Array Value} (m : Nat) (hm : W.heap.size = m) (hw : B ≤ W.heap.size) (hown : W.ownsRow B 31 1 sv xs.length xs) (hn : xs.length ≤ 1000000) (h1 : ∀ v ∈ cs.toList, v.oneCell' = true) (h2 : cs.size ≤ 1000) :
 Hid ((∀ i v, cs.toList[i]? = some v → (W.alloc (.cells cs 31)).cell? ((⟨m, 0, none⟩ : Addr).add i) = some v) ∧ (∀ v ∈ cs.toList, v.oneCell' = true) ∧ xs.length + cs.size ≤ maxLen ∧ B ≤ (W.alloc (.cells cs 31)).heap.size ∧ (W.alloc (.cells cs 31)).ownsRow B 31 1 sv xs.length xs) :=
 hm ▸ qh ⟨World.news_of_block (cs := cs) (heap_alloc_new W _), h1, by unfold maxLen; omega, by rw [World.size_alloc]; omega, hown.alloc _⟩
theorem one_ptrE (p : Option Addr) : ∀ v ∈ (#[Value.pointer p] : Array Value).toList, v.oneCell' = true := fun v hv => by simp only [List.mem_singleton] at hv; subst hv; rfl
theorem PG.gfar {w0 w wr w1 : World} {br c i i' : Nat} {A : Option Addr} {L : List PT} {row : Option Nat} (h : PG w0 w wr br A c L i) (hw : PInv w0 w br A c L i') (hg : wr.grownBy w1 row) (hr : ∀ k, row = some k → w.heap.size ≤ k) : PG w0 w w1 br A c L i := by
 have hl := hw.row.lt
 have hs := hw.grown.size
 have hk : ∀ (a : World), a.heap.size ≤ w.heap.size → a.grownBy wr (some br) → a.grownBy w1 (some br) := fun a ha h =>
  ⟨hg.os.trans h.os, hg.tape.trans h.tape, hg.output.trans h.output, Nat.le_trans h.size hg.size, fun k hk hne => (hg.block k (Nat.lt_of_lt_of_le hk h.size) (fun e => by have := hr k e.symm; omega)).trans (h.block k hk hne)⟩
 exact ⟨⟨h.1.row.grown hg (fun e => by have := hr _ e.symm; omega), hk w0 hs h.1.grown⟩, hk w nl h.2⟩
structure LG (B : Nat) (w : World) (sv : Value) (acc : List T1) (xs : List Value) : Prop where
 own : w.ownsRow B 31 1 sv xs.length xs
 rep : RepS (fun y => B ≤ y ∧ sv.ownBlock ≠ some y) w (forest acc) xs
 len : xs.length = acc.length
section
variable {B B' br : Nat} {w w1 W wr : World} {sv v : Value} {xs vs : List Value} {acc : List T1}
theorem LG.nil (B : Nat) (w : World) : LG B w (.slice none 0 0) [] [] := ⟨World.ownsRow_nil _ _ _ _, by unfold forest RepS; rfl, rfl⟩
theorem LG.below (h : LG B w sv acc xs) (hb : Below w.heap.size w w1) : LG B w1 sv acc xs :=
 ⟨h.own.kept (grown_of_below hb none) (by rcases h : sv.ownBlock with _ | g; exact .inl rfl; exact .inr (by simp)), h.rep.below hb, h.len⟩
theorem LG.grown (h : LG B w sv acc xs) (hg : w.grownBy w1 (some br)) (hbr : br < B) : LG B w1 sv acc xs :=
 ⟨h.own.kept hg (.inr fun e => by have := (h.own.lt _ e).1; omega), h.rep.keep hg.size (fun x hx hl => hg.block x hl (fun e => by injection e with e; have := hx.1; omega)) (fun x hx _ => hx), h.len⟩
theorem LG.lower (h : LG B w sv acc xs) (hB : B' ≤ B) : LG B' w sv acc xs := ⟨Lx.own_mono h.own hB, h.rep.more fun y hy _ => ⟨by omega, hy.2⟩, h.len⟩
theorem LG.new {f : Fo} (h : LG B wr sv acc xs) (hr : RepS (fun y => wr.heap.size ≤ y) w1 f vs) (hB : B ≤ wr.heap.size) : RepS (fun y => B ≤ y ∧ sv.ownBlock ≠ some y) w1 f vs :=
 hr.more fun y hy _ => ⟨by omega, fun e => by have := (h.own.lt _ e).2; omega⟩
theorem LG.step {g cap : Nat} {x : T1} (h : LG B W sv acc xs) (hx : RepS (fun y => B ≤ y ∧ sv.ownBlock ≠ some y) W (.node x.1 x.2 .no) [v])
 (hown : w1.ownsRow B 31 1 (.slice (some ⟨g, 0, none⟩) (xs.length + 1) cap) (xs.length + 1) (xs ++ [v])) (hg : W.grownBy w1 sv.ownBlock) (hor : sv.ownBlock = some g ∨ g = W.heap.size) :
 LG B w1 (.slice (some ⟨g, 0, none⟩) (xs.length + 1) cap) (acc ++ [x]) (xs ++ [v]) := by
 refine ⟨by rw [List.length_append, List.length_singleton]; exact hown, ?_, by rw [List.length_append, List.length_append, h.len]; rfl⟩
 have hS : ∀ y, (B ≤ y ∧ sv.ownBlock ≠ some y) → y < W.heap.size → (B ≤ y ∧ (Value.slice (some ⟨g, 0, none⟩) (xs.length + 1) cap).ownBlock ≠ some y) := by
  intro y hy hl
  refine ⟨hy.1, ?_⟩
  show some g ≠ some y
  intro e
  injection e with e
  subst e
  rcases hor with hor | hor
  ·exact hy.2 hor
  ·omega
 have hkeep : ∀ y, (B ≤ y ∧ sv.ownBlock ≠ some y) → y < W.heap.size → w1.heap[y]? = W.heap[y]? := fun y hy hl => hg.block y hl (fun e => hy.2 e.symm)
 rw [forest_snoc]
 exact RepS.snoc (hx.keep hg.size hkeep hS) (h.rep.keep hg.size hkeep hS)
def ListR (B : Nat) (w0 w : World) (br : Nat) (A : Option Addr) (c : Nat) (L : List PT) (r : Except Nat (List T1 × Nat)) (e : Ending) (w' : World) : Prop := match r with
 | .ok (l, j) => ∃ sv xs, e = .returned sv ∧ PInv w0 w' br A c L j ∧ w.grownBy w' (some br) ∧ LG B w' sv l xs
 | .error k => e = bad k ∧ w.grownBy w' (some br)
theorem LG.form (h : LG B w sv acc xs) : ∃ A c, sv = .slice A acc.length c ∧ Reads w w.heap.size 1 A xs.length xs := by
 obtain ⟨A, c, rfl, hr⟩ := own_form h.own
 exact ⟨A, c, by rw [h.len], hr⟩
theorem new_lg {B : Nat} {w : World} (hw : B ≤ w.heap.size) (kI : Int) (kind : Nat) (hkI : kI = (kind : Int)) (p1 p2 : Nat) (name : ByteArray) (n : Int) {sv : Value} {acc : List T1} {xs : List Value} (h : LG B w sv acc xs) (hl : acc.length ≤ 1000000) :
 Calls Tryz.prog 33 #[.int .u8 kI, .complex .f64 (fl p1) (fl p2), .string name, .int .i64 n, sv] w fun e w' =>
  ∃ b, e = .returned (.pointer (some ⟨b, 0, none⟩)) ∧ Below w.heap.size w w' ∧ RepS (fun y => B ≤ y) w' (.node (mk kind (p1, p2) name n acc).1 (mk kind (p1, p2) name n acc).2 .no) [.pointer (some ⟨b, 0, none⟩)] := by
 obtain ⟨A, c, rfl, hr⟩ := h.form
 refine (new_at (B := B) hw kI kind hkI p1 p2 name n A c acc.length xs (forest acc) h.len hl (by rw [← h.len]; exact hr) (repN_of (h.rep.more fun y hy _ => hy.1)))
end
section
variable {α β γ : Type} {w0 w wx w1 : World} {br c j : Nat} {A : Option Addr} {L : List PT} {res : Except Nat (β × Nat)} {K : Ending → World → Prop}
theorem S1.list {P : Par (List T1)} {q : List T1 → Par β} {F : Nat} {args : Array Value} (S : S1 w0 w wx br c A L res (bindP P q) j) (D : Calls Tryz.prog F args wx (ListR wx.heap.size w0 wx br A c L (P L j))) (G : Good2 P) (E : EK res w br K)
 (C : ∀ l sv xs j' w', Hid (P L j = .ok (l, j')) → j ≤ j' → Hid (S1 w0 w w' br c A L res (q l) j') → Hid (wx.grownBy w' (some br)) → Hid (LG wx.heap.size w' sv l xs) → K (.returned sv) w') :
 Calls Tryz.prog F args wx K := by
 have hm := g2_max G L j
 cases hx : P L j with
 | error k =>
   rw [hx] at D
   refine D.mono ?_
   rintro e w' ⟨rfl, hb⟩
   exact E k w' (qh (S.eq.trans (yb_err hx))) (qh (grown_trans S.pg.2 hb))
 | ok r =>
   obtain ⟨x, j'⟩ := r
   rw [hx] at D hm
   refine D.mono ?_
   rintro e w' ⟨sv, xs, rfl, hp, hg, hr⟩
   exact C x sv xs j' w' (qh hx) hm.1 (qh ⟨S.pg.trans ⟨hp, hg⟩, S.eq.trans (yb_ok hx), hm.2.1 S.le⟩) (qh hg) (qh hr)
end
theorem S1.doneL {w0 w wx : World} {br c j : Nat} {A : Option Addr} {L : List PT} {res : Except Nat (List T1 × Nat)} {l : List T1} {sv : Value} {xs : List Value} (S : S1 w0 w wx br c A L res (retP l) j) (h : LG w.heap.size wx sv l xs) : ListR w.heap.size w0 w br A c L res (.returned sv) wx := by
 rw [S.eq]
 exact ⟨sv, xs, rfl, S.pg.1, S.pg.2, h⟩
theorem S1.errL {w0 w w1 : World} {br c : Nat} {A : Option Addr} {L : List PT} {res : Except Nat (List T1 × Nat)} {k : Nat} (h : res = .error k) (hg : w.grownBy w1 (some br)) (B : Nat) : ListR B w0 w br A c L res (bad k) w1 := by
 rw [h]; exact ⟨rfl, hg⟩
section
variable {β : Type} {w0 w wq w1 : World} {br c i' j b : Nat} {A : Option Addr} {L : List PT} {res : Except Nat (β × Nat)} {p : Par β} {ops : Array Oper} {rest : List Oper} {o : Oper} {a : Act} {Q : Exit → Act → World → Prop}
theorem wpList_pushL (hgd : o.guard = none) (s x : Operand) (ho : o.op = .call { callee := .builtin .append, args := #[s, x], argTypes := #[36, 36] })
 {B b m : Nat} {sv : Value} {acc : List T1} {xs : List Value} {t : T1} (S : S1 w0 w wq br c A L res p j) (H0 : PInv w0 w br A c L i') (hB : w.heap.size ≤ B) (hB2 : B ≤ wq.heap.size)
 (h : LG B wq sv acc xs) (hl : acc.length ≤ 1000000) (ht : RepS (fun y => B ≤ y ∧ sv.ownBlock ≠ some y) wq (.node t.1 t.2 .no) [.pointer (some ⟨b, 0, none⟩)])
 (hs : a.eval s = sv) (hx : a.eval x = .slice (some ⟨m, 0, none⟩) 1 1) (hm : wq.heap.size = m)
 (hK : ∀ g cap xs' w', Hid (S1 w0 w w' br c A L res p j) → Hid (LG B w' (.slice (some ⟨g, 0, none⟩) (acc.length + 1) cap) (acc ++ [t]) xs') → Hid (wq.grownBy w' sv.ownBlock) → wpList Tryz.prog ops Q rest (a.put o.dst (.slice (some ⟨g, 0, none⟩) (acc.length + 1) cap)) w') :
 wpList Tryz.prog ops Q (o :: rest) a (wq.alloc (.cells #[.pointer (some ⟨b, 0, none⟩)] 31)) := by
 subst hm
 obtain ⟨i0, hi0, hz0, hz1, hz2⟩ := info_parts infoN
 have hlen := h.len
 have Q9 := kid_factsE (cs := #[.pointer (some ⟨b, 0, none⟩)]) wq.heap.size rfl hB2 h.own (by omega) (one_ptrE (some ⟨b, 0, none⟩)) (by simp)
 obtain ⟨q1, q2, q3, q4, q5⟩ := Q9.out
 refine wpList_append_lies _ hgd s x _ ho B 31 i0 _ 1 8 Tryz.underlying36 hi0 hz0 hz1 hz2 rfl (by omega) sv xs.length xs hs q5 ⟨wq.heap.size, 0, none⟩ 1 1 [.pointer (some ⟨b, 0, none⟩)] hx rfl q1 q2 (by omega) q3 (by omega) q4 (wq.heap.size + 1) (by rw [World.size_alloc]) ?_
 intro g cap w' hown hgrow hor hlt
 have hG := LG.step (x := t) (h.below ((Below.refl _ _).alloc nl _)) (ht.below ((Below.refl _ _).alloc nl _)) hown hgrow (hor.imp id fun e => e.trans (World.size_alloc _ _).symm)
 rw [← hlen] at hK
 exact hK g cap _ w' (qh ⟨(S.pg.alloc _).gfar H0 hgrow (fun k e => Nat.le_trans hB (h.own.lt _ e).1), S.eq, S.le⟩) (qh hG) (qh ((World.grownBy_alloc wq _ _).trans hgrow))
end
theorem LG.one {B : Nat} {wr : World} {x : T1} {b : Nat} (hw : B ≤ wr.heap.size) (hx : RepS (fun y => B ≤ y) wr (.node x.1 x.2 .no) [.pointer (some ⟨b, 0, none⟩)]) :
 LG B (wr.alloc (.cells #[.pointer (some ⟨b, 0, none⟩)] 31)) (.slice (some ⟨wr.heap.size, 0, none⟩) 1 1) [x] [.pointer (some ⟨b, 0, none⟩)] := by
 refine ⟨World.ownsRow_lit wr #[.pointer (some ⟨b, 0, none⟩)] 1 hw (by unfold maxLen; omega) rfl, ?_, rfl⟩
 refine hx.keep (by rw [World.size_alloc]; exact Nat.le_succ _) (fun x _ hl => Below.heap_alloc wr _ x hl) (fun x hx hl => ⟨hx, fun e => ?_⟩)
 have : wr.heap.size = x := by simpa [Value.ownBlock] using e
 omega
theorem manyR_yE {α : Type} {e : Par T1} {f : Nat} {acc : List T1} {Q : List T1 → Par α} : bindP (manyRF e (f + 1) acc) Q = tokP (tT sCom) (fun _ => bindP e fun y => bindP (manyRF e f (acc ++ [y])) Q) (Q acc) := by
 rw [manyRF]
 simp only [sb_tok, sb_assoc, sb_ret]
theorem many_y {g : Nat} {w0 : World} {br c : Nat} {A : Option Addr} {L : List PT} (ht : Toks w0 br A L) (hgL : L.length < g) {F : Nat} (hev : ∀ args w, (callFunc F args).run Tryz.prog w = .ok (.enter F args) w) {e : Par T1} (he : Good2 e) {lo : Nat} (HE : Hid (TyE F e lo w0 br A c L)) (i : Nat) (hlo : lo ≤ i) (hi : i ≤ L.length) (w : World) (h : PInv w0 w br A c L i) :
 Calls Tryz.prog 156 #[.pointer (some ⟨br, 0, none⟩), .func (.func F) #[.pointer (some ⟨br, 0, none⟩)] #[]] w (ListR w.heap.size w0 w br A c L (manyF e g L i)) := by
 have hbr := h.row.lt
 have H0 := qh h
 have HT := qh ht
 obtain ⟨res, hs0⟩ : ∃ r, r = manyF e g L i := ⟨_, rfl⟩
 rw [← hs0]
 have S := qh (S1.start h hi hs0)
 clear h ht hs0 hi
 go_enter Tryz.func156, Tryz.ntmps156
 have S := qh (S.out.of (q := bindP e fun x => bindP (manyRF e g [x]) retP) (by show manyF e g L i = _; rw [bind_pure (manyF e g) L i]; unfold manyF; rw [sb_assoc]))
 have HZ := qh S.out.pg.2.size
 go_wp2_with fail
 (with_reducible refine S.out.tree (HE.out _ (by omega) S.out.le _ S.out.pg.1) (he) ?_ ?_)
 ·intro k w1 h hg; go_wp2; exact ⟨rfl, S1.errL h.out hg.out _⟩
 clear S
 intro x bx j1 wx hj1 S hg Hx
 have Hx := qh (Hx.out.more (S' := fun y => w.heap.size ≤ y) fun y hy _ => Nat.le_trans HZ.out hy)
 clear HZ
 have hjl := S.out.le
 have HG := qh (LG.one S.out.pg.2.size Hx.out)
 have S := qh (S.out.below ((Below.refl _ _).alloc nl (.cells #[.pointer (some ⟨bx, 0, none⟩)] 31)))
 go_wp2_with fail
 go_loopg [5] (L.length + 1) (fun gh sv wr => ∃ (lv : Value) (acc : List T1) (xs : List Value) (j f : Nat), lv = sv ∧ lo ≤ j ∧ L.length + 1 - j ≤ gh ∧ L.length < j + f ∧ acc.length ≤ j + 1 ∧ Hid (S1 w0 w wr br c A L res (bindP (manyRF e f acc) retP) j) ∧ Hid (LG w.heap.size wr lv acc xs))
 case atStart => exact ⟨_, _, _, j1, g, rfl, by omega, by omega, by omega, by simp only [List.length_cons, List.length_nil]; omega, S, HG⟩
 case round =>
  clear S HG
  obtain ⟨lv, acc, xs, j, f, rfl, hlj, hgh, hf, hac, S, HG⟩ := hrel
  have hjl := S.out.le
  have hlen := HT.out.len
  obtain ⟨f, rfl⟩ : ∃ f', f = f' + 1 := ⟨f - 1, by omega⟩
  obtain ⟨A7, c7, rfl, _⟩ := HG.out.form
  have S := qh (S.out.of (q := tokP (tT sCom) (fun _ => bindP e fun y => bindP (manyRF e f (acc ++ [y])) retP) (retP acc)) (by rw [manyR_yE]))
  go_wp2_with fail
  (with_reducible refine S.out.eat HT.out ?_ ?_)
  ·clear S
   intro wx S hg hT
   have HG := qh (HG.out.grown hg.out hbr)
   have HZ := qh S.out.pg.2.size
   go_wp2_with fail
   (with_reducible refine S.out.tree (HE.out _ (by omega) S.out.le _ S.out.pg.1) he ?_ ?_)
   ·intro k w1 h hg; go_wp2; exact ⟨rfl, S1.errL h.out hg.out _⟩
   clear S
   intro y b_y j4 wx hj4 S hg Hy
   have HY := qh (HG.out.new Hy.out HZ.out)
   have HG := qh (HG.out.grown hg.out hbr)
   clear HZ Hy
   have hwx := S.out.pg.2.size
   have hjl4 := S.out.le
   go_wp2_with (at_builtin; refine wpList_pushL rfl _ _ rfl (m := wx.heap.size) (t := y) S.out H0.out nl hwx HG.out (by omega) HY.out rfl rfl rfl ?_; clear S HY HG; intro g1 cap1 xs1 wx S HG hg1; clear hg1)
   go_wp2
   go_roundg (L.length + 1 - j4)
   case rel => exact ⟨_, _, _, j4, f, by rfl, by omega, by omega, by omega, by simp only [List.length_append, List.length_cons, List.length_nil]; omega, S, HG⟩
   case measure => omega
  ·clear S
   intro wx S hg hT
   have HG := qh (HG.out.grown hg.out hbr)
   go_wp2
   go_ret
   exact S.out.doneL HG.out
theorem g2_manyR {e : Par T1} (he : Good2 e) : ∀ (f : Nat) (acc : List T1), Good2 (manyRF e f acc)
 | 0, acc => St.g2_ret acc
 | f + 1, acc => St.g2_tok (tT_no _) (fun _ => St.g2_bind he fun _ => g2_manyR he f _) (St.g2_ret acc)
theorem g2_manyE {e : Par T1} {g : Nat} (he : Good2 e) : Good2 (manyF e g) := St.g2_bind he fun x => g2_manyR he g [x]
theorem between_y {g : Nat} {w0 : World} {br c : Nat} {A : Option Addr} {L : List PT} (ht : Toks w0 br A L) (hgL : L.length < g) {F : Nat} (hev : ∀ args w, (callFunc F args).run Tryz.prog w = .ok (.enter F args) w) {e : Par T1} (he : Good2 e) {lo : Nat} (HE : Hid (TyE F e lo w0 br A c L)) (s : ByteArray) (i : Nat) (hlo : lo ≤ i) (hi : i ≤ L.length) (w : World) (h : PInv w0 w br A c L i) :
 Calls Tryz.prog 160 #[.pointer (some ⟨br, 0, none⟩), .string s, .func (.func F) #[.pointer (some ⟨br, 0, none⟩)] #[]] w (ListR w.heap.size w0 w br A c L (betweenF e g s L i)) := by
 have hbr := h.row.lt
 have H0 := qh h
 have HT := qh ht
 obtain ⟨res, hs0⟩ : ∃ r, r = betweenF e g s L i := ⟨_, rfl⟩
 rw [← hs0]
 have S := qh (S1.start h hi hs0)
 clear h ht hs0 hi
 go_enter Tryz.func160, Tryz.ntmps160
 unfold betweenF at S
 go_wp2_with fail
 (with_reducible refine S.out.eat HT.out ?_ ?_)
 ·clear S
  intro wx S hg hT
  go_wp2
  go_ret
  exact S.out.doneL (LG.nil _ _)
 ·clear S
  intro wx S hg hT
  have HZ := qh S.out.pg.2.size
  go_wp2_with fail
  (with_reducible refine S.out.list (many_y HT.out hgL hev he HE _ (by omega) S.out.le _ S.out.pg.1) (g2_manyE he) ?_ ?_)
  ·intro k w1 h hg; go_wp2; exact ⟨rfl, S1.errL h.out hg.out _⟩
  clear S
  intro l sv xs j2 wx HEl hj2 S hg HG
  have HG := qh (HG.out.lower HZ.out)
  clear HZ
  go_wp2_with fail
  (with_reducible refine S.out.need HT.out ?_ ?_)
  ·intro k w1 h hg; go_wp2; exact ⟨rfl, S1.errL h.out hg.out _⟩
  clear S
  intro wx S hg
  have HG := qh (HG.out.grown hg.out hbr)
  obtain ⟨A7, c7, rfl, _⟩ := HG.out.form
  go_wp2
  go_ret
  exact S.out.doneL HG.out
end Ex
end Go.Proofs.YtkemhmfdooghkaaGreatDoor
