/- The walk of the law TreeKeeps. -/
import Derived.Test.YtdpdoigmjnkmdaaDoorT33
import Derived.Lib.MinMax
import Derived.Deep.Cut
set_option linter.unusedSimpArgs false
set_option linter.unusedVariables false
namespace Go.Proofs.YtdpdoigmjnkmdaaDoor.Tr
open Go.RowKit
open Fl

theorem RepN.snoc {S : Nat → Prop} {w : World} {d : Nd} {k : Fo} {v : Value} (h2 : (v = .pointer none ∧ d = zeroN ∧ k = .no) ∨ RepS S w (.node d k .no) [v]) : ∀ {f : Fo} {vs : List Value}, RepN S w f vs → RepN S w (f.snoc d k) (vs ++ [v])
  | .no, vs, h => by
    unfold RepN at h; subst h
    show RepN S w (.node d k .no) _
    unfold RepN
    exact ⟨v, [], rfl, h2, by unfold RepN; rfl⟩
  | .node d' k' r, vs, h => by
    unfold RepN at h
    obtain ⟨u, vs', rfl, h3, h4⟩ := h
    show RepN S w (.node d' k' (r.snoc d k)) _
    unfold RepN
    exact ⟨u, vs' ++ [v], rfl, h3, RepN.snoc h2 h4⟩
/-- Kids that are being listed, in a row of the call's own. -/
structure KR (B : Nat) (w : World) (sv : Value) (f : Fo) (xs : List Value) : Prop where
  own : w.ownsRow B 25 1 sv xs.length xs
  rep : RepN (fun x => B ≤ x ∧ sv.ownBlock ≠ some x) w f xs
  hB : B ≤ w.heap.size
theorem KR.below {B : Nat} {w w' : World} {sv : Value} {f : Fo} {xs : List Value} (h : KR B w sv f xs) (hb : Below w.heap.size w w') : KR B w' sv f xs :=
  ⟨h.own.kept (grown_below hb none) (by rcases h : sv.ownBlock with _ | g; exact .inl rfl; exact .inr (by simp)), h.rep.below hb, Nat.le_trans h.hB hb.size⟩
theorem KR.step {B : Nat} {W w1 : World} {g cap : Nat} {dk : Nd} {sv v : Value} {f k : Fo} {xs : List Value} (h : KR B W sv f xs) (hk : (v = .pointer none ∧ dk = zeroN ∧ k = .no) ∨ RepS (fun x => B ≤ x ∧ sv.ownBlock ≠ some x) W (.node dk k .no) [v])
    (hown : w1.ownsRow B 25 1 (.slice (some ⟨g, 0, none⟩) (xs.length + 1) cap) (xs.length + 1) (xs ++ [v])) (hg : W.grownBy w1 sv.ownBlock) (hor : sv.ownBlock = some g ∨ g = W.heap.size) :
    KR B w1 (.slice (some ⟨g, 0, none⟩) (xs.length + 1) cap) (f.snoc dk k) (xs ++ [v]) := by
  have hS : ∀ x, (B ≤ x ∧ sv.ownBlock ≠ some x) → x < W.heap.size → (B ≤ x ∧ (Value.slice (some ⟨g, 0, none⟩) (xs.length + 1) cap).ownBlock ≠ some x) := by
    intro x hx hl
    refine ⟨hx.1, ?_⟩
    show some g ≠ some x
    intro e
    injection e with e
    subst e
    rcases hor with hor | hor
    · exact hx.2 hor
    · omega
  have hkeep : ∀ x, (B ≤ x ∧ sv.ownBlock ≠ some x) → x < W.heap.size → w1.heap[x]? = W.heap[x]? := fun x hx hl => hg.block x hl (fun e => hx.2 e.symm)
  refine ⟨by rw [List.length_append, List.length_singleton]; exact hown, ?_, Nat.le_trans h.hB hg.size⟩
  have h1 := h.rep.more (S' := fun x => (B ≤ x ∧ sv.ownBlock ≠ some x) ∧ (B ≤ x ∧ (Value.slice (some ⟨g, 0, none⟩) (xs.length + 1) cap).ownBlock ≠ some x)) fun x hx hl => ⟨hx, hS x hx hl⟩
  refine RepN.snoc ?_ ((h1.keep hg.size fun x hx hl => hkeep x hx.1 hl).more fun x hx _ => hx.2)
  rcases hk with hk | hk
  · exact .inl hk
  · exact .inr (hk.keep hg.size hkeep hS)
theorem RepS.one {S : Nat → Prop} {w : World} {d : Nd} {k : Fo} {v : Value} (h : RepS S w (.node d k .no) [v]) : ∃ b A c ks, v = .pointer (some ⟨b, 0, none⟩) ∧ S b ∧ At w b d (.slice A ks.length c) ∧ Reads w w.heap.size 1 A ks.length ks ∧ RepS S w k ks := by
  unfold RepS at h
  obtain ⟨b, A, c, ks, vs', h1, h2, h3, h4, h5, h6, h7⟩ := h
  simp only [List.cons.injEq] at h1
  exact ⟨b, A, c, ks, h1.1, h2, h3, h5, h6⟩
theorem kr_facts {B : Nat} {x : World} {sv u' : Value} {f : Fo} {xs : List Value} (h : KR B x sv f xs) (hj : xs.length ≤ 1000000) (hu : u'.oneCell' = true) :
    Hid ((∀ i v, [u'][i]? = some v → (x.alloc (.cells #[u'] 25)).cell? ((⟨x.heap.size, 0, none⟩ : Addr).add i) = some v) ∧ (∀ v ∈ [u'], v.oneCell' = true) ∧ xs.length + 1 ≤ maxLen ∧ B ≤ (x.alloc (.cells #[u'] 25)).heap.size ∧ (x.alloc (.cells #[u'] 25)).ownsRow B 25 1 sv xs.length xs) := by
  refine Lib.hid ⟨World.news_of_block (cs := #[u']) (t := 25) (fr := (0, 0)) (heap_alloc_new x _), fun v hv => ?_, by unfold maxLen; omega, ?_, h.own.alloc _⟩
  · simp only [List.mem_singleton] at hv; subst hv; exact hu
  · have := h.hB; simp; omega
theorem grow6 (l : List Pc) (A : Option Addr) (c : Nat) (w : World) (h : Pcs w A c l) (hl : l.length ≤ 1000000) :
    Calls Tryd.prog 10 #[.slice A l.length c, .int .i64 6] w fun e w' => ∃ u, e = .returned (.tuple #[u, .int .i64 ((grow 6 l).2 : Nat)]) ∧ Below w.heap.size w w' ∧ (((grow 6 l).1 = .no ∧ u = .pointer none) ∨ RepS (fun x => w.heap.size ≤ x) w' (grow 6 l).1 [u]) := by
  have := grow_call 6 l A c w h (by omega) hl
  rwa [show ((6 : Nat) : Int) = 6 from rfl] at this
theorem Pcs.drop {w : World} {A : Option Addr} {c : Nat} {l : List Pc} (h : Pcs w A c l) {k : Nat} (hk : k ≤ l.length) : Pcs w (cutA A c k) (c - k) (l.drop k) := by
  have hr := Reads.cut h.rd hk h.lc
  rw [valsP_drop] at hr
  refine ⟨by rw [List.length_drop]; exact hr, h.ok.drop k, fun p hp => h.rg p (List.mem_of_mem_drop hp), fun p hp => h.nm p (List.mem_of_mem_drop hp), by rw [List.length_drop]; have := h.lc; omega, by have := h.cm; omega⟩
theorem RepN.len {S : Nat → Prop} {w : World} : ∀ {f : Fo} {vs : List Value}, RepN S w f vs → vs.length = f.len
  | .no, vs, h => by unfold RepN at h; subst h; rfl
  | .node d k r, vs, h => by
    unfold RepN at h
    obtain ⟨v, vs', rfl, _, h3⟩ := h
    simp [Fo.len, RepN.len h3]
def d9 : Nd := ⟨9, (0, 0), ⟨#[110]⟩, 4⟩
theorem d9_fine : d9.fine := by
  refine ⟨⟨by decide, .inl rfl, by unfold inR d9; simp, by unfold inR; decide⟩, ⟨by decide, by decide, by decide, by decide, by decide, by decide⟩, by decide, by decide, by decide, by decide⟩
/-- Behind New: the kids as they were handed in, the node that has them. -/
structure K2 (B : Nat) (w : World) (sv : Value) (A2 : Option Addr) (n c2 b : Nat) (f : Fo) (xs ks : List Value) : Prop where
  kr : KR B w sv f xs
  at_ : At w b d9 (.slice A2 n c2)
  rk : Reads w w.heap.size 1 A2 n ks
  rs : RepS (fun x => sv.ownBlock ≠ some x) w (.node d9 f .no) [.pointer (some ⟨b, 0, none⟩)]
theorem K2.below {B : Nat} {w w' : World} {sv : Value} {A2 : Option Addr} {n c2 b : Nat} {f : Fo} {xs ks : List Value} (h : K2 B w sv A2 n c2 b f xs ks) (hb : Below w.heap.size w w') : K2 B w' sv A2 n c2 b f xs ks :=
  ⟨h.kr.below hb, h.at_.below hb, (h.rk.below hb).more hb.size, h.rs.below hb⟩
/-- What was listed. -/
def KF (j : Nat) (f : Fo) : Prop := f.all Nd.fine ∧ f.count ≤ j * 201
theorem KF.snoc {j : Nat} {f : Fo} {d : Nd} {k : Fo} (h : KF j f) (h1 : d.fine) (h2 : k.all Nd.fine) (h3 : 1 + k.count ≤ 201) : KF (j + 1) (f.snoc d k) :=
  ⟨Fo.all_snoc h.1 h1 h2, by rw [Fo.snoc_count]; have := h.2; omega⟩

set_option maxRecDepth 100000 in
set_option maxHeartbeats 12800000 in
theorem keeps_law (l : List Pc) (A : Option Addr) (c : Nat) (bs : List Bool) (Ab : Option Addr) (cb : Nat) (w : World) (hE : EnvW w) (hl : Pcs w A c l) (hbl : bs.length ≤ 9223372036854775807) (hb : Reads w w.heap.size 1 Ab bs.length (bs.map Value.bool)) :
    Calls Tryd.prog 6 #[.slice A l.length c, .slice Ab bs.length cb] w fun e w' => e = .returned (.bool true) ∧ Below w.heap.size w w' := by
  have HE := Lib.hid hE
  have HL := Lib.hid hl
  have HBS := Lib.hid hb
  have ll := hl.lc
  have cl := hl.cm
  clear hE hl hb
  go_enter Tryd.func6, Tryd.ntmps6
  go_wp2_with fail
  ((with_reducible refine (heavy_any l A c w (by omega) HL.out.nm HL.out.rd).mono ?_); rintro e w1 ⟨z1, rfl, rfl, h1⟩)
  have H1 := Lib.hid h1
  clear h1
  cases z1
  case' true =>
    go_wp2_with fail
    ((with_reducible refine (works_any _ HE.out).mono ?_); rintro e w1 ⟨rfl, hb⟩)
    go_wp2
    go_ret
    exact ⟨rfl, hb⟩
  by_cases hs4 : 20 < bs.length
  case' pos =>
    go_wp2_with fail
    ((with_reducible refine (works_any _ HE.out).mono ?_); rintro e w1 ⟨rfl, hb⟩)
    go_wp2
    go_ret
    exact ⟨rfl, hb⟩
  obtain ⟨h1, n1⟩ := H1.out (by simp)
  have FI := Lib.hid (HL.out.fine n1)
  obtain ⟨i0, hi, hz0, hz1, hz2⟩ := info_parts info25
  clear n1 H1
  go_wp2
  go_loopw [5, 6] (fun sv i wr => ∃ (j : Nat) (f : Fo) (xs : List Value), j ≤ bs.length ∧ i = .int .i64 j ∧ xs.length = j ∧ Hid (KR w.heap.size wr sv f xs) ∧ Hid (KF j f) ∧ Hid (Below w.heap.size w wr)) (fun _ i _ => bs.length - (intOf i).toNat)
  case atStart => exact ⟨0, .no, [], by omega, rfl, rfl, Lib.hid ⟨World.ownsRow_nil _ _ _ _, by unfold RepN; rfl, Nat.le_refl _⟩, Lib.hid ⟨trivial, by simp [Fo.count]⟩, Lib.hid (Below.refl _ _)⟩
  case round =>
    obtain ⟨j, f, xs, hj, rfl, hxs, HK, HF, HB⟩ := hrel
    have HXS := Lib.hid hxs
    have hxl : xs.length ≤ 1000000 := by omega
    clear hxs
    by_cases hlt : j < bs.length
    case' pos =>
      obtain ⟨bb, bo, bu, rfl, _, hbx, hbc⟩ := (HBS.out.below HB.out).spot hlt
      rw [List.getElem?_map, List.getElem?_eq_getElem hlt] at hbx
      injection hbx with hbx
      subst hbx
      cases hn : bs[j]
      case' true =>
        rw [hn] at hbc
        have Q := kr_facts HK.out hxl (u' := .pointer none) rfl
        go_wp2_with (at_builtin; refine wpList_append_lies _ rfl _ _ _ rfl w.heap.size 25 i0 (.pointer none) 1 8 Tryd.underlying42 hi hz0 hz1 hz2 rfl (by omega) _ xs.length xs rfl Q.out.2.2.2.2 ⟨wr.heap.size, 0, none⟩ 1 1 [.pointer none] rfl rfl Q.out.1 Q.out.2.1 (by omega) Q.out.2.2.1 (by omega) Q.out.2.2.2.1 (wr.heap.size + 1) (by simp) ?_)
        intro g' cap w6 hown1 hgrow hor hlt1
        have hbel : Below wr.heap.size wr (wr.alloc (.cells #[.pointer none] 25)) := (Below.refl _ _).alloc (Nat.le_refl _) _
        have KN := Lib.hid (KR.step (HK.out.below hbel) (.inl ⟨rfl, rfl, rfl⟩) hown1 hgrow (by rcases hor with h | h; exact .inl h; exact .inr (by rw [h]; simp)))
        have BN := Lib.hid ((HB.out.trans (hbel.mono HB.out.size)).grown hgrow (by have := HB.out.size; simp; omega) (fun q hq => (HK.out.own.lt q hq).1))
        clear hown1 hgrow hor hlt1 hbel Q hbc
        go_wp2
        go_roundw
        case rel => exact ⟨j + 1, f.snoc zeroN .no, xs ++ [.pointer none], by omega, by go_num, by simp [HXS.out], KN, Lib.hid (KF.snoc HF.out zero_fine trivial (by simp [Fo.count])), BN⟩
        case measure => simp [intOf]; omega
      case' false =>
        rw [hn] at hbc
        obtain ⟨m, hm⟩ : ∃ m, m = min j l.length := ⟨_, rfl⟩
        have hml : m ≤ l.length := by omega
        have hmi : min (j : Int) (l.length : Int) = (m : Int) := by omega
        have hsl := fun w => run_cut w A l.length c m hml
        rw [← hmi] at hsl
        have hP := (HL.out.below HB.out).drop hml
        have cG := grow6 (l.drop m) _ _ wr hP (by rw [List.length_drop]; omega)
        rw [List.length_drop] at cG
        have CG := Lib.hid cG
        have GD := Lib.hid (grown_of (deep := 6) (fun p hp => FI.out p (List.mem_of_mem_drop (i := m) hp)))
        have G1 := grow_one 6 (l.drop m)
        have hgl := grow_le 6 (l.drop m)
        rw [List.length_drop] at hgl
        clear hm hmi hP cG
        generalize grow 6 (l.drop m) = tt at *
        obtain ⟨tf, tm⟩ := tt
        simp only at G1 hgl
        generalize cutA A c m = A' at *
        go_wp2_with fail
        ((with_reducible refine CG.out.mono ?_); rintro e w5 ⟨u, rfl, hb, hor0⟩)
        have KX := Lib.hid (HK.out.below hb)
        have BX := Lib.hid (HB.out.trans (hb.mono HB.out.size))
        have hk1 : ∃ dk k, ((u = .pointer none ∧ dk = zeroN ∧ k = .no) ∨ RepS (fun x => w.heap.size ≤ x ∧ (u5).ownBlock ≠ some x) w5 (.node dk k .no) [u]) ∧ dk.fine ∧ k.all Nd.fine ∧ 1 + k.count ≤ 201 := by
          rcases G1 with rfl | ⟨d1, k1, rfl⟩
          · rcases hor0 with ⟨_, rfl⟩ | h
            · exact ⟨zeroN, .no, .inl ⟨rfl, rfl, rfl⟩, zero_fine, trivial, by simp [Fo.count]⟩
            · unfold RepS at h; cases h
          · rcases hor0 with ⟨h, _⟩ | h
            · cases h
            · have hal := GD.out.al
              have hct := GD.out.ct
              simp only [Fo.count] at hct
              rw [List.length_drop] at hct
              refine ⟨d1, k1, .inr (h.more fun x hx _ => ⟨by have := HB.out.size; omega, fun e => ?_⟩), hal.1, hal.2.1, by omega⟩
              have := (HK.out.own.lt x e).2
              omega
        obtain ⟨dk, k, hku, hdf, hkf, hkc⟩ := hk1
        have HKU := Lib.hid hku
        have HDF := Lib.hid (And.intro hdf (And.intro hkf hkc))
        have hu1 : ∃ q, u = .pointer q := by
          rcases hku with ⟨rfl, _⟩ | h
          · exact ⟨_, rfl⟩
          · obtain ⟨b, _, _, _, rfl, -⟩ := h.rep.one; exact ⟨_, rfl⟩
        obtain ⟨pq, rfl⟩ := hu1
        have Q := kr_facts KX.out hxl (u' := .pointer pq) rfl
        clear hor0 hku hdf hkf hkc hb G1 hsl CG
        go_wp2_with (at_builtin; refine wpList_append_lies _ rfl _ _ _ rfl w.heap.size 25 i0 (.pointer none) 1 8 Tryd.underlying42 hi hz0 hz1 hz2 rfl (by omega) _ xs.length xs rfl Q.out.2.2.2.2 ⟨w5.heap.size, 0, none⟩ 1 1 [.pointer pq] rfl rfl Q.out.1 Q.out.2.1 (by omega) Q.out.2.2.1 (by omega) Q.out.2.2.2.1 (w5.heap.size + 1) (by simp) ?_)
        intro g' cap w6 hown1 hgrow hor hlt1
        have hbel : Below w5.heap.size w5 (w5.alloc (.cells #[.pointer pq] 25)) := (Below.refl _ _).alloc (Nat.le_refl _) _
        have KN := Lib.hid (KR.step (KX.out.below hbel) (by rcases HKU.out with h | h; exact .inl h; exact .inr (h.below hbel)) hown1 hgrow (by rcases hor with h | h; exact .inl h; exact .inr (by rw [h]; simp)))
        have BN := Lib.hid ((BX.out.trans (hbel.mono BX.out.size)).grown hgrow (by have := BX.out.size; simp; omega) (fun q hq => (KX.out.own.lt q hq).1))
        clear hown1 hgrow hor hlt1 hbel Q hbc
        go_wp2
        go_roundw
        case rel => exact ⟨j + 1, f.snoc dk k, xs ++ [.pointer pq], by omega, by go_num, by simp [HXS.out], KN, Lib.hid (KF.snoc HF.out HDF.out.1 HDF.out.2.1 HDF.out.2.2), BN⟩
        case measure => simp [intOf]; omega
    obtain ⟨Ak, ck, rfl, hrk⟩ := own_form HK.out.own
    have cN := new_any (fun x => w.heap.size ≤ x ∧ (Value.slice Ak xs.length ck).ownBlock ≠ some x) 9 0 0 ⟨#[110]⟩ 4 Ak ck xs f wr hxl hrk HK.out.rep
    rw [fl_0, show ((9 : Nat) : Int) = 9 from rfl] at cN
    have CN := Lib.hid cN
    have hlen := HK.out.rep.len
    have hjn : xs.length = bs.length := by rw [HXS.out]; omega
    have HLEN := Lib.hid (And.intro hlen hjn)
    clear cN hrk hlen hjn
    go_wp2_with fail
    ((with_reducible refine CN.out.mono ?_); rintro e w7 ⟨u, rfl, hb, hr⟩)
    obtain ⟨b, A2, c2, ks, rfl, hbS, hat, hrd, hrk⟩ := RepS.one hr
    have hkl : ks.length = xs.length := by rw [hrk.len, HLEN.out.1]
    rw [hkl] at hat hrd
    have K7 := Lib.hid (HK.out.below hb)
    have B7 := Lib.hid (HB.out.trans (hb.mono HB.out.size))
    have R7 := Lib.hid hr
    have HAT := Lib.hid hat
    have HKS := Lib.hid (And.intro hkl (And.intro hrd hrk.rep))
    clear hb hr hrd hrk hbS hkl CN
    unfold At C at hat
    obtain ⟨m0, m1, m2, m3, m4⟩ := hat
    simp only at m0 m2 m3
    clear m1
    go_upto_region 14 with (fail)
    have HK2 : Hid (K2 w.heap.size w7 (.slice Ak xs.length ck) A2 xs.length c2 b f xs ks) := Lib.hid ⟨K7.out, HAT.out, HKS.out.2.1, R7.out.more fun x hx _ => by
      rcases hx with h | h
      · exact h.2
      · intro e
        have := (HK.out.own.lt x e).2
        omega⟩
    have HKL := Lib.hid HKS.out.1
    have HT0 : Hid (RepN (fun x => w.heap.size ≤ x ∧ (Value.slice Ak xs.length ck).ownBlock ≠ some x) w7 f (xs.drop 0) ∧ Rep w7 f (ks.drop 0) ∧ f.all Nd.fine ∧ f.count ≤ 10000) := Lib.hid ⟨K7.out.rep, HKS.out.2.2, HF.out.1, by have := HF.out.2; omega⟩
    have HFA := Lib.hid (And.intro HF.out.1 (show f.count ≤ 10000 by have := HF.out.2; omega))
    clear HKS HAT R7 K7 HK HB HXS HF m0 m2 m3 m4
    generalize hn : xs.length = n at *
    have HN := Lib.hid hn
    have hn20 : n ≤ 20 := by have := HLEN.out.2; omega
    clear hn
    go_wp2
    go_loopw [10] (fun i wr2 => ∃ (q : Nat) (r : Fo), q ≤ n ∧ i = .int .i64 q ∧ Hid (K2 w.heap.size wr2 (.slice Ak n ck) A2 n c2 b f xs ks) ∧ Hid (RepN (fun x => w.heap.size ≤ x ∧ (Value.slice Ak n ck).ownBlock ≠ some x) wr2 r (xs.drop q) ∧ Rep wr2 r (ks.drop q) ∧ r.all Nd.fine ∧ r.count ≤ 10000) ∧ Hid (Below w.heap.size w wr2)) (fun i _ => n - (intOf i).toNat)
    case atStart => exact ⟨0, f, by omega, rfl, HK2, HT0, B7⟩
    case round =>
      obtain ⟨q, r, hq, rfl, HK3, HT3, HB3⟩ := hrel
      by_cases hlt3 : q < n
      case' pos =>
        have hqx : q < xs.length := by rw [HN.out]; exact hlt3
        have hqk : q < ks.length := by rw [HKL.out]; exact hlt3
        obtain ⟨t1, t2, t3, t4⟩ := HT3.out
        obtain ⟨dq, kq, rq, rfl, g1, g2⟩ := t1.at_ hqx
        obtain ⟨dq', kq', rq', e0, g3, g4⟩ := t2.at_ hqk
        injection e0 with e1 e2 e3
        subst e1 e2 e3
        have hro0 := HK3.out.kr.own
        rw [HN.out] at hro0
        have hro := Reads.of_own hro0
        obtain ⟨ba, oa, hA1, hc1⟩ := Reads.nth (A := Ak) (vs := xs) (by rw [HN.out]; exact hro) hqx
        obtain ⟨bk, ok, hA2, hc2⟩ := Reads.nth (A := A2) (vs := ks) (by rw [HKL.out]; exact HK3.out.rk) hqk
        obtain ⟨m0, m1, m2, m3, m4⟩ := HK3.out.at_
        have hcq : (Fo.node dq kq .no).count ≤ 1000000 := by simp only [Fo.count] at t4 ⊢; omega
        have hfq : (Fo.node dq kq .no).fits := all_fits (f := .node dq kq .no) ⟨t3.1, t3.2.1, trivial⟩
        have T5 := Lib.hid (show rq.all Nd.fine ∧ rq.count ≤ 10000 from ⟨t3.2.2, by simp only [Fo.count] at t4; omega⟩)
        have G2 := Lib.hid g2
        have G4 := Lib.hid g4
        have hi0 : (0 : Int) ≤ (q : Int) := by omega
        have hi1 : (q : Int) < (n : Int) := by omega
        obtain ⟨bq, _, _, _, hkq, -⟩ := g3.one
        rw [hkq] at hc2 g3
        clear m0 m1 m2 m3 t1 t2 t3 t4 hro hro0 g2 g4 hkq HT3
        subst hA1 hA2
        rcases g1 with ⟨hx0, rfl, rfl⟩ | g1
        case' inl =>
          rw [hx0] at hc1
          have hz := zero_rep (S := fun _ => True) wr trivial
          have hbz : Below wr.heap.size wr (wr.alloc (.cells #[.int .u8 0, .complex .f64 0 0, .string ⟨#[]⟩, .int .i64 0, .slice none 0 0] 46)) := (Below.refl _ _).alloc (Nat.le_refl _) _
          have cE := exact_any _ zeroN .no zeroN .no (.pointer (some ⟨bq, 0, none⟩)) (.pointer (some ⟨wr.heap.size, 0, none⟩)) _ (Nat.le_refl _) hcq hfq hfq (g3.below hbz) hz.rep
          rw [Fo.exact_refl] at cE
          have CE := Lib.hid cE
          have HBZ := Lib.hid hbz
          have m4' := alloc_cell (o := .cells #[.int .u8 0, .complex .f64 0 0, .string ⟨#[]⟩, .int .i64 0, .slice none 0 0] 46) m4
          have hc2' := alloc_cell (o := .cells #[.int .u8 0, .complex .f64 0 0, .string ⟨#[]⟩, .int .i64 0, .slice none 0 0] 46) hc2
          clear hz cE hbz hx0 hfq hcq g3
          go_wp2_with fail
          ((with_reducible refine CE.out.mono ?_); rintro e w8 ⟨rfl, mm, rfl⟩)
          have HBY := Lib.hid (show Below wr.heap.size wr ((wr.alloc (.cells #[.int .u8 0, .complex .f64 0 0, .string ⟨#[]⟩, .int .i64 0, .slice none 0 0] 46)).drewN mm) from below_drewN HBZ.out mm)
          clear CE HBZ m4' hc2' m4 hc1 hc2
          go_wp2
          go_roundw
          case rel => exact ⟨q + 1, rq, by omega, by go_num, Lib.hid (HK3.out.below HBY.out), Lib.hid ⟨G2.out.below HBY.out, G4.out.below HBY.out, T5.out⟩, Lib.hid (HB3.out.trans (HBY.out.mono HB3.out.size))⟩
          case measure => simp [intOf]; omega
        obtain ⟨bx, _, _, _, hxq, -⟩ := g1.rep.one
        rw [hxq] at hc1 g1
        have cE := exact_any _ dq kq dq kq (.pointer (some ⟨bq, 0, none⟩)) (.pointer (some ⟨bx, 0, none⟩)) wr (Nat.le_refl _) hcq hfq hfq g3 g1.rep
        rw [Fo.exact_refl] at cE
        have CE := Lib.hid cE
        clear cE hxq hfq hcq g3 g1
        go_wp2_with fail
        ((with_reducible refine CE.out.mono ?_); rintro e w8 ⟨rfl, mm, rfl⟩)
        have HBY := Lib.hid (show Below wr.heap.size wr (wr.drewN mm) from below_drewN (Below.refl _ _) mm)
        clear CE m4 hc1 hc2
        go_wp2
        go_roundw
        case rel => exact ⟨q + 1, rq, by omega, by go_num, Lib.hid (HK3.out.below HBY.out), Lib.hid ⟨G2.out.below HBY.out, G4.out.below HBY.out, T5.out⟩, Lib.hid (HB3.out.trans (HBY.out.mono HB3.out.size))⟩
        case measure => simp [intOf]; omega
      clear HT3
      have cC := rcopy_any _ d9 f (.pointer (some ⟨b, 0, none⟩)) wr (Nat.le_refl _) (by simp only [Fo.count]; have := HFA.out.2; omega) HK3.out.rs.rep
      have CC := Lib.hid cC
      clear cC
      go_wp2_with fail
      ((with_reducible refine CC.out.mono ?_); rintro e w8 ⟨u2, rfl, hb8, hr8⟩)
      have K8 := Lib.hid (HK3.out.below hb8)
      have B8 := Lib.hid (HB3.out.trans (hb8.mono HB3.out.size))
      have C8 := Lib.hid (show RepS (fun x => (Value.slice Ak n ck).ownBlock ≠ some x) w8 (.node d9 f .no) [u2] from hr8.more fun x hx _ e => by
        have := (HK3.out.kr.own.lt x e).2
        omega)
      have O8 : Hid (∃ ys, w8.ownsRow w.heap.size 25 1 (.slice Ak n ck) n ys) := Lib.hid ⟨xs, by have := K8.out.kr.own; rwa [HN.out] at this⟩
      clear hb8 hr8 CC HB3
      obtain ⟨bc, _, _, _, hu2, -⟩ := C8.out.rep.one
      subst hu2
      go_wp2
      have D8 := Lib.hid (And.intro K8.out.rs C8.out)
      clear K8 C8 HK3 
      go_loopw [13] (fun i wr3 => ∃ q : Nat, q ≤ n ∧ i = .int .i64 q ∧ Hid (∃ ys, wr3.ownsRow w.heap.size 25 1 (.slice Ak n ck) n ys) ∧ Hid (RepS (fun x => (Value.slice Ak n ck).ownBlock ≠ some x) wr3 (.node d9 f .no) [.pointer (some ⟨b, 0, none⟩)] ∧ RepS (fun x => (Value.slice Ak n ck).ownBlock ≠ some x) wr3 (.node d9 f .no) [.pointer (some ⟨bc, 0, none⟩)]) ∧ Hid (Below w.heap.size w wr3)) (fun i _ => n - (intOf i).toNat)
      case atStart => exact ⟨0, by omega, rfl, O8, D8, B8⟩
      case round =>
        obtain ⟨q3, hq3, rfl, HO4, HD4, HB4⟩ := hrel
        by_cases hlt4 : q3 < n
        case' pos =>
          obtain ⟨ys, hys⟩ := HO4.out
          obtain ⟨g, cap, e0, hgB, hgl⟩ := hys.form (by omega)
          injection e0 with e1 _ e2
          subst e1 e2
          have hyl : q3 < ys.length := by have := hys.1; omega
          have hcx := hys.cellAt q3 (by omega)
          rw [List.getElem?_eq_getElem hyl] at hcx
          have hfx := hys.frozenAt q3
          have HST := Lib.hid (hys.stored q3 (.pointer none))
          have hi0 : (0 : Int) ≤ (q3 : Int) := by omega
          have hi1 : (q3 : Int) < (n : Int) := by omega
          have hkeep : ∀ x, (Value.slice (some ⟨g, 0, none⟩) n ck).ownBlock ≠ some x → x < wr.heap.size → (wr.setCell ⟨g, q3, none⟩ (.pointer none)).heap[x]? = wr.heap[x]? := fun x hx hl => HST.out.2.block x hl (fun e => hx e.symm)
          have HDN := Lib.hid (And.intro (HD4.out.1.keep HST.out.2.size hkeep fun x hx _ => hx) (HD4.out.2.keep HST.out.2.size hkeep fun x hx _ => hx))
          have HBN : Hid (Below w.heap.size w (wr.setCell ⟨g, q3, none⟩ (.pointer none))) := Lib.hid (HB4.out.setCell hgB _)
          clear hys hkeep HD4 HB4 HO4
          go_wp2
          go_roundw
          case rel => exact ⟨q3 + 1, by omega, by go_num, Lib.hid ⟨_, HST.out.1⟩, HDN, HBN⟩
          case measure => simp [intOf]; omega
        have cE := exact_any _ d9 f d9 f (.pointer (some ⟨b, 0, none⟩)) (.pointer (some ⟨bc, 0, none⟩)) wr (Nat.le_refl _) (by simp only [Fo.count]; have := HFA.out.2; omega) (all_fits (f := .node d9 f .no) ⟨d9_fine, HFA.out.1, trivial⟩) (all_fits (f := .node d9 f .no) ⟨d9_fine, HFA.out.1, trivial⟩) HD4.out.1.rep HD4.out.2.rep
        rw [Fo.exact_refl] at cE
        have CE := Lib.hid cE
        clear cE
        go_wp2_with fail
        ((with_reducible refine CE.out.mono ?_); rintro e w9 ⟨rfl, mm, rfl⟩)
        have B9 : Hid (Below w.heap.size w (wr.drewN mm)) := Lib.hid (below_drewN HB4.out mm)
        go_wp2_with fail
        ((with_reducible refine (works_any _ (HE.out.below B9.out)).mono ?_); rintro e w10 ⟨rfl, hb⟩)
        go_wp2
        go_ret
        exact ⟨rfl, B9.out.trans (hb.mono B9.out.size)⟩
end Go.Proofs.YtdpdoigmjnkmdaaDoor.Tr
