/- A part of the proof: V3. -/
import Derived.Test.YtecmjhohniipoaaZ1
import Derived.Test.YtecmjhohniipoaaZ27
import Derived.Deep.Cut
import Derived.Deep.CutBlock
import Derived.Deep.CutRange
import Derived.Deep.AppendLies
import Derived.Deep.LoopGhost
set_option linter.unusedSimpArgs false
set_option linter.unusedVariables false

section
namespace Go.Proofs.Ytecmjhohniipoaa.Rs
open Go.RowKit
open Tr (Nd Fo RepS RepN Rep cellsN)
open Lx (Tk noTk Blk run_store_complexL TokAt)
open Fl
open Ex
attribute [local go_sem] run_store_complexL run_field1 run_field3 St.run_field0
open St (sSem sAsg sCol sBar sIf sThen sElsif sElse sEnd sCase sOf sWhile sDo sRepeat sUntil sLoop sExit sFor sTo sBy sWith sReturn isWd6 whileS repS loopS exitS withS endS ifS ifsF elseS caseS armsF armOut forS forE returnS retOut plainS bodyR bodyG stmS stmL alts)
theorem UnOK.mono {F : Nat} {p : Par T1} {lo lo' : Nat} {w0 : World} {br : Nat} {A : Option Addr} {c : Nat} {L : List PT} (h : UnOK F p lo w0 br A c L) (hl : lo ≤ lo') : UnOK F p lo' w0 br A c L :=
 fun b j hlo hj w hq => h b j (fun e => Nat.le_trans hl (hlo e)) hj w hq
section
variable {L : List PT} {i : Nat} {s s' : ByteArray}
theorem isT_nt (h : (tk L i).1.text = s') (hn : s' ≠ s) : isT L i s = false := by unfold isT; rw [h]; simp [hn]
theorem isT_yt (hk : (tk L i).1.kind = 6) (h : (tk L i).1.text = s) : isT L i s = true := by unfold isT isSW; rw [hk, h]; simp
theorem isT_nk (hk : (tk L i).1.kind = 1) : isT L i s = false := by unfold isT isSW; rw [hk]; simp
end
set_option maxRecDepth 100000 in set_option maxHeartbeats 6400000 in
theorem rst_while {g : Nat} {w0 : World} {br c : Nat} {A : Option Addr} {L : List PT} (ht : Toks w0 br A L) (ok : OKRow L) (hg : L.length < g) {bd : Par T1} (hb2 : St.Good2 bd) {lo : Nat} (hB : UnOK 18 bd (lo + 1) w0 br A c L) (i : Nat) (hlo : lo ≤ i) (hi : i ≤ 60000) (w : World) (h : QInv w0 w br A c L i false) (hk6 : (tk L i).1.kind = 6) (htx : (tk L i).1.text = sWhile) :
 Calls Try.prog 42 #[.pointer (some ⟨br, 0, none⟩)] w (RefU w.heap.size w0 w br A c L (whileS g bd (tk L i).2.1 L (i + 1))) := by
 have hbr0 := h.row.lt
 have hlen := ht.len
 have H0 := qh h
 have H := qh (QG.start h)
 have HT := qh ht
 have HOK := qh ok
 have HG2 := qh hb2
 have UE := qh ((un_of (c := c) (rexpr_all ht ok) (fun j => expr_fuel hg j) (bexpr ht)).mono (Nat.zero_le (lo + 1)))
 have UB := qh hB
 obtain ⟨i0, hi0, hz0, hz1, hz2⟩ := info_parts infoN
 have hil : i < L.length := by
  rcases Nat.lt_or_ge i L.length with h | h
  ·exact h
  ·rw [kind_end h] at hk6; cases hk6
 have HD0 := qh (fun (w : World) (h : QInv w0 w br A c L (i + 1) false) => (rdesign_all (c := c) ht ok (i + 1) (Nat.zero_le _) (by omega) w h).mono fun e w' h => (designE_fuel hg (i + 1)) ▸ refU h)
 have N1 := rnow_any ht (i := i) (by omega) w h
 obtain ⟨k, p1, p2, q1, q2, t, n, e1, e2⟩ := val_form (tk L i)
 rw [e2] at N1
 have N1 := qh N1
 have HK6 := qh hk6
 have HTX := qh htx
 rw [show (tk L i).2.1 = (p1, p2) by rw [e1]]
 obtain ⟨res, hs0⟩ : ∃ r, r = whileS g bd (p1, p2) L (i + 1) := ⟨_, rfl⟩
 rw [← hs0]
 have HS := qh (show res = andK (.ok ([], i + 1)) (fun a => bindP (exprF g) (fun x => (fun a => needF sDo ((fun a => bindP bd (fun x => (fun a => needF sEnd ((fun a => retP (mk 64 (p1, p2) sNil 0 a)) a)) (a ++ [x]))) a)) (a ++ [x]))) L from hs0)
 clear h ht ok hb2 hB e1 e2 hk6 htx hs0
 go_enter Try.func42, Try.ntmps42
 go_wp2_with fail
 ((with_reducible refine N1.out.mono ?_); rintro e wx ⟨rfl, hb⟩)
 have H := qh (H.out.below hb)
 clear hb N1
 have EW := qh (reatwT_no HT.out (i := i) (by omega) sIf _ HOK.out (by decide) H.out.1 (isT_nt HTX.out (by decide)))
 go_wp2_with fail
 ((with_reducible refine EW.out.mono ?_); rintro e wx ⟨rfl, hb⟩)
 have H := qh (H.out.trans hb)
 clear hb EW
 have EW := qh (reatwT_no HT.out (i := i) (by omega) sCase _ HOK.out (by decide) H.out.1 (isT_nt HTX.out (by decide)))
 go_wp2_with fail
 ((with_reducible refine EW.out.mono ?_); rintro e wx ⟨rfl, hb⟩)
 have H := qh (H.out.trans hb)
 clear hb EW
 have EW := qh (reatwT_yes HT.out (i := i) (by omega) sWhile _ HOK.out (by decide) H.out.1 (isT_yt HK6.out HTX.out))
 go_wp2_with fail
 ((with_reducible refine EW.out.mono ?_); rintro e wx ⟨rfl, hb⟩)
 have H := qh (H.out.trans hb)
 clear hb EW
 have NW := qh (node7 (B := w.heap.size) (w := wx) H.out.2.size 64 64 rfl p1 p2)
 go_wp2_with fail
 ((with_reducible refine NW.out.mono ?_); rintro e wn ⟨b, rfl, hb, hk, hbl⟩)
 obtain ⟨K, hK⟩ : ∃ K : Except Nat (List T1 × Nat), K = .ok ([], i + 1) := ⟨_, rfl⟩
 have H := qh (show QG w0 w wn br A c L (posE K) (badE K) by rw [hK]; exact H.out.below hb)
 have HK := qh (show KU w.heap.size wn b ⟨64, (p1, p2), sNil, 0⟩ (.slice none 0 0) K [] by rw [hK]; exact KU.start hk)
 have HBD := qh (show Bd (lo + 1) 60000 K by rw [hK]; exact ⟨(fun _ => by show lo + 1 ≤ i + 1; omega), by show i + 1 ≤ 60000; omega⟩)
 replace HS := qh (show res = andK K (fun a => bindP (exprF g) (fun x => (fun a => needF sDo ((fun a => bindP bd (fun x => (fun a => needF sEnd ((fun a => retP (mk 64 (p1, p2) sNil 0 a)) a)) (a ++ [x]))) a)) (a ++ [x]))) L by rw [hK]; exact HS.out)
 have hxl : ([] : List Value).length ≤ 0 := Nat.le_refl _
 clear hb hk NW hK hbl
 have D1 := qh (show Calls _ _ _ _ (RefU wn.drew.heap.size w0 wn.drew br A c L (goK K (exprF g) L)) from UE.out.at_ (HBD.out.weak (by omega)) (Nat.le_refl _) wn.drew (H.out.below ((Below.refl _ _).drew)).1)
 have HD := qh (H.out.below ((Below.refl _ _).drew))
 have HKD := qh (HK.out.below ((Below.refl _ _).drew))
 obtain ⟨m4, m4f, hbl4⟩ := HK.out.kn.facts
 have hxl2 : ([] : List Value).length ≤ 1000000 := by omega
 obtain ⟨K1, hK1⟩ : ∃ K1, K1 = pushK K (goK K (exprF g) L) := ⟨_, rfl⟩
 have HK1 := qh hK1
 have HBD1 := qh (show Bd (lo + 1) 60000 K1 by rw [hK1]; exact HBD.out.push St.g2_expr (by omega))
 replace HS := qh (show res = andK K1 (fun a => needF sDo ((fun a => bindP bd (fun x => (fun a => needF sEnd ((fun a => retP (mk 64 (p1, p2) sNil 0 a)) a)) (a ++ [x]))) a)) L by rw [hK1]; exact HS.out.trans (and_push (Q := (fun a => needF sDo ((fun a => bindP bd (fun x => (fun a => needF sEnd ((fun a => retP (mk 64 (p1, p2) sNil 0 a)) a)) (a ++ [x]))) a)))))
 clear hK1
 go_upto_region 8 with fail
 go_cut [] from 41 to 53 (fun wc => Hid (QG w0 w wc br A c L (posE K1) (badE K1) ∧ ∃ svc xsc, KU w.heap.size wc b ⟨64, (p1, p2), sNil, 0⟩ svc K1 xsc ∧ xsc.length ≤ 1))
 case first =>
  go_region_law (first
   | (go_simp; go_at_call 63; (with_reducible refine D1.out.mono ?_); rintro e x5 ⟨p9, rfl, hp, hgr, hr⟩; have HKX := qh (HKD.out.grown hgr hbr0); have HY := qh (HKD.out.new hr); have HX := qh (HD.out.trans ⟨hp, hgr⟩); clear hp hgr hr; obtain ⟨t4, t4f, hbx⟩ := HKX.out.kn.facts; have Q := kid_facts (p := p9) x5.heap.size rfl (Nat.le_trans HKX.out.kn.low (Nat.le_of_lt hbx)) HKX.out.kn.own hxl2)
   | (refine step_append_lies _ (by rfl) _ _ _ (by rfl) w.heap.size 26 i0 _ 1 8 Try.underlying40 hi0 hz0 hz1 hz2 rfl (by omega) (.slice none 0 0) ([] : List Value).length ([] : List Value) (by rfl) Q.out.2.2.2.2 ⟨x5.heap.size, 0, none⟩ 1 1 [.pointer p9] (by rfl) (by rfl) Q.out.1 Q.out.2.1 (by omega) Q.out.2.2.1 (by omega) Q.out.2.2.2.1 (x5.heap.size + 1) (by simp) ?_; intro g' cap w5 hown1 hgrow hor hlt5; obtain ⟨s4, s4f, hb5⟩ := KN.after (HKX.out.kn.below ((Below.refl _ _).alloc (Nat.le_refl _) _)) hgrow; have K2 := qh (KU.step (HKX.out.below ((Below.refl _ _).alloc (Nat.le_refl _) _)) (fun x j e => (HY.out x j e).below ((Below.refl _ _).alloc (Nat.le_refl _) _)) hown1 hgrow (hor.imp id fun e => e.trans (World.size_alloc _ _).symm)); have H2 := qh (QG.pushed (QG.hung HX.out H0.out _ hgrow (fun k e => (HKX.out.kn.own.lt _ e).1) (u := .slice (some ⟨g', 0, none⟩) (([] : List Value).length + 1) cap) HKX.out.kn.low)); clear hown1 hgrow hor hlt5))
  all_goals
   go_wp2_with fail
   go_meet
   exact qh ⟨(by rw [HK1.out]; exact H2.out), _, _, (by rw [HK1.out]; exact K2.out), (by simp only [List.length_append, List.length_cons, List.length_nil] at hxl ⊢; omega)⟩
 case rest =>
  obtain ⟨hc1, svc, xsc, hc2, hxl⟩ := hcut.out
  clear HK H hxl2 HKD HD hcut D1 HK1 HBD m4 m4f hbl4 K
  have H := qh hc1
  have HK := qh hc2
  have HBD := HBD1
  clear hc1 hc2 HBD1
  rename Except Nat (List T1 × Nat) => K
  have ND := qh (uneedw HT.out HOK.out (K := K) (by have := HBD.out.hi; omega) sDo _ H.out.1 (by decide))
  go_wp2_with fail
  ((with_reducible refine ND.out.mono ?_); rintro e wx ⟨rfl, hb⟩)
  obtain ⟨K1, hK1⟩ : ∃ K1, K1 = needK K sDo L := ⟨_, rfl⟩
  replace H := qh (show QG w0 w wx br A c L (posE K1) (badE K1) by rw [hK1]; exact H.out.trans hb)
  replace HK := qh (show KU w.heap.size wx b _ _ K1 _ by rw [hK1]; exact (HK.out.grown hb.2 hbr0).to_ need_to)
  replace HBD := qh (show Bd (lo + 1) 60000 K1 by rw [hK1]; exact HBD.out.need (by omega))
  replace HS := qh (show res = andK K1 (fun a => bindP bd (fun x => (fun a => needF sEnd ((fun a => retP (mk 64 (p1, p2) sNil 0 a)) a)) (a ++ [x]))) L by rw [hK1]; exact HS.out.trans (and_need (Q := (fun a => bindP bd (fun x => (fun a => needF sEnd ((fun a => retP (mk 64 (p1, p2) sNil 0 a)) a)) (a ++ [x]))))))
  clear hb ND hK1
  clear K
  rename Except Nat (List T1 × Nat) => K
  have D1 := qh (show Calls _ _ _ _ (RefU wx.drew.heap.size w0 wx.drew br A c L (goK K bd L)) from UB.out.at_ (HBD.out.weak (by omega)) (Nat.le_refl _) wx.drew (H.out.below ((Below.refl _ _).drew)).1)
  have HD := qh (H.out.below ((Below.refl _ _).drew))
  have HKD := qh (HK.out.below ((Below.refl _ _).drew))
  obtain ⟨m4, m4f, hbl4⟩ := HK.out.kn.facts
  have hxl2 : xsc.length ≤ 1000000 := by omega
  obtain ⟨K1, hK1⟩ : ∃ K1, K1 = pushK K (goK K bd L) := ⟨_, rfl⟩
  have HK1 := qh hK1
  have HBD1 := qh (show Bd (lo + 1) 60000 K1 by rw [hK1]; exact HBD.out.push HG2.out (by omega))
  replace HS := qh (show res = andK K1 (fun a => needF sEnd ((fun a => retP (mk 64 (p1, p2) sNil 0 a)) a)) L by rw [hK1]; exact HS.out.trans (and_push (Q := (fun a => needF sEnd ((fun a => retP (mk 64 (p1, p2) sNil 0 a)) a)))))
  clear hK1
  go_upto_region 10 with fail
  go_cut [] from 58 to 68 (fun wc => Hid (QG w0 w wc br A c L (posE K1) (badE K1) ∧ ∃ svc xsc, KU w.heap.size wc b ⟨64, (p1, p2), sNil, 0⟩ svc K1 xsc ∧ xsc.length ≤ 2))
  case first =>
   go_region_law (first
    | (go_simp; go_at_call 18; (with_reducible refine D1.out.mono ?_); rintro e x5 ⟨p9, rfl, hp, hgr, hr⟩; have HKX := qh (HKD.out.grown hgr hbr0); have HY := qh (HKD.out.new hr); have HX := qh (HD.out.trans ⟨hp, hgr⟩); clear hp hgr hr; obtain ⟨t4, t4f, hbx⟩ := HKX.out.kn.facts; have Q := kid_facts (p := p9) x5.heap.size rfl (Nat.le_trans HKX.out.kn.low (Nat.le_of_lt hbx)) HKX.out.kn.own hxl2)
    | (refine step_append_lies _ (by rfl) _ _ _ (by rfl) w.heap.size 26 i0 _ 1 8 Try.underlying40 hi0 hz0 hz1 hz2 rfl (by omega) svc xsc.length xsc (by rfl) Q.out.2.2.2.2 ⟨x5.heap.size, 0, none⟩ 1 1 [.pointer p9] (by rfl) (by rfl) Q.out.1 Q.out.2.1 (by omega) Q.out.2.2.1 (by omega) Q.out.2.2.2.1 (x5.heap.size + 1) (by simp) ?_; intro g' cap w5 hown1 hgrow hor hlt5; obtain ⟨s4, s4f, hb5⟩ := KN.after (HKX.out.kn.below ((Below.refl _ _).alloc (Nat.le_refl _) _)) hgrow; have K2 := qh (KU.step (HKX.out.below ((Below.refl _ _).alloc (Nat.le_refl _) _)) (fun x j e => (HY.out x j e).below ((Below.refl _ _).alloc (Nat.le_refl _) _)) hown1 hgrow (hor.imp id fun e => e.trans (World.size_alloc _ _).symm)); have H2 := qh (QG.pushed (QG.hung HX.out H0.out _ hgrow (fun k e => (HKX.out.kn.own.lt _ e).1) (u := .slice (some ⟨g', 0, none⟩) (xsc.length + 1) cap) HKX.out.kn.low)); clear hown1 hgrow hor hlt5))
   all_goals
    go_wp2_with fail
    go_meet
    exact qh ⟨(by rw [HK1.out]; exact H2.out), _, _, (by rw [HK1.out]; exact K2.out), (by simp only [List.length_append, List.length_cons, List.length_nil] at hxl ⊢; omega)⟩
  case rest =>
   obtain ⟨hc1, svc, xsc, hc2, hxl⟩ := hcut.out
   clear HK H hxl2 HKD HD hcut D1 HK1 HBD m4 m4f hbl4 K
   have H := qh hc1
   have HK := qh hc2
   have HBD := HBD1
   clear hc1 hc2 HBD1
   rename Except Nat (List T1 × Nat) => K
   have ND := qh (uneedw HT.out HOK.out (K := K) (by have := HBD.out.hi; omega) sEnd _ H.out.1 (by decide))
   go_wp2_with fail
   ((with_reducible refine ND.out.mono ?_); rintro e wx ⟨rfl, hb⟩)
   obtain ⟨K1, hK1⟩ : ∃ K1, K1 = needK K sEnd L := ⟨_, rfl⟩
   replace H := qh (show QG w0 w wx br A c L (posE K1) (badE K1) by rw [hK1]; exact H.out.trans hb)
   replace HK := qh (show KU w.heap.size wx b _ _ K1 _ by rw [hK1]; exact (HK.out.grown hb.2 hbr0).to_ need_to)
   replace HBD := qh (show Bd (lo + 1) 60000 K1 by rw [hK1]; exact HBD.out.need (by omega))
   replace HS := qh (show res = andK K1 (fun a => retP (mk 64 (p1, p2) sNil 0 a)) L by rw [hK1]; exact HS.out.trans (and_need (Q := (fun a => retP (mk 64 (p1, p2) sNil 0 a)))))
   clear hb ND hK1
   clear K
   rename Except Nat (List T1 × Nat) => K
   go_wp2
   go_ret
   exact HK.out.done H.out HS.out
set_option maxRecDepth 100000 in set_option maxHeartbeats 6400000 in
theorem rst_repeat {g : Nat} {w0 : World} {br c : Nat} {A : Option Addr} {L : List PT} (ht : Toks w0 br A L) (ok : OKRow L) (hg : L.length < g) {bd : Par T1} (hb2 : St.Good2 bd) {lo : Nat} (hB : UnOK 18 bd (lo + 1) w0 br A c L) (i : Nat) (hlo : lo ≤ i) (hi : i ≤ 60000) (w : World) (h : QInv w0 w br A c L i false) (hk6 : (tk L i).1.kind = 6) (htx : (tk L i).1.text = sRepeat) :
 Calls Try.prog 42 #[.pointer (some ⟨br, 0, none⟩)] w (RefU w.heap.size w0 w br A c L (repS g bd (tk L i).2.1 L (i + 1))) := by
 have hbr0 := h.row.lt
 have hlen := ht.len
 have H0 := qh h
 have H := qh (QG.start h)
 have HT := qh ht
 have HOK := qh ok
 have HG2 := qh hb2
 have UE := qh ((un_of (c := c) (rexpr_all ht ok) (fun j => expr_fuel hg j) (bexpr ht)).mono (Nat.zero_le (lo + 1)))
 have UB := qh hB
 obtain ⟨i0, hi0, hz0, hz1, hz2⟩ := info_parts infoN
 have hil : i < L.length := by
  rcases Nat.lt_or_ge i L.length with h | h
  ·exact h
  ·rw [kind_end h] at hk6; cases hk6
 have HD0 := qh (fun (w : World) (h : QInv w0 w br A c L (i + 1) false) => (rdesign_all (c := c) ht ok (i + 1) (Nat.zero_le _) (by omega) w h).mono fun e w' h => (designE_fuel hg (i + 1)) ▸ refU h)
 have N1 := rnow_any ht (i := i) (by omega) w h
 obtain ⟨k, p1, p2, q1, q2, t, n, e1, e2⟩ := val_form (tk L i)
 rw [e2] at N1
 have N1 := qh N1
 have HK6 := qh hk6
 have HTX := qh htx
 rw [show (tk L i).2.1 = (p1, p2) by rw [e1]]
 obtain ⟨res, hs0⟩ : ∃ r, r = repS g bd (p1, p2) L (i + 1) := ⟨_, rfl⟩
 rw [← hs0]
 have HS := qh (show res = andK (.ok ([], i + 1)) (fun a => bindP bd (fun x => (fun a => needF sUntil ((fun a => bindP (exprF g) (fun x => (fun a => retP (mk 65 (p1, p2) sNil 0 a)) (a ++ [x]))) a)) (a ++ [x]))) L from hs0)
 clear h ht ok hb2 hB e1 e2 hk6 htx hs0
 go_enter Try.func42, Try.ntmps42
 go_wp2_with fail
 ((with_reducible refine N1.out.mono ?_); rintro e wx ⟨rfl, hb⟩)
 have H := qh (H.out.below hb)
 clear hb N1
 have EW := qh (reatwT_no HT.out (i := i) (by omega) sIf _ HOK.out (by decide) H.out.1 (isT_nt HTX.out (by decide)))
 go_wp2_with fail
 ((with_reducible refine EW.out.mono ?_); rintro e wx ⟨rfl, hb⟩)
 have H := qh (H.out.trans hb)
 clear hb EW
 have EW := qh (reatwT_no HT.out (i := i) (by omega) sCase _ HOK.out (by decide) H.out.1 (isT_nt HTX.out (by decide)))
 go_wp2_with fail
 ((with_reducible refine EW.out.mono ?_); rintro e wx ⟨rfl, hb⟩)
 have H := qh (H.out.trans hb)
 clear hb EW
 have EW := qh (reatwT_no HT.out (i := i) (by omega) sWhile _ HOK.out (by decide) H.out.1 (isT_nt HTX.out (by decide)))
 go_wp2_with fail
 ((with_reducible refine EW.out.mono ?_); rintro e wx ⟨rfl, hb⟩)
 have H := qh (H.out.trans hb)
 clear hb EW
 have EW := qh (reatwT_yes HT.out (i := i) (by omega) sRepeat _ HOK.out (by decide) H.out.1 (isT_yt HK6.out HTX.out))
 go_wp2_with fail
 ((with_reducible refine EW.out.mono ?_); rintro e wx ⟨rfl, hb⟩)
 have H := qh (H.out.trans hb)
 clear hb EW
 have NW := qh (node7 (B := w.heap.size) (w := wx) H.out.2.size 65 65 rfl p1 p2)
 go_wp2_with fail
 ((with_reducible refine NW.out.mono ?_); rintro e wn ⟨b, rfl, hb, hk, hbl⟩)
 obtain ⟨K, hK⟩ : ∃ K : Except Nat (List T1 × Nat), K = .ok ([], i + 1) := ⟨_, rfl⟩
 have H := qh (show QG w0 w wn br A c L (posE K) (badE K) by rw [hK]; exact H.out.below hb)
 have HK := qh (show KU w.heap.size wn b ⟨65, (p1, p2), sNil, 0⟩ (.slice none 0 0) K [] by rw [hK]; exact KU.start hk)
 have HBD := qh (show Bd (lo + 1) 60000 K by rw [hK]; exact ⟨(fun _ => by show lo + 1 ≤ i + 1; omega), by show i + 1 ≤ 60000; omega⟩)
 replace HS := qh (show res = andK K (fun a => bindP bd (fun x => (fun a => needF sUntil ((fun a => bindP (exprF g) (fun x => (fun a => retP (mk 65 (p1, p2) sNil 0 a)) (a ++ [x]))) a)) (a ++ [x]))) L by rw [hK]; exact HS.out)
 have hxl : ([] : List Value).length ≤ 0 := Nat.le_refl _
 clear hb hk NW hK hbl
 have D1 := qh (show Calls _ _ _ _ (RefU wn.drew.heap.size w0 wn.drew br A c L (goK K bd L)) from UB.out.at_ (HBD.out.weak (by omega)) (Nat.le_refl _) wn.drew (H.out.below ((Below.refl _ _).drew)).1)
 have HD := qh (H.out.below ((Below.refl _ _).drew))
 have HKD := qh (HK.out.below ((Below.refl _ _).drew))
 obtain ⟨m4, m4f, hbl4⟩ := HK.out.kn.facts
 have hxl2 : ([] : List Value).length ≤ 1000000 := by omega
 obtain ⟨K1, hK1⟩ : ∃ K1, K1 = pushK K (goK K bd L) := ⟨_, rfl⟩
 have HK1 := qh hK1
 have HBD1 := qh (show Bd (lo + 1) 60000 K1 by rw [hK1]; exact HBD.out.push HG2.out (by omega))
 replace HS := qh (show res = andK K1 (fun a => needF sUntil ((fun a => bindP (exprF g) (fun x => (fun a => retP (mk 65 (p1, p2) sNil 0 a)) (a ++ [x]))) a)) L by rw [hK1]; exact HS.out.trans (and_push (Q := (fun a => needF sUntil ((fun a => bindP (exprF g) (fun x => (fun a => retP (mk 65 (p1, p2) sNil 0 a)) (a ++ [x]))) a)))))
 clear hK1
 go_upto_region 15 with fail
 go_cut [] from 81 to 91 (fun wc => Hid (QG w0 w wc br A c L (posE K1) (badE K1) ∧ ∃ svc xsc, KU w.heap.size wc b ⟨65, (p1, p2), sNil, 0⟩ svc K1 xsc ∧ xsc.length ≤ 1))
 case first =>
  go_region_law (first
   | (go_simp; go_at_call 18; (with_reducible refine D1.out.mono ?_); rintro e x5 ⟨p9, rfl, hp, hgr, hr⟩; have HKX := qh (HKD.out.grown hgr hbr0); have HY := qh (HKD.out.new hr); have HX := qh (HD.out.trans ⟨hp, hgr⟩); clear hp hgr hr; obtain ⟨t4, t4f, hbx⟩ := HKX.out.kn.facts; have Q := kid_facts (p := p9) x5.heap.size rfl (Nat.le_trans HKX.out.kn.low (Nat.le_of_lt hbx)) HKX.out.kn.own hxl2)
   | (refine step_append_lies _ (by rfl) _ _ _ (by rfl) w.heap.size 26 i0 _ 1 8 Try.underlying40 hi0 hz0 hz1 hz2 rfl (by omega) (.slice none 0 0) ([] : List Value).length ([] : List Value) (by rfl) Q.out.2.2.2.2 ⟨x5.heap.size, 0, none⟩ 1 1 [.pointer p9] (by rfl) (by rfl) Q.out.1 Q.out.2.1 (by omega) Q.out.2.2.1 (by omega) Q.out.2.2.2.1 (x5.heap.size + 1) (by simp) ?_; intro g' cap w5 hown1 hgrow hor hlt5; obtain ⟨s4, s4f, hb5⟩ := KN.after (HKX.out.kn.below ((Below.refl _ _).alloc (Nat.le_refl _) _)) hgrow; have K2 := qh (KU.step (HKX.out.below ((Below.refl _ _).alloc (Nat.le_refl _) _)) (fun x j e => (HY.out x j e).below ((Below.refl _ _).alloc (Nat.le_refl _) _)) hown1 hgrow (hor.imp id fun e => e.trans (World.size_alloc _ _).symm)); have H2 := qh (QG.pushed (QG.hung HX.out H0.out _ hgrow (fun k e => (HKX.out.kn.own.lt _ e).1) (u := .slice (some ⟨g', 0, none⟩) (([] : List Value).length + 1) cap) HKX.out.kn.low)); clear hown1 hgrow hor hlt5))
  all_goals
   go_wp2_with fail
   go_meet
   exact qh ⟨(by rw [HK1.out]; exact H2.out), _, _, (by rw [HK1.out]; exact K2.out), (by simp only [List.length_append, List.length_cons, List.length_nil] at hxl ⊢; omega)⟩
 case rest =>
  obtain ⟨hc1, svc, xsc, hc2, hxl⟩ := hcut.out
  clear HK H hxl2 HKD HD hcut D1 HK1 HBD m4 m4f hbl4 K
  have H := qh hc1
  have HK := qh hc2
  have HBD := HBD1
  clear hc1 hc2 HBD1
  rename Except Nat (List T1 × Nat) => K
  have ND := qh (uneedw HT.out HOK.out (K := K) (by have := HBD.out.hi; omega) sUntil _ H.out.1 (by decide))
  go_wp2_with fail
  ((with_reducible refine ND.out.mono ?_); rintro e wx ⟨rfl, hb⟩)
  obtain ⟨K1, hK1⟩ : ∃ K1, K1 = needK K sUntil L := ⟨_, rfl⟩
  replace H := qh (show QG w0 w wx br A c L (posE K1) (badE K1) by rw [hK1]; exact H.out.trans hb)
  replace HK := qh (show KU w.heap.size wx b _ _ K1 _ by rw [hK1]; exact (HK.out.grown hb.2 hbr0).to_ need_to)
  replace HBD := qh (show Bd (lo + 1) 60000 K1 by rw [hK1]; exact HBD.out.need (by omega))
  replace HS := qh (show res = andK K1 (fun a => bindP (exprF g) (fun x => (fun a => retP (mk 65 (p1, p2) sNil 0 a)) (a ++ [x]))) L by rw [hK1]; exact HS.out.trans (and_need (Q := (fun a => bindP (exprF g) (fun x => (fun a => retP (mk 65 (p1, p2) sNil 0 a)) (a ++ [x]))))))
  clear hb ND hK1
  clear K
  rename Except Nat (List T1 × Nat) => K
  have D1 := qh (show Calls _ _ _ _ (RefU wx.drew.heap.size w0 wx.drew br A c L (goK K (exprF g) L)) from UE.out.at_ (HBD.out.weak (by omega)) (Nat.le_refl _) wx.drew (H.out.below ((Below.refl _ _).drew)).1)
  have HD := qh (H.out.below ((Below.refl _ _).drew))
  have HKD := qh (HK.out.below ((Below.refl _ _).drew))
  obtain ⟨m4, m4f, hbl4⟩ := HK.out.kn.facts
  have hxl2 : xsc.length ≤ 1000000 := by omega
  obtain ⟨K1, hK1⟩ : ∃ K1, K1 = pushK K (goK K (exprF g) L) := ⟨_, rfl⟩
  have HK1 := qh hK1
  have HBD1 := qh (show Bd (lo + 1) 60000 K1 by rw [hK1]; exact HBD.out.push St.g2_expr (by omega))
  replace HS := qh (show res = andK K1 (fun a => retP (mk 65 (p1, p2) sNil 0 a)) L by rw [hK1]; exact HS.out.trans (and_push (Q := (fun a => retP (mk 65 (p1, p2) sNil 0 a)))))
  clear hK1
  go_upto_region 17 with fail
  go_cut [] from 96 to 108 (fun wc => Hid (QG w0 w wc br A c L (posE K1) (badE K1) ∧ ∃ svc xsc, KU w.heap.size wc b ⟨65, (p1, p2), sNil, 0⟩ svc K1 xsc ∧ xsc.length ≤ 2))
  case first =>
   go_region_law (first
    | (go_simp; go_at_call 63; (with_reducible refine D1.out.mono ?_); rintro e x5 ⟨p9, rfl, hp, hgr, hr⟩; have HKX := qh (HKD.out.grown hgr hbr0); have HY := qh (HKD.out.new hr); have HX := qh (HD.out.trans ⟨hp, hgr⟩); clear hp hgr hr; obtain ⟨t4, t4f, hbx⟩ := HKX.out.kn.facts; have Q := kid_facts (p := p9) x5.heap.size rfl (Nat.le_trans HKX.out.kn.low (Nat.le_of_lt hbx)) HKX.out.kn.own hxl2)
    | (refine step_append_lies _ (by rfl) _ _ _ (by rfl) w.heap.size 26 i0 _ 1 8 Try.underlying40 hi0 hz0 hz1 hz2 rfl (by omega) svc xsc.length xsc (by rfl) Q.out.2.2.2.2 ⟨x5.heap.size, 0, none⟩ 1 1 [.pointer p9] (by rfl) (by rfl) Q.out.1 Q.out.2.1 (by omega) Q.out.2.2.1 (by omega) Q.out.2.2.2.1 (x5.heap.size + 1) (by simp) ?_; intro g' cap w5 hown1 hgrow hor hlt5; obtain ⟨s4, s4f, hb5⟩ := KN.after (HKX.out.kn.below ((Below.refl _ _).alloc (Nat.le_refl _) _)) hgrow; have K2 := qh (KU.step (HKX.out.below ((Below.refl _ _).alloc (Nat.le_refl _) _)) (fun x j e => (HY.out x j e).below ((Below.refl _ _).alloc (Nat.le_refl _) _)) hown1 hgrow (hor.imp id fun e => e.trans (World.size_alloc _ _).symm)); have H2 := qh (QG.pushed (QG.hung HX.out H0.out _ hgrow (fun k e => (HKX.out.kn.own.lt _ e).1) (u := .slice (some ⟨g', 0, none⟩) (xsc.length + 1) cap) HKX.out.kn.low)); clear hown1 hgrow hor hlt5))
   all_goals
    go_wp2_with fail
    go_meet
    exact qh ⟨(by rw [HK1.out]; exact H2.out), _, _, (by rw [HK1.out]; exact K2.out), (by simp only [List.length_append, List.length_cons, List.length_nil] at hxl ⊢; omega)⟩
  case rest =>
   obtain ⟨hc1, svc, xsc, hc2, hxl⟩ := hcut.out
   clear HK H hxl2 HKD HD hcut D1 HK1 HBD m4 m4f hbl4 K
   have H := qh hc1
   have HK := qh hc2
   have HBD := HBD1
   clear hc1 hc2 HBD1
   rename Except Nat (List T1 × Nat) => K
   go_wp2
   go_ret
   exact HK.out.done H.out HS.out
set_option maxRecDepth 100000 in set_option maxHeartbeats 6400000 in
theorem rst_loop {g : Nat} {w0 : World} {br c : Nat} {A : Option Addr} {L : List PT} (ht : Toks w0 br A L) (ok : OKRow L) (hg : L.length < g) {bd : Par T1} (hb2 : St.Good2 bd) {lo : Nat} (hB : UnOK 18 bd (lo + 1) w0 br A c L) (i : Nat) (hlo : lo ≤ i) (hi : i ≤ 60000) (w : World) (h : QInv w0 w br A c L i false) (hk6 : (tk L i).1.kind = 6) (htx : (tk L i).1.text = sLoop) :
 Calls Try.prog 42 #[.pointer (some ⟨br, 0, none⟩)] w (RefU w.heap.size w0 w br A c L (loopS bd (tk L i).2.1 L (i + 1))) := by
 have hbr0 := h.row.lt
 have hlen := ht.len
 have H0 := qh h
 have H := qh (QG.start h)
 have HT := qh ht
 have HOK := qh ok
 have HG2 := qh hb2
 have UE := qh ((un_of (c := c) (rexpr_all ht ok) (fun j => expr_fuel hg j) (bexpr ht)).mono (Nat.zero_le (lo + 1)))
 have UB := qh hB
 obtain ⟨i0, hi0, hz0, hz1, hz2⟩ := info_parts infoN
 have hil : i < L.length := by
  rcases Nat.lt_or_ge i L.length with h | h
  ·exact h
  ·rw [kind_end h] at hk6; cases hk6
 have HD0 := qh (fun (w : World) (h : QInv w0 w br A c L (i + 1) false) => (rdesign_all (c := c) ht ok (i + 1) (Nat.zero_le _) (by omega) w h).mono fun e w' h => (designE_fuel hg (i + 1)) ▸ refU h)
 have N1 := rnow_any ht (i := i) (by omega) w h
 obtain ⟨k, p1, p2, q1, q2, t, n, e1, e2⟩ := val_form (tk L i)
 rw [e2] at N1
 have N1 := qh N1
 have HK6 := qh hk6
 have HTX := qh htx
 rw [show (tk L i).2.1 = (p1, p2) by rw [e1]]
 obtain ⟨res, hs0⟩ : ∃ r, r = loopS bd (p1, p2) L (i + 1) := ⟨_, rfl⟩
 rw [← hs0]
 have HS := qh (show res = andK (.ok ([], i + 1)) (fun a => bindP bd (fun x => (fun a => needF sEnd ((fun a => retP (mk 66 (p1, p2) sNil 0 a)) a)) (a ++ [x]))) L from hs0)
 clear h ht ok hb2 hB e1 e2 hk6 htx hs0
 go_enter Try.func42, Try.ntmps42
 go_wp2_with fail
 ((with_reducible refine N1.out.mono ?_); rintro e wx ⟨rfl, hb⟩)
 have H := qh (H.out.below hb)
 clear hb N1
 have EW := qh (reatwT_no HT.out (i := i) (by omega) sIf _ HOK.out (by decide) H.out.1 (isT_nt HTX.out (by decide)))
 go_wp2_with fail
 ((with_reducible refine EW.out.mono ?_); rintro e wx ⟨rfl, hb⟩)
 have H := qh (H.out.trans hb)
 clear hb EW
 have EW := qh (reatwT_no HT.out (i := i) (by omega) sCase _ HOK.out (by decide) H.out.1 (isT_nt HTX.out (by decide)))
 go_wp2_with fail
 ((with_reducible refine EW.out.mono ?_); rintro e wx ⟨rfl, hb⟩)
 have H := qh (H.out.trans hb)
 clear hb EW
 have EW := qh (reatwT_no HT.out (i := i) (by omega) sWhile _ HOK.out (by decide) H.out.1 (isT_nt HTX.out (by decide)))
 go_wp2_with fail
 ((with_reducible refine EW.out.mono ?_); rintro e wx ⟨rfl, hb⟩)
 have H := qh (H.out.trans hb)
 clear hb EW
 have EW := qh (reatwT_no HT.out (i := i) (by omega) sRepeat _ HOK.out (by decide) H.out.1 (isT_nt HTX.out (by decide)))
 go_wp2_with fail
 ((with_reducible refine EW.out.mono ?_); rintro e wx ⟨rfl, hb⟩)
 have H := qh (H.out.trans hb)
 clear hb EW
 have EW := qh (reatwT_yes HT.out (i := i) (by omega) sLoop _ HOK.out (by decide) H.out.1 (isT_yt HK6.out HTX.out))
 go_wp2_with fail
 ((with_reducible refine EW.out.mono ?_); rintro e wx ⟨rfl, hb⟩)
 have H := qh (H.out.trans hb)
 clear hb EW
 have NW := qh (node7 (B := w.heap.size) (w := wx) H.out.2.size 66 66 rfl p1 p2)
 go_wp2_with fail
 ((with_reducible refine NW.out.mono ?_); rintro e wn ⟨b, rfl, hb, hk, hbl⟩)
 obtain ⟨K, hK⟩ : ∃ K : Except Nat (List T1 × Nat), K = .ok ([], i + 1) := ⟨_, rfl⟩
 have H := qh (show QG w0 w wn br A c L (posE K) (badE K) by rw [hK]; exact H.out.below hb)
 have HK := qh (show KU w.heap.size wn b ⟨66, (p1, p2), sNil, 0⟩ (.slice none 0 0) K [] by rw [hK]; exact KU.start hk)
 have HBD := qh (show Bd (lo + 1) 60000 K by rw [hK]; exact ⟨(fun _ => by show lo + 1 ≤ i + 1; omega), by show i + 1 ≤ 60000; omega⟩)
 replace HS := qh (show res = andK K (fun a => bindP bd (fun x => (fun a => needF sEnd ((fun a => retP (mk 66 (p1, p2) sNil 0 a)) a)) (a ++ [x]))) L by rw [hK]; exact HS.out)
 have hxl : ([] : List Value).length ≤ 0 := Nat.le_refl _
 clear hb hk NW hK hbl
 have D1 := qh (show Calls _ _ _ _ (RefU wn.drew.heap.size w0 wn.drew br A c L (goK K bd L)) from UB.out.at_ (HBD.out.weak (by omega)) (Nat.le_refl _) wn.drew (H.out.below ((Below.refl _ _).drew)).1)
 have HD := qh (H.out.below ((Below.refl _ _).drew))
 have HKD := qh (HK.out.below ((Below.refl _ _).drew))
 obtain ⟨m4, m4f, hbl4⟩ := HK.out.kn.facts
 have hxl2 : ([] : List Value).length ≤ 1000000 := by omega
 obtain ⟨K1, hK1⟩ : ∃ K1, K1 = pushK K (goK K bd L) := ⟨_, rfl⟩
 have HK1 := qh hK1
 have HBD1 := qh (show Bd (lo + 1) 60000 K1 by rw [hK1]; exact HBD.out.push HG2.out (by omega))
 replace HS := qh (show res = andK K1 (fun a => needF sEnd ((fun a => retP (mk 66 (p1, p2) sNil 0 a)) a)) L by rw [hK1]; exact HS.out.trans (and_push (Q := (fun a => needF sEnd ((fun a => retP (mk 66 (p1, p2) sNil 0 a)) a)))))
 clear hK1
 go_upto_region 21 with fail
 go_cut [] from 117 to 127 (fun wc => Hid (QG w0 w wc br A c L (posE K1) (badE K1) ∧ ∃ svc xsc, KU w.heap.size wc b ⟨66, (p1, p2), sNil, 0⟩ svc K1 xsc ∧ xsc.length ≤ 1))
 case first =>
  go_region_law (first
   | (go_simp; go_at_call 18; (with_reducible refine D1.out.mono ?_); rintro e x5 ⟨p9, rfl, hp, hgr, hr⟩; have HKX := qh (HKD.out.grown hgr hbr0); have HY := qh (HKD.out.new hr); have HX := qh (HD.out.trans ⟨hp, hgr⟩); clear hp hgr hr; obtain ⟨t4, t4f, hbx⟩ := HKX.out.kn.facts; have Q := kid_facts (p := p9) x5.heap.size rfl (Nat.le_trans HKX.out.kn.low (Nat.le_of_lt hbx)) HKX.out.kn.own hxl2)
   | (refine step_append_lies _ (by rfl) _ _ _ (by rfl) w.heap.size 26 i0 _ 1 8 Try.underlying40 hi0 hz0 hz1 hz2 rfl (by omega) (.slice none 0 0) ([] : List Value).length ([] : List Value) (by rfl) Q.out.2.2.2.2 ⟨x5.heap.size, 0, none⟩ 1 1 [.pointer p9] (by rfl) (by rfl) Q.out.1 Q.out.2.1 (by omega) Q.out.2.2.1 (by omega) Q.out.2.2.2.1 (x5.heap.size + 1) (by simp) ?_; intro g' cap w5 hown1 hgrow hor hlt5; obtain ⟨s4, s4f, hb5⟩ := KN.after (HKX.out.kn.below ((Below.refl _ _).alloc (Nat.le_refl _) _)) hgrow; have K2 := qh (KU.step (HKX.out.below ((Below.refl _ _).alloc (Nat.le_refl _) _)) (fun x j e => (HY.out x j e).below ((Below.refl _ _).alloc (Nat.le_refl _) _)) hown1 hgrow (hor.imp id fun e => e.trans (World.size_alloc _ _).symm)); have H2 := qh (QG.pushed (QG.hung HX.out H0.out _ hgrow (fun k e => (HKX.out.kn.own.lt _ e).1) (u := .slice (some ⟨g', 0, none⟩) (([] : List Value).length + 1) cap) HKX.out.kn.low)); clear hown1 hgrow hor hlt5))
  all_goals
   go_wp2_with fail
   go_meet
   exact qh ⟨(by rw [HK1.out]; exact H2.out), _, _, (by rw [HK1.out]; exact K2.out), (by simp only [List.length_append, List.length_cons, List.length_nil] at hxl ⊢; omega)⟩
 case rest =>
  obtain ⟨hc1, svc, xsc, hc2, hxl⟩ := hcut.out
  clear HK H hxl2 HKD HD hcut D1 HK1 HBD m4 m4f hbl4 K
  have H := qh hc1
  have HK := qh hc2
  have HBD := HBD1
  clear hc1 hc2 HBD1
  rename Except Nat (List T1 × Nat) => K
  have ND := qh (uneedw HT.out HOK.out (K := K) (by have := HBD.out.hi; omega) sEnd _ H.out.1 (by decide))
  go_wp2_with fail
  ((with_reducible refine ND.out.mono ?_); rintro e wx ⟨rfl, hb⟩)
  obtain ⟨K1, hK1⟩ : ∃ K1, K1 = needK K sEnd L := ⟨_, rfl⟩
  replace H := qh (show QG w0 w wx br A c L (posE K1) (badE K1) by rw [hK1]; exact H.out.trans hb)
  replace HK := qh (show KU w.heap.size wx b _ _ K1 _ by rw [hK1]; exact (HK.out.grown hb.2 hbr0).to_ need_to)
  replace HBD := qh (show Bd (lo + 1) 60000 K1 by rw [hK1]; exact HBD.out.need (by omega))
  replace HS := qh (show res = andK K1 (fun a => retP (mk 66 (p1, p2) sNil 0 a)) L by rw [hK1]; exact HS.out.trans (and_need (Q := (fun a => retP (mk 66 (p1, p2) sNil 0 a)))))
  clear hb ND hK1
  clear K
  rename Except Nat (List T1 × Nat) => K
  go_wp2
  go_ret
  exact HK.out.done H.out HS.out
set_option maxRecDepth 100000 in set_option maxHeartbeats 6400000 in
theorem rst_exit {g : Nat} {w0 : World} {br c : Nat} {A : Option Addr} {L : List PT} (ht : Toks w0 br A L) (ok : OKRow L) (hg : L.length < g) {bd : Par T1} (hb2 : St.Good2 bd) {lo : Nat} (hB : UnOK 18 bd (lo + 1) w0 br A c L) (i : Nat) (hlo : lo ≤ i) (hi : i ≤ 60000) (w : World) (h : QInv w0 w br A c L i false) (hk6 : (tk L i).1.kind = 6) (htx : (tk L i).1.text = sExit) :
 Calls Try.prog 42 #[.pointer (some ⟨br, 0, none⟩)] w (RefU w.heap.size w0 w br A c L (exitS (tk L i).2.1 L (i + 1))) := by
 have hbr0 := h.row.lt
 have hlen := ht.len
 have H0 := qh h
 have H := qh (QG.start h)
 have HT := qh ht
 have HOK := qh ok
 have HG2 := qh hb2
 have UE := qh ((un_of (c := c) (rexpr_all ht ok) (fun j => expr_fuel hg j) (bexpr ht)).mono (Nat.zero_le (lo + 1)))
 have UB := qh hB
 obtain ⟨i0, hi0, hz0, hz1, hz2⟩ := info_parts infoN
 have hil : i < L.length := by
  rcases Nat.lt_or_ge i L.length with h | h
  ·exact h
  ·rw [kind_end h] at hk6; cases hk6
 have HD0 := qh (fun (w : World) (h : QInv w0 w br A c L (i + 1) false) => (rdesign_all (c := c) ht ok (i + 1) (Nat.zero_le _) (by omega) w h).mono fun e w' h => (designE_fuel hg (i + 1)) ▸ refU h)
 have N1 := rnow_any ht (i := i) (by omega) w h
 obtain ⟨k, p1, p2, q1, q2, t, n, e1, e2⟩ := val_form (tk L i)
 rw [e2] at N1
 have N1 := qh N1
 have HK6 := qh hk6
 have HTX := qh htx
 rw [show (tk L i).2.1 = (p1, p2) by rw [e1]]
 obtain ⟨res, hs0⟩ : ∃ r, r = exitS (p1, p2) L (i + 1) := ⟨_, rfl⟩
 rw [← hs0]
 have HS := qh (show res = andK (.ok ([], i + 1)) (fun a => retP (mk 67 (p1, p2) sNil 0 a)) L from hs0)
 clear h ht ok hb2 hB e1 e2 hk6 htx hs0
 go_enter Try.func42, Try.ntmps42
 go_wp2_with fail
 ((with_reducible refine N1.out.mono ?_); rintro e wx ⟨rfl, hb⟩)
 have H := qh (H.out.below hb)
 clear hb N1
 have EW := qh (reatwT_no HT.out (i := i) (by omega) sIf _ HOK.out (by decide) H.out.1 (isT_nt HTX.out (by decide)))
 go_wp2_with fail
 ((with_reducible refine EW.out.mono ?_); rintro e wx ⟨rfl, hb⟩)
 have H := qh (H.out.trans hb)
 clear hb EW
 have EW := qh (reatwT_no HT.out (i := i) (by omega) sCase _ HOK.out (by decide) H.out.1 (isT_nt HTX.out (by decide)))
 go_wp2_with fail
 ((with_reducible refine EW.out.mono ?_); rintro e wx ⟨rfl, hb⟩)
 have H := qh (H.out.trans hb)
 clear hb EW
 have EW := qh (reatwT_no HT.out (i := i) (by omega) sWhile _ HOK.out (by decide) H.out.1 (isT_nt HTX.out (by decide)))
 go_wp2_with fail
 ((with_reducible refine EW.out.mono ?_); rintro e wx ⟨rfl, hb⟩)
 have H := qh (H.out.trans hb)
 clear hb EW
 have EW := qh (reatwT_no HT.out (i := i) (by omega) sRepeat _ HOK.out (by decide) H.out.1 (isT_nt HTX.out (by decide)))
 go_wp2_with fail
 ((with_reducible refine EW.out.mono ?_); rintro e wx ⟨rfl, hb⟩)
 have H := qh (H.out.trans hb)
 clear hb EW
 have EW := qh (reatwT_no HT.out (i := i) (by omega) sLoop _ HOK.out (by decide) H.out.1 (isT_nt HTX.out (by decide)))
 go_wp2_with fail
 ((with_reducible refine EW.out.mono ?_); rintro e wx ⟨rfl, hb⟩)
 have H := qh (H.out.trans hb)
 clear hb EW
 have EW := qh (reatwT_yes HT.out (i := i) (by omega) sExit _ HOK.out (by decide) H.out.1 (isT_yt HK6.out HTX.out))
 go_wp2_with fail
 ((with_reducible refine EW.out.mono ?_); rintro e wx ⟨rfl, hb⟩)
 have H := qh (H.out.trans hb)
 clear hb EW
 have NW := qh (node7 (B := w.heap.size) (w := wx) H.out.2.size 67 67 rfl p1 p2)
 go_wp2_with fail
 ((with_reducible refine NW.out.mono ?_); rintro e wn ⟨b, rfl, hb, hk, hbl⟩)
 obtain ⟨K, hK⟩ : ∃ K : Except Nat (List T1 × Nat), K = .ok ([], i + 1) := ⟨_, rfl⟩
 have H := qh (show QG w0 w wn br A c L (posE K) (badE K) by rw [hK]; exact H.out.below hb)
 have HK := qh (show KU w.heap.size wn b ⟨67, (p1, p2), sNil, 0⟩ (.slice none 0 0) K [] by rw [hK]; exact KU.start hk)
 have HBD := qh (show Bd (lo + 1) 60000 K by rw [hK]; exact ⟨(fun _ => by show lo + 1 ≤ i + 1; omega), by show i + 1 ≤ 60000; omega⟩)
 replace HS := qh (show res = andK K (fun a => retP (mk 67 (p1, p2) sNil 0 a)) L by rw [hK]; exact HS.out)
 have hxl : ([] : List Value).length ≤ 0 := Nat.le_refl _
 clear hb hk NW hK hbl
 go_wp2
 go_ret
 exact HK.out.done H.out HS.out
set_option maxRecDepth 100000 in set_option maxHeartbeats 6400000 in
theorem rst_with {g : Nat} {w0 : World} {br c : Nat} {A : Option Addr} {L : List PT} (ht : Toks w0 br A L) (ok : OKRow L) (hg : L.length < g) {bd : Par T1} (hb2 : St.Good2 bd) {lo : Nat} (hB : UnOK 18 bd (lo + 1) w0 br A c L) (i : Nat) (hlo : lo ≤ i) (hi : i ≤ 60000) (w : World) (h : QInv w0 w br A c L i false) (hk6 : (tk L i).1.kind = 6) (htx : (tk L i).1.text = sWith) :
 Calls Try.prog 42 #[.pointer (some ⟨br, 0, none⟩)] w (RefU w.heap.size w0 w br A c L (withS g bd (tk L i).2.1 L (i + 1))) := by
 have hbr0 := h.row.lt
 have hlen := ht.len
 have H0 := qh h
 have H := qh (QG.start h)
 have HT := qh ht
 have HOK := qh ok
 have HG2 := qh hb2
 have UE := qh ((un_of (c := c) (rexpr_all ht ok) (fun j => expr_fuel hg j) (bexpr ht)).mono (Nat.zero_le (lo + 1)))
 have UB := qh hB
 obtain ⟨i0, hi0, hz0, hz1, hz2⟩ := info_parts infoN
 have hil : i < L.length := by
  rcases Nat.lt_or_ge i L.length with h | h
  ·exact h
  ·rw [kind_end h] at hk6; cases hk6
 have HD0 := qh (fun (w : World) (h : QInv w0 w br A c L (i + 1) false) => (rdesign_all (c := c) ht ok (i + 1) (Nat.zero_le _) (by omega) w h).mono fun e w' h => (designE_fuel hg (i + 1)) ▸ refU h)
 have N1 := rnow_any ht (i := i) (by omega) w h
 obtain ⟨k, p1, p2, q1, q2, t, n, e1, e2⟩ := val_form (tk L i)
 rw [e2] at N1
 have N1 := qh N1
 have HK6 := qh hk6
 have HTX := qh htx
 rw [show (tk L i).2.1 = (p1, p2) by rw [e1]]
 obtain ⟨res, hs0⟩ : ∃ r, r = withS g bd (p1, p2) L (i + 1) := ⟨_, rfl⟩
 rw [← hs0]
 have HS := qh (show res = andK (.ok ([], i + 1)) (fun a => bindP (designF (exprF g) g) (fun x => (fun a => needF sDo ((fun a => bindP bd (fun x => (fun a => needF sEnd ((fun a => retP (mk 69 (p1, p2) sNil 0 a)) a)) (a ++ [x]))) a)) (a ++ [x]))) L from hs0)
 clear h ht ok hb2 hB e1 e2 hk6 htx hs0
 go_enter Try.func42, Try.ntmps42
 go_wp2_with fail
 ((with_reducible refine N1.out.mono ?_); rintro e wx ⟨rfl, hb⟩)
 have H := qh (H.out.below hb)
 clear hb N1
 have EW := qh (reatwT_no HT.out (i := i) (by omega) sIf _ HOK.out (by decide) H.out.1 (isT_nt HTX.out (by decide)))
 go_wp2_with fail
 ((with_reducible refine EW.out.mono ?_); rintro e wx ⟨rfl, hb⟩)
 have H := qh (H.out.trans hb)
 clear hb EW
 have EW := qh (reatwT_no HT.out (i := i) (by omega) sCase _ HOK.out (by decide) H.out.1 (isT_nt HTX.out (by decide)))
 go_wp2_with fail
 ((with_reducible refine EW.out.mono ?_); rintro e wx ⟨rfl, hb⟩)
 have H := qh (H.out.trans hb)
 clear hb EW
 have EW := qh (reatwT_no HT.out (i := i) (by omega) sWhile _ HOK.out (by decide) H.out.1 (isT_nt HTX.out (by decide)))
 go_wp2_with fail
 ((with_reducible refine EW.out.mono ?_); rintro e wx ⟨rfl, hb⟩)
 have H := qh (H.out.trans hb)
 clear hb EW
 have EW := qh (reatwT_no HT.out (i := i) (by omega) sRepeat _ HOK.out (by decide) H.out.1 (isT_nt HTX.out (by decide)))
 go_wp2_with fail
 ((with_reducible refine EW.out.mono ?_); rintro e wx ⟨rfl, hb⟩)
 have H := qh (H.out.trans hb)
 clear hb EW
 have EW := qh (reatwT_no HT.out (i := i) (by omega) sLoop _ HOK.out (by decide) H.out.1 (isT_nt HTX.out (by decide)))
 go_wp2_with fail
 ((with_reducible refine EW.out.mono ?_); rintro e wx ⟨rfl, hb⟩)
 have H := qh (H.out.trans hb)
 clear hb EW
 have EW := qh (reatwT_no HT.out (i := i) (by omega) sExit _ HOK.out (by decide) H.out.1 (isT_nt HTX.out (by decide)))
 go_wp2_with fail
 ((with_reducible refine EW.out.mono ?_); rintro e wx ⟨rfl, hb⟩)
 have H := qh (H.out.trans hb)
 clear hb EW
 have EW := qh (reatwT_no HT.out (i := i) (by omega) sFor _ HOK.out (by decide) H.out.1 (isT_nt HTX.out (by decide)))
 go_wp2_with fail
 ((with_reducible refine EW.out.mono ?_); rintro e wx ⟨rfl, hb⟩)
 have H := qh (H.out.trans hb)
 clear hb EW
 have EW := qh (reatwT_yes HT.out (i := i) (by omega) sWith _ HOK.out (by decide) H.out.1 (isT_yt HK6.out HTX.out))
 go_wp2_with fail
 ((with_reducible refine EW.out.mono ?_); rintro e wx ⟨rfl, hb⟩)
 have H := qh (H.out.trans hb)
 clear hb EW
 have NW := qh (node7 (B := w.heap.size) (w := wx) H.out.2.size 69 69 rfl p1 p2)
 go_wp2_with fail
 ((with_reducible refine NW.out.mono ?_); rintro e wn ⟨b, rfl, hb, hk, hbl⟩)
 obtain ⟨K, hK⟩ : ∃ K : Except Nat (List T1 × Nat), K = .ok ([], i + 1) := ⟨_, rfl⟩
 have H := qh (show QG w0 w wn br A c L (posE K) (badE K) by rw [hK]; exact H.out.below hb)
 have HK := qh (show KU w.heap.size wn b ⟨69, (p1, p2), sNil, 0⟩ (.slice none 0 0) K [] by rw [hK]; exact KU.start hk)
 have HBD := qh (show Bd (lo + 1) 60000 K by rw [hK]; exact ⟨(fun _ => by show lo + 1 ≤ i + 1; omega), by show i + 1 ≤ 60000; omega⟩)
 replace HS := qh (show res = andK K (fun a => bindP (designF (exprF g) g) (fun x => (fun a => needF sDo ((fun a => bindP bd (fun x => (fun a => needF sEnd ((fun a => retP (mk 69 (p1, p2) sNil 0 a)) a)) (a ++ [x]))) a)) (a ++ [x]))) L by rw [hK]; exact HS.out)
 have hxl : ([] : List Value).length ≤ 0 := Nat.le_refl _
 have HK0 := qh hK
 clear hb hk NW hK hbl
 have D1 := qh (show Calls _ _ _ _ (RefU wn.drew.heap.size w0 wn.drew br A c L (goK K (designF (exprF g) g) L)) from by rw [HK0.out]; exact HD0.out wn.drew (by have := H.out; rw [HK0.out] at this; exact (this.below ((Below.refl _ _).drew)).1))
 have HD := qh (H.out.below ((Below.refl _ _).drew))
 have HKD := qh (HK.out.below ((Below.refl _ _).drew))
 obtain ⟨m4, m4f, hbl4⟩ := HK.out.kn.facts
 have hxl2 : ([] : List Value).length ≤ 1000000 := by omega
 obtain ⟨K1, hK1⟩ : ∃ K1, K1 = pushK K (goK K (designF (exprF g) g) L) := ⟨_, rfl⟩
 have HK1 := qh hK1
 have HBD1 := qh (show Bd (lo + 1) 60000 K1 by rw [hK1]; exact HBD.out.push St.g2_design (by omega))
 replace HS := qh (show res = andK K1 (fun a => needF sDo ((fun a => bindP bd (fun x => (fun a => needF sEnd ((fun a => retP (mk 69 (p1, p2) sNil 0 a)) a)) (a ++ [x]))) a)) L by rw [hK1]; exact HS.out.trans (and_push (Q := (fun a => needF sDo ((fun a => bindP bd (fun x => (fun a => needF sEnd ((fun a => retP (mk 69 (p1, p2) sNil 0 a)) a)) (a ++ [x]))) a)))))
 clear hK1
 go_upto_region 30 with fail
 go_cut [] from 155 to 167 (fun wc => Hid (QG w0 w wc br A c L (posE K1) (badE K1) ∧ ∃ svc xsc, KU w.heap.size wc b ⟨69, (p1, p2), sNil, 0⟩ svc K1 xsc ∧ xsc.length ≤ 1))
 case first =>
  go_region_law (first
   | (go_simp; go_at_call 66; (with_reducible refine D1.out.mono ?_); rintro e x5 ⟨p9, rfl, hp, hgr, hr⟩; have HKX := qh (HKD.out.grown hgr hbr0); have HY := qh (HKD.out.new hr); have HX := qh (HD.out.trans ⟨hp, hgr⟩); clear hp hgr hr; obtain ⟨t4, t4f, hbx⟩ := HKX.out.kn.facts; have Q := kid_facts (p := p9) x5.heap.size rfl (Nat.le_trans HKX.out.kn.low (Nat.le_of_lt hbx)) HKX.out.kn.own hxl2)
   | (refine step_append_lies _ (by rfl) _ _ _ (by rfl) w.heap.size 26 i0 _ 1 8 Try.underlying40 hi0 hz0 hz1 hz2 rfl (by omega) (.slice none 0 0) ([] : List Value).length ([] : List Value) (by rfl) Q.out.2.2.2.2 ⟨x5.heap.size, 0, none⟩ 1 1 [.pointer p9] (by rfl) (by rfl) Q.out.1 Q.out.2.1 (by omega) Q.out.2.2.1 (by omega) Q.out.2.2.2.1 (x5.heap.size + 1) (by simp) ?_; intro g' cap w5 hown1 hgrow hor hlt5; obtain ⟨s4, s4f, hb5⟩ := KN.after (HKX.out.kn.below ((Below.refl _ _).alloc (Nat.le_refl _) _)) hgrow; have K2 := qh (KU.step (HKX.out.below ((Below.refl _ _).alloc (Nat.le_refl _) _)) (fun x j e => (HY.out x j e).below ((Below.refl _ _).alloc (Nat.le_refl _) _)) hown1 hgrow (hor.imp id fun e => e.trans (World.size_alloc _ _).symm)); have H2 := qh (QG.pushed (QG.hung HX.out H0.out _ hgrow (fun k e => (HKX.out.kn.own.lt _ e).1) (u := .slice (some ⟨g', 0, none⟩) (([] : List Value).length + 1) cap) HKX.out.kn.low)); clear hown1 hgrow hor hlt5))
  all_goals
   go_wp2_with fail
   go_meet
   exact qh ⟨(by rw [HK1.out]; exact H2.out), _, _, (by rw [HK1.out]; exact K2.out), (by simp only [List.length_append, List.length_cons, List.length_nil] at hxl ⊢; omega)⟩
 case rest =>
  obtain ⟨hc1, svc, xsc, hc2, hxl⟩ := hcut.out
  clear HK0
  clear HK H hxl2 HKD HD hcut D1 HK1 HBD m4 m4f hbl4 K
  have H := qh hc1
  have HK := qh hc2
  have HBD := HBD1
  clear hc1 hc2 HBD1
  rename Except Nat (List T1 × Nat) => K
  have ND := qh (uneedw HT.out HOK.out (K := K) (by have := HBD.out.hi; omega) sDo _ H.out.1 (by decide))
  go_wp2_with fail
  ((with_reducible refine ND.out.mono ?_); rintro e wx ⟨rfl, hb⟩)
  obtain ⟨K1, hK1⟩ : ∃ K1, K1 = needK K sDo L := ⟨_, rfl⟩
  replace H := qh (show QG w0 w wx br A c L (posE K1) (badE K1) by rw [hK1]; exact H.out.trans hb)
  replace HK := qh (show KU w.heap.size wx b _ _ K1 _ by rw [hK1]; exact (HK.out.grown hb.2 hbr0).to_ need_to)
  replace HBD := qh (show Bd (lo + 1) 60000 K1 by rw [hK1]; exact HBD.out.need (by omega))
  replace HS := qh (show res = andK K1 (fun a => bindP bd (fun x => (fun a => needF sEnd ((fun a => retP (mk 69 (p1, p2) sNil 0 a)) a)) (a ++ [x]))) L by rw [hK1]; exact HS.out.trans (and_need (Q := (fun a => bindP bd (fun x => (fun a => needF sEnd ((fun a => retP (mk 69 (p1, p2) sNil 0 a)) a)) (a ++ [x]))))))
  clear hb ND hK1
  clear K
  rename Except Nat (List T1 × Nat) => K
  have D1 := qh (show Calls _ _ _ _ (RefU wx.drew.heap.size w0 wx.drew br A c L (goK K bd L)) from UB.out.at_ (HBD.out.weak (by omega)) (Nat.le_refl _) wx.drew (H.out.below ((Below.refl _ _).drew)).1)
  have HD := qh (H.out.below ((Below.refl _ _).drew))
  have HKD := qh (HK.out.below ((Below.refl _ _).drew))
  obtain ⟨m4, m4f, hbl4⟩ := HK.out.kn.facts
  have hxl2 : xsc.length ≤ 1000000 := by omega
  obtain ⟨K1, hK1⟩ : ∃ K1, K1 = pushK K (goK K bd L) := ⟨_, rfl⟩
  have HK1 := qh hK1
  have HBD1 := qh (show Bd (lo + 1) 60000 K1 by rw [hK1]; exact HBD.out.push HG2.out (by omega))
  replace HS := qh (show res = andK K1 (fun a => needF sEnd ((fun a => retP (mk 69 (p1, p2) sNil 0 a)) a)) L by rw [hK1]; exact HS.out.trans (and_push (Q := (fun a => needF sEnd ((fun a => retP (mk 69 (p1, p2) sNil 0 a)) a)))))
  clear hK1
  go_upto_region 32 with fail
  go_cut [] from 172 to 182 (fun wc => Hid (QG w0 w wc br A c L (posE K1) (badE K1) ∧ ∃ svc xsc, KU w.heap.size wc b ⟨69, (p1, p2), sNil, 0⟩ svc K1 xsc ∧ xsc.length ≤ 2))
  case first =>
   go_region_law (first
    | (go_simp; go_at_call 18; (with_reducible refine D1.out.mono ?_); rintro e x5 ⟨p9, rfl, hp, hgr, hr⟩; have HKX := qh (HKD.out.grown hgr hbr0); have HY := qh (HKD.out.new hr); have HX := qh (HD.out.trans ⟨hp, hgr⟩); clear hp hgr hr; obtain ⟨t4, t4f, hbx⟩ := HKX.out.kn.facts; have Q := kid_facts (p := p9) x5.heap.size rfl (Nat.le_trans HKX.out.kn.low (Nat.le_of_lt hbx)) HKX.out.kn.own hxl2)
    | (refine step_append_lies _ (by rfl) _ _ _ (by rfl) w.heap.size 26 i0 _ 1 8 Try.underlying40 hi0 hz0 hz1 hz2 rfl (by omega) svc xsc.length xsc (by rfl) Q.out.2.2.2.2 ⟨x5.heap.size, 0, none⟩ 1 1 [.pointer p9] (by rfl) (by rfl) Q.out.1 Q.out.2.1 (by omega) Q.out.2.2.1 (by omega) Q.out.2.2.2.1 (x5.heap.size + 1) (by simp) ?_; intro g' cap w5 hown1 hgrow hor hlt5; obtain ⟨s4, s4f, hb5⟩ := KN.after (HKX.out.kn.below ((Below.refl _ _).alloc (Nat.le_refl _) _)) hgrow; have K2 := qh (KU.step (HKX.out.below ((Below.refl _ _).alloc (Nat.le_refl _) _)) (fun x j e => (HY.out x j e).below ((Below.refl _ _).alloc (Nat.le_refl _) _)) hown1 hgrow (hor.imp id fun e => e.trans (World.size_alloc _ _).symm)); have H2 := qh (QG.pushed (QG.hung HX.out H0.out _ hgrow (fun k e => (HKX.out.kn.own.lt _ e).1) (u := .slice (some ⟨g', 0, none⟩) (xsc.length + 1) cap) HKX.out.kn.low)); clear hown1 hgrow hor hlt5))
   all_goals
    go_wp2_with fail
    go_meet
    exact qh ⟨(by rw [HK1.out]; exact H2.out), _, _, (by rw [HK1.out]; exact K2.out), (by simp only [List.length_append, List.length_cons, List.length_nil] at hxl ⊢; omega)⟩
  case rest =>
   obtain ⟨hc1, svc, xsc, hc2, hxl⟩ := hcut.out
   clear HK H hxl2 HKD HD hcut D1 HK1 HBD m4 m4f hbl4 K
   have H := qh hc1
   have HK := qh hc2
   have HBD := HBD1
   clear hc1 hc2 HBD1
   rename Except Nat (List T1 × Nat) => K
   have ND := qh (uneedw HT.out HOK.out (K := K) (by have := HBD.out.hi; omega) sEnd _ H.out.1 (by decide))
   go_wp2_with fail
   ((with_reducible refine ND.out.mono ?_); rintro e wx ⟨rfl, hb⟩)
   obtain ⟨K1, hK1⟩ : ∃ K1, K1 = needK K sEnd L := ⟨_, rfl⟩
   replace H := qh (show QG w0 w wx br A c L (posE K1) (badE K1) by rw [hK1]; exact H.out.trans hb)
   replace HK := qh (show KU w.heap.size wx b _ _ K1 _ by rw [hK1]; exact (HK.out.grown hb.2 hbr0).to_ need_to)
   replace HBD := qh (show Bd (lo + 1) 60000 K1 by rw [hK1]; exact HBD.out.need (by omega))
   replace HS := qh (show res = andK K1 (fun a => retP (mk 69 (p1, p2) sNil 0 a)) L by rw [hK1]; exact HS.out.trans (and_need (Q := (fun a => retP (mk 69 (p1, p2) sNil 0 a)))))
   clear hb ND hK1
   clear K
   rename Except Nat (List T1 × Nat) => K
   go_wp2
   go_ret
   exact HK.out.done H.out HS.out
end Go.Proofs.Ytecmjhohniipoaa.Rs
end
