import Derived.Test.YtkemhmfdooghkaaGreatDoorX13
import Derived.RegionTactic
import Derived.Deep.LoopGhost
import Derived.Deep.CutBlock
import Derived.Deep.CutRange
set_option linter.unusedSimpArgs false
set_option linter.unusedVariables false
set_option maxRecDepth 100000
set_option maxHeartbeats 6400000
namespace Go.Proofs.YtkemhmfdooghkaaGreatDoor
namespace St
open Go.RowKit
open Tr (Nd Fo RepS RepN Rep cellsN)
open Lx (Tk noTk run_store_complexL bt)
open Fl
open Ex
attribute [local go_sem] run_store_complexL run_field1 run_field3
theorem ret_s {s s' : ByteArray} (h : s = s') : Ending.returned (.string s) = .returned (.string s') := by rw [h]
def partX (k : Nat) (e t : List UInt8) : List UInt8 := if k = 8 then oneX 8 e t ++ 59 :: 32 :: oneX 10 e t else oneX k e t
theorem one_any_ (k : Nat) (hk : k < 9) (kI : Int) (hkI : kI = (k : Int)) (e t : List UInt8) (he : e.length ≤ 600) (ht : t.length ≤ 1000000) (w : World) : Calls Tryz.prog 32 #[.int .u8 kI, .string (bt e), .string (bt t)] w fun r w' => r = .returned (.string (bt (partX k e t))) ∧ w = w' := by
 have h1 : (bt e).size ≤ 600 := by show e.toArray.size ≤ 600; simpa using he
 have h2 : (bt t).size ≤ 1000000 := by show t.toArray.size ≤ 1000000; simpa using ht
 obtain ⟨rfl, rfl⟩ | ⟨rfl, rfl⟩ | ⟨rfl, rfl⟩ | ⟨rfl, rfl⟩ | ⟨rfl, rfl⟩ | ⟨rfl, rfl⟩ | ⟨rfl, rfl⟩ | ⟨rfl, rfl⟩ | ⟨rfl, rfl⟩ : (k = 0 ∧ kI = 0) ∨ (k = 1 ∧ kI = 1) ∨ (k = 2 ∧ kI = 2) ∨ (k = 3 ∧ kI = 3) ∨ (k = 4 ∧ kI = 4) ∨ (k = 5 ∧ kI = 5) ∨ (k = 6 ∧ kI = 6) ∨ (k = 7 ∧ kI = 7) ∨ (k = 8 ∧ kI = 8) := by omega
 all_goals
  clear hk hkI
  go_enter Tryz.func32, Tryz.ntmps32
  go_wp2
  go_ret
  exact ⟨ret_s (Lx.bytes_ext (by simp [bt_data, partX, oneX, ByteArray.data_append])), rfl⟩
def prtV (x : Prt × Value) : List Value := [.int .u8 x.1.1, x.2]
theorem prtV_len (l : List (Prt × Value)) : (l.flatMap prtV).length = l.length * 2 := by
 induction l with
 | nil => rfl
 | cons s l ih => simp only [List.flatMap_cons, List.length_append, List.length_cons] at ih ⊢; rw [ih, show (prtV s).length = 2 from rfl]; omega
theorem prtV_drop (l : List (Prt × Value)) (k : Nat) : (l.drop k).flatMap prtV = (l.flatMap prtV).drop (k * 2) := by
 induction l generalizing k with
 | nil => simp
 | cons s l ih =>
   cases k with
   | zero => simp
   | succ k =>
     rw [List.drop_succ_cons, ih k]
     simp only [List.flatMap_cons]
     rw [show (k + 1) * 2 = k * 2 + 1 + 1 from by omega]
     rfl
structure Parts (w : World) (A : Option Addr) (c : Nat) (q : List (Prt × Value)) : Prop where
 reads : Reads w w.heap.size 2 A q.length (q.flatMap prtV)
 cap : q.length ≤ c
 big : c ≤ 9223372036854775807
 each : ∀ x ∈ q, x.1.1 < 256 ∧ ∃ A' c', x.2 = .slice A' x.1.2.length c' ∧ Seeds w A' c' x.1.2
theorem Parts.below {w w' : World} {A : Option Addr} {c : Nat} {q : List (Prt × Value)} (h : Parts w A c q) (hb : Below w.heap.size w w') : Parts w' A c q :=
 ⟨(h.reads.below hb).more hb.size, h.cap, h.big, fun x hx => by obtain ⟨h1, A', c', h2, h3⟩ := h.each x hx; exact ⟨h1, A', c', h2, h3.below hb⟩⟩
theorem Parts.fit {w : World} {A : Option Addr} {c : Nat} {q : List (Prt × Value)} (h : Parts w A c q) : PFit (q.map (·.1)) := by
 intro p hp
 obtain ⟨x, hx, rfl⟩ := List.mem_map.1 hp
 obtain ⟨h1, A', c', _, h3⟩ := h.each x hx
 exact ⟨h1, h3.fit⟩
theorem Parts.drop {w : World} {A : Option Addr} {c : Nat} {l : List (Prt × Value)} (h : Parts w A c l) {k : Nat} (hk : k ≤ l.length) : Parts w (if c = k then A else A.map (·.add (k * 2))) (c - k) (l.drop k) := by
 have hc := h.cap
 refine ⟨⟨by rw [prtV_len], fun h0 => ?_⟩, by rw [List.length_drop]; omega, by have := h.big; omega, fun s hs => h.each s (List.mem_of_mem_drop hs)⟩
 rw [List.length_drop] at h0
 obtain ⟨ad, e, hb, hcl⟩ := h.reads.2 (by omega)
 subst e
 rw [if_neg (by omega)]
 refine ⟨ad.add (k * 2), rfl, by rw [block_of_add]; exact hb, fun j u hu => ?_⟩
 rw [prtV_drop, List.getElem?_drop] at hu
 rw [add_of_add]
 exact hcl _ _ hu
theorem parts_slice {w : World} {A : Option Addr} {c : Nat} {l : List (Prt × Value)} (h : Parts w A c l) {k : Nat} (hk : k ≤ l.length) (kI : Int) (e : kI = (k : Nat)) :
 ∃ A', (∀ w' : World, (Instr.slice 23 (.slice A l.length c) (some (.int .i64 kI)) none none).run Tryz.prog w' = .ok (.slice A' (l.drop k).length (c - k)) w') ∧ Parts w A' (c - k) (l.drop k) := by
 subst e
 refine ⟨_, fun w' => ?_, h.drop hk⟩
 have h0 : (0 : Int) ≤ (k : Int) := by omega
 have h1 : (k : Int) ≤ (l.length : Int) := by omega
 have hz : (Tryz.prog.elem 23) = 79 := by kernel_rfl
 simp [go_sem, h0, h1, sliced, Result.andThen, List.length_drop]
theorem Parts.at_ {w : World} {A : Option Addr} {c : Nat} {l : List (Prt × Value)} (h : Parts w A c l) {k : Nat} (hk : k < l.length) : ∃ g off, A = some ⟨g, off, none⟩ ∧ g < w.heap.size ∧ w.cell? ⟨g, off + k * 2, none⟩ = some (.int .u8 l[k].1.1) ∧ w.cell? ⟨g, off + k * 2 + 1, none⟩ = some l[k].2 := by
 obtain ⟨⟨g, off, sp⟩, e, hb, hc⟩ := h.reads.2 (by omega)
 have hd : (l.flatMap prtV).drop (k * 2) = .int .u8 l[k].1.1 :: l[k].2 :: (l.drop (k + 1)).flatMap prtV := by
  rw [← prtV_drop, List.drop_eq_getElem_cons hk]
  rfl
 have hu : ∀ j, (l.flatMap prtV)[k * 2 + j]? = (Value.int .u8 l[k].1.1 :: l[k].2 :: (l.drop (k + 1)).flatMap prtV)[j]? := fun j => by rw [← hd, List.getElem?_drop]
 have c0 := hc (k * 2) _ (by have := hu 0; simpa using this)
 have c1 := hc (k * 2 + 1) _ (by have := hu 1; simpa using this)
 have hs : sp = none := by
  have hl : 0 < (l.flatMap prtV).length := by rw [prtV_len]; omega
  have c9 := hc 0 _ (List.getElem?_eq_getElem hl)
  have := World.cell?_spot c9
  simpa [Addr.add] using this
 subst hs
 have ea : ∀ j, (⟨g, off, none⟩ : Addr).add j = ⟨g, off + j, none⟩ := fun j => by
  unfold Addr.add
  by_cases h0 : j = 0
  ·subst h0; rfl
  ·rw [if_neg h0]
 rw [ea] at c0 c1
 exact ⟨g, off, e, hb, c0, by rw [Nat.add_assoc]; exact c1⟩
def innerD : Nat → List Prt → Bx × Nat
 | 0 => fun _ => (.nil, 0)
 | d + 1 => fun l' => textP d 2 l'
theorem textP_eq (d most : Nat) (l : List Prt) : textP d most l = loopP (innerD d) most (l.length + 1) 0 l := by cases d <;> rfl
def TextR (w : World) (r : Bx × Nat) (e : Ending) (w' : World) : Prop := ∃ n : Int, e = .returned (.tuple #[.string (bt r.1.text), .int .i64 n, .int .i64 r.2]) ∧ Below w.heap.size w w'
def TextIH (d : Nat) : Prop := ∀ (q : List (Prt × Value)) (A : Option Addr) (c : Nat) (w : World) (most : Nat), q.length ≤ 20 → most ≤ 6 → Parts w A c q → ∀ M D : Int, M = (most : Nat) → D = (d : Nat) →
 Calls Tryz.prog 18 #[.slice A q.length c, .int .i64 M, .int .i64 D] w (TextR w (textP d most (q.map (·.1))))
def joinX (sb : List UInt8) (nn : Nat) (r : Bx) : List UInt8 := if nn = 0 then sb ++ r.text else if r.isNil = true then sb else sb ++ 59 :: 32 :: r.text
theorem part_text (k : Nat) (e : Gr) (b r : Bx) : (partB k e b r).text = partX k e.text b.text ++ (if r.isNil = true then [] else 59 :: 32 :: r.text) ∧ (partB k e b r).isNil = false := by
 unfold partB partX
 split
 ·refine ⟨?_, rfl⟩
  show oneX 8 e.text [] ++ (59 :: 32 :: (oneX 10 e.text [] ++ (if r.isNil = true then [] else 59 :: 32 :: r.text))) = _
  simp [oneX]
 ·exact ⟨rfl, rfl⟩
theorem join_step {sb : List UInt8} {nn n' k : Nat} (hn : nn = 0 → sb = []) (hn' : n' ≠ 0) (e : Gr) (b r : Bx) : joinX sb nn (partB k e b r) = joinX ((if nn = 0 then sb else sb ++ [59, 32]) ++ partX k e.text b.text) n' r := by
 obtain ⟨h1, h2⟩ := part_text k e b r
 unfold joinX
 rw [if_neg hn', h1, h2]
 by_cases h0 : nn = 0
 ·rw [if_pos h0, if_pos h0, hn h0]
  split <;> simp
 ·rw [if_neg h0, if_neg h0, if_neg (by simp)]
  split <;> simp
theorem join_len (sb : List UInt8) (nn : Nat) (r : Bx) : sb.length ≤ (joinX sb nn r).length := by
 unfold joinX
 split
 ·simp
 ·split <;> simp
theorem loop_stop {inner : List Prt → Bx × Nat} {most f n : Nat} {l : List Prt} (h : l = [] ∨ most ≤ n) : loopP inner most f n l = (.nil, 0) := by
 cases f with
 | zero => unfold loopP; rfl
 | succ f =>
   cases l with
   | nil => unfold loopP; rfl
   | cons p l =>
     obtain ⟨d, e⟩ := p
     unfold loopP
     rw [if_neg]
     rcases h with h | h
     ·cases h
     ·omega
theorem join_nil (sb : List UInt8) (nn : Nat) : joinX sb nn .nil = sb := by
 unfold joinX
 split
 ·show sb ++ [] = sb; simp
 ·rfl
theorem ret_t {s s' : ByteArray} {n i i' : Int} (h1 : s = s') (h2 : i = i') : Ending.returned (.tuple #[.string s, .int .i64 n, .int .i64 i]) = .returned (.tuple #[.string s', .int .i64 n, .int .i64 i']) := by rw [h1, h2]
theorem lenB_4 : ∀ d, d ≤ 4 → lenB d ≤ 40300 := by decide
structure TX (w wr : World) (total : Bx × Nat) (inner : List Prt → Bx × Nat) (most : Nat) (q : List (Prt × Value)) (k nn f : Nat) (sb : List UInt8) : Prop where
 bel : Below w.heap.size w wr
 emp : nn = 0 → sb = []
 text : total.1.text = joinX sb nn (loopP inner most f nn ((q.drop k).map (·.1))).1
 used : total.2 = k + (loopP inner most f nn ((q.drop k).map (·.1))).2
 fuel : q.length < k + f
theorem TX.step {w wr : World} {total : Bx × Nat} {inner : List Prt → Bx × Nat} {most : Nat} {q : List (Prt × Value)} {k nn f : Nat} {sb : List UInt8} (h : TX w wr total inner most q k nn f sb) (hk : k < q.length) (hm : nn < most) {d : Nat} {es : List (Nat × Nat)} (hq : q[k].1 = (d, es)) {b : Bx × Nat}
 (hb : b = if d % 9 < 7 then inner ((q.drop (k + 1)).map (·.1)) else (.nil, 0)) {w2 : World} (hw : Below w.heap.size w w2) :
 TX w w2 total inner most q (k + 1 + b.2) (if d % 9 = 8 then nn + 2 else nn + 1) (f - 1) ((if nn = 0 then sb else sb ++ [59, 32]) ++ partX (d % 9) (grownP 5 es).1.text b.1.text) := by
 obtain ⟨f, rfl⟩ : ∃ f', f = f' + 1 := ⟨f - 1, by have := h.fuel; omega⟩
 have hl : (q.drop k).map (·.1) = (d, es) :: (q.drop (k + 1)).map (·.1) := by
  rw [List.drop_eq_getElem_cons hk, List.map_cons, hq]
 have hs : loopP inner most (f + 1) nn ((q.drop k).map (·.1)) = (partB (d % 9) (grownP 5 es).1 b.1 (loopP inner most f (if d % 9 = 8 then nn + 2 else nn + 1) ((q.drop (k + 1 + b.2)).map (·.1))).1, 1 + b.2 + (loopP inner most f (if d % 9 = 8 then nn + 2 else nn + 1) ((q.drop (k + 1 + b.2)).map (·.1))).2) := by
  rw [hl, loopP, if_pos hm, ← hb, ← List.map_drop, List.drop_drop]
 have h1 := h.text
 have h2 := h.used
 rw [hs] at h1 h2
 refine ⟨hw, fun e => by split at e <;> omega, ?_, ?_, by have := h.fuel; simp only [Nat.add_sub_cancel]; omega⟩
 ·rw [h1, join_step h.emp (n' := if d % 9 = 8 then nn + 2 else nn + 1) (by split <;> omega)]
  rfl
 ·rw [h2, Nat.add_sub_cancel]
  show k + (1 + b.2 + _) = k + 1 + b.2 + _
  omega
theorem text_step (dd : Nat) (hdd : dd ≤ 4) (IH : ∀ d', d' + 1 = dd → TextIH d') : TextIH dd := by
 intro q A c w most hq20 hm6 hP M D hM hD
 have hfit := hP.fit
 have hlen := text_len dd most (q.map (·.1)) hfit
 have hus := (text_ok dd most (q.map (·.1)) hfit).2
 have hB4 := lenB_4 dd hdd
 obtain ⟨total, htot⟩ : ∃ t, t = textP dd most (q.map (·.1)) := ⟨_, rfl⟩
 rw [← htot] at hlen hus ⊢
 rw [List.length_map] at hus
 have hbig : total.1.text.length ≤ 900000 := by
  have h1 : lenB dd * total.2 ≤ 40300 * 20 := Nat.mul_le_mul hB4 (by omega)
  omega
 have HT := qh (show TX w w total (innerD dd) most q 0 0 (q.length + 1) [] from ⟨Below.refl _ _, fun _ => rfl, by rw [htot, textP_eq, List.length_map]; rfl, by rw [htot, textP_eq, List.length_map, Nat.zero_add]; rfl, by omega⟩)
 have HP := qh hP
 have HIH := qh IH
 have HG5 := qh (fun (l : List (Nat × Nat)) (A : Option Addr) (c : Nat) (w : World) (h : Seeds w A c l) => Ex.grown_any 5 (by decide) l A c w (by decide) h 5 rfl)
 have hin0 : dd = 0 → innerD dd = fun _ => (.nil, 0) := by rintro rfl; rfl
 have hin1 : ∀ d', d' + 1 = dd → innerD dd = fun l' => textP d' 2 l' := by rintro d' rfl; rfl
 have HI0 := qh hin0
 have HI1 := qh hin1
 have HMM := qh hM
 have HDD := qh hD
 have m1 : 0 ≤ M := by omega
 have m2 : M ≤ 6 := by omega
 have d1 : 0 ≤ D := by omega
 have d2 : D ≤ 4 := by omega
 have hcb := hP.cap
 have hcc := hP.big
 clear htot hfit hlen hB4 hin0 hin1 IH hP hM hD hus
 obtain ⟨N, hN⟩ : ∃ N, N = q.length := ⟨_, rfl⟩
 have HN := qh hN
 rw [← hN] at hq20 hcb ⊢
 clear hN
 go_enter Tryz.func18, Tryz.ntmps18
 go_wp2_with fail
 go_loopw [9, 10, 11] (fun s a n wr => ∃ (k nn f : Nat) (sb : List UInt8), k ≤ N ∧ nn ≤ 2 * k ∧ a = .int .i64 k ∧ n = .int .i64 nn ∧ s = .string (bt sb) ∧ Hid (TX w wr total (innerD dd) most q k nn f sb)) (fun _ a _ _ => N - (intOf a).toNat)
 case atStart => exact ⟨0, 0, q.length + 1, [], by omega, by omega, rfl, rfl, rfl, HT⟩
 case round =>
  obtain ⟨k, nn, f, sb, hkN, hnk, rfl, rfl, rfl, HX⟩ := hrel
  clear HT
  obtain ⟨wo, rfl⟩ : ∃ wo : World, wo = wr := ⟨_, rfl⟩
  have hsb : sb.length ≤ 900000 := by have := join_len sb nn (loopP (innerD dd) most f nn ((q.drop k).map (·.1))).1; rw [← HX.out.text] at this; omega
  have hsb2 : (bt sb).size ≤ 900000 := by show sb.toArray.size ≤ 900000; simpa using hsb
  by_cases hk : k < N
  case neg =>
   have g0 : decide (k < N) = false := decide_eq_false hk
   have HE := qh (loop_stop (inner := innerD dd) (most := most) (f := f) (n := nn) (l := (q.drop k).map (·.1)) (.inl (by rw [List.drop_of_length_le (by have := HN.out; omega)]; rfl)))
   go_wp2
   go_ret3
   exact ⟨nn, ret_t (by rw [HX.out.text, HE.out, join_nil]) (by rw [HX.out.used, HE.out]; rfl), HX.out.bel⟩
  have g0 : decide (k < N) = true := decide_eq_true hk
  by_cases hm : (nn : Int) < M
  case neg =>
   have g1 : decide ((nn : Int) < M) = false := decide_eq_false hm
   have HE := qh (loop_stop (inner := innerD dd) (most := most) (f := f) (n := nn) (l := (q.drop k).map (·.1)) (.inr (by have := HMM.out; omega)))
   go_wp2
   go_ret3
   exact ⟨nn, ret_t (by rw [HX.out.text, HE.out, join_nil]) (by rw [HX.out.used, HE.out]; rfl), HX.out.bel⟩
  have g1 : decide ((nn : Int) < M) = true := decide_eq_true hm
  have hkq : k < q.length := by have := HN.out; omega
  have HPO := qh (HP.out.below HX.out.bel)
  obtain ⟨g, off, hA, hg, c0, c1⟩ := HPO.out.at_ hkq
  subst hA
  obtain ⟨⟨⟨d, es⟩, v⟩, hqk⟩ : ∃ x, x = q[k] := ⟨_, rfl⟩
  rw [← hqk] at c0 c1
  obtain ⟨hd8, A1, c1', hv, hse⟩ := HPO.out.each q[k] (List.getElem_mem _)
  rw [← hqk] at hd8 hv hse
  simp only at hd8 hv hse c0 c1
  subst hv
  have HSE := qh hse
  have HQK := qh (show q[k].1 = (d, es) by rw [← hqk])
  have x0 : (0 : Int) ≤ (k : Int) := by omega
  have x1 : (k : Int) < (N : Int) := by omega
  have x2 : ¬ (k : Int) < 0 := by omega
  have x3 : (0 : Int) ≤ (d : Int) := by omega
  have x4 : (d : Int) ≤ 255 := by omega
  have y0 : (0 : Int) ≤ (d : Int) % 9 := by omega
  have y1 : (d : Int) % 9 < 9 := by omega
  have hes : (grownP 5 es).1.text.length ≤ 280 := grown5 es (fun s hs => (hse.fit s hs).2)
  have hes2 : (bt (grownP 5 es).1.text).size ≤ 280 := by show (grownP 5 es).1.text.toArray.size ≤ 280; simpa using hes
  clear hqk hse
  have HB1 := qh (Ex.bel1 wo (.cells #[.int .u8 d, .slice A1 es.length c1'] 79))
  have T0 := qh (Lx.Blk.new wo 79 #[.int .u8 d, .slice A1 es.length c1'])
  have D5 := qh (HG5.out es A1 c1' _ (HSE.out.below HB1.out))
  go_wp2_with fail
  ((with_reducible refine D5.out.mono ?_); rintro e wy ⟨b9, rfl, hb⟩)
  have HW := qh (HB1.out.trans (hb.mono HB1.out.size))
  have T1 := qh (T0.out.below hb T0.out.lt)
  have z0 : wy.cell? ⟨wo.heap.size, 0, none⟩ = some (.int .u8 d) := T1.out.cell 0
  clear hb D5 c0 c1 HG5 hg
  generalize hgt : (grownP 5 es).1.text = gt at *
  have HGT := qh hgt
  clear hgt
  by_cases hin : d % 9 < 7 ∧ 0 < dd
  ·obtain ⟨hi7, hi0⟩ := hin
   obtain ⟨d', rfl⟩ : ∃ d', d' + 1 = dd := ⟨dd - 1, by omega⟩
   have w7 : decide ((d : Int) % 9 < 7) = true := decide_eq_true (by omega)
   have w8 : decide (0 < D) = true := decide_eq_true (by have := HDD.out; omega)
   obtain ⟨A2, hsl, hp2⟩ := parts_slice (HPO.out.below HW.out) (k := k + 1) (by omega) ((k : Int) + 1) (by omega)
   have hdl : (q.drop (k + 1)).length ≤ N - (k + 1) := by rw [List.length_drop]; have := HN.out; omega
   have hN2 := HN.out
   have SL := qh hsl
   obtain ⟨bb, hbb⟩ : ∃ b, b = textP d' 2 ((q.drop (k + 1)).map (·.1)) := ⟨_, rfl⟩
   have DI := (HIH.out d' rfl) (q.drop (k + 1)) A2 (c - (k + 1)) wy 2 (by omega) (by decide) hp2 2 (D - 1) rfl (by have := HDD.out; omega)
   rw [← hbb] at DI
   have DI := qh DI
   have hb2 := (text_ok d' 2 ((q.drop (k + 1)).map (·.1)) hp2.fit).2
   have hbl := text_len d' 2 ((q.drop (k + 1)).map (·.1)) hp2.fit
   rw [← hbb] at hb2 hbl
   rw [List.length_map] at hb2
   have hbl2 : bb.1.text.length ≤ 1000000 := by
    have h1 : lenB d' * bb.2 ≤ 40300 * 20 := Nat.mul_le_mul (lenB_4 d' (by omega)) (by omega)
    omega
   have hb3 : k + 1 + bb.2 ≤ N := by omega
   have HBB := qh (show bb = if d % 9 < 7 then innerD (d' + 1) ((q.drop (k + 1)).map (·.1)) else (.nil, 0) by rw [if_pos hi7, hbb]; rfl)
   have hu0 : 0 ≤ (bb.2 : Int) := by omega
   have hu1 : (bb.2 : Int) ≤ 20 := by omega
   obtain ⟨n2, hn2⟩ : ∃ n2, n2 = (q.drop (k + 1)).length := ⟨_, rfl⟩
   rw [← hn2, ← hN2] at hsl
   rw [← hn2] at DI
   clear hp2 hbb hb2 hbl hn2 hdl hN2 SL HIH
   go_wp2_with fail
   ((with_reducible refine DI.out.mono ?_); rintro e wu ⟨n9, rfl, hb⟩)
   have hbt : (bt bb.1.text).size ≤ 1000000 := by show bb.1.text.toArray.size ≤ 1000000; simpa using hbl2
   have T2 := qh (T1.out.below hb T1.out.lt)
   have HW2 := qh (HW.out.trans (hb.mono HW.out.size))
   clear z0 hsl DI
   have z0 : wu.cell? ⟨wo.heap.size, 0, none⟩ = some (.int .u8 d) := T2.out.cell 0
   clear hb
   by_cases hn0 : nn = 0
   ·have n0_ : ¬ (0 : Int) < (nn : Int) := by omega
    have hjn : (if nn = 0 then sb else sb ++ [59, 32]) = sb := if_pos hn0
    by_cases h8 : d % 9 = 8
    ·have e8_ : ((d : Int) % 9 == 8) = true := by rw [beq_iff_eq]; omega
     have hnn : (if d % 9 = 8 then nn + 2 else nn + 1) = nn + 2 := if_pos h8
     have ST := qh (show TX w wu total (innerD (d' + 1)) most q (k + 1 + bb.2) (nn + 2) (f - 1) (sb ++ partX (d % 9) gt bb.1.text) by
      have h9 := HX.out.step hkq (by have := HMM.out; omega) HQK.out HBB.out (w2 := wu) (HX.out.bel.trans (HW2.out.mono HX.out.bel.size))
      rw [hjn, hnn, HGT.out] at h9
      exact h9)
     have hnew : (sb ++ partX (d % 9) gt bb.1.text).length ≤ 900000 := by
      have := join_len (sb ++ partX (d % 9) gt bb.1.text) (nn + 2) (loopP (innerD (d' + 1)) most (f - 1) (nn + 2) ((q.drop (k + 1 + bb.2)).map (·.1))).1
      rw [← ST.out.text] at this
      omega
     have hpx : (bt (partX (d % 9) gt bb.1.text)).size ≤ 900000 := by
      show (partX (d % 9) gt bb.1.text).toArray.size ≤ 900000
      rw [List.length_append] at hnew
      simp only [List.size_toArray]
      omega
     have O1 := qh (one_any_ (d % 9) (by omega) ((d : Int) % 9) (by omega) gt bb.1.text (by omega) hbl2 wu)
     clear hjn hnn h8 hn0
     go_wp2_with fail
     ((with_reducible refine O1.out.mono ?_); rintro e wv ⟨rfl, rfl⟩)
     clear O1
     go_wp2
     go_roundw
     case rel => exact ⟨k + 1 + bb.2, nn + 2, f - 1, sb ++ partX (d % 9) gt bb.1.text, by omega, by omega, (by first | go_num | (congr 1; omega)), by go_num, congrArg Value.string (Lx.bytes_ext (by simp [bt_data, ByteArray.data_append])), ST⟩
     case measure => simp [intOf]; omega
    ·have e8_ : ((d : Int) % 9 == 8) = false := by rw [beq_eq_false_iff_ne]; omega
     have hnn : (if d % 9 = 8 then nn + 2 else nn + 1) = nn + 1 := if_neg h8
     have ST := qh (show TX w wu total (innerD (d' + 1)) most q (k + 1 + bb.2) (nn + 1) (f - 1) (sb ++ partX (d % 9) gt bb.1.text) by
      have h9 := HX.out.step hkq (by have := HMM.out; omega) HQK.out HBB.out (w2 := wu) (HX.out.bel.trans (HW2.out.mono HX.out.bel.size))
      rw [hjn, hnn, HGT.out] at h9
      exact h9)
     have hnew : (sb ++ partX (d % 9) gt bb.1.text).length ≤ 900000 := by
      have := join_len (sb ++ partX (d % 9) gt bb.1.text) (nn + 1) (loopP (innerD (d' + 1)) most (f - 1) (nn + 1) ((q.drop (k + 1 + bb.2)).map (·.1))).1
      rw [← ST.out.text] at this
      omega
     have hpx : (bt (partX (d % 9) gt bb.1.text)).size ≤ 900000 := by
      show (partX (d % 9) gt bb.1.text).toArray.size ≤ 900000
      rw [List.length_append] at hnew
      simp only [List.size_toArray]
      omega
     have O1 := qh (one_any_ (d % 9) (by omega) ((d : Int) % 9) (by omega) gt bb.1.text (by omega) hbl2 wu)
     clear hjn hnn h8 hn0
     go_wp2_with fail
     ((with_reducible refine O1.out.mono ?_); rintro e wv ⟨rfl, rfl⟩)
     clear O1
     go_wp2
     go_roundw
     case rel => exact ⟨k + 1 + bb.2, nn + 1, f - 1, sb ++ partX (d % 9) gt bb.1.text, by omega, by omega, (by first | go_num | (congr 1; omega)), by go_num, congrArg Value.string (Lx.bytes_ext (by simp [bt_data, ByteArray.data_append])), ST⟩
     case measure => simp [intOf]; omega
   ·have n0_ : (0 : Int) < (nn : Int) := by omega
    have hjn : (if nn = 0 then sb else sb ++ [59, 32]) = sb ++ [59, 32] := if_neg hn0
    by_cases h8 : d % 9 = 8
    ·have e8_ : ((d : Int) % 9 == 8) = true := by rw [beq_iff_eq]; omega
     have hnn : (if d % 9 = 8 then nn + 2 else nn + 1) = nn + 2 := if_pos h8
     have ST := qh (show TX w wu total (innerD (d' + 1)) most q (k + 1 + bb.2) (nn + 2) (f - 1) (sb ++ [59, 32] ++ partX (d % 9) gt bb.1.text) by
      have h9 := HX.out.step hkq (by have := HMM.out; omega) HQK.out HBB.out (w2 := wu) (HX.out.bel.trans (HW2.out.mono HX.out.bel.size))
      rw [hjn, hnn, HGT.out] at h9
      exact h9)
     have hnew : (sb ++ [59, 32] ++ partX (d % 9) gt bb.1.text).length ≤ 900000 := by
      have := join_len (sb ++ [59, 32] ++ partX (d % 9) gt bb.1.text) (nn + 2) (loopP (innerD (d' + 1)) most (f - 1) (nn + 2) ((q.drop (k + 1 + bb.2)).map (·.1))).1
      rw [← ST.out.text] at this
      omega
     have hpx : (bt (partX (d % 9) gt bb.1.text)).size ≤ 900000 := by
      show (partX (d % 9) gt bb.1.text).toArray.size ≤ 900000
      rw [List.length_append] at hnew
      simp only [List.size_toArray]
      omega
     have O1 := qh (one_any_ (d % 9) (by omega) ((d : Int) % 9) (by omega) gt bb.1.text (by omega) hbl2 wu)
     clear hjn hnn h8 hn0
     go_wp2_with fail
     ((with_reducible refine O1.out.mono ?_); rintro e wv ⟨rfl, rfl⟩)
     clear O1
     go_wp2
     go_roundw
     case rel => exact ⟨k + 1 + bb.2, nn + 2, f - 1, sb ++ [59, 32] ++ partX (d % 9) gt bb.1.text, by omega, by omega, (by first | go_num | (congr 1; omega)), by go_num, congrArg Value.string (Lx.bytes_ext (by simp [bt_data, ByteArray.data_append])), ST⟩
     case measure => simp [intOf]; omega
    ·have e8_ : ((d : Int) % 9 == 8) = false := by rw [beq_eq_false_iff_ne]; omega
     have hnn : (if d % 9 = 8 then nn + 2 else nn + 1) = nn + 1 := if_neg h8
     have ST := qh (show TX w wu total (innerD (d' + 1)) most q (k + 1 + bb.2) (nn + 1) (f - 1) (sb ++ [59, 32] ++ partX (d % 9) gt bb.1.text) by
      have h9 := HX.out.step hkq (by have := HMM.out; omega) HQK.out HBB.out (w2 := wu) (HX.out.bel.trans (HW2.out.mono HX.out.bel.size))
      rw [hjn, hnn, HGT.out] at h9
      exact h9)
     have hnew : (sb ++ [59, 32] ++ partX (d % 9) gt bb.1.text).length ≤ 900000 := by
      have := join_len (sb ++ [59, 32] ++ partX (d % 9) gt bb.1.text) (nn + 1) (loopP (innerD (d' + 1)) most (f - 1) (nn + 1) ((q.drop (k + 1 + bb.2)).map (·.1))).1
      rw [← ST.out.text] at this
      omega
     have hpx : (bt (partX (d % 9) gt bb.1.text)).size ≤ 900000 := by
      show (partX (d % 9) gt bb.1.text).toArray.size ≤ 900000
      rw [List.length_append] at hnew
      simp only [List.size_toArray]
      omega
     have O1 := qh (one_any_ (d % 9) (by omega) ((d : Int) % 9) (by omega) gt bb.1.text (by omega) hbl2 wu)
     clear hjn hnn h8 hn0
     go_wp2_with fail
     ((with_reducible refine O1.out.mono ?_); rintro e wv ⟨rfl, rfl⟩)
     clear O1
     go_wp2
     go_roundw
     case rel => exact ⟨k + 1 + bb.2, nn + 1, f - 1, sb ++ [59, 32] ++ partX (d % 9) gt bb.1.text, by omega, by omega, (by first | go_num | (congr 1; omega)), by go_num, congrArg Value.string (Lx.bytes_ext (by simp [bt_data, ByteArray.data_append])), ST⟩
     case measure => simp [intOf]; omega
  ·have w78 : decide ((d : Int) % 9 < 7) = false ∨ (decide ((d : Int) % 9 < 7) = true ∧ decide (0 < D) = false) := by
    by_cases h7 : d % 9 < 7
    ·exact .inr ⟨decide_eq_true (by omega), decide_eq_false (by have := HDD.out; omega)⟩
    ·exact .inl (decide_eq_false (by omega))
   have HBB := qh (show ((.nil, 0) : Bx × Nat) = if d % 9 < 7 then innerD dd ((q.drop (k + 1)).map (·.1)) else (.nil, 0) by
    split
    ·rename_i h7
     have : dd = 0 := by omega
     rw [HI0.out this]
    ·rfl)
   obtain ⟨bb, hbb⟩ : ∃ b : Bx × Nat, b = (.nil, 0) := ⟨_, rfl⟩
   replace HBB := qh (show bb = if d % 9 < 7 then innerD dd ((q.drop (k + 1)).map (·.1)) else (.nil, 0) by rw [hbb]; exact HBB.out)
   have HBE := qh (show bb.1.text = [] by rw [hbb]; rfl)
   have HBZ := qh (show bb.2 = 0 by rw [hbb])
   have hbz : bb.2 ≤ 0 := by rw [hbb]; exact Nat.le_refl _
   clear hbb
   rcases w78 with w7 | ⟨w7, w8⟩
   ·by_cases hn0 : nn = 0
    ·have n0_ : ¬ (0 : Int) < (nn : Int) := by omega
     have hjn : (if nn = 0 then sb else sb ++ [59, 32]) = sb := if_pos hn0
     by_cases h8 : d % 9 = 8
     ·have e8_ : ((d : Int) % 9 == 8) = true := by rw [beq_iff_eq]; omega
      have hnn : (if d % 9 = 8 then nn + 2 else nn + 1) = nn + 2 := if_pos h8
      have ST := qh (show TX w wy total (innerD dd) most q (k + 1 + bb.2) (nn + 2) (f - 1) (sb ++ partX (d % 9) gt bb.1.text) by
       have h9 := HX.out.step hkq (by have := HMM.out; omega) HQK.out HBB.out (w2 := wy) (HX.out.bel.trans (HW.out.mono HX.out.bel.size))
       rw [hjn, hnn, HGT.out] at h9
       exact h9)
      have hnew : (sb ++ partX (d % 9) gt bb.1.text).length ≤ 900000 := by
       have := join_len (sb ++ partX (d % 9) gt bb.1.text) (nn + 2) (loopP (innerD dd) most (f - 1) (nn + 2) ((q.drop (k + 1 + bb.2)).map (·.1))).1
       rw [← ST.out.text] at this
       omega
      have hpx : (bt (partX (d % 9) gt bb.1.text)).size ≤ 900000 := by
       show (partX (d % 9) gt bb.1.text).toArray.size ≤ 900000
       rw [List.length_append] at hnew
       simp only [List.size_toArray]
       omega
      have O1 := qh (show Calls Tryz.prog 32 #[.int .u8 ((d : Int) % 9), .string (bt gt), .string ⟨#[]⟩] wy (fun r w' => r = .returned (.string (bt (partX (d % 9) gt bb.1.text))) ∧ wy = w') by rw [HBE.out]; exact one_any_ (d % 9) (by omega) ((d : Int) % 9) (by omega) gt [] (by omega) (by decide) wy)
      clear hjn hnn h8 hn0
      go_wp2_with fail
      ((with_reducible refine O1.out.mono ?_); rintro e wv ⟨rfl, rfl⟩)
      clear O1
      go_wp2
      go_roundw
      case rel => exact ⟨k + 1 + bb.2, nn + 2, f - 1, sb ++ partX (d % 9) gt bb.1.text, by omega, by omega, (by rw [HBZ.out]; first | go_num | (congr 1; omega)), by go_num, congrArg Value.string (Lx.bytes_ext (by simp [bt_data, ByteArray.data_append])), ST⟩
      case measure => simp [intOf]; omega
     ·have e8_ : ((d : Int) % 9 == 8) = false := by rw [beq_eq_false_iff_ne]; omega
      have hnn : (if d % 9 = 8 then nn + 2 else nn + 1) = nn + 1 := if_neg h8
      have ST := qh (show TX w wy total (innerD dd) most q (k + 1 + bb.2) (nn + 1) (f - 1) (sb ++ partX (d % 9) gt bb.1.text) by
       have h9 := HX.out.step hkq (by have := HMM.out; omega) HQK.out HBB.out (w2 := wy) (HX.out.bel.trans (HW.out.mono HX.out.bel.size))
       rw [hjn, hnn, HGT.out] at h9
       exact h9)
      have hnew : (sb ++ partX (d % 9) gt bb.1.text).length ≤ 900000 := by
       have := join_len (sb ++ partX (d % 9) gt bb.1.text) (nn + 1) (loopP (innerD dd) most (f - 1) (nn + 1) ((q.drop (k + 1 + bb.2)).map (·.1))).1
       rw [← ST.out.text] at this
       omega
      have hpx : (bt (partX (d % 9) gt bb.1.text)).size ≤ 900000 := by
       show (partX (d % 9) gt bb.1.text).toArray.size ≤ 900000
       rw [List.length_append] at hnew
       simp only [List.size_toArray]
       omega
      have O1 := qh (show Calls Tryz.prog 32 #[.int .u8 ((d : Int) % 9), .string (bt gt), .string ⟨#[]⟩] wy (fun r w' => r = .returned (.string (bt (partX (d % 9) gt bb.1.text))) ∧ wy = w') by rw [HBE.out]; exact one_any_ (d % 9) (by omega) ((d : Int) % 9) (by omega) gt [] (by omega) (by decide) wy)
      clear hjn hnn h8 hn0
      go_wp2_with fail
      ((with_reducible refine O1.out.mono ?_); rintro e wv ⟨rfl, rfl⟩)
      clear O1
      go_wp2
      go_roundw
      case rel => exact ⟨k + 1 + bb.2, nn + 1, f - 1, sb ++ partX (d % 9) gt bb.1.text, by omega, by omega, (by rw [HBZ.out]; first | go_num | (congr 1; omega)), by go_num, congrArg Value.string (Lx.bytes_ext (by simp [bt_data, ByteArray.data_append])), ST⟩
      case measure => simp [intOf]; omega
    ·have n0_ : (0 : Int) < (nn : Int) := by omega
     have hjn : (if nn = 0 then sb else sb ++ [59, 32]) = sb ++ [59, 32] := if_neg hn0
     by_cases h8 : d % 9 = 8
     ·have e8_ : ((d : Int) % 9 == 8) = true := by rw [beq_iff_eq]; omega
      have hnn : (if d % 9 = 8 then nn + 2 else nn + 1) = nn + 2 := if_pos h8
      have ST := qh (show TX w wy total (innerD dd) most q (k + 1 + bb.2) (nn + 2) (f - 1) (sb ++ [59, 32] ++ partX (d % 9) gt bb.1.text) by
       have h9 := HX.out.step hkq (by have := HMM.out; omega) HQK.out HBB.out (w2 := wy) (HX.out.bel.trans (HW.out.mono HX.out.bel.size))
       rw [hjn, hnn, HGT.out] at h9
       exact h9)
      have hnew : (sb ++ [59, 32] ++ partX (d % 9) gt bb.1.text).length ≤ 900000 := by
       have := join_len (sb ++ [59, 32] ++ partX (d % 9) gt bb.1.text) (nn + 2) (loopP (innerD dd) most (f - 1) (nn + 2) ((q.drop (k + 1 + bb.2)).map (·.1))).1
       rw [← ST.out.text] at this
       omega
      have hpx : (bt (partX (d % 9) gt bb.1.text)).size ≤ 900000 := by
       show (partX (d % 9) gt bb.1.text).toArray.size ≤ 900000
       rw [List.length_append] at hnew
       simp only [List.size_toArray]
       omega
      have O1 := qh (show Calls Tryz.prog 32 #[.int .u8 ((d : Int) % 9), .string (bt gt), .string ⟨#[]⟩] wy (fun r w' => r = .returned (.string (bt (partX (d % 9) gt bb.1.text))) ∧ wy = w') by rw [HBE.out]; exact one_any_ (d % 9) (by omega) ((d : Int) % 9) (by omega) gt [] (by omega) (by decide) wy)
      clear hjn hnn h8 hn0
      go_wp2_with fail
      ((with_reducible refine O1.out.mono ?_); rintro e wv ⟨rfl, rfl⟩)
      clear O1
      go_wp2
      go_roundw
      case rel => exact ⟨k + 1 + bb.2, nn + 2, f - 1, sb ++ [59, 32] ++ partX (d % 9) gt bb.1.text, by omega, by omega, (by rw [HBZ.out]; first | go_num | (congr 1; omega)), by go_num, congrArg Value.string (Lx.bytes_ext (by simp [bt_data, ByteArray.data_append])), ST⟩
      case measure => simp [intOf]; omega
     ·have e8_ : ((d : Int) % 9 == 8) = false := by rw [beq_eq_false_iff_ne]; omega
      have hnn : (if d % 9 = 8 then nn + 2 else nn + 1) = nn + 1 := if_neg h8
      have ST := qh (show TX w wy total (innerD dd) most q (k + 1 + bb.2) (nn + 1) (f - 1) (sb ++ [59, 32] ++ partX (d % 9) gt bb.1.text) by
       have h9 := HX.out.step hkq (by have := HMM.out; omega) HQK.out HBB.out (w2 := wy) (HX.out.bel.trans (HW.out.mono HX.out.bel.size))
       rw [hjn, hnn, HGT.out] at h9
       exact h9)
      have hnew : (sb ++ [59, 32] ++ partX (d % 9) gt bb.1.text).length ≤ 900000 := by
       have := join_len (sb ++ [59, 32] ++ partX (d % 9) gt bb.1.text) (nn + 1) (loopP (innerD dd) most (f - 1) (nn + 1) ((q.drop (k + 1 + bb.2)).map (·.1))).1
       rw [← ST.out.text] at this
       omega
      have hpx : (bt (partX (d % 9) gt bb.1.text)).size ≤ 900000 := by
       show (partX (d % 9) gt bb.1.text).toArray.size ≤ 900000
       rw [List.length_append] at hnew
       simp only [List.size_toArray]
       omega
      have O1 := qh (show Calls Tryz.prog 32 #[.int .u8 ((d : Int) % 9), .string (bt gt), .string ⟨#[]⟩] wy (fun r w' => r = .returned (.string (bt (partX (d % 9) gt bb.1.text))) ∧ wy = w') by rw [HBE.out]; exact one_any_ (d % 9) (by omega) ((d : Int) % 9) (by omega) gt [] (by omega) (by decide) wy)
      clear hjn hnn h8 hn0
      go_wp2_with fail
      ((with_reducible refine O1.out.mono ?_); rintro e wv ⟨rfl, rfl⟩)
      clear O1
      go_wp2
      go_roundw
      case rel => exact ⟨k + 1 + bb.2, nn + 1, f - 1, sb ++ [59, 32] ++ partX (d % 9) gt bb.1.text, by omega, by omega, (by rw [HBZ.out]; first | go_num | (congr 1; omega)), by go_num, congrArg Value.string (Lx.bytes_ext (by simp [bt_data, ByteArray.data_append])), ST⟩
      case measure => simp [intOf]; omega
   ·by_cases hn0 : nn = 0
    ·have n0_ : ¬ (0 : Int) < (nn : Int) := by omega
     have hjn : (if nn = 0 then sb else sb ++ [59, 32]) = sb := if_pos hn0
     by_cases h8 : d % 9 = 8
     ·have e8_ : ((d : Int) % 9 == 8) = true := by rw [beq_iff_eq]; omega
      have hnn : (if d % 9 = 8 then nn + 2 else nn + 1) = nn + 2 := if_pos h8
      have ST := qh (show TX w wy total (innerD dd) most q (k + 1 + bb.2) (nn + 2) (f - 1) (sb ++ partX (d % 9) gt bb.1.text) by
       have h9 := HX.out.step hkq (by have := HMM.out; omega) HQK.out HBB.out (w2 := wy) (HX.out.bel.trans (HW.out.mono HX.out.bel.size))
       rw [hjn, hnn, HGT.out] at h9
       exact h9)
      have hnew : (sb ++ partX (d % 9) gt bb.1.text).length ≤ 900000 := by
       have := join_len (sb ++ partX (d % 9) gt bb.1.text) (nn + 2) (loopP (innerD dd) most (f - 1) (nn + 2) ((q.drop (k + 1 + bb.2)).map (·.1))).1
       rw [← ST.out.text] at this
       omega
      have hpx : (bt (partX (d % 9) gt bb.1.text)).size ≤ 900000 := by
       show (partX (d % 9) gt bb.1.text).toArray.size ≤ 900000
       rw [List.length_append] at hnew
       simp only [List.size_toArray]
       omega
      have O1 := qh (show Calls Tryz.prog 32 #[.int .u8 ((d : Int) % 9), .string (bt gt), .string ⟨#[]⟩] wy (fun r w' => r = .returned (.string (bt (partX (d % 9) gt bb.1.text))) ∧ wy = w') by rw [HBE.out]; exact one_any_ (d % 9) (by omega) ((d : Int) % 9) (by omega) gt [] (by omega) (by decide) wy)
      clear hjn hnn h8 hn0
      go_wp2_with fail
      ((with_reducible refine O1.out.mono ?_); rintro e wv ⟨rfl, rfl⟩)
      clear O1
      go_wp2
      go_roundw
      case rel => exact ⟨k + 1 + bb.2, nn + 2, f - 1, sb ++ partX (d % 9) gt bb.1.text, by omega, by omega, (by rw [HBZ.out]; first | go_num | (congr 1; omega)), by go_num, congrArg Value.string (Lx.bytes_ext (by simp [bt_data, ByteArray.data_append])), ST⟩
      case measure => simp [intOf]; omega
     ·have e8_ : ((d : Int) % 9 == 8) = false := by rw [beq_eq_false_iff_ne]; omega
      have hnn : (if d % 9 = 8 then nn + 2 else nn + 1) = nn + 1 := if_neg h8
      have ST := qh (show TX w wy total (innerD dd) most q (k + 1 + bb.2) (nn + 1) (f - 1) (sb ++ partX (d % 9) gt bb.1.text) by
       have h9 := HX.out.step hkq (by have := HMM.out; omega) HQK.out HBB.out (w2 := wy) (HX.out.bel.trans (HW.out.mono HX.out.bel.size))
       rw [hjn, hnn, HGT.out] at h9
       exact h9)
      have hnew : (sb ++ partX (d % 9) gt bb.1.text).length ≤ 900000 := by
       have := join_len (sb ++ partX (d % 9) gt bb.1.text) (nn + 1) (loopP (innerD dd) most (f - 1) (nn + 1) ((q.drop (k + 1 + bb.2)).map (·.1))).1
       rw [← ST.out.text] at this
       omega
      have hpx : (bt (partX (d % 9) gt bb.1.text)).size ≤ 900000 := by
       show (partX (d % 9) gt bb.1.text).toArray.size ≤ 900000
       rw [List.length_append] at hnew
       simp only [List.size_toArray]
       omega
      have O1 := qh (show Calls Tryz.prog 32 #[.int .u8 ((d : Int) % 9), .string (bt gt), .string ⟨#[]⟩] wy (fun r w' => r = .returned (.string (bt (partX (d % 9) gt bb.1.text))) ∧ wy = w') by rw [HBE.out]; exact one_any_ (d % 9) (by omega) ((d : Int) % 9) (by omega) gt [] (by omega) (by decide) wy)
      clear hjn hnn h8 hn0
      go_wp2_with fail
      ((with_reducible refine O1.out.mono ?_); rintro e wv ⟨rfl, rfl⟩)
      clear O1
      go_wp2
      go_roundw
      case rel => exact ⟨k + 1 + bb.2, nn + 1, f - 1, sb ++ partX (d % 9) gt bb.1.text, by omega, by omega, (by rw [HBZ.out]; first | go_num | (congr 1; omega)), by go_num, congrArg Value.string (Lx.bytes_ext (by simp [bt_data, ByteArray.data_append])), ST⟩
      case measure => simp [intOf]; omega
    ·have n0_ : (0 : Int) < (nn : Int) := by omega
     have hjn : (if nn = 0 then sb else sb ++ [59, 32]) = sb ++ [59, 32] := if_neg hn0
     by_cases h8 : d % 9 = 8
     ·have e8_ : ((d : Int) % 9 == 8) = true := by rw [beq_iff_eq]; omega
      have hnn : (if d % 9 = 8 then nn + 2 else nn + 1) = nn + 2 := if_pos h8
      have ST := qh (show TX w wy total (innerD dd) most q (k + 1 + bb.2) (nn + 2) (f - 1) (sb ++ [59, 32] ++ partX (d % 9) gt bb.1.text) by
       have h9 := HX.out.step hkq (by have := HMM.out; omega) HQK.out HBB.out (w2 := wy) (HX.out.bel.trans (HW.out.mono HX.out.bel.size))
       rw [hjn, hnn, HGT.out] at h9
       exact h9)
      have hnew : (sb ++ [59, 32] ++ partX (d % 9) gt bb.1.text).length ≤ 900000 := by
       have := join_len (sb ++ [59, 32] ++ partX (d % 9) gt bb.1.text) (nn + 2) (loopP (innerD dd) most (f - 1) (nn + 2) ((q.drop (k + 1 + bb.2)).map (·.1))).1
       rw [← ST.out.text] at this
       omega
      have hpx : (bt (partX (d % 9) gt bb.1.text)).size ≤ 900000 := by
       show (partX (d % 9) gt bb.1.text).toArray.size ≤ 900000
       rw [List.length_append] at hnew
       simp only [List.size_toArray]
       omega
      have O1 := qh (show Calls Tryz.prog 32 #[.int .u8 ((d : Int) % 9), .string (bt gt), .string ⟨#[]⟩] wy (fun r w' => r = .returned (.string (bt (partX (d % 9) gt bb.1.text))) ∧ wy = w') by rw [HBE.out]; exact one_any_ (d % 9) (by omega) ((d : Int) % 9) (by omega) gt [] (by omega) (by decide) wy)
      clear hjn hnn h8 hn0
      go_wp2_with fail
      ((with_reducible refine O1.out.mono ?_); rintro e wv ⟨rfl, rfl⟩)
      clear O1
      go_wp2
      go_roundw
      case rel => exact ⟨k + 1 + bb.2, nn + 2, f - 1, sb ++ [59, 32] ++ partX (d % 9) gt bb.1.text, by omega, by omega, (by rw [HBZ.out]; first | go_num | (congr 1; omega)), by go_num, congrArg Value.string (Lx.bytes_ext (by simp [bt_data, ByteArray.data_append])), ST⟩
      case measure => simp [intOf]; omega
     ·have e8_ : ((d : Int) % 9 == 8) = false := by rw [beq_eq_false_iff_ne]; omega
      have hnn : (if d % 9 = 8 then nn + 2 else nn + 1) = nn + 1 := if_neg h8
      have ST := qh (show TX w wy total (innerD dd) most q (k + 1 + bb.2) (nn + 1) (f - 1) (sb ++ [59, 32] ++ partX (d % 9) gt bb.1.text) by
       have h9 := HX.out.step hkq (by have := HMM.out; omega) HQK.out HBB.out (w2 := wy) (HX.out.bel.trans (HW.out.mono HX.out.bel.size))
       rw [hjn, hnn, HGT.out] at h9
       exact h9)
      have hnew : (sb ++ [59, 32] ++ partX (d % 9) gt bb.1.text).length ≤ 900000 := by
       have := join_len (sb ++ [59, 32] ++ partX (d % 9) gt bb.1.text) (nn + 1) (loopP (innerD dd) most (f - 1) (nn + 1) ((q.drop (k + 1 + bb.2)).map (·.1))).1
       rw [← ST.out.text] at this
       omega
      have hpx : (bt (partX (d % 9) gt bb.1.text)).size ≤ 900000 := by
       show (partX (d % 9) gt bb.1.text).toArray.size ≤ 900000
       rw [List.length_append] at hnew
       simp only [List.size_toArray]
       omega
      have O1 := qh (show Calls Tryz.prog 32 #[.int .u8 ((d : Int) % 9), .string (bt gt), .string ⟨#[]⟩] wy (fun r w' => r = .returned (.string (bt (partX (d % 9) gt bb.1.text))) ∧ wy = w') by rw [HBE.out]; exact one_any_ (d % 9) (by omega) ((d : Int) % 9) (by omega) gt [] (by omega) (by decide) wy)
      clear hjn hnn h8 hn0
      go_wp2_with fail
      ((with_reducible refine O1.out.mono ?_); rintro e wv ⟨rfl, rfl⟩)
      clear O1
      go_wp2
      go_roundw
      case rel => exact ⟨k + 1 + bb.2, nn + 1, f - 1, sb ++ [59, 32] ++ partX (d % 9) gt bb.1.text, by omega, by omega, (by rw [HBZ.out]; first | go_num | (congr 1; omega)), by go_num, congrArg Value.string (Lx.bytes_ext (by simp [bt_data, ByteArray.data_append])), ST⟩
      case measure => simp [intOf]; omega
theorem text_any : ∀ d, d ≤ 4 → TextIH d
 | 0, h => text_step 0 (by omega) (fun d' h' => absurd h' (by omega))
 | d + 1, h => text_step (d + 1) h (fun d' h' => by
    obtain rfl : d' = d := by omega
    exact text_any d' (by omega))
end St
end Go.Proofs.YtkemhmfdooghkaaGreatDoor
