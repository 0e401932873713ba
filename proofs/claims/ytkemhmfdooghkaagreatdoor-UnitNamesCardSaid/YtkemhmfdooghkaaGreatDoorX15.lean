import Derived.Test.YtkemhmfdooghkaaGreatDoorX14
set_option linter.unusedSimpArgs false
set_option linter.unusedVariables false
set_option maxRecDepth 100000
set_option maxHeartbeats 6400000
namespace Go.Proofs.YtkemhmfdooghkaaGreatDoor
namespace Rn
open Go.RowKit
open Lx (Tk noTk bt)
open Ex
def byV (l : List Nat) : List Value := l.map fun (n : Nat) => Value.int .u8 (n : Int)
structure Bys (w : World) (A : Option Addr) (c : Nat) (l : List Nat) : Prop where
 reads : Reads w w.heap.size 1 A l.length (byV l)
 cap : l.length ≤ c
 big : c ≤ 9223372036854775807
 fit : ∀ n ∈ l, n < 256
section
variable {w w' : World} {A : Option Addr} {c : Nat} {l : List Nat}
theorem Bys.below (h : Bys w A c l) (hb : Below w.heap.size w w') : Bys w' A c l := ⟨(h.reads.below hb).more hb.size, h.cap, h.big, h.fit⟩
theorem Bys.drop (h : Bys w A c l) {k : Nat} (hk : k ≤ l.length) : Bys w (if c = k then A else A.map (·.add (k * 1))) (c - k) (l.drop k) := by
 have hc := h.cap
 refine ⟨⟨by simp [byV], fun h0 => ?_⟩, by rw [List.length_drop]; omega, by have := h.big; omega, fun s hs => h.fit s (List.mem_of_mem_drop hs)⟩
 rw [List.length_drop] at h0
 obtain ⟨ad, e, hb, hcl⟩ := h.reads.2 (by omega)
 subst e
 rw [if_neg (by omega)]
 refine ⟨ad.add (k * 1), rfl, by rw [block_of_add]; exact hb, fun j u hu => ?_⟩
 rw [show byV (l.drop k) = (byV l).drop k by simp [byV], List.getElem?_drop] at hu
 rw [add_of_add, Nat.mul_one]
 exact hcl _ _ hu
theorem by_slice (h : Bys w A c l) {k : Nat} (hk : k ≤ l.length) (kI : Int) (e : kI = (k : Nat)) :
 ∃ A', (∀ w' : World, (Instr.slice 22 (.slice A l.length c) (some (.int .i64 kI)) none none).run Tryz.prog w' = .ok (.slice A' (l.drop k).length (c - k)) w') ∧ Bys w A' (c - k) (l.drop k) := by
 subst e
 refine ⟨_, fun w' => ?_, h.drop hk⟩
 have h0 : (0 : Int) ≤ (k : Int) := by omega
 have h1 : (k : Int) ≤ (l.length : Int) := by omega
 have hz : (Tryz.prog.elem 22) = 5 := by kernel_rfl
 simp [go_sem, h0, h1, sliced, Result.andThen, List.length_drop]
theorem Bys.first {a : Nat} (h : Bys w A c (a :: l)) : ∃ g off, A = some ⟨g, off, none⟩ ∧ g < w.heap.size ∧ w.cell? ⟨g, off, none⟩ = some (.int .u8 a) := by
 obtain ⟨⟨g, off, sp⟩, e, hb, hc⟩ := h.reads.2 (by simp)
 have c0 := hc 0 _ rfl
 have hs : sp = none := by
  have := World.cell?_spot c0
  simpa [Addr.add] using this
 subst hs
 exact ⟨g, off, e, hb, by simpa [Addr.add] using c0⟩
end
def TypeR (w : World) (t : Ty) (n : Nat) (e : Ending) (w' : World) : Prop := e = .returned (.tuple #[.string (bt t.text), .int .i64 n]) ∧ w = w'
def TypeIH (d : Nat) : Prop := ∀ (l : List Nat) (A : Option Addr) (c : Nat) (w : World), d ≤ 4 → Bys w A c l → ∀ D : Int, D = (d : Nat) → Calls Tryz.prog 17 #[.slice A l.length c, .int .i64 D] w (TypeR w (typeP d l).1 (typeP d l).2)
theorem type_size (d : Nat) (l : List Nat) (hd : d ≤ 4) : (bt (typeP d l).1.text).size ≤ 3200 ∧ (typeP d l).2 ≤ l.length := by
 obtain ⟨_, h1, h2⟩ := type_ok d l
 have h4 : (2 : Nat) ^ d ≤ 2 ^ 4 := Nat.pow_le_pow_right (by decide) hd
 have h5 : (2 : Nat) ^ 4 = 16 := rfl
 exact ⟨by show (typeP d l).1.text.toArray.size ≤ 3200; simp; omega, h1⟩
theorem ret2_ {s s' : ByteArray} {i i' : Int} (h1 : s = s') (h2 : i = i') : Ending.returned (.tuple #[.string s, .int .i64 i]) = .returned (.tuple #[.string s', .int .i64 i']) := by rw [h1, h2]
theorem type_z (d : Nat) (l : List Nat) (A : Option Addr) (c : Nat) (w : World) (D : Int) (h : l = [] ∨ D = 0) (hg : typeP d l = (.prim, 0)) : Calls Tryz.prog 17 #[.slice A l.length c, .int .i64 D] w (TypeR w (typeP d l).1 (typeP d l).2) := by
 rw [hg]
 have hx : ((l.length : Int) == 0) = true ∨ (((l.length : Int) == 0) = false ∧ (D == 0) = true) := by
  rcases h with rfl | rfl
  ·exact .inl rfl
  ·cases ((l.length : Int) == 0)
   ·exact .inr ⟨rfl, rfl⟩
   ·exact .inl rfl
 clear h hg
 rcases hx with b1 | ⟨b1, b2⟩
 all_goals
  go_enter Tryz.func17, Tryz.ntmps17
  go_wp2
  go_ret2
  exact ⟨rfl, rfl⟩
theorem type_step (d : Nat) (IH : TypeIH d) (a : Nat) (l : List Nat) (A : Option Addr) (c : Nat) (w : World) (h : Bys w A c (a :: l)) (D : Int) (hD : D = ((d + 1 : Nat) : Int)) (hd : d ≤ 3) :
 Calls Tryz.prog 17 #[.slice A (a :: l).length c, .int .i64 D] w (TypeR w (typeP (d + 1) (a :: l)).1 (typeP (d + 1) (a :: l)).2) := by
 obtain ⟨g0, off, rfl, hg0, k0⟩ := h.first
 have fa := h.fit a (by simp)
 have hcap := h.cap
 have hbig := h.big
 obtain ⟨N, hN⟩ : ∃ N, (a :: l).length = N := ⟨_, rfl⟩
 rw [hN] at hcap ⊢
 have hN1 : 1 ≤ N := by simp only [List.length_cons] at hN; omega
 have hlN : l.length + 1 = N := by simpa using hN
 have x1 : (0 : Int) ≤ (a : Int) := by omega
 have x2 : (a : Int) ≤ 255 := by omega
 have x5 : (1 : Int) ≤ (N : Int) := by omega
 have x6 : (1 : Int) ≤ D := by omega
 have x7 : ((N : Int) == 0) = false := by simp only [beq_eq_false_iff_ne, ne_eq]; omega
 have x8 : (D == 0) = false := by simp only [beq_eq_false_iff_ne, ne_eq]; omega
 have x9 : D ≤ 4 := by omega
 obtain ⟨A1, hs1, HS1⟩ := by_slice h (k := 1) (by simp only [List.length_cons]; omega) 1 rfl
 rw [hN, show ((a :: l).drop 1).length = l.length from rfl] at hs1
 have HS1 := qh (show Bys w A1 (c - 1) l from HS1)
 have HG := qh (typeP_succ d a l)
 obtain ⟨G1, m1, e1⟩ : ∃ G m, typeP d l = (G, m) := ⟨_, _, rfl⟩
 have z1 := type_size d l (by omega)
 rw [e1] at HG z1
 obtain ⟨z1, z2⟩ := z1
 simp only at z1 z2 HG
 have C1 := qh (show ∀ W, Bys W A1 (c - 1) l → Calls Tryz.prog 17 #[.slice A1 l.length (c - 1), .int .i64 (D - 1)] W (TypeR W G1 m1) from fun W hW => by
  have := IH l A1 (c - 1) W (by omega) hW (D - 1) (by rw [hD]; omega)
  rw [e1] at this
  exact this)
 have y1 : (0 : Int) ≤ (m1 : Int) := by omega
 have y2 : (m1 : Int) + 1 ≤ N := by omega
 obtain ⟨A2, hs2, HS2⟩ := by_slice h (k := 1 + m1) (by simp only [List.length_cons]; omega) (1 + (m1 : Int)) (by omega)
 have ed : (a :: l).drop (1 + m1) = l.drop m1 := by rw [Nat.add_comm]; rfl
 rw [hN, ed, List.length_drop] at hs2
 rw [ed] at HS2
 have HS2 := qh HS2
 obtain ⟨G2, m2, e2⟩ : ∃ G m, typeP d (l.drop m1) = (G, m) := ⟨_, _, rfl⟩
 have z3 := type_size d (l.drop m1) (by omega)
 rw [e2] at HG z3
 obtain ⟨z3, z4⟩ := z3
 rw [List.length_drop] at z4
 simp only at z3 z4 HG
 have C2 := qh (show ∀ W, Bys W A2 (c - (1 + m1)) (l.drop m1) → Calls Tryz.prog 17 #[.slice A2 (l.length - m1) (c - (1 + m1)), .int .i64 (D - 1)] W (TypeR W G2 m2) from fun W hW => by
  have := IH (l.drop m1) A2 (c - (1 + m1)) W (by omega) hW (D - 1) (by rw [hD]; omega)
  rw [e2, List.length_drop] at this
  exact this)
 have y3 : (0 : Int) ≤ (m2 : Int) := by omega
 have y4 : (m1 : Int) + m2 + 1 ≤ N := by omega
 have y5 : (N : Int) ≤ 9223372036854775807 := by omega
 have hk : a % 9 = 0 ∨ a % 9 = 1 ∨ a % 9 = 2 ∨ a % 9 = 3 ∨ a % 9 = 4 ∨ a % 9 = 5 ∨ a % 9 = 6 ∨ a % 9 = 7 ∨ a % 9 = 8 := by omega
 clear h IH hN hD hd fa e1 e2 ed
 generalize typeP (d + 1) (a :: l) = gg at *
 rcases hk with ea | ea | ea | ea | ea | ea | ea | ea | ea
 ·have HGk := qh (HG.out.trans (by rw [if_pos (by omega)]))
  have ea' : (a : Int) % 9 = 0 := by omega
  clear ea HG
  go_enter Tryz.func17, Tryz.ntmps17
  have D1 := qh (C1.out w HS1.out)
  go_wp2_with fail
  ((with_reducible refine D1.out.mono ?_); rintro e w1 ⟨rfl, rfl⟩)
  clear D1
  go_wp2
  go_ret2
  rw [HGk.out]
  exact ⟨ret2_ (Lx.bytes_ext (by simp [bt_data, Ty.text, ByteArray.data_append])) (by push_cast; omega), rfl⟩
 ·have HGk := qh (HG.out.trans (by rw [if_neg (by omega), if_pos (by omega)]))
  have ea' : (a : Int) % 9 = 1 := by omega
  clear ea HG
  go_enter Tryz.func17, Tryz.ntmps17
  have D1 := qh (C1.out w HS1.out)
  go_wp2_with fail
  ((with_reducible refine D1.out.mono ?_); rintro e w1 ⟨rfl, rfl⟩)
  clear D1
  have D2 := qh (C2.out w HS2.out)
  go_wp2_with fail
  ((with_reducible refine D2.out.mono ?_); rintro e w2 ⟨rfl, rfl⟩)
  clear D2
  go_wp2
  go_ret2
  rw [HGk.out]
  exact ⟨ret2_ (Lx.bytes_ext (by simp [bt_data, Ty.text, ByteArray.data_append])) (by push_cast; omega), rfl⟩
 ·have HGk := qh (HG.out.trans (by rw [if_neg (by omega), if_neg (by omega), if_pos (by omega)]))
  have ea' : (a : Int) % 9 = 2 := by omega
  clear ea HG
  go_enter Tryz.func17, Tryz.ntmps17
  have D1 := qh (C1.out w HS1.out)
  go_wp2_with fail
  ((with_reducible refine D1.out.mono ?_); rintro e w1 ⟨rfl, rfl⟩)
  clear D1
  go_wp2
  go_ret2
  rw [HGk.out]
  exact ⟨ret2_ (Lx.bytes_ext (by simp [bt_data, Ty.text, ByteArray.data_append])) (by push_cast; omega), rfl⟩
 ·have HGk := qh (HG.out.trans (by rw [if_neg (by omega), if_neg (by omega), if_neg (by omega), if_pos (by omega)]))
  have ea' : (a : Int) % 9 = 3 := by omega
  clear ea HG
  go_enter Tryz.func17, Tryz.ntmps17
  have D1 := qh (C1.out w HS1.out)
  go_wp2_with fail
  ((with_reducible refine D1.out.mono ?_); rintro e w1 ⟨rfl, rfl⟩)
  clear D1
  go_wp2
  go_ret2
  rw [HGk.out]
  exact ⟨ret2_ (Lx.bytes_ext (by simp [bt_data, Ty.text, ByteArray.data_append])) (by push_cast; omega), rfl⟩
 ·have HGk := qh (HG.out.trans (by rw [if_neg (by omega), if_neg (by omega), if_neg (by omega), if_neg (by omega), if_pos (by omega)]))
  have ea' : (a : Int) % 9 = 4 := by omega
  clear ea HG
  go_enter Tryz.func17, Tryz.ntmps17
  go_wp2
  go_ret2
  rw [HGk.out]
  exact ⟨rfl, rfl⟩
 ·have HGk := qh (HG.out.trans (by rw [if_neg (by omega), if_neg (by omega), if_neg (by omega), if_neg (by omega), if_neg (by omega), if_pos (by omega)]))
  have ea' : (a : Int) % 9 = 5 := by omega
  clear ea HG
  go_enter Tryz.func17, Tryz.ntmps17
  go_wp2
  go_ret2
  rw [HGk.out]
  exact ⟨rfl, rfl⟩
 ·have HGk := qh (HG.out.trans (by rw [if_neg (by omega), if_neg (by omega), if_neg (by omega), if_neg (by omega), if_neg (by omega), if_neg (by omega), if_pos (by omega)]))
  have ea' : (a : Int) % 9 = 6 := by omega
  clear ea HG
  go_enter Tryz.func17, Tryz.ntmps17
  go_wp2
  go_ret2
  rw [HGk.out]
  exact ⟨rfl, rfl⟩
 ·have HGk := qh (HG.out.trans (by rw [if_neg (by omega), if_neg (by omega), if_neg (by omega), if_neg (by omega), if_neg (by omega), if_neg (by omega), if_neg (by omega), if_pos (by omega)]))
  have ea' : (a : Int) % 9 = 7 := by omega
  clear ea HG
  go_enter Tryz.func17, Tryz.ntmps17
  go_wp2
  go_ret2
  rw [HGk.out]
  exact ⟨rfl, rfl⟩
 ·have HGk := qh (HG.out.trans (by rw [if_neg (by omega), if_neg (by omega), if_neg (by omega), if_neg (by omega), if_neg (by omega), if_neg (by omega), if_neg (by omega), if_neg (by omega)]))
  have ea' : (a : Int) % 9 = 8 := by omega
  clear ea HG
  go_enter Tryz.func17, Tryz.ntmps17
  go_wp2
  go_ret2
  rw [HGk.out]
  exact ⟨rfl, rfl⟩
theorem type_any : ∀ d, d ≤ 4 → TypeIH d
 | 0, hd => fun l A c w _ h D hD => type_z 0 l A c w D (.inr hD) rfl
 | d + 1, hd => fun l A c w _ h D hD => by
   cases l with
   | nil => exact type_z (d + 1) [] A c w D (.inl rfl) rfl
   | cons s l => exact type_step d (type_any d (by omega)) s l A c w h D hD (by omega)
end Rn
namespace Rn
open Go.RowKit
open Lx (Tk noTk bt Blk)
open Ex
open St (Prt Parts textP text_any text_ok text_len lenB)
abbrev madeV (k : Nat) (A1 : Option Addr) (n1 c1 : Nat) (A2 : Option Addr) (n2 c2 : Nat) : Array Value := #[.int .u8 k, .slice A1 n1 c1, .slice A2 n2 c2]
def srcX (k : Nat) (l : List Nat) (q : List (Prt × Value)) : List UInt8 := unitX (k % 4) (typeP 4 l).1.text (textP 3 5 (q.map (·.1))).1.text
theorem ret_s {s s' : ByteArray} (h : s = s') : Ending.returned (.string s) = .returned (.string s') := by rw [h]
theorem unitX_3 (t x : List UInt8) : unitX 3 t x = b_u3a ++ 32 :: (t ++ 59 :: 32 :: (b_u2b ++ 32 :: (x ++ 32 :: b_u3d))) := rfl
theorem source_any {k : Nat} (hk : k < 256) {l : List Nat} {A1 A2 : Option Addr} {c1 c2 : Nat} {q : List (Prt × Value)} {w : World} (hl : Bys w A1 c1 l) (hq : Parts w A2 c2 q) (hq10 : q.length ≤ 10) :
 Calls Tryz.prog 9 #[.agg (madeV k A1 l.length c1 A2 q.length c2)] w fun e w' => e = .returned (.string (bt (srcX k l q))) ∧ Below w.heap.size w w' := by
 have hb0 : Below w.heap.size w (w.alloc (.cells (madeV k A1 l.length c1 A2 q.length c2) 25)) := (Below.refl _ _).alloc nl _
 have HB0 := qh hb0
 have HK := qh (Blk.new w 25 (madeV k A1 l.length c1 A2 q.length c2))
 have D1 := qh (type_any 4 (by decide) l A1 c1 _ (by decide) (hl.below hb0) 4 rfl)
 have HQ := qh hq
 have hts := (type_size 4 l (by decide)).1
 have htn := (type_size 4 l (by decide)).2
 have hxs : (bt (textP 3 5 (q.map (·.1))).1.text).size ≤ 200000 := by
  have h1 := text_len 3 5 (q.map (·.1)) hq.fit
  have h2 := (text_ok 3 5 (q.map (·.1)) hq.fit).2
  rw [List.length_map] at h2
  have h3 : lenB 3 = 19500 := rfl
  rw [h3] at h1
  show (textP 3 5 (q.map (·.1))).1.text.toArray.size ≤ 200000
  simp
  omega
 have HR : ∃ t x, t = (typeP 4 l).1.text ∧ x = (textP 3 5 (q.map (·.1))).1.text ∧ srcX k l q = unitX (k % 4) t x := ⟨_, _, rfl, rfl, rfl⟩
 obtain ⟨t, x, ht, hx, hr⟩ := HR
 have HT := qh ht
 have HX := qh hx
 rw [← ht] at hts
 rw [← hx] at hxs
 have x1 : (0 : Int) ≤ (k : Int) := by omega
 have x2 : (k : Int) ≤ 255 := by omega
 have k4 : k % 4 = 0 ∨ k % 4 = 1 ∨ k % 4 = 2 ∨ k % 4 = 3 := by omega
 have HRR := qh hr
 have HL := qh hl
 clear hl hq hb0 ht hx hr
 go_enter Tryz.func9, Tryz.ntmps9
 go_wp2_with fail
 ((with_reducible refine D1.out.mono ?_); rintro e w1 ⟨rfl, rfl⟩)
 have v2 := HK.out.cell 2
 have D2 := qh (text_any 3 (by decide) q A2 c2 (w.alloc (.cells (madeV k A1 l.length c1 A2 q.length c2) 25)) 5 (by omega) (by decide) (HQ.out.below HB0.out) 5 3 rfl rfl)
 clear D1
 go_wp2_with fail
 ((with_reducible refine D2.out.mono ?_); rintro e w2 ⟨n, rfl, hb⟩)
 have HK2 := qh (HK.out.below hb HK.out.lt)
 have HB2 := qh (HB0.out.trans (hb.mono HB0.out.size))
 have v0 : w2.cell? ⟨w.heap.size, 0, none⟩ = some (.int .u8 k) := HK2.out.cell 0
 clear hb D2 v2
 rw [← HT.out, ← HX.out]
 rcases k4 with e4 | e4 | e4 | e4
 ·have e5 : (k : Int) % 4 = 0 := by omega
  have HR2 := qh (HRR.out.trans (congrArg (fun m => unitX m t x) e4))
  clear e4
  go_wp2
  go_ret
  refine ⟨ret_s ?_, HB2.out⟩
  rw [HR2.out]
  exact Lx.bytes_ext (by simp [bt_data, unitX, ByteArray.data_append])
 ·have e5 : (k : Int) % 4 = 1 := by omega
  have HR2 := qh (HRR.out.trans (congrArg (fun m => unitX m t x) e4))
  clear e4
  go_wp2
  go_ret
  refine ⟨ret_s ?_, HB2.out⟩
  rw [HR2.out]
  exact Lx.bytes_ext (by simp [bt_data, unitX, ByteArray.data_append])
 ·have e5 : (k : Int) % 4 = 2 := by omega
  have HR2 := qh (HRR.out.trans (congrArg (fun m => unitX m t x) e4))
  clear e4
  go_wp2
  go_ret
  refine ⟨ret_s ?_, HB2.out⟩
  rw [HR2.out]
  exact Lx.bytes_ext (by simp [bt_data, unitX, ByteArray.data_append])
 ·have e5 : (k : Int) % 4 = 3 := by omega
  have HR2 := qh (HRR.out.trans (congrArg (fun m => unitX m t x) e4))
  clear e4
  go_wp2
  go_ret
  refine ⟨ret_s ?_, HB2.out⟩
  rw [HR2.out]
  exact Lx.bytes_ext (by simp [bt_data, unitX_3, ByteArray.data_append])
end Rn
namespace Ex
open Go.RowKit
open Tr (Nd Fo RepS RepN Rep)
open Lx (Tk noTk Blk run_store_complexL TokAt)
open Fl
open St (Good2 g2_max)
attribute [local go_sem] run_store_complexL run_field1 run_field3
section
variable {α β : Type} {p : Par α} {q : α → Par β} {L : List PT} {i j k : Nat} {a : α}
theorem yb_ok (h : p L i = .ok (a, j)) : bindP p q L i = q a L j := by unfold bindP; rw [h]
theorem yb_err (h : p L i = .error k) : bindP p q L i = .error k := by unfold bindP; rw [h]
theorem yn_y {s : ByteArray} {p : Par α} (h : isT L i s = true) : needF s p L i = p L (i + 1) := if_pos h
theorem yn_n {s : ByteArray} {p : Par α} (h : isT L i s = false) : needF s p L i = .error i := if_neg (show ¬ isT L i s = true by rw [h]; simp)
theorem yt_y {t : PT → Bool} {A : PT → Par α} {B : Par α} (h : t (tk L i) = true) : tokP t A B L i = A (tk L i) L (i + 1) := if_pos h
theorem yt_n {t : PT → Bool} {A : PT → Par α} {B : Par α} (h : t (tk L i) = false) : tokP t A B L i = B L i := if_neg (by rw [h]; simp)
end
structure S1 {β : Type} (w0 w wx : World) (br c : Nat) (A : Option Addr) (L : List PT) (res : Except Nat (β × Nat)) (p : Par β) (j : Nat) : Prop where
 pg : PG w0 w wx br A c L j
 eq : res = p L j
 le : j ≤ L.length
abbrev EK {β : Type} (res : Except Nat (β × Nat)) (w : World) (br : Nat) (K : Ending → World → Prop) : Prop := ∀ k w', Hid (res = .error k) → Hid (w.grownBy w' (some br)) → K (bad k) w'
def tkOf (k p1 p2 q1 q2 : Nat) (t : ByteArray) (n : Int) : PT := ((⟨k, t, n⟩ : Tk), (p1, p2), (q1, q2))
abbrev tkV (k p1 p2 q1 q2 : Nat) (t : ByteArray) (n : Int) : Value := .agg #[.int .u8 k, .complex .f64 (fl p1) (fl p2), .complex .f64 (fl q1) (fl q2), .string t, .int .i64 n]
section
variable {α β γ : Type} {w0 w wx w1 : World} {br c j : Nat} {A : Option Addr} {L : List PT} {res : Except Nat (β × Nat)} {K : Ending → World → Prop}
theorem S1.start {p : Par β} (h : PInv w0 w br A c L j) (hj : j ≤ L.length) (he : res = p L j) : S1 w0 w w br c A L res p j := ⟨PG.start h, he, hj⟩
theorem S1.of {p q : Par β} (S : S1 w0 w wx br c A L res p j) (h : p L j = q L j) : S1 w0 w wx br c A L res q j := ⟨S.pg, S.eq.trans h, S.le⟩
theorem S1.below {p : Par β} (S : S1 w0 w wx br c A L res p j) (hb : Below wx.heap.size wx w1) : S1 w0 w w1 br c A L res p j := ⟨S.pg.below hb, S.eq, S.le⟩
theorem S1.need {p : Par β} {s : ByteArray} (S : S1 w0 w wx br c A L res (needF s p) j) (ht : Toks w0 br A L) (E : EK res w br K)
 (C : ∀ w', Hid (S1 w0 w w' br c A L res p (j + 1)) → Hid (wx.grownBy w' (some br)) → K (.returned (.tuple #[])) w') :
 Calls Tryz.prog 159 #[.pointer (some ⟨br, 0, none⟩), .string s] wx K := by
 have hl := ht.len
 have hj := S.le
 cases hT : isT L j s with
 | false =>
   refine (need_no ht (i := j) (by omega) s _ S.pg.1 hT).mono ?_
   rintro e w' ⟨rfl, hb⟩
   exact E j w' (qh (S.eq.trans (yn_n hT))) (qh (grown_trans S.pg.2 hb))
 | true =>
   have hjn := isT_lt hT
   refine (need_ok ht (i := j) (by omega) s _ S.pg.1 hT).mono ?_
   rintro e w' ⟨rfl, hb⟩
   exact C w' (qh ⟨S.pg.trans hb, S.eq.trans (yn_y hT), hjn⟩) (qh hb.2)
theorem S1.eat {a : PT → Par β} {b : Par β} {s : ByteArray} (S : S1 w0 w wx br c A L res (tokP (tT s) a b) j) (ht : Toks w0 br A L)
 (Y : ∀ w', Hid (S1 w0 w w' br c A L res (a (tk L j)) (j + 1)) → Hid (wx.grownBy w' (some br)) → Hid (isT L j s = true) → K (.returned (.bool true)) w')
 (N : ∀ w', Hid (S1 w0 w w' br c A L res b j) → Hid (wx.grownBy w' (some br)) → Hid (isT L j s = false) → K (.returned (.bool false)) w') :
 Calls Tryz.prog 144 #[.pointer (some ⟨br, 0, none⟩), .string s] wx K := by
 have hl := ht.len
 have hj := S.le
 cases hT : isT L j s with
 | false =>
   refine (eat_no ht (i := j) (by omega) s _ S.pg.1 hT).mono ?_
   rintro e w' ⟨rfl, hb⟩
   exact N w' (qh ⟨S.pg.trans hb, S.eq.trans (yt_n (t := tT s) hT), hj⟩) (qh hb.2) (qh hT)
 | true =>
   have hjn := isT_lt hT
   refine (eat_yes ht (i := j) (by omega) s _ S.pg.1 hT).mono ?_
   rintro e w' ⟨rfl, hb⟩
   exact Y w' (qh ⟨S.pg.trans hb, S.eq.trans (yt_y (t := tT s) hT), hjn⟩) (qh hb.2) (qh hT)
theorem S1.is {p : Par β} {s : ByteArray} (S : S1 w0 w wx br c A L res p j) (ht : Toks w0 br A L)
 (C : ∀ w', Hid (S1 w0 w w' br c A L res p j) → Hid (wx.grownBy w' (some br)) → K (.returned (.bool (isT L j s))) w') :
 Calls Tryz.prog 162 #[.pointer (some ⟨br, 0, none⟩), .string s] wx K := by
 have hl := ht.len
 have hj := S.le
 refine (is_any ht (i := j) (by omega) s _ S.pg.1).mono ?_
 rintro e w' ⟨rfl, hb⟩
 exact C w' (qh (S.below hb)) (qh (grown_of_below hb _))
theorem S1.now {q : PT → Par β} (S : S1 w0 w wx br c A L res (posP q) j) (ht : Toks w0 br A L)
 (C : ∀ k p1 p2 q1 q2 t n w', Hid (tk L j = tkOf k p1 p2 q1 q2 t n) → Hid (S1 w0 w w' br c A L res (q (tkOf k p1 p2 q1 q2 t n)) j) → Hid (wx.grownBy w' (some br)) → K (.returned (tkV k p1 p2 q1 q2 t n)) w') :
 Calls Tryz.prog 143 #[.pointer (some ⟨br, 0, none⟩)] wx K := by
 have hl := ht.len
 have hj := S.le
 obtain ⟨k, p1, p2, q1, q2, t, n, e1, e2⟩ := val_form (tk L j)
 refine (now_any ht (i := j) (by omega) _ S.pg.1).mono ?_
 rintro e w' ⟨rfl, hb⟩
 rw [e2]
 exact C k p1 p2 q1 q2 t n w' (qh e1) (qh ⟨S.pg.below hb, S.eq.trans (by show q (tk L j) L j = _; rw [e1]; rfl), hj⟩) (qh (grown_of_below hb _))
theorem S1.now' {p : Par β} (S : S1 w0 w wx br c A L res p j) (ht : Toks w0 br A L)
 (C : ∀ k p1 p2 q1 q2 t n w', Hid (tk L j = tkOf k p1 p2 q1 q2 t n) → Hid (S1 w0 w w' br c A L res p j) → Hid (wx.grownBy w' (some br)) → K (.returned (tkV k p1 p2 q1 q2 t n)) w') :
 Calls Tryz.prog 143 #[.pointer (some ⟨br, 0, none⟩)] wx K :=
 S1.now (q := fun _ => p) ⟨S.pg, S.eq, S.le⟩ ht C
theorem S1.tree {P : Par T1} {q : T1 → Par β} {F : Nat} {args : Array Value} (S : S1 w0 w wx br c A L res (bindP P q) j) (D : Calls Tryz.prog F args wx (TreeR wx.heap.size w0 wx br A c L (P L j))) (G : Good2 P) (E : EK res w br K)
 (C : ∀ x b j' w', j ≤ j' → Hid (S1 w0 w w' br c A L res (q x) j') → Hid (wx.grownBy w' (some br)) → Hid (RepS (fun y => wx.heap.size ≤ y) w' (.node x.1 x.2 .no) [.pointer (some ⟨b, 0, none⟩)]) → K (.returned (.pointer (some ⟨b, 0, none⟩))) w') :
 Calls Tryz.prog F args wx K := by
 have hm := g2_max G L j
 cases hx : P L j with
 | error k =>
   rw [hx] at D
   refine D.mono ?_
   rintro e w' ⟨rfl, hb⟩
   exact E k w' (qh (S.eq.trans (yb_err hx))) (qh (grown_trans S.pg.2 hb))
 | ok r =>
   obtain ⟨x, j'⟩ := r
   rw [hx] at D hm
   refine D.mono ?_
   rintro e w' ⟨b, rfl, hp, hg, hr⟩
   exact C x b j' w' hm.1 (qh ⟨S.pg.trans ⟨hp, hg⟩, S.eq.trans (yb_ok hx), hm.2.1 S.le⟩) (qh hg) (qh hr)
theorem S1.treeD {P : Par T1} {q : T1 → Par β} {F : Nat} {args : Array Value} (S : S1 w0 w wx br c A L res (bindP P q) j) (D : Calls Tryz.prog F args wx (TreeR wx.heap.size w0 wx br A c L (P L j))) (G : Good2 P) :
 Calls Tryz.prog F args wx (fun e w' => (∃ k, e = bad k ∧ Hid (res = .error k) ∧ Hid (w.grownBy w' (some br))) ∨ ∃ x b j', e = .returned (.pointer (some ⟨b, 0, none⟩)) ∧ j ≤ j' ∧ Hid (S1 w0 w w' br c A L res (q x) j') ∧ Hid (wx.grownBy w' (some br)) ∧ Hid (RepS (fun y => wx.heap.size ≤ y) w' (.node x.1 x.2 .no) [.pointer (some ⟨b, 0, none⟩)])) :=
 S.tree D G (fun k w' h hg => .inl ⟨k, rfl, h, hg⟩) (fun x b j' w' h1 h2 h3 h4 => .inr ⟨x, b, j', rfl, h1, h2, h3, h4⟩)
theorem S1.doneT {x : T1} {b : Nat} {res : Except Nat (T1 × Nat)} (S : S1 w0 w wx br c A L res (retP x) j) (h : RepS (fun y => w.heap.size ≤ y) wx (.node x.1 x.2 .no) [.pointer (some ⟨b, 0, none⟩)]) : TreeR w.heap.size w0 w br A c L res (.returned (.pointer (some ⟨b, 0, none⟩))) wx := by
 rw [S.eq]
 exact ⟨b, rfl, S.pg.1, S.pg.2, h⟩
theorem S1.errT {res : Except Nat (T1 × Nat)} {k : Nat} (h : res = .error k) (hg : w.grownBy w1 (some br)) (B : Nat) : TreeR B w0 w br A c L res (bad k) w1 := by
 rw [h]; exact ⟨rfl, hg⟩
theorem S1.inc {a : PT → Par β} {b : Par β} {t : PT → Bool} (S : S1 w0 w wx br c A L res (tokP t a b) j) (hT : t (tk L j) = true) (h0 : t noPT = false) : S1 w0 w (wx.setCell ⟨br, 1, none⟩ (.int .i64 (j + 1 : Nat))) br c A L res (a (tk L j)) (j + 1) := by
 refine ⟨⟨(S.pg.1.set_ (j + 1)).1, grown_trans S.pg.2 (S.pg.1.set_ (j + 1)).2⟩, S.eq.trans (yt_y hT), ?_⟩
 rcases Nat.lt_or_ge j L.length with h | h
 ·exact h
 ·rw [tk_end h, h0] at hT; cases hT
theorem S1.yes {p q : Par β} {k : Prop} [Decidable k] (S : S1 w0 w wx br c A L res (if k then p else q) j) (h : k) : S1 w0 w wx br c A L res p j := by rw [if_pos h] at S; exact S
theorem S1.no {p q : Par β} {k : Prop} [Decidable k] (S : S1 w0 w wx br c A L res (if k then p else q) j) (h : ¬ k) : S1 w0 w wx br c A L res q j := by rw [if_neg h] at S; exact S
end
theorem bind_pure {α : Type} (p : Par α) (L : List PT) (i : Nat) : p L i = bindP p retP L i := by
 unfold bindP; cases p L i <;> rfl
section
variable {α β γ : Type} {p : Par α} {q : α → Par β} {r : β → Par γ} {s : ByteArray} {t : PT → Bool}
theorem sb_assoc : bindP (bindP p q) r = bindP p (fun x => bindP (q x) r) := by
 funext L i; unfold bindP; cases p L i <;> rfl
theorem sb_tok {A : PT → Par α} {B : Par α} : bindP (tokP t A B) q = tokP t (fun u => bindP (A u) q) (bindP B q) := by
 funext L i; unfold bindP tokP
 by_cases h : t (tk L i) = true
 ·simp only [if_pos h]
 ·simp only [if_neg h]
theorem sb_need : bindP (needF s p) q = needF s (bindP p q) := by
 unfold needF; rw [sb_tok]; rfl
theorem sb_ret {a : α} : bindP (retP a) q = q a := by funext L i; rfl
theorem sb_pos {f : PT → Par α} : bindP (posP f) q = posP fun t => bindP (f t) q := by funext L i; rfl
end
section
variable {α β γ : Type} {w0 w wx w1 : World} {br c j : Nat} {A : Option Addr} {L : List PT} {res : Except Nat (β × Nat)} {K : Ending → World → Prop}
theorem S1.name {q : PT → Par β} (S : S1 w0 w wx br c A L res (bindP nameP q) j) (ht : Toks w0 br A L) (E : EK res w br K)
 (C : ∀ k p1 p2 q1 q2 t n w', Hid (S1 w0 w w' br c A L res (q (tkOf k p1 p2 q1 q2 t n)) (j + 1)) → Hid (wx.grownBy w' (some br)) → K (.returned (tkV k p1 p2 q1 q2 t n)) w') :
 Calls Tryz.prog 170 #[.pointer (some ⟨br, 0, none⟩)] wx K := by
 have hl := ht.len
 have hj := S.le
 by_cases hk : (tk L j).1.kind = 1
 ·have hjl : j < L.length := by
   rcases Nat.lt_or_ge j L.length with h | h
   ·exact h
   ·rw [tk_end h] at hk; cases hk
  obtain ⟨k, p1, p2, q1, q2, t, n, e1, e2⟩ := val_form (tk L j)
  have D := name_ok ht (i := j) (by omega) _ S.pg.1 hk
  rw [e2] at D
  refine D.mono ?_
  rintro e w' ⟨rfl, hb⟩
  exact C k p1 p2 q1 q2 t n w' (qh ⟨S.pg.trans hb, S.eq.trans ((yb_ok (a := tk L j) (j := j + 1) (by unfold nameP; rw [if_pos hk])).trans (by rw [e1]; rfl)), hjl⟩) (qh hb.2)
 ·refine (name_no ht (i := j) (by omega) _ S.pg.1 hk).mono ?_
  rintro e w' ⟨rfl, hb⟩
  exact E j w' (qh (S.eq.trans (yb_err (by unfold nameP; rw [if_neg hk])))) (qh (grown_trans S.pg.2 hb))
end
theorem dotP_par {L : List PT} {x : T1} {j : Nat} (hT : isT L j sDot = true) {β : Type} (q : T1 → Par β) (b : Par β) : tokP (tT sDot) (fun t0 => bindP nameP fun t => q (mk 2 t0.2.1 t.1.text 0 [x])) b L j = (match dotP L x j with | .error k => .error k | .ok (y, j') => q y L j') := by
 rw [yt_y (t := tT sDot) hT]
 unfold bindP dotP need
 rw [if_pos hT]
 dsimp only
 cases nameP L (j + 1) with
 | error k => rfl
 | ok r => rfl
theorem S1.dot {β : Type} {w0 w wx : World} {br c j : Nat} {A : Option Addr} {L : List PT} {res : Except Nat (β × Nat)} {K : Ending → World → Prop} {q : T1 → Par β} {b : Par β} {x : T1} {bx : Nat} (S : S1 w0 w wx br c A L res (tokP (tT sDot) (fun t0 => bindP nameP fun t => q (Ex.mk 2 t0.2.1 t.1.text 0 [x])) b) j) (ht : Toks w0 br A L) (hT : isT L j sDot = true) (hbr : br < w.heap.size)
 (HX : RepS (fun y => w.heap.size ≤ y) wx (.node x.1 x.2 .no) [.pointer (some ⟨bx, 0, none⟩)]) (E : EK res w br K)
 (C : ∀ y b' j' w', j < j' → Hid (S1 w0 w w' br c A L res (q y) j') → Hid (wx.grownBy w' (some br)) → Hid (RepS (fun y => w.heap.size ≤ y) w' (.node y.1 y.2 .no) [.pointer (some ⟨b', 0, none⟩)]) → K (.returned (.pointer (some ⟨b', 0, none⟩))) w') :
 Calls Tryz.prog 168 #[.pointer (some ⟨br, 0, none⟩), .pointer (some ⟨bx, 0, none⟩)] wx K := by
 have hl := ht.len
 have hj := S.le
 have D := dot_any ht (i := j) (by omega) x bx wx S.pg.1 hbr S.pg.2.size HX hT
 have he := S.eq.trans (dotP_par hT q b)
 cases hd : dotP L x j with
 | error k =>
   rw [hd] at D he
   refine D.mono ?_
   rintro e w' ⟨rfl, hb⟩
   exact E k w' (qh he) (qh (grown_trans S.pg.2 hb))
 | ok r =>
   obtain ⟨y, j'⟩ := r
   rw [hd] at D he
   have h2 : j' = j + 2 := by
    unfold dotP Ex.need nameP at hd
    rw [if_pos hT] at hd
    dsimp only at hd
    by_cases hk : (tk L (j + 1)).1.kind = 1
    ·rw [if_pos hk] at hd; cases hd; rfl
    ·rw [if_neg hk] at hd; cases hd
   have h3 : j + 1 < L.length := by
    unfold dotP Ex.need nameP at hd
    rw [if_pos hT] at hd
    dsimp only at hd
    rcases Nat.lt_or_ge (j + 1) L.length with h | h
    ·exact h
    ·rw [tk_end h, if_neg (by decide)] at hd; cases hd
   refine D.mono ?_
   rintro e w' ⟨b', rfl, hp, hg, hr⟩
   exact C y b' j' w' (by omega) (qh ⟨S.pg.trans ⟨hp, hg⟩, he, by omega⟩) (qh hg) (qh hr)
theorem qual_y {g : Nat} {w0 : World} {br c : Nat} {A : Option Addr} {L : List PT} (ht : Toks w0 br A L) (hgL : L.length < g) (i : Nat) (hi : i ≤ L.length) (w : World) (h : PInv w0 w br A c L i) :
 Calls Tryz.prog 167 #[.pointer (some ⟨br, 0, none⟩)] w (TreeR w.heap.size w0 w br A c L (qualF g L i)) := by
 have hbr := h.row.lt
 have H0 := qh h
 have HT := qh ht
 obtain ⟨res, hs0⟩ : ∃ r, r = qualF g L i := ⟨_, rfl⟩
 rw [← hs0]
 have S := qh (S1.start h hi hs0)
 clear h ht hs0 hi
 go_enter Tryz.func167, Tryz.ntmps167
 unfold qualF at S
 go_wp2_with fail
 (with_reducible refine S.out.name HT.out ?_ ?_)
 ·intro k w1 h hg; go_wp2; exact ⟨rfl, S1.errT h.out hg.out _⟩
 clear S
 intro k_t t1 t2 q3_t q4_t t_t n_t wx S hg
 have S := qh (S.out.below ((Below.refl _ _).alloc nl (.cells #[.int .u8 k_t, .complex .f64 (fl t1) (fl t2), .complex .f64 (fl q3_t) (fl q4_t), .string t_t, .int .i64 n_t] 40)))
 have NW := qh (new_at (B := w.heap.size) (w := wx.alloc (.cells #[.int .u8 k_t, .complex .f64 (fl t1) (fl t2), .complex .f64 (fl q3_t) (fl q4_t), .string t_t, .int .i64 n_t] 40)) S.out.pg.2.size 1 1 rfl t1 t2 t_t 0 none 0 0 [] .no rfl (by omega) Reads.none_ (by unfold RepN; rfl))
 go_wp2_with fail
 ((with_reducible refine NW.out.mono ?_); rintro e wy ⟨bx, rfl, hb, hr⟩)
 have S := qh (S.out.below hb)
 have HR := qh hr
 clear hb hr NW
 go_wp2_with fail
 go_loopg [4] (L.length + 1) (fun gh xv wr => ∃ (x : T1) (bx j f : Nat), xv = .pointer (some ⟨bx, 0, none⟩) ∧ L.length + 1 - j ≤ gh ∧ L.length < j + f ∧ Hid (S1 w0 w wr br c A L res (dotsF f x) j) ∧ Hid (RepS (fun y => w.heap.size ≤ y) wr (.node x.1 x.2 .no) [.pointer (some ⟨bx, 0, none⟩)]))
 case atStart => exact ⟨_, bx, i + 1, g, rfl, by omega, by omega, S, HR⟩
 case round =>
  clear S HR
  obtain ⟨x, bx, j, f, rfl, hgh, hf, S, Hx⟩ := hrel
  have hjl := S.out.le
  obtain ⟨f, rfl⟩ : ∃ f', f = f' + 1 := ⟨f - 1, by omega⟩
  have S := qh (S.out.of (q := tokP (tT sDot) (fun t0 => bindP nameP fun t => dotsF f (mk 2 t0.2.1 t.1.text 0 [x])) (retP x)) rfl)
  go_wp2_with fail
  (with_reducible refine S.out.is HT.out ?_)
  clear S
  intro wx S hg
  have Hx := qh (repS_grown Hx.out hg.out hbr)
  cases hT : isT L j sDot with
  | false =>
    have S := qh (S.out.of (yt_n (t := tT sDot) hT))
    go_wp2
    go_ret
    exact S.out.doneT Hx.out
  | true =>
    have hjn := isT_lt hT
    go_wp2_with fail
    (with_reducible refine S.out.dot HT.out hT hbr Hx.out ?_ ?_)
    ·intro k w1 h hg; go_wp2; exact ⟨rfl, S1.errT h.out hg.out _⟩
    clear S
    intro y b9 j2 wx hj2 S hg Hx
    go_wp2
    go_roundg (L.length + 1 - j2)
    case rel => exact ⟨_, b9, j2, f, rfl, by omega, by omega, S, Hx⟩
    case measure => omega
theorem new_litE {B : Nat} {w : World} (hw : B ≤ w.heap.size) (kI : Int) (kind : Nat) (hkI : kI = (kind : Int)) (p1 p2 : Nat) (name : ByteArray) (vs : List Value) (l : List T1) (m : Nat) (hm : w.heap.size = m) (n : Nat) (hn : vs.length = n) (hv : n ≤ 1000) (hk : RepN (fun x => B ≤ x) w (forest l) vs) :
 Calls Tryz.prog 33 #[.int .u8 kI, .complex .f64 (fl p1) (fl p2), .string name, .int .i64 0, .slice (some ⟨m, 0, none⟩) n n] (w.alloc (.cells vs.toArray 31)) fun e w' =>
  ∃ b, e = .returned (.pointer (some ⟨b, 0, none⟩)) ∧ Below w.heap.size w w' ∧ RepS (fun x => B ≤ x) w' (.node (mk kind (p1, p2) name 0 l).1 (mk kind (p1, p2) name 0 l).2 .no) [.pointer (some ⟨b, 0, none⟩)] := by
 subst hm hn
 have hb : Below w.heap.size w (w.alloc (.cells vs.toArray 31)) := (Below.refl _ _).alloc nl _
 refine (new_at (B := B) (Nat.le_trans hw hb.size) kI kind hkI p1 p2 name 0 (some ⟨w.heap.size, 0, none⟩) vs.length vs.length vs (forest l) rfl (by omega) (by have := reads_lit w vs.toArray 31; simpa using this) (hk.below hb)).mono ?_
 rintro e w' ⟨b, rfl, h, hr⟩
 exact ⟨b, rfl, hb.trans (h.mono hb.size), hr⟩
abbrev TyE (F : Nat) (p : Par T1) (lo : Nat) (w0 : World) (br : Nat) (A : Option Addr) (c : Nat) (L : List PT) : Prop :=
 ∀ j, lo ≤ j → j ≤ L.length → ∀ w, PInv w0 w br A c L j → Calls Tryz.prog F #[.pointer (some ⟨br, 0, none⟩)] w (TreeR w.heap.size w0 w br A c L (p L j))
theorem elem_y {w0 : World} {br c : Nat} {A : Option Addr} {L : List PT} (ht : Toks w0 br A L) {e : Par T1} (he : Good2 e) {lo : Nat} (HE : Hid (TyE 120 e lo w0 br A c L)) (i : Nat) (hlo : lo ≤ i) (hi : i ≤ L.length) (w : World) (h : PInv w0 w br A c L i) :
 Calls Tryz.prog 157 #[.pointer (some ⟨br, 0, none⟩)] w (TreeR w.heap.size w0 w br A c L (elemF e L i)) := by
 have hbr := h.row.lt
 have H0 := qh h
 have HT := qh ht
 obtain ⟨res, hs0⟩ : ∃ r, r = elemF e L i := ⟨_, rfl⟩
 rw [← hs0]
 have S := qh (S1.start h hi hs0)
 clear h ht hs0 hi
 go_enter Tryz.func157, Tryz.ntmps157
 unfold elemF at S
 go_wp2_with fail
 (with_reducible refine S.out.now HT.out ?_)
 clear S
 intro k_p p1 p2 q3_p q4_p t_p n_p wx HPp S hg
 have HZ := qh S.out.pg.2.size
 go_wp2_with fail
 (with_reducible refine S.out.tree (HE.out _ (by omega) S.out.le _ S.out.pg.1) (he) ?_ ?_)
 ·intro k w1 h hg; go_wp2; exact ⟨rfl, S1.errT h.out hg.out _⟩
 clear S
 intro x bx j1 wx hj1 S hg Hx
 have Hx := qh (Hx.out.more (S' := fun y => w.heap.size ≤ y) fun y hy _ => Nat.le_trans HZ.out hy)
 clear HZ
 go_wp2_with fail
 (with_reducible refine S.out.eat HT.out ?_ ?_)
 ·clear S
  intro wx S hg hT
  have Hx := qh (repS_grown Hx.out hg.out hbr)
  have HZ := qh S.out.pg.2.size
  go_wp2_with fail
  (with_reducible refine S.out.tree (HE.out _ (by omega) S.out.le _ S.out.pg.1) (he) ?_ ?_)
  ·intro k w1 h hg; go_wp2; exact ⟨rfl, S1.errT h.out hg.out _⟩
  clear S
  intro y b_y j2 wx hj2 S hg Hy
  have Hx := qh (repS_grown Hx.out hg.out hbr)
  have Hy := qh (Hy.out.more (S' := fun y => w.heap.size ≤ y) fun y hy _ => Nat.le_trans HZ.out hy)
  clear HZ
  have NW := qh (new_litE (B := w.heap.size) (w := wx) S.out.pg.2.size 9 9 rfl p1 p2 sNil [.pointer (some ⟨bx, 0, none⟩), .pointer (some ⟨b_y, 0, none⟩)] [x, y] wx.heap.size rfl 2 rfl (by decide) (repN_of (repS_cons Hx.out Hy.out)))
  go_wp2_with fail
  ((with_reducible refine NW.out.mono ?_); rintro e wy ⟨b, rfl, hb, hr⟩)
  have Hb := qh hr
  have S := qh (S.out.below hb)
  clear hb hr NW
  go_wp2
  go_ret
  exact S.out.doneT Hb.out
 ·clear S
  intro wx S hg hT
  have Hx := qh (repS_grown Hx.out hg.out hbr)
  go_wp2
  go_ret
  exact S.out.doneT Hx.out
end Ex
end Go.Proofs.YtkemhmfdooghkaaGreatDoor
