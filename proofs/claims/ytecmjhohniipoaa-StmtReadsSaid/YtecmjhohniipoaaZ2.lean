/- A part of the proof: R3, R4, R5, R6, R7. -/
import Derived.Test.YtecmjhohniipoaaZ1
import Derived.Laws.Rows
import Derived.Deep.Cut
import Derived.BigQuiet
import Derived.Deep.RegionHeld3
import Derived.Outline
set_option linter.unusedSimpArgs false
set_option linter.unusedVariables false

section
namespace Go.Proofs.Ytecmjhohniipoaa.Lx
open Go.RowKit
open Pl Fl
def Blk (w : World) (g : Nat) (t : TypeId) (cs : Array Value) : Prop := w.heap[g]? = some (.cells cs t (0, 0))
section
variable {w w' : World} {g : Nat} {t : TypeId} {cs : Array Value}
theorem Blk.lt (h : Blk w g t cs) : g < w.heap.size := by
 rcases Nat.lt_or_ge g w.heap.size with hlt | hge
 ·exact hlt
 ·unfold Blk at h; rw [Array.getElem?_eq_none hge] at h; cases h
theorem Blk.cell (h : Blk w g t cs) (i : Nat) : w.cell? ⟨g, i, none⟩ = cs[i]? := cell_of_row w g i cs t (0, 0) h
theorem Blk.frozen (h : Blk w g t cs) (i : Nat) : w.frozen? ⟨g, i, none⟩ = false := by
 unfold Blk at h
 simp [World.frozen?, h]
theorem Blk.new (w : World) (t : TypeId) (cs : Array Value) : Blk (w.alloc (.cells cs t)) w.heap.size t cs := heap_alloc_new w _
theorem Blk.drewN (h : Blk w g t cs) (n : Nat) : Blk (w.drewN n) g t cs := h
theorem Blk.alloc (h : Blk w g t cs) (o : Obj) : Blk (w.alloc o) g t cs := (Below.heap_alloc w o g h.lt).trans h
theorem Blk.set_ (h : Blk w g t cs) (i : Nat) (u : Value) : Blk (w.setCell ⟨g, i, none⟩ u) g t (cs.setIfInBounds i u) := by
 unfold Blk at h ⊢
 simp [World.setCell, Array.getElem?_modify, h]
theorem Blk.far (h : Blk w g t cs) {p : Addr} (hp : g ≠ p.block) (u : Value) : Blk (w.setCell p u) g t cs := (Below.heap_setCell w p u g hp).trans h
theorem Blk.below {B : Nat} (h : Blk w g t cs) (hb : Below B w w') (hg : g < B) : Blk w' g t cs := (hb.block g hg).trans h
theorem Blk.grown {row : Option Nat} (h : Blk w g t cs) (hb : w.grownBy w' row) (hg : some g ≠ row) : Blk w' g t cs := (hb.block g h.lt hg).trans h
end
structure Tk where
 kind : Nat
 text : ByteArray
 n : Int
def Tk.vals (t : Tk) (p q : Nat × Nat) : List Value := [.int .u8 t.kind, C p, C q, .string t.text, .int .i64 t.n]
def Tk.val (t : Tk) (p q : Nat × Nat) : Value := .agg (t.vals p q).toArray
def noTk : Tk := ⟨0, ⟨#[]⟩, 0⟩
theorem tok_load {w : World} {b : Nat} {v0 v1 v2 v3 v4 : Value} (h : Blk w b 68 #[v0, v1, v2, v3, v4]) : (loadVar 68 ⟨b, 0, none⟩).run Try.prog w = .ok (.agg #[v0, v1, v2, v3, v4]) w := by
 have hl : (loadCells ⟨b, 0, none⟩ 5).run Try.prog w = .ok #[v0, v1, v2, v3, v4] w :=
  run_loadCells_list (P := Try.prog) w ⟨b, 0, none⟩ [v0, v1, v2, v3, v4] (fun j v hv => by
   have := h.cell j
   have e : (⟨b, 0, none⟩ : Addr).add j = ⟨b, j, none⟩ := by
    unfold Addr.add
    by_cases h0 : j = 0
    ·subst h0; rfl
    ·rw [if_neg h0]; simp
   rw [e, this]
   simpa using hv)
 simp [loadVar, Sem.run_bind, Try.isAgg68, Try.sizeOf68, hl]
theorem tok_ret1 {fn : Func} {p : Tmp} (h : fn.results = #[.cell p 68]) (tmps : Array Value) (w : World) (b : Nat) (v0 v1 v2 v3 v4 : Value) (hp : tmps.getD p undef = .pointer (some ⟨b, 0, none⟩)) (hb : Blk w b 68 #[v0, v1, v2, v3, v4]) :
 (results fn tmps).run Try.prog w = .ok (.agg #[v0, v1, v2, v3, v4]) w := by
 have hp' : tmps[p]?.getD undef = .pointer (some ⟨b, 0, none⟩) := by simpa using hp
 simp [results, h, hp', asAddr, tok_load hb]
theorem tok_ret2 {fn : Func} {p q : Tmp} (h : fn.results = #[.cell p 68, .tmp q]) (tmps : Array Value) (w : World) (b : Nat) (v0 v1 v2 v3 v4 : Value) (hp : tmps.getD p undef = .pointer (some ⟨b, 0, none⟩)) (hb : Blk w b 68 #[v0, v1, v2, v3, v4]) :
 (results fn tmps).run Try.prog w = .ok (.tuple #[.agg #[v0, v1, v2, v3, v4], tmps.getD q undef]) w := by
 have hp' : tmps[p]?.getD undef = .pointer (some ⟨b, 0, none⟩) := by simpa using hp
 simp [results, h, hp', asAddr, tok_load hb, Sem.run_bind]
theorem tok_ret3 {fn : Func} {p q r : Tmp} (h : fn.results = #[.cell p 68, .tmp q, .tmp r]) (tmps : Array Value) (w : World) (b : Nat) (v0 v1 v2 v3 v4 : Value) (hp : tmps.getD p undef = .pointer (some ⟨b, 0, none⟩)) (hb : Blk w b 68 #[v0, v1, v2, v3, v4]) :
 (results fn tmps).run Try.prog w = .ok (.tuple #[.agg #[v0, v1, v2, v3, v4], tmps.getD q undef, tmps.getD r undef]) w := by
 have hp' : tmps[p]?.getD undef = .pointer (some ⟨b, 0, none⟩) := by simpa using hp
 simp [results, h, hp', asAddr, tok_load hb, Sem.run_bind]
def plainT (s : ByteArray) : Tk := if s.data.toList = [60, 62] then ⟨5, ⟨#[35]⟩, 0⟩ else if s.data.toList = [38] then ⟨6, ⟨#[65, 78, 68]⟩, 0⟩ else if s.data.toList = [126] then ⟨6, ⟨#[78, 79, 84]⟩, 0⟩ else ⟨5, s, 0⟩
theorem run_store_complexL {P : Program} {w : World} {a : Addr} {m : Mode} (k : FloatKind) (x y : Nat) : (store a (.complex k x y) m).run P w = stored P w a (.complex k x y) m := run_store P w a _ m rfl
attribute [local go_sem] run_store_complexL
set_option maxHeartbeats 1600000 in
theorem plain_any (s : ByteArray) (w : World) : Calls Try.prog 51 #[.string s] w fun e w' => e = .returned ((plainT s).val (0, 0) (0, 0)) ∧ Below w.heap.size w w' := by
 go_enter Try.func51, Try.ntmps51
 have hl : s.toList = s.data.toList := ByteArray.toList_eq s
 by_cases h1 : s.data.toList = [60, 62]
 ·have b0 : (s.toList == [60, 62]) = true := by rw [hl, h1]; rfl
  have HP := qh (show plainT s = ⟨5, ⟨#[35]⟩, 0⟩ by unfold plainT; rw [if_pos h1])
  clear hl
  go_wp2
  refine bodyPost_ret (tok_ret1 rfl _ _ w.heap.size _ _ _ _ _ rfl (Blk.new _ _ _)) rfl ?_
  exact ⟨by rw [HP.out]; simp [Tk.val, Tk.vals, C, fl_0], (Below.refl _ _).alloc (Nat.le_refl _) _⟩
 have b0 : (s.toList == [60, 62]) = false := by rw [hl]; simpa using h1
 by_cases h2 : s.data.toList = [38]
 ·have b1 : (s.toList == [38]) = true := by rw [hl, h2]; rfl
  have HP := qh (show plainT s = ⟨6, ⟨#[65, 78, 68]⟩, 0⟩ by unfold plainT; rw [if_neg h1, if_pos h2])
  clear hl
  go_wp2
  refine bodyPost_ret (tok_ret1 rfl _ _ w.heap.size _ _ _ _ _ rfl (Blk.new _ _ _)) rfl ?_
  exact ⟨by rw [HP.out]; simp [Tk.val, Tk.vals, C, fl_0], (Below.refl _ _).alloc (Nat.le_refl _) _⟩
 have b1 : (s.toList == [38]) = false := by rw [hl]; simpa using h2
 by_cases h3 : s.data.toList = [126]
 ·have b2 : (s.toList == [126]) = true := by rw [hl, h3]; rfl
  have HP := qh (show plainT s = ⟨6, ⟨#[78, 79, 84]⟩, 0⟩ by unfold plainT; rw [if_neg h1, if_neg h2, if_pos h3])
  clear hl
  go_wp2
  refine bodyPost_ret (tok_ret1 rfl _ _ w.heap.size _ _ _ _ _ rfl (Blk.new _ _ _)) rfl ?_
  exact ⟨by rw [HP.out]; simp [Tk.val, Tk.vals, C, fl_0], (Below.refl _ _).alloc (Nat.le_refl _) _⟩
 have b2 : (s.toList == [126]) = false := by rw [hl]; simpa using h3
 have HP := qh (show plainT s = ⟨5, s, 0⟩ by unfold plainT; rw [if_neg h1, if_neg h2, if_neg h3])
 clear hl
 go_wp2
 refine bodyPost_ret (tok_ret1 rfl _ _ w.heap.size _ _ _ _ _ rfl (Blk.new _ _ _)) rfl ?_
 exact ⟨by rw [HP.out]; simp [Tk.val, Tk.vals, C, fl_0], (Below.refl _ _).alloc (Nat.le_refl _) _⟩
end Go.Proofs.Ytecmjhohniipoaa.Lx
end

section
namespace Go.Proofs.Ytecmjhohniipoaa.Lx
open Go.RowKit
open Pl Fl
def mkNum (k v : Nat) : Tk := ⟨k, ⟨#[]⟩, v⟩
def numX (x : UInt8) (h s : List UInt8) : Option Tk :=
 if x = 72 then (valR 16 65535 h).map (mkNum 2)
 else if (valR 10 65535 s).isSome then (valR 10 65535 s).map (mkNum 2)
 else if x = 66 then (valR 8 65535 h).map (mkNum 2)
 else if x = 67 then (valR 8 255 h).map (mkNum 3) else none
attribute [local go_sem] run_store_complexL
def numN (s : List UInt8) : Option Tk := numX (s.getLast?.getD 0) s.dropLast s
theorem head_list (s : ByteArray) : (s.extract 0 (s.size - 1)).data.toList = s.data.toList.dropLast := by
 rw [ByteArray.data_extract, Array.toList_extract, List.extract_eq_take_drop, List.dropLast_eq_take]; simp
theorem last_list (s : ByteArray) (h : s.size - 1 < s.size) : s.data.toList.getLast? = some s[s.size - 1] := by
 rw [List.getLast?_eq_getElem?]
 have hl : s.data.toList.length - 1 < s.data.toList.length := by simp; omega
 rw [List.getElem?_eq_getElem hl]
 simp; rfl
theorem val_num (k m : Nat) : (mkNum k m).val (0, 0) (0, 0) = .agg #[.int .u8 k, .complex .f64 0 0, .complex .f64 0 0, .string ⟨#[]⟩, .int .i64 m] := by
 simp [mkNum, Tk.val, Tk.vals, C, fl_0]
set_option maxHeartbeats 3200000 in
theorem number_any (s : ByteArray) (h0 : 1 ≤ s.size) (hs : s.size ≤ 9223372036854775800) (h48 : ∀ c ∈ s.data.toList, 48 ≤ c.toNat) (w : World) :
 Calls Try.prog 49 #[.string s] w fun e w' => (∃ t : Tk, e = .returned (.tuple #[t.val (0, 0) (0, 0), .bool (numN s.data.toList).isSome]) ∧ (∀ t', numN s.data.toList = some t' → t = t')) ∧ Below w.heap.size w w' := by
 have hll := last_list s (by omega)
 have hx := u8_lt s[s.size - 1]
 have h48h : ∀ c ∈ (s.extract 0 (s.size - 1)).data.toList, 48 ≤ c.toNat := fun c hc => h48 c (by rw [head_list] at hc; exact List.dropLast_subset _ hc)
 have hsz : (s.extract 0 (s.size - 1)).size = s.size - 1 := by simp
 have hm1 : ((s.size : Int) - 1) = ((s.size - 1 : Nat) : Int) := by omega
 have v16 := fun w => value_any (s.extract 0 (s.size - 1)) 16 65535 (by omega) (by omega) (by omega) h48h w
 have v10 := fun w => value_any s 10 65535 (by omega) (by omega) (by omega) h48 w
 have v8 := fun w => value_any (s.extract 0 (s.size - 1)) 8 65535 (by omega) (by omega) (by omega) h48h w
 have vc := fun w => value_any (s.extract 0 (s.size - 1)) 8 255 (by omega) (by omega) (by omega) h48h w
 rw [head_list] at v16 v8 vc
 rw [show ((65535 : Nat) : Int) = 65535 from rfl] at v16 v10 v8
 rw [show ((16 : Nat) : Int) = 16 from rfl] at v16
 rw [show ((10 : Nat) : Int) = 10 from rfl] at v10
 rw [show ((8 : Nat) : Int) = 8 from rfl] at v8 vc
 rw [show ((255 : Nat) : Int) = 255 from rfl] at vc
 have V16 := qh v16
 have V10 := qh v10
 have V8 := qh v8
 have VC := qh vc
 have HNd := qh (show numN s.data.toList = numX s[s.size - 1] s.data.toList.dropLast s.data.toList by unfold numN; rw [hll]; rfl)
 clear hll h48 h48h v16 v10 v8 vc
 generalize numN s.data.toList = NN at *
 have i0 : (0 : Int) ≤ ((s.size - 1 : Nat) : Int) := by omega
 have i1 : ((s.size - 1 : Nat) : Int) < (s.size : Int) := by omega
 have hkk : s.size - 1 < s.size := by omega
 have tn : ∀ n : Nat, n < 256 → ∀ x : UInt8, x ≠ UInt8.ofNat n → ((x.toNat : Int) == (n : Int)) = false := by
  intro n hn x hx
  simp only [beq_eq_false_iff_ne, ne_eq]
  intro e
  apply hx
  apply UInt8.toNat_inj.1
  simp
  omega
 have g72 : s[s.size - 1] ≠ 72 → ((s[s.size - 1].toNat : Int) == 72) = false := tn 72 (by omega) _
 have g66 : s[s.size - 1] ≠ 66 → ((s[s.size - 1].toNat : Int) == 66) = false := tn 66 (by omega) _
 have g67 : s[s.size - 1] ≠ 67 → ((s[s.size - 1].toNat : Int) == 67) = false := tn 67 (by omega) _
 go_enter Try.func49, Try.ntmps49
 by_cases h72 : s[s.size - 1] = 72
 ·have b72 : ((s[s.size - 1].toNat : Int) == 72) = true := by rw [h72]; rfl
  have HR := qh (show NN = (valR 16 65535 s.data.toList.dropLast).map (mkNum 2) by rw [HNd.out]; unfold numX; rw [if_pos h72])
  clear g72 g66 g67 HNd h72
  generalize valR 16 65535 s.data.toList.dropLast = vr at *
  go_wp2_with fail
  ((with_reducible refine (V16.out _).mono ?_); rintro e w1 ⟨⟨m, hm, rfl, hv⟩, rfl⟩)
  have HV := qh hv
  clear hv
  go_wp2
  (try simp only [Exit.inBlock, Exit.then])
  refine bodyPost_ret (tok_ret2 rfl _ _ w.heap.size _ _ _ _ _ rfl (Blk.new _ _ _)) rfl ?_
  refine ⟨⟨mkNum 2 m, by rw [val_num, HR.out]; simp, fun t' ht => ?_⟩, (Below.refl _ _).alloc (Nat.le_refl _) _⟩
  rw [HR.out] at ht
  obtain ⟨v, hv1, rfl⟩ := Option.map_eq_some_iff.1 ht
  rw [HV.out v hv1]
 ·have b72 := g72 h72
  go_wp2_with fail
  ((with_reducible refine (V10.out _).mono ?_); rintro e w1 ⟨⟨m10, hm10, rfl, hv⟩, rfl⟩)
  cases hd : valR 10 65535 s.data.toList with
  | some v10 =>
    have hm := hv v10 hd
    have HR := qh (show NN = some (mkNum 2 m10) by rw [HNd.out]; unfold numX; rw [if_neg h72, hd, hm]; rfl)
    simp only [Option.isSome_some]
    clear g72 g66 g67 HNd h72 hv hd hm
    go_wp2
    (try simp only [Exit.inBlock, Exit.then])
    refine bodyPost_ret (tok_ret2 rfl _ _ w.heap.size _ _ _ _ _ rfl (Blk.new _ _ _)) rfl ?_
    exact ⟨⟨mkNum 2 m10, by rw [val_num, HR.out]; rfl, fun t' ht => by rw [HR.out] at ht; injection ht⟩, (Below.refl _ _).alloc (Nat.le_refl _) _⟩
  | none =>
    have hN : NN = if s[s.size - 1] = 66 then (valR 8 65535 s.data.toList.dropLast).map (mkNum 2) else if s[s.size - 1] = 67 then (valR 8 255 s.data.toList.dropLast).map (mkNum 3) else none := by rw [HNd.out]; unfold numX; rw [if_neg h72, hd]; rfl
    simp only [Option.isSome_none]
    clear hv hd HNd h72 g72
    by_cases h66 : s[s.size - 1] = 66
    ·have b66 : ((s[s.size - 1].toNat : Int) == 66) = true := by rw [h66]; rfl
     rw [if_pos h66] at hN
     have HR := qh hN
     clear g66 g67 hN h66
     generalize valR 8 65535 s.data.toList.dropLast = vr at *
     go_wp2_with fail
     ((with_reducible refine (V8.out _).mono ?_); rintro e w1 ⟨⟨m, hm, rfl, hv⟩, rfl⟩)
     have HV := qh hv
     clear hv
     go_wp2
     (try simp only [Exit.inBlock, Exit.then])
     refine bodyPost_ret (tok_ret2 rfl _ _ w.heap.size _ _ _ _ _ rfl (Blk.new _ _ _)) rfl ?_
     refine ⟨⟨mkNum 2 m, by rw [val_num, HR.out]; simp, fun t' ht => ?_⟩, (Below.refl _ _).alloc (Nat.le_refl _) _⟩
     rw [HR.out] at ht
     obtain ⟨v, hv1, rfl⟩ := Option.map_eq_some_iff.1 ht
     rw [HV.out v hv1]
    ·have b66 := g66 h66
     rw [if_neg h66] at hN
     by_cases h67 : s[s.size - 1] = 67
     ·have b67 : ((s[s.size - 1].toNat : Int) == 67) = true := by rw [h67]; rfl
      rw [if_pos h67] at hN
      have HR := qh hN
      clear g66 g67 hN h66 h67
      generalize valR 8 255 s.data.toList.dropLast = vr at *
      go_wp2_with fail
      ((with_reducible refine (VC.out _).mono ?_); rintro e w1 ⟨⟨m, hm, rfl, hv⟩, rfl⟩)
      have HV := qh hv
      clear hv
      go_wp2
      (try simp only [Exit.inBlock, Exit.then])
      refine bodyPost_ret (tok_ret2 rfl _ _ w.heap.size _ _ _ _ _ rfl (Blk.new _ _ _)) rfl ?_
      refine ⟨⟨mkNum 3 m, by rw [val_num, HR.out]; simp, fun t' ht => ?_⟩, (Below.refl _ _).alloc (Nat.le_refl _) _⟩
      rw [HR.out] at ht
      obtain ⟨v, hv1, rfl⟩ := Option.map_eq_some_iff.1 ht
      rw [HV.out v hv1]
     ·have b67 := g67 h67
      rw [if_neg h67] at hN
      have HR := qh hN
      clear g66 g67 hN h66 h67
      go_wp2
      (try simp only [Exit.inBlock, Exit.then])
      refine bodyPost_ret (tok_ret2 rfl _ _ w.heap.size _ _ _ _ _ rfl (Blk.new _ _ _)) rfl ?_
      exact ⟨⟨noTk, by rw [HR.out]; simp [noTk, Tk.val, Tk.vals, C, fl_0], fun t' ht => by rw [HR.out] at ht; cases ht⟩, (Below.refl _ _).alloc (Nat.le_refl _) _⟩
end Go.Proofs.Ytecmjhohniipoaa.Lx
end

section
namespace Go.Proofs.Ytecmjhohniipoaa.Lx
open Go.RowKit
open Pl Fl
def twos : List ByteArray := [⟨#[58, 61]⟩, ⟨#[60, 62]⟩, ⟨#[60, 61]⟩, ⟨#[62, 61]⟩, ⟨#[46, 46]⟩]
def ones : List UInt8 := [43, 45, 42, 47, 126, 46, 44, 59, 40, 91, 123, 94, 61, 35, 60, 62, 58, 41, 93, 125, 124, 38]
def onesB : ByteArray := ⟨#[43, 45, 42, 47, 126, 46, 44, 59, 40, 91, 123, 94, 61, 35, 60, 62, 58, 41, 93, 125, 124, 38]⟩
def symN (s : List UInt8) : Nat := if twos.any (fun x => x.data.toList == s.take 2) then 2 else if ones.any (fun c => s.head? == some c) then 1 else 0
def twosV : Array Value := #[.string ⟨#[58, 61]⟩, .string ⟨#[60, 62]⟩, .string ⟨#[60, 61]⟩, .string ⟨#[62, 61]⟩, .string ⟨#[46, 46]⟩]
theorem twosV_eq : twosV = (twos.map Value.string).toArray := rfl
theorem twosV_at (i : Nat) (h : i < twos.length) : twosV[i]? = some (.string twos[i]) := by
 rw [twosV_eq]; simp [h]
theorem twos_size : ∀ x ∈ twos, x.data.toList.length = 2 := by decide
theorem ext_front (s : ByteArray) : (s.extract 0 2).toList = s.data.toList.take 2 := by
 rw [ByteArray.toList_eq, ByteArray.data_extract, Array.toList_extract, List.extract_eq_take_drop]; simp
theorem below_drewN {B : Nat} {w wr : World} (h : Below B w wr) (n : Nat) : Below B w (wr.drewN n) := ⟨h.os, h.tape, h.output, h.size, h.block⟩
set_option maxHeartbeats 3200000 in
theorem symbol_any (s : ByteArray) (h0 : 1 ≤ s.size) (hs : s.size ≤ 9223372036854775800) (w : World) :
 Calls Try.prog 50 #[.string s] w fun e w' => e = .returned (.int .i64 (symN s.data.toList : Nat)) ∧ Below w.heap.size w w' := by
 go_enter Try.func50, Try.ntmps50
 go_upto_region 2 with (fail)
 have hcell : ∀ i (h : i < twos.length), (w.alloc (.cells twosV 9)).cell? ⟨w.heap.size, i, none⟩ = some (.string twos[i]) := fun i h => by
  rw [cell_of_row _ _ _ _ _ _ (heap_alloc_new w _)]; exact twosV_at i h
 have HC := qh hcell
 have HB := qh ((Below.refl w.heap.size w).alloc (Nat.le_refl _) (.cells twosV 9))
 have hlt0 : w.heap.size < (w.alloc (.cells twosV 9)).heap.size := by simp
 clear hcell
 have hcs : (w.alloc (.cells twosV 9)) = w.alloc (.cells #[.string ⟨#[58, 61]⟩, .string ⟨#[60, 62]⟩, .string ⟨#[60, 61]⟩, .string ⟨#[62, 61]⟩, .string ⟨#[46, 46]⟩] 9) := rfl
 rw [hcs] at HC HB hlt0
 clear hcs
 go_wp2
 go_loopw [4] (fun i wr => ∃ k : Nat, k ≤ 5 ∧ i = .int .i64 k ∧ Hid (Below w.heap.size w wr) ∧ Hid (∀ i (h : i < twos.length), wr.cell? ⟨w.heap.size, i, none⟩ = some (.string twos[i])) ∧ Hid (∀ x ∈ twos.take k, ¬ x.data.toList = s.data.toList.take 2)) (fun i _ => 5 - (intOf i).toNat)
 case atStart => exact ⟨0, by omega, rfl, HB, HC, qh (by simp)⟩
 case round =>
  obtain ⟨k, hk, rfl, HB2, HC2, HN⟩ := hrel
  by_cases hlt : k < 5
  ·have hkl : k < twos.length := hlt
   have hc := HC2.out k hkl
   have HT := qh (show twos.take (k + 1) = twos.take k ++ [twos[k]] from by simp)
   have HM := qh (show twos[k] ∈ twos from by simp)
   have h2 := twos_size twos[k] HM.out
   generalize twos[k] = x at *
   have hi0 : (0 : Int) ≤ (k : Int) := by omega
   have hi1 : (k : Int) < 5 := by omega
   have HX : ¬ x.data.toList = s.data.toList.take 2 → Hid (∀ y ∈ twos.take (k + 1), ¬ y.data.toList = s.data.toList.take 2) := fun hne => qh (by
    intro y hy
    rw [HT.out, List.mem_append, List.mem_singleton] at hy
    rcases hy with hy | rfl
    ·exact HN.out y hy
    ·exact hne)
   by_cases hs2 : s.size < 2
   ·have hb3 : ¬ (2 : Int) ≤ (s.size : Int) := by omega
    have HN2 := HX (fun e => by have := congrArg List.length e; simp at this; simp at h2; omega)
    clear HX HT HM h2
    have hb2 : decide ((2 : Int) ≤ (s.size : Int)) = false := by simp; omega
    go_wp2
    go_quiet (fail)
    go_wp2
    go_roundw
    case rel => exact ⟨k + 1, by omega, by go_num, qh (below_drewN HB2.out _), qh HC2.out, HN2⟩
    case measure => simp [intOf]; omega
   ·have hb3 : (2 : Int) ≤ (s.size : Int) := by omega
    have hE := ext_front s
    by_cases he : x.data.toList = s.data.toList.take 2
    ·have hb4 : ((s.extract 0 2).toList == x.toList) = true := by rw [hE, ByteArray.toList_eq, he]; simp
     have HR := qh (show symN s.data.toList = 2 by unfold symN; rw [if_pos (List.any_eq_true.2 ⟨x, HM.out, by simpa using he⟩)])
     clear HX HT HM h2 hE he
     go_wp2
     go_quiet (fail)
     go_wp2
     go_ret
     exact ⟨ret_int (by rw [HR.out]; rfl), below_drewN HB2.out _⟩
    ·have hb4 : ((s.extract 0 2).toList == x.toList) = false := by
      rw [hE, ByteArray.toList_eq]
      simp only [beq_eq_false_iff_ne, ne_eq]
      exact fun e => he e.symm
     have HN2 := HX he
     clear HX HT HM h2 hE he
     go_wp2
     go_quiet (fail)
     go_wp2
     go_roundw
     case rel => exact ⟨k + 1, by omega, by go_num, qh (below_drewN HB2.out _), qh HC2.out, HN2⟩
     case measure => simp [intOf]; omega
  ·have HNT := qh (show twos.any (fun x => x.data.toList == s.data.toList.take 2) = false by
    rw [List.any_eq_false]
    intro x hx e
    exact HN.out x (by rw [show k = twos.length from by show k = 5; omega, List.take_length]; exact hx) (by simpa using e))
   clear HN HC2
   have hk5 : k = 5 := by omega
   subst hk5
   go_wp2
   have hx0 : (0 : Int) < (s.size : Int) := by omega
   have hob : Hid (onesB.size = 22 ∧ onesB.data.toList = ones) := qh ⟨rfl, rfl⟩
   unfold onesB at hob
   generalize hO : (⟨#[43, 45, 42, 47, 126, 46, 44, 59, 40, 91, 123, 94, 61, 35, 60, 62, 58, 41, 93, 125, 124, 38]⟩ : ByteArray) = ob at *
   have hsz := hob.out.1
   clear hO
   go_loopw [6] (fun i wr => ∃ j : Nat, j ≤ 22 ∧ i = .int .i64 j ∧ Hid (Below w.heap.size w wr) ∧ Hid (∀ c ∈ ones.take j, ¬ s.data.toList.head? = some c)) (fun i _ => 22 - (intOf i).toNat)
   case atStart => exact ⟨0, by omega, rfl, HB2, qh (by simp)⟩
   case round =>
    obtain ⟨j, hj, rfl, HB3, HN⟩ := hrel
    by_cases hlt2 : j < 22
    ·have hjl : j < ob.size := by omega
     have hi0 : (0 : Int) ≤ (j : Int) := by omega
     have hi1 : (j : Int) < (ob.size : Int) := by omega
     have h00 : 0 < s.size := by omega
     have HH := qh (show s.data.toList.head? = some s[0] by have := drop_cons s 0 h00; rw [List.drop_zero] at this; rw [this]; rfl)
     have HO := qh (show ones.take (j + 1) = ones.take j ++ [ob[j]] by
      have h1 := drop_cons ob j hjl
      rw [hob.out.2] at h1
      have h2 : (ones.drop j).take 1 = [ob[j]] := by rw [h1]; rfl
      rw [← h2, List.take_add])
     by_cases he : s[0] = ob[j]
     ·have hb : (((s[0]).toNat : Int) == ((ob[j]).toNat : Int)) = true := by rw [he]; simp
      have HR := qh (show symN s.data.toList = 1 by
       unfold symN
       rw [if_neg (by rw [HNT.out]; simp), if_pos]
       refine List.any_eq_true.2 ⟨ob[j], ?_, by rw [HH.out, he]; simp⟩
       have : ob[j] ∈ ones.take (j + 1) := by rw [HO.out]; simp
       exact List.mem_of_mem_take this)
      clear HO HH he HNT
      go_wp2
      go_quiet (fail)
      go_wp2
      go_ret
      exact ⟨ret_int (by rw [HR.out]; rfl), below_drewN HB3.out _⟩
     ·have hb : (((s[0]).toNat : Int) == ((ob[j]).toNat : Int)) = false := by
       simp only [beq_eq_false_iff_ne, ne_eq]
       exact fun e => he (UInt8.toNat_inj.1 (by omega))
      have HN2 := qh (show ∀ c ∈ ones.take (j + 1), ¬ s.data.toList.head? = some c by
       intro c hc
       rw [HO.out, List.mem_append, List.mem_singleton] at hc
       rcases hc with hc | rfl
       ·exact HN.out c hc
       ·rw [HH.out]; intro e; injection e with e; exact he e)
      clear HO HH he HN
      go_wp2
      go_quiet (fail)
      go_wp2
      go_roundw
      case rel => exact ⟨j + 1, by omega, by go_num, qh (below_drewN HB3.out _), HN2⟩
      case measure => simp [intOf]; omega
    ·have HR := qh (show symN s.data.toList = 0 by
      unfold symN
      rw [if_neg (by rw [HNT.out]; simp), if_neg]
      intro h
      obtain ⟨c, hc, e⟩ := List.any_eq_true.1 h
      refine HN.out c (by rw [show j = ones.length from by show j = 22; omega, List.take_length]; exact hc) (by simpa using e))
     have hj2 : j = 22 := by omega
     subst hj2
     clear HN HNT
     go_wp2
     go_ret
     exact ⟨ret_int (by rw [HR.out]; rfl), HB3.out⟩
end Go.Proofs.Ytecmjhohniipoaa.Lx
end

section
namespace Go.Proofs.Ytecmjhohniipoaa.Lx
open Go.RowKit
open Pl Fl
attribute [local go_sem] run_store_complexL
def runN (p : UInt8 → Bool) (l : List UInt8) : Nat := (l.takeWhile p).length
theorem runN_nil (p : UInt8 → Bool) : runN p [] = 0 := rfl
theorem runN_yes {p : UInt8 → Bool} {c : UInt8} (h : p c = true) (r : List UInt8) : runN p (c :: r) = runN p r + 1 := by simp [runN, List.takeWhile, h]
theorem runN_no {p : UInt8 → Bool} {c : UInt8} (h : p c = false) (r : List UInt8) : runN p (c :: r) = 0 := by simp [runN, List.takeWhile, h]
theorem runN_le (p : UInt8 → Bool) (l : List UInt8) : runN p l ≤ l.length := (List.takeWhile_sublist p).length_le
def isP (c : UInt8) : Bool := isL c || isD c
def isX (c : UInt8) : Bool := isD c || decide (65 ≤ c.toNat) && decide (c.toNat ≤ 70)
def bt (l : List UInt8) : ByteArray := ⟨l.toArray⟩
def oneN (s : List UInt8) : Except Nat (Tk × Nat) :=
 let c := s.head?.getD 0
 if isL c then
  let n := runN isP s
  if 32 < n then .error 5 else .ok (⟨if isW (bt (s.take n)) then 6 else 1, bt (s.take n), 0⟩, n)
 else if isD c then
  let m := runN isX s
  let n := if s[m]? = some 72 then m + 1 else m
  match numN (s.take n) with
  | none => .error 41
  | some t => .ok (t, n)
 else if c = 34 ∨ c = 39 then
  let n := 1 + runN (fun x => x != c && x != 10) s.tail
  if s[n]? = none ∨ s[n]? = some 10 then .error 42 else .ok (⟨4, bt ((s.take n).drop 1), 0⟩, n + 1)
 else
  let n := symN s
  if n = 0 then .error 40 else .ok (plainT (bt (s.take n)), n)
def oneEnd (r : Except Nat (Tk × Nat)) (e : Ending) : Prop := match r with
 | .ok (t, n) => e = .returned (.tuple #[t.val (0, 0) (0, 0), .int .i64 n, .int .i64 0])
 | .error k => e = .returned (.tuple #[noTk.val (0, 0) (0, 0), .int .i64 0, .int .i64 k])
theorem ext_take (s : ByteArray) (n : Nat) : s.extract 0 n = bt (s.data.toList.take n) := by
 apply bytes_ext
 rw [ByteArray.data_extract, Array.toList_extract, List.extract_eq_take_drop]
 simp [bt]
theorem tok_stored {w : World} {b : Nat} {T : TypeId} {a0 a1 a2 a3 a4 : Value} (h : Blk w b T #[a0, a1, a2, a3, a4]) (x0 x1 x2 x3 x4 : Value) :
 Blk (((((w.setCell ⟨b, 0, none⟩ x0).setCell ⟨b, 1, none⟩ x1).setCell ⟨b, 2, none⟩ x2).setCell ⟨b, 3, none⟩ x3).setCell ⟨b, 4, none⟩ x4) b T #[x0, x1, x2, x3, x4] := by
 have := ((((h.set_ 0 x0).set_ 1 x1).set_ 2 x2).set_ 3 x3).set_ 4 x4
 simpa using this
theorem below_stored {B : Nat} {W w : World} {b : Nat} (h : Below B W w) (hB : B ≤ b) (x0 x1 x2 x3 x4 : Value) :
 Below B W (((((w.setCell ⟨b, 0, none⟩ x0).setCell ⟨b, 1, none⟩ x1).setCell ⟨b, 2, none⟩ x2).setCell ⟨b, 3, none⟩ x3).setCell ⟨b, 4, none⟩ x4) :=
 ((((h.setCell hB _).setCell hB _).setCell hB _).setCell hB _).setCell hB _
structure TokAt (w : World) (b : Nat) (v0 v1 v2 v3 v4 : Value) : Prop where
 c0 : w.cell? ⟨b, 0, none⟩ = some v0
 c1 : w.cell? ⟨b, 1, none⟩ = some v1
 c2 : w.cell? ⟨b, 2, none⟩ = some v2
 c3 : w.cell? ⟨b, 3, none⟩ = some v3
 c4 : w.cell? ⟨b, 4, none⟩ = some v4
 f0 : w.frozen? ⟨b, 0, none⟩ = false
 f1 : w.frozen? ⟨b, 1, none⟩ = false
 f2 : w.frozen? ⟨b, 2, none⟩ = false
 f3 : w.frozen? ⟨b, 3, none⟩ = false
 f4 : w.frozen? ⟨b, 4, none⟩ = false
theorem Blk.tok {w : World} {b : Nat} {T : TypeId} {v0 v1 v2 v3 v4 : Value} (h : Blk w b T #[v0, v1, v2, v3, v4]) : TokAt w b v0 v1 v2 v3 v4 :=
 ⟨h.cell 0, h.cell 1, h.cell 2, h.cell 3, h.cell 4, h.frozen 0, h.frozen 1, h.frozen 2, h.frozen 3, h.frozen 4⟩
theorem head_at (s : ByteArray) (h : 0 < s.size) : s.data.toList.head? = some s[0] := by
 have := drop_cons s 0 h; rw [List.drop_zero] at this; rw [this]; rfl
set_option maxHeartbeats 6400000 in
theorem One_letter (s : ByteArray) (h0 : 0 < s.size) (hs : s.size ≤ 9223372036854775800) (hc : isL s[0] = true) (w : World) :
 Calls Try.prog 24 #[.string s] w fun e w' => oneEnd (oneN s.data.toList) e ∧ Below w.heap.size w w' := by
 have i0 : (0 : Int) < (s.size : Int) := by omega
 have RL := qh (fun c w => rletter_any c w)
 have RD := qh (fun c w => rdigit_any c w)
 have HE1 : ∀ k, runN isP s.data.toList = k → 32 < k → oneN s.data.toList = .error 5 := fun k hk h32 => by
  unfold oneN; rw [head_at s h0]; simp only [Option.getD_some, hc, if_true]; rw [hk, if_pos h32]
 have HE2 : ∀ k, runN isP s.data.toList = k → ¬ 32 < k → ∀ b, isW (s.extract 0 k) = b → oneN s.data.toList = .ok (⟨if b then 6 else 1, s.extract 0 k, 0⟩, k) := fun k hk h32 b hb => by
  unfold oneN; rw [head_at s h0]; simp only [Option.getD_some, hc, if_true]; rw [hk, if_neg h32, ← ext_take, hb]
 have HE1' := qh HE1
 have HE2' := qh HE2
 clear HE1 HE2
 go_enter Try.func24, Try.ntmps24
 go_wp2_with fail
 ((with_reducible refine (RL.out _ _).mono ?_); rintro e w1 ⟨rfl, rfl⟩)
 go_wp2_with fail
 go_loop [5] (fun i => ∃ k : Nat, k ≤ s.size ∧ i = .int .i64 k ∧ Hid (runN isP s.data.toList = k + runN isP (s.data.toList.drop k))) (fun i => s.size - (intOf i).toNat)
 case atStart => exact ⟨0, Nat.zero_le _, rfl, qh (by simp)⟩
 case round =>
  obtain ⟨k, hk, rfl, HB⟩ := hrel
  have x0 : (0 : Int) ≤ (k : Int) := by omega
  have x2 : (k : Int) ≤ (s.size : Int) := by omega
  by_cases hlt : k < s.size
  case' pos =>
   have HD := qh (drop_cons s k hlt)
   have x1 : (k : Int) < (s.size : Int) := by omega
   go_wp2_with fail
   ((with_reducible refine (RL.out _ _).mono ?_); rintro e w1 ⟨rfl, rfl⟩)
   cases hl : isL s[k]
   case' true =>
    have hP : isP s[k] = true := by unfold isP; rw [hl]; rfl
    have HN := qh (show runN isP s.data.toList = (k + 1) + runN isP (s.data.toList.drop (k + 1)) by rw [HB.out, HD.out, runN_yes hP]; omega)
    clear HB HD hP
    go_wp2
    go_round
    case rel => exact ⟨k + 1, by omega, by go_num, HN⟩
    case measure => simp [intOf]; omega
   go_wp2_with fail
   ((with_reducible refine (RD.out _ _).mono ?_); rintro e w1 ⟨rfl, rfl⟩)
   cases hd : isD s[k]
   case' true =>
    have hP : isP s[k] = true := by unfold isP; rw [hl, hd]; rfl
    have HN := qh (show runN isP s.data.toList = (k + 1) + runN isP (s.data.toList.drop (k + 1)) by rw [HB.out, HD.out, runN_yes hP]; omega)
    clear HB HD hP
    go_wp2
    go_round
    case rel => exact ⟨k + 1, by omega, by go_num, HN⟩
    case measure => simp [intOf]; omega
   have HK := qh (show runN isP s.data.toList = k by rw [HB.out, HD.out, runN_no (by unfold isP; rw [hl, hd]; rfl)]; rfl)
   clear HD
  case' neg =>
   have HK := qh (show runN isP s.data.toList = k by rw [HB.out, List.drop_of_length_le (by simp; omega)]; rfl)
  all_goals
   clear HB
   by_cases h32 : 32 < k
   ·have HE := qh (HE1'.out k HK.out h32)
    clear HE1' HE2' HK
    have h32' : (32 : Int) < (k : Int) := by omega
    go_wp2
    (try simp only [Exit.inBlock, Exit.then])
    refine bodyPost_ret (tok_ret3 rfl _ _ w.heap.size _ _ _ _ _ rfl (Blk.new _ _ _)) rfl ?_
    exact ⟨by rw [HE.out]; simp [oneEnd, noTk, Tk.val, Tk.vals, C, fl_0], (Below.refl _ _).alloc (Nat.le_refl _) _⟩
   ·have HE := qh (HE2'.out k HK.out h32)
    clear HE1' HE2' HK
    have h32' : ¬ (32 : Int) < (k : Int) := by omega
    go_wp2_with fail
    ((with_reducible refine (rWord_any _ _).mono ?_); rintro e w1 ⟨rfl, rfl⟩)
    have hB := (Blk.new w 68 #[.int .u8 0, .complex .f64 0 0, .complex .f64 0 0, .string ⟨#[]⟩, .int .i64 0]).alloc (.cells wordsV 9)
    have hBl : Hid (Below w.heap.size w ((w.alloc (.cells #[.int .u8 0, .complex .f64 0 0, .complex .f64 0 0, .string ⟨#[]⟩, .int .i64 0] 68)).alloc (.cells wordsV 9))) := qh (((Below.refl w.heap.size w).alloc (Nat.le_refl _) _).alloc (by simp) _)
    generalize hW2 : (w.alloc (.cells #[.int .u8 0, .complex .f64 0 0, .complex .f64 0 0, .string ⟨#[]⟩, .int .i64 0] 68)).alloc (.cells wordsV 9) = W2 at *
    obtain ⟨m0, m1, m2, m3, m4, f0, f1, f2, f3, f4⟩ := hB.tok
    have HBK := qh hB
    clear hB hW2
    cases hw : isW (s.extract 0 k)
    all_goals
     have HE3 := qh (HE.out _ hw)
     go_wp2
     (try simp only [Exit.inBlock, Exit.then])
     refine bodyPost_ret (tok_ret3 rfl _ _ w.heap.size _ _ _ _ _ rfl (tok_stored HBK.out _ _ _ _ _)) rfl ?_
     exact ⟨by rw [HE3.out]; simp [oneEnd, Tk.val, Tk.vals, C, fl_0], below_stored hBl.out (Nat.le_refl _) _ _ _ _ _⟩
end Go.Proofs.Ytecmjhohniipoaa.Lx
end

section
namespace Go.Proofs.Ytecmjhohniipoaa.Lx
open Go.RowKit
open Pl Fl
attribute [local go_sem] run_store_complexL
theorem runN_all (p : UInt8 → Bool) (l : List UInt8) : ∀ c ∈ l.take (runN p l), p c = true := by
 induction l with
 | nil => simp
 | cons a r ih =>
   cases h : p a
   ·rw [runN_no h]; simp
   ·rw [runN_yes h, List.take_succ_cons]
    intro c hc
    rcases List.mem_cons.1 hc with rfl | hc
    ·exact h
    ·exact ih c hc
theorem isX_48 {c : UInt8} (h : isX c = true) : 48 ≤ c.toNat := by
 unfold isX isD at h
 simp only [Bool.or_eq_true, Bool.and_eq_true, decide_eq_true_eq] at h
 omega
theorem isX_of_isD {c : UInt8} (h : isD c = true) : isX c = true := by unfold isX; rw [h]; rfl
theorem not_isL_of_isD {c : UInt8} (h : isD c = true) : isL c = false := by
 unfold isD at h; unfold isL
 simp only [Bool.and_eq_true, decide_eq_true_eq] at h
 simp; omega
theorem take_data (s : ByteArray) (n : Nat) : (s.extract 0 n).data.toList = s.data.toList.take n := by rw [ext_take]; simp [bt]
structure DigitAt (s : ByteArray) (n : Nat) : Prop where
 len : 1 ≤ (s.extract 0 n).size
 big : (s.extract 0 n).size ≤ 9223372036854775800
 low : ∀ c ∈ (s.extract 0 n).data.toList, 48 ≤ c.toNat
 none : numN (s.extract 0 n).data.toList = none → oneN s.data.toList = .error 41
 some : ∀ t, numN (s.extract 0 n).data.toList = some t → oneN s.data.toList = .ok (t, n)
theorem digit_at (s : ByteArray) (h0 : 0 < s.size) (hs : s.size ≤ 9223372036854775800) (hd : isD s[0] = true) (k n : Nat) (hk : runN isX s.data.toList = k)
 (hn : n = k ∧ s.data.toList[k]? ≠ some 72 ∨ n = k + 1 ∧ s.data.toList[k]? = some 72) : DigitAt s n := by
 have hk1 : 1 ≤ k := by
  have := head_at s h0
  rcases hl : s.data.toList with _ | ⟨a, r⟩
  ·rw [hl] at this; cases this
  ·rw [hl] at this; injection this with this
   rw [← hk, hl, runN_yes (by rw [this]; exact isX_of_isD hd)]; omega
 have hkl : k ≤ s.data.toList.length := by rw [← hk]; exact runN_le _ _
 have hnl : n ≤ s.data.toList.length := by
  rcases hn with ⟨rfl, _⟩ | ⟨rfl, h⟩
  ·exact hkl
  ·obtain ⟨h, _⟩ := List.getElem?_eq_some_iff.1 h; omega
 have hsz : (s.extract 0 n).size = n := by simp at hnl ⊢; omega
 have hone : oneN s.data.toList = match numN (s.data.toList.take n) with | none => .error 41 | some t => .ok (t, n) := by
  unfold oneN
  rw [head_at s h0]
  simp only [Option.getD_some, not_isL_of_isD hd, hd, if_true, Bool.false_eq_true, if_false]
  rw [hk]
  rcases hn with ⟨rfl, h⟩ | ⟨rfl, h⟩
  ·rw [if_neg h] <;> (cases numN _ <;> rfl)
  ·rw [if_pos h] <;> (cases numN _ <;> rfl)
 refine ⟨by rcases hn with ⟨rfl, _⟩ | ⟨rfl, h⟩ <;> omega, by simp at hnl; omega, ?_, ?_, ?_⟩
 ·intro c hc
  rw [take_data] at hc
  rcases hn with ⟨rfl, _⟩ | ⟨rfl, h⟩
  ·rw [← hk] at hc; exact isX_48 (runN_all _ _ c hc)
  ·rw [List.take_add_one, h] at hc
   rcases List.mem_append.1 hc with hc | hc
   ·rw [← hk] at hc; exact isX_48 (runN_all _ _ c hc)
   ·simp at hc; subst hc; decide
 ·intro h; rw [hone]; rw [take_data] at h; rw [h]
 ·intro t h; rw [hone]; rw [take_data] at h; rw [h]
set_option maxHeartbeats 6400000 in
theorem One_digit (s : ByteArray) (h0 : 0 < s.size) (hs : s.size ≤ 9223372036854775800) (hc : isD s[0] = true) (w : World) :
 Calls Try.prog 24 #[.string s] w fun e w' => oneEnd (oneN s.data.toList) e ∧ Below w.heap.size w w' := by
 have i0 : (0 : Int) < (s.size : Int) := by omega
 have RL := qh (fun c w => rletter_any c w)
 have RD := qh (fun c w => rdigit_any c w)
 have hl0 := not_isL_of_isD hc
 have HDA := qh (digit_at s h0 hs hc)
 go_enter Try.func24, Try.ntmps24
 go_wp2_with fail
 ((with_reducible refine (RL.out _ _).mono ?_); rintro e w1 ⟨rfl, rfl⟩)
 go_wp2_with fail
 ((with_reducible refine (RD.out _ _).mono ?_); rintro e w1 ⟨rfl, rfl⟩)
 go_wp2_with fail
 go_loop [5] (fun i => ∃ k : Nat, k ≤ s.size ∧ i = .int .i64 k ∧ Hid (runN isX s.data.toList = k + runN isX (s.data.toList.drop k))) (fun i => s.size - (intOf i).toNat)
 case atStart => exact ⟨0, Nat.zero_le _, rfl, qh (by simp)⟩
 case round =>
  obtain ⟨k, hk, rfl, HB⟩ := hrel
  have x0 : (0 : Int) ≤ (k : Int) := by omega
  have x2 : (k : Int) ≤ (s.size : Int) := by omega
  by_cases hlt : k < s.size
  case' pos =>
   have HD := qh (drop_cons s k hlt)
   have HA : Hid (s.data.toList[k]? = some s[k]) := qh (by have := congrArg List.head? HD.out; rw [List.head?_drop] at this; rw [this]; rfl)
   have x1 : (k : Int) < (s.size : Int) := by omega
   go_wp2_with fail
   ((with_reducible refine (RD.out _ _).mono ?_); rintro e w1 ⟨rfl, rfl⟩)
   cases hd : isD s[k]
   case' true =>
    have hP : isX s[k] = true := isX_of_isD hd
    have HN := qh (show runN isX s.data.toList = (k + 1) + runN isX (s.data.toList.drop (k + 1)) by rw [HB.out, HD.out, runN_yes hP]; omega)
    clear HB HD hP
    go_wp2
    go_round
    case rel => exact ⟨k + 1, by omega, by go_num, HN⟩
    case measure => simp [intOf]; omega
   by_cases hx : 65 ≤ s[k].toNat ∧ s[k].toNat ≤ 70
   case' pos =>
    have hP : isX s[k] = true := by unfold isX; simp; exact .inr hx
    have HN := qh (show runN isX s.data.toList = (k + 1) + runN isX (s.data.toList.drop (k + 1)) by rw [HB.out, HD.out, runN_yes hP]; omega)
    obtain ⟨hx1, hx2⟩ := hx
    clear HB HD hP
    go_wp2
    go_round
    case rel => exact ⟨k + 1, by omega, by go_num, HN⟩
    case measure => simp [intOf]; omega
   have HK := qh (show runN isX s.data.toList = k by rw [HB.out, HD.out, runN_no (by unfold isX; rw [hd]; simp; omega)]; rfl)
   clear HD HB
   by_cases h72 : s[k] = 72
   case' pos =>
    have HF := HDA.out k (k + 1) HK.out (.inr ⟨rfl, by rw [HA.out, h72]⟩)
    have y1 : (65 : Int) ≤ (s[k].toNat : Int) := by rw [h72]; decide
    have y2 : ¬ (s[k].toNat : Int) ≤ 70 := by rw [h72]; decide
    have y3 : ((s[k].toNat : Int) == 72) = true := by rw [h72]; rfl
    clear h72 hx HA HDA HK
    go_wp2_with fail
   case' neg =>
    have HF := HDA.out k k HK.out (.inl ⟨rfl, by rw [HA.out]; intro e; injection e with e; exact h72 e⟩)
    have y3 : ((s[k].toNat : Int) == 72) = false := by
     simp only [beq_eq_false_iff_ne, ne_eq]
     exact fun e => h72 (UInt8.toNat_inj.1 (by rw [show (72 : UInt8).toNat = 72 from rfl]; omega))
    clear h72 HA HDA HK
    by_cases h65 : 65 ≤ s[k].toNat
    all_goals
     go_wp2_with fail
  case' neg =>
   have HK := qh (show runN isX s.data.toList = k by rw [HB.out, List.drop_of_length_le (by simp; omega)]; rfl)
   have HF := HDA.out k k HK.out (.inl ⟨rfl, by rw [List.getElem?_eq_none (by simp; omega)]; simp⟩)
   clear HB HDA HK
   go_wp2_with fail
  all_goals
   (with_reducible refine (number_any _ HF.len HF.big HF.low _).mono ?_)
   rintro e w1 ⟨⟨⟨tk, tt, tn⟩, rfl, ht⟩, hb⟩
   have hz := hb.size
   have hB := (Blk.new w 68 #[.int .u8 0, .complex .f64 0 0, .complex .f64 0 0, .string ⟨#[]⟩, .int .i64 0])
   have hlt1 : w.heap.size < (w.alloc (.cells #[.int .u8 0, .complex .f64 0 0, .complex .f64 0 0, .string ⟨#[]⟩, .int .i64 0] 68)).heap.size := by rw [World.size_alloc]; exact Nat.lt_succ_self _
   have hB := hB.below hb hlt1
   have hBl : Hid (Below w.heap.size w w1) := qh (((Below.refl w.heap.size w).alloc (Nat.le_refl _) _).trans (hb.mono (Nat.le_of_lt hlt1)))
   obtain ⟨m0, m1, m2, m3, m4, f0, f1, f2, f3, f4⟩ := hB.tok
   have HBK := qh hB
   have HT := qh ht
   have HFN := qh HF.none
   have HFS := qh HF.some
   have hlt0 : w.heap.size < w1.heap.size := by omega
   clear hB hb ht HF hz hlt1
   simp only [Tk.val, Tk.vals, C, fl_0]
   generalize numN _ = NN at *
   cases NN with
   | none =>
     have HE := HFN.out rfl
     have HE2 := qh HE
     clear HE HFN HFS HT
     simp only [Option.isSome_none]
     go_wp2
     (try simp only [Exit.inBlock, Exit.then])
     refine bodyPost_ret (tok_ret3 rfl _ _ w.heap.size _ _ _ _ _ rfl ((tok_stored HBK.out _ _ _ _ _).alloc _)) rfl ?_
     exact ⟨by rw [HE2.out]; simp [oneEnd, noTk, Tk.val, Tk.vals, C, fl_0], (below_stored hBl.out (Nat.le_refl _) _ _ _ _ _).alloc (by simp only [World.size_setCell]; exact Nat.le_of_lt hlt0) _⟩
   | some t =>
     have HE := HFS.out _ rfl
     have ht := HT.out _ rfl
     subst ht
     have HE2 := qh HE
     clear HE HFN HFS HT
     simp only [Option.isSome_some]
     go_wp2
     (try simp only [Exit.inBlock, Exit.then])
     refine bodyPost_ret (tok_ret3 rfl _ _ w.heap.size _ _ _ _ _ rfl ((tok_stored HBK.out _ _ _ _ _).alloc _)) rfl ?_
     exact ⟨by rw [HE2.out]; simp [oneEnd, Tk.val, Tk.vals, C, fl_0], (below_stored hBl.out (Nat.le_refl _) _ _ _ _ _).alloc (by simp only [World.size_setCell]; exact Nat.le_of_lt hlt0) _⟩
end Go.Proofs.Ytecmjhohniipoaa.Lx
end
