/- The walk of the reference's Number; seeds in memory; nodes that are just made. -/
import Derived.Test.YtnboenmkngjhmaaE28
import Derived.Test.YtnboenmkngjhmaaF9
set_option linter.unusedSimpArgs false
set_option linter.unusedVariables false
namespace Go.Proofs.Ytnboenmkngjhmaa.Ex
open Go.RowKit
open Tr (Nd Fo RepS RepN Rep cellsN)
open Lx (Tk noTk Blk run_store_complexL bt)
open Fl

theorem ofNat48 (n : Nat) : UInt8.ofNat (48 + n) = 48 + UInt8.ofNat n := UInt8.ofNat_add 48 n
/-- A number's digits; of 0 none. -/
def digN (n : Nat) : List UInt8 := if n = 0 then [] else Lib.decDigits n
theorem digN_step (m : Nat) (h : 0 < m) (l : List UInt8) : digN m ++ l = digN (m / 10) ++ (48 + UInt8.ofNat (m % 10)) :: l := by
  unfold digN
  rw [if_neg (by omega)]
  by_cases h9 : 9 < m
  · rw [if_neg (by omega), Num.dec_big m h9, ofNat48]; simp
  · rw [if_pos (by omega), Num.dec_small m h9, ofNat48, show m % 10 = m by omega]; rfl
theorem conv_one (W : World) (z : Int) (h0 : 0 ≤ z) (h1 : z < 256) : (convert 60 9 (.slice (some ⟨W.heap.size, 0, none⟩) 1 1)).run Try.prog (W.alloc (.cells #[.int .u8 z] 5)) = .ok (.string ⟨#[UInt8.ofNat z.toNat]⟩) (W.alloc (.cells #[.int .u8 z] 5)) := by
  rw [run_convert_bytes_string _ _ _ _ _ _ _ Try.underlying60 Try.underlying5 Try.underlying9]
  rw [run_bytesToString _ _ _ _ [z] (by simp [loadCells, loadCellsFrom, go_sem, Addr.add])]
  rfl
theorem str_cons (d : UInt8) (l : List UInt8) : (ByteArray.mk #[d] ++ ByteArray.mk l.toArray) = ByteArray.mk (d :: l).toArray := ByteArray.mk_append_mk [d] l
theorem below_alloc' {w wr : World} (h : Below w.heap.size w wr) (o : Obj) : Below w.heap.size w (wr.alloc o) := h.alloc h.size o
set_option maxRecDepth 100000 in
set_option maxHeartbeats 1600000 in
theorem number_any (N : Nat) (hN : N ≤ 65535) (w : World) : Calls Try.prog 19 #[.int .i64 N] w fun e w' => e = .returned (.string (bt (Lib.decDigits N))) ∧ Below w.heap.size w w' := by
  by_cases h0 : 0 < N
  · have HI := Lib.hid (show Lib.decDigits N = digN N by unfold digN; rw [if_neg (by omega)])
    go_enter Try.func19, Try.ntmps19
    go_wp2
    go_loopw [0, 3] (fun n s wr => ∃ (m : Nat) (l : List UInt8), m ≤ N ∧ n = .int .i64 m ∧ s = .string ⟨l.toArray⟩ ∧ l.length + m ≤ N ∧ Hid (digN N = digN m ++ l) ∧ Below w.heap.size w wr) (fun n _ _ => (intOf n).toNat)
    case atStart => exact ⟨N, [], Nat.le_refl _, rfl, rfl, by simp, Lib.hid (by simp), Below.refl _ _⟩
    case round =>
      obtain ⟨m, l, hm, rfl, rfl, hlen, hl, hb⟩ := hrel
      by_cases h9 : 0 < m
      · have hc := conv_one wr (48 + (m : Int) % 10) (by omega) (by omega)
        have hne : ((m : Int) != 0) = true := by simp; omega
        go_wp2
        go_roundw
        case rel => exact ⟨m / 10, (48 + UInt8.ofNat (m % 10)) :: l, by omega, by simp, by rw [str_cons], by simp; omega, Lib.hid (by rw [hl.out, digN_step m h9]), below_alloc' hb _⟩
        case measure => simp [intOf]; omega
      · obtain rfl : m = 0 := by omega
        have HE := Lib.hid (show digN N = l from by rw [hl.out]; rfl)
        clear hl
        go_wp2
        go_ret
        exact ⟨by rw [HI.out, HE.out]; rfl, hb⟩
  · obtain rfl : N = 0 := by omega
    have HI := Lib.hid (show Lib.decDigits 0 = [48] from Num.dec_small 0 (by omega))
    clear h0
    go_enter Try.func19, Try.ntmps19
    go_wp2
    go_ret
    exact ⟨by rw [HI.out]; rfl, Below.refl _ _⟩
/-! ### Seeds in memory -/
def seedV (s : Nat × Nat) : List Value := [.int .u8 s.1, .int .u16 s.2]
def seedsV (l : List (Nat × Nat)) : List Value := l.flatMap seedV
theorem seedsV_len (l : List (Nat × Nat)) : (seedsV l).length = l.length * 2 := by
  induction l with
  | nil => rfl
  | cons s l ih => simp only [seedsV, List.flatMap_cons, List.length_append, List.length_cons] at ih ⊢; rw [ih, show (seedV s).length = 2 from rfl]; omega
structure Seeds (w : World) (A : Option Addr) (c : Nat) (l : List (Nat × Nat)) : Prop where
  reads : Reads w w.heap.size 2 A l.length (seedsV l)
  cap : l.length ≤ c
  big : c ≤ 9223372036854775807
  fit : ∀ s ∈ l, s.1 < 256 ∧ s.2 ≤ 65535
theorem Seeds.below {w w' : World} {A : Option Addr} {c : Nat} {l : List (Nat × Nat)} (h : Seeds w A c l) (hb : Below w.heap.size w w') : Seeds w' A c l :=
  ⟨(h.reads.below hb).more hb.size, h.cap, h.big, h.fit⟩
theorem seedsV_drop (l : List (Nat × Nat)) (k : Nat) : seedsV (l.drop k) = (seedsV l).drop (k * 2) := by
  induction l generalizing k with
  | nil => simp [seedsV]
  | cons s l ih =>
    cases k with
    | zero => simp
    | succ k =>
      rw [List.drop_succ_cons, ih k]
      simp only [seedsV, List.flatMap_cons]
      rw [show (k + 1) * 2 = k * 2 + 1 + 1 from by omega]
      rfl
theorem Seeds.drop {w : World} {A : Option Addr} {c : Nat} {l : List (Nat × Nat)} (h : Seeds w A c l) {k : Nat} (hk : k ≤ l.length) : Seeds w (if c = k then A else A.map (·.add (k * 2))) (c - k) (l.drop k) := by
  have hc := h.cap
  refine ⟨⟨by rw [seedsV_len], fun h0 => ?_⟩, by rw [List.length_drop]; omega, by have := h.big; omega, fun s hs => h.fit s (List.mem_of_mem_drop hs)⟩
  rw [List.length_drop] at h0
  obtain ⟨ad, e, hb, hcl⟩ := h.reads.2 (by omega)
  subst e
  rw [if_neg (by omega)]
  refine ⟨ad.add (k * 2), rfl, by rw [block_of_add]; exact hb, fun j u hu => ?_⟩
  rw [seedsV_drop, List.getElem?_drop] at hu
  rw [add_of_add]
  exact hcl _ _ hu
/-- l[k:] of seeds. -/
theorem seeds_slice {w : World} {A : Option Addr} {c : Nat} {l : List (Nat × Nat)} (h : Seeds w A c l) {k : Nat} (hk : k ≤ l.length) (kI : Int) (e : kI = (k : Nat)) :
    ∃ A', (∀ w' : World, (Instr.slice 22 (.slice A l.length c) (some (.int .i64 kI)) none none).run Try.prog w' = .ok (.slice A' (l.drop k).length (c - k)) w') ∧ Seeds w A' (c - k) (l.drop k) := by
  subst e
  refine ⟨_, fun w' => ?_, h.drop hk⟩
  have h0 : (0 : Int) ≤ (k : Int) := by omega
  have h1 : (k : Int) ≤ (l.length : Int) := by omega
  have hz : (Try.prog.elem 22) = 48 := by kernel_rfl
  simp [go_sem, h0, h1, sliced, Result.andThen, List.length_drop]
theorem Seeds.first {w : World} {A : Option Addr} {c : Nat} {s : Nat × Nat} {l : List (Nat × Nat)} (h : Seeds w A c (s :: l)) : ∃ g off, A = some ⟨g, off, none⟩ ∧ g < w.heap.size ∧ w.cell? ⟨g, off, none⟩ = some (.int .u8 s.1) ∧ w.cell? ⟨g, off + 1, none⟩ = some (.int .u16 s.2) := by
  obtain ⟨⟨g, off, sp⟩, e, hb, hc⟩ := h.reads.2 (by simp)
  have c0 := hc 0 _ rfl
  have hs : sp = none := by
    have := World.cell?_spot c0
    simpa [Addr.add] using this
  subst hs
  have c1 := hc 1 _ rfl
  refine ⟨g, off, e, hb, by simpa [Addr.add] using c0, ?_⟩
  have e1 : (⟨g, off, none⟩ : Addr).add 1 = ⟨g, off + 1, none⟩ := by unfold Addr.add; simp
  rw [e1] at c1
  exact c1
/-! ### Nodes that are just made -/
theorem mk_leaf {B : Nat} {w : World} {b : Nat} {kind : Nat} {name : ByteArray} {n : Int} (h : Tr.Blk w b 38 #[.int .u8 kind, .complex .f64 0 0, .string name, .int .i64 n, .slice none 0 0]) (hB : B ≤ b) :
    RepS (fun y => B ≤ y) w (.node (mk kind (0, 0) name n []).1 (mk kind (0, 0) name n []).2 .no) [.pointer (some ⟨b, 0, none⟩)] := by
  have h' : Tr.Blk w b 38 (cellsN ⟨kind, (0, 0), name, n⟩ (.slice none 0 0)) := by
    unfold cellsN Tr.C
    rw [fl_0]
    exact h
  unfold RepS
  exact ⟨b, none, 0, [], [], rfl, hB, h'.at_, fun h0 => absurd h0 (by simp), Reads.none_, rfl, rfl⟩
theorem mk_node {B : Nat} {w : World} {b g : Nat} {kind : Nat} {name : ByteArray} {n : Int} {l : List T1} {vs : List Value} {m : Nat} (hm : vs.length = m) (h : Tr.Blk w b 38 #[.int .u8 kind, .complex .f64 0 0, .string name, .int .i64 n, .slice (some ⟨g, 0, none⟩) m m]) (hB : B ≤ b) (hBg : B ≤ g)
    (hg : Tr.Blk w g 24 vs.toArray) (hk : RepS (fun y => B ≤ y) w (forest l) vs) :
    RepS (fun y => B ≤ y) w (.node (mk kind (0, 0) name n l).1 (mk kind (0, 0) name n l).2 .no) [.pointer (some ⟨b, 0, none⟩)] := by
  subst hm
  have h' : Tr.Blk w b 38 (cellsN ⟨kind, (0, 0), name, n⟩ (.slice (some ⟨g, 0, none⟩) vs.length vs.length)) := by
    unfold cellsN Tr.C
    rw [fl_0]
    exact h
  unfold RepS
  refine ⟨b, some ⟨g, 0, none⟩, vs.length, vs, [], rfl, hB, h'.at_, fun h0 => ⟨g, 0, rfl, hBg, hg.lt⟩, ⟨by simp, fun h0 => ⟨_, rfl, hg.lt, fun j u hu => ?_⟩⟩, hk, rfl⟩
  have := hg.cell j
  have e : (⟨g, 0, none⟩ : Addr).add j = ⟨g, j, none⟩ := by
    unfold Addr.add
    by_cases h0 : j = 0
    · subst h0; rfl
    · rw [if_neg h0]; simp
  rw [e, this]
  simpa using hu
end Go.Proofs.Ytnboenmkngjhmaa.Ex
