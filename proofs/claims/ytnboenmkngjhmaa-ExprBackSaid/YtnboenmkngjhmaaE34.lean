/- The walk of Grown, kind by kind. -/
import Derived.Test.YtnboenmkngjhmaaE33
import Derived.Test.YtnboenmkngjhmaaE31
import Derived.RegionTactic
set_option linter.unusedSimpArgs false
set_option linter.unusedVariables false
namespace Go.Proofs.Ytnboenmkngjhmaa.Ex
open Go.RowKit
open Tr (Nd Fo RepS RepN Rep cellsN)
open Lx (Tk noTk run_store_complexL bt)
open Fl
attribute [local go_sem] run_store_complexL run_field1 run_field3

/-- What Grown hands back. -/
def GrownR (w : World) (g : Gr) (n : Nat) (e : Ending) (w' : World) : Prop := ∃ b, e = .returned (.tuple #[.pointer (some ⟨b, 0, none⟩), .string (bt g.text), .int .i64 n]) ∧ RepS (fun y => w.heap.size ≤ y) w' (.node g.tree.1 g.tree.2 .no) [.pointer (some ⟨b, 0, none⟩)] ∧ Below w.heap.size w w'
def GrownIH (d : Nat) : Prop := ∀ (l : List (Nat × Nat)) (A : Option Addr) (c : Nat) (w : World), l.length ≤ 60 → Seeds w A c l → ∀ D : Int, D = (d : Nat) → Calls Try.prog 9 #[.slice A l.length c, .int .i64 D] w (GrownR w (grownP d l).1 (grownP d l).2)
theorem grown_size (d : Nat) (l : List (Nat × Nat)) (h : ∀ s ∈ l, s.1 < 256 ∧ s.2 ≤ 65535) (hl : l.length ≤ 60) : (bt (grownP d l).1.text).size ≤ 600 ∧ (grownP d l).2 ≤ l.length := by
  obtain ⟨_, h1, h2, _⟩ := grown_ok d l (fun s hs => (h s hs).2)
  exact ⟨by show (grownP d l).1.text.toArray.size ≤ 600; simp; omega, h1⟩
set_option maxRecDepth 100000 in
set_option maxHeartbeats 1600000 in
theorem grown_z (d : Nat) (l : List (Nat × Nat)) (A : Option Addr) (c : Nat) (w : World) (D : Int) (h : l = [] ∨ D = 0) (hg : grownP d l = (.z, 0)) : Calls Try.prog 9 #[.slice A l.length c, .int .i64 D] w (GrownR w (grownP d l).1 (grownP d l).2) := by
  rw [hg]
  have hb := (Below.refl w.heap.size w).alloc (Nat.le_refl _) (.cells #[.int .u8 1, .complex .f64 0 0, .string ⟨#[122]⟩, .int .i64 0, .slice none 0 0] 38)
  have hr := mk_leaf (B := w.heap.size) (kind := 1) (name := ⟨#[122]⟩) (n := 0) (Tr.Blk.new w 38 #[.int .u8 1, .complex .f64 0 0, .string ⟨#[122]⟩, .int .i64 0, .slice none 0 0]) (Nat.le_refl _)
  have HR := Lib.hid (And.intro hr hb)
  have hx : ((l.length : Int) == 0) = true ∨ (((l.length : Int) == 0) = false ∧ (D == 0) = true) := by
    rcases h with rfl | rfl
    · exact .inl rfl
    · cases ((l.length : Int) == 0)
      · exact .inr ⟨rfl, rfl⟩
      · exact .inl rfl
  clear hr hb h hg
  rcases hx with b1 | ⟨b1, b2⟩
  all_goals
    go_enter Try.func9, Try.ntmps9
    go_wp2
    go_ret3
    exact ⟨w.heap.size, rfl, HR.out.1, HR.out.2⟩
/-- What stays in memory while Grown goes on: the seed, the operators. -/
structure GK (w w' : World) (n : Nat) : Prop where
  bel : Below w.heap.size w w'
  lt : w.heap.size + 1 < w'.heap.size
  s1 : w'.cell? ⟨w.heap.size, 1, none⟩ = some (.int .u16 n)
  ops : ∀ p, p < 15 → w'.cell? ⟨w.heap.size + 1, p, none⟩ = some (.string (opB p))
theorem GK.below {w w' w2 : World} {n : Nat} (h : GK w w' n) (hb : Below w'.heap.size w' w2) : GK w w2 n :=
  ⟨h.bel.trans (hb.mono h.bel.size), Nat.lt_of_lt_of_le h.lt hb.size, (hb.cell (p := ⟨w.heap.size, 1, none⟩) (by have := h.lt; simp only; omega)).trans h.s1, fun p hp => (hb.cell (p := ⟨w.heap.size + 1, p, none⟩) h.lt).trans (h.ops p hp)⟩
theorem GK.start (w : World) (a n : Nat) : GK w ((w.alloc (.cells #[.int .u8 a, .int .u16 n] 48)).alloc (.cells opsV 9)) n := by
  have h0 : (w.alloc (.cells #[.int .u8 a, .int .u16 n] 48)).heap.size = w.heap.size + 1 := World.size_alloc _ _
  have hb := Lx.Blk.new w 48 #[.int .u8 a, .int .u16 n]
  refine ⟨((Below.refl _ _).alloc (Nat.le_refl _) _).alloc (by rw [h0]; omega) _, by rw [World.size_alloc, h0]; omega, (hb.alloc _).cell 1, fun p hp => ?_⟩
  have := Lx.Blk.new (w.alloc (.cells #[.int .u8 a, .int .u16 n] 48)) 9 opsV
  rw [h0] at this
  rw [this.cell p]
  exact opsV_at p hp
theorem bt_data (l : List UInt8) : (bt l).data.toList = l := by simp [bt]
theorem un_at (q : Nat) (hq : q < 3) (W : World) : (W.alloc (.cells #[.string ⟨#[43]⟩, .string ⟨#[45]⟩, .string ⟨#[78, 79, 84]⟩] 9)).cell? ⟨W.heap.size, q, none⟩ = some (.string (unB q)) := by
  rw [(Lx.Blk.new W 9 _).cell q]
  obtain rfl | rfl | rfl : q = 0 ∨ q = 1 ∨ q = 2 := by omega
  · rfl
  · rfl
  · rfl
theorem rep_two {B : Nat} {w : World} {x y : T1} {b1 b2 : Nat} (h1 : RepS (fun z => B ≤ z) w (.node x.1 x.2 .no) [.pointer (some ⟨b1, 0, none⟩)]) (h2 : RepS (fun z => B ≤ z) w (.node y.1 y.2 .no) [.pointer (some ⟨b2, 0, none⟩)]) : RepS (fun z => B ≤ z) w (forest [x, y]) [.pointer (some ⟨b1, 0, none⟩), .pointer (some ⟨b2, 0, none⟩)] := repS_cons h1 h2
theorem rep_one {B : Nat} {w : World} {x : T1} {v : Value} (h1 : RepS (fun z => B ≤ z) w (.node x.1 x.2 .no) [v]) : RepS (fun z => B ≤ z) w (forest [x]) [v] := h1
theorem rep_three {B : Nat} {w : World} {x y z : T1} {b1 b2 b3 : Nat} (h1 : RepS (fun z => B ≤ z) w (.node x.1 x.2 .no) [.pointer (some ⟨b1, 0, none⟩)]) (h2 : RepS (fun z => B ≤ z) w (.node y.1 y.2 .no) [.pointer (some ⟨b2, 0, none⟩)]) (h3 : RepS (fun z => B ≤ z) w (.node z.1 z.2 .no) [.pointer (some ⟨b3, 0, none⟩)]) : RepS (fun z => B ≤ z) w (forest [x, y, z]) [.pointer (some ⟨b1, 0, none⟩), .pointer (some ⟨b2, 0, none⟩), .pointer (some ⟨b3, 0, none⟩)] := repS_cons h1 (repS_cons h2 h3)
theorem rep_up {B : Nat} {w w' : World} {x : T1} {vs : List Value} (h : RepS (fun z => B ≤ z) w (.node x.1 x.2 .no) vs) (hb : Below w.heap.size w w') : RepS (fun z => B ≤ z) w' (.node x.1 x.2 .no) vs := h.below hb
theorem rep_lo {B B' : Nat} {w : World} {x : T1} {vs : List Value} (h : RepS (fun z => B' ≤ z) w (.node x.1 x.2 .no) vs) (hB : B ≤ B') : RepS (fun z => B ≤ z) w (.node x.1 x.2 .no) vs := h.more fun y hy _ => Nat.le_trans hB hy
theorem hn_ (W : World) (o : Obj) (m : Nat) (h : W.heap.size = m) : (W.alloc o).heap[m]? = some o := by rw [← h]; exact heap_alloc_new W o
theorem ho_ {W : World} {o' : Obj} {m : Nat} (o : Obj) (h : W.heap[m]? = some o') : (W.alloc o).heap[m]? = some o' := (Below.heap_alloc W o m (obj_lt h)).trans h
theorem ha_ {w W : World} (h : Below w.heap.size w W) (o : Obj) : Below w.heap.size w (W.alloc o) := h.alloc h.size o
theorem ret3_ {v : Value} {s s' : ByteArray} {i i' : Int} (h1 : s = s') (h2 : i = i') : Ending.returned (.tuple #[v, .string s, .int .i64 i]) = .returned (.tuple #[v, .string s', .int .i64 i']) := by rw [h1, h2]
theorem num_a {w W x : World} {cs : Array Value} (hB : Below w.heap.size w W) (hb : Below (W.alloc (.cells cs 38)).drew.heap.size (W.alloc (.cells cs 38)).drew x) : Below w.heap.size w x ∧ Tr.Blk x W.heap.size 38 cs := by
  have h1 : Below w.heap.size w (W.alloc (.cells cs 38)).drew := (hB.alloc hB.size _).drew
  refine ⟨h1.trans (hb.mono h1.size), ?_⟩
  have h2 : Tr.Blk (W.alloc (.cells cs 38)).drew W.heap.size 38 cs := (Tr.Blk.new W 38 cs).drew
  exact h2.below hb h2.lt
theorem num_b {w W x : World} (cs : Array Value) (hB : Below w.heap.size w W) (hb : Below W.drew.heap.size W.drew x) : Below w.heap.size w (x.alloc (.cells cs 38)) ∧ Tr.Blk (x.alloc (.cells cs 38)) x.heap.size 38 cs := by
  have h1 : Below w.heap.size w x := (hB.drew).trans (hb.mono hB.size)
  exact ⟨h1.alloc h1.size _, Tr.Blk.new _ _ _⟩
theorem bel1 (w : World) (o : Obj) : Below w.heap.size w (w.alloc o) := (Below.refl _ _).alloc (Nat.le_refl _) _
set_option maxRecDepth 100000 in
set_option maxHeartbeats 12800000 in
theorem grown_bin0 (d : Nat) (IH : GrownIH d) (a n : Nat) (l : List (Nat × Nat)) (A : Option Addr) (c : Nat) (w : World) (hl : ((a, n) :: l).length ≤ 60) (h : Seeds w A c ((a, n) :: l)) (D : Int) (hD : D = ((d + 1 : Nat) : Int)) (hd : d ≤ 1000) (ea : a % 9 = 0) :
    Calls Try.prog 9 #[.slice A ((a, n) :: l).length c, .int .i64 D] w (GrownR w (grownP (d + 1) ((a, n) :: l)).1 (grownP (d + 1) ((a, n) :: l)).2) := by
  obtain ⟨g0, off, rfl, hg0, k0, k1⟩ := h.first
  obtain ⟨fa, fn⟩ := h.fit (a, n) (by simp)
  simp only at fa fn k0 k1
  have HG := Lib.hid (show grownP (d + 1) ((a, n) :: l) = (.bin (n % 15) (grownP d l).1 (grownP d (l.drop (grownP d l).2)).1, 1 + (grownP d l).2 + (grownP d (l.drop (grownP d l).2)).2) by rw [grownP_succ, if_pos (by omega)])
  have HS := Lib.hid h
  have HIH := Lib.hid IH
  have hll : l.length ≤ 59 := by simp only [List.length_cons] at hl; omega
  have hlf : ∀ s ∈ l, s.1 < 256 ∧ s.2 ≤ 65535 := fun s hs => h.fit s (by simp [hs])
  have hcap := h.cap
  obtain ⟨N, hN⟩ : ∃ N, ((a, n) :: l).length = N := ⟨_, rfl⟩
  have HN := Lib.hid hN
  rw [hN] at hl hcap ⊢
  have hN1 : 1 ≤ N := by simp only [List.length_cons] at hN; omega
  have x1 : (0 : Int) ≤ (a : Int) := by omega
  have x2 : (a : Int) ≤ 255 := by omega
  have x3 : (0 : Int) ≤ (n : Int) := by omega
  have x4 : (n : Int) ≤ 65535 := by omega
  have x5 : (1 : Int) ≤ (N : Int) := by omega
  have x6 : (1 : Int) ≤ D := by omega
  have x7 : ((N : Int) == 0) = false := by simp only [beq_eq_false_iff_ne, ne_eq]; omega
  have x8 : (D == 0) = false := by simp only [beq_eq_false_iff_ne, ne_eq]; omega
  have x9 : D ≤ 9223372036854775807 := by omega
  have ea' : (a : Int) % 9 = 0 := by omega
  have HD := Lib.hid hD
  have HF := Lib.hid hlf
  obtain ⟨A1, hs1, HS1⟩ := seeds_slice h (k := 1) (by simp only [List.length_cons]; omega) 1 rfl
  rw [hN, show (((a, n) :: l).drop 1).length = l.length from rfl] at hs1
  have HS1 := Lib.hid (show Seeds w A1 (c - 1) l from HS1)
  obtain ⟨G1, m1, e1⟩ : ∃ G m, grownP d l = (G, m) := ⟨_, _, rfl⟩
  have z1 := grown_size d l hlf (by omega)
  rw [e1] at HG z1
  obtain ⟨z1, z2⟩ := z1
  simp only at z1 z2 HG
  have C1 := Lib.hid (show ∀ W, Seeds W A1 (c - 1) l → Calls Try.prog 9 #[.slice A1 l.length (c - 1), .int .i64 (D - 1)] W (GrownR W G1 m1) from fun W hW => by
    have := IH l A1 (c - 1) W (by omega) hW (D - 1) (by rw [hD]; omega)
    rw [e1] at this
    exact this)
  have y1 : (0 : Int) ≤ (m1 : Int) := by omega
  have y2 : (m1 : Int) ≤ 60 := by omega
  obtain ⟨A2, hs2, HS2⟩ := seeds_slice h (k := 1 + m1) (by simp only [List.length_cons]; omega) (1 + (m1 : Int)) (by omega)
  have ed : ((a, n) :: l).drop (1 + m1) = l.drop m1 := by rw [Nat.add_comm]; rfl
  rw [hN, ed, List.length_drop] at hs2
  rw [ed] at HS2
  have HS2 := Lib.hid HS2
  obtain ⟨G2, m2, e2⟩ : ∃ G m, grownP d (l.drop m1) = (G, m) := ⟨_, _, rfl⟩
  have z3 := grown_size d (l.drop m1) (fun s hs => hlf s (List.mem_of_mem_drop hs)) (by rw [List.length_drop]; omega)
  rw [e2] at HG z3
  obtain ⟨z3, z4⟩ := z3
  rw [List.length_drop] at z4
  simp only at z3 z4 HG
  have C2 := Lib.hid (show ∀ W, Seeds W A2 (c - (1 + m1)) (l.drop m1) → Calls Try.prog 9 #[.slice A2 (l.length - m1) (c - (1 + m1)), .int .i64 (D - 1)] W (GrownR W G2 m2) from fun W hW => by
    have := IH (l.drop m1) A2 (c - (1 + m1)) W (by rw [List.length_drop]; omega) hW (D - 1) (by rw [hD]; omega)
    rw [e2, List.length_drop] at this
    exact this)
  have y3 : (0 : Int) ≤ (m2 : Int) := by omega
  have y4 : (m2 : Int) ≤ 60 := by omega
  have ep : (n : Int) % 15 = ((n % 15 : Nat) : Int) := by omega
  have hp := op_size (n % 15) (by omega)
  have ha1 : ((n % 15 : Nat) : Int) < 15 := by omega
  have ha0 : (0 : Int) ≤ ((n % 15 : Nat) : Int) := by omega
  obtain ⟨p, hpp⟩ : ∃ p, n % 15 = p := ⟨_, rfl⟩
  have hp15 : p < 15 := by omega
  rw [hpp] at HG ep hp ha1 ha0
  clear hpp
  clear h IH hN hlf hD hd ea fa fn
  generalize grownP (d + 1) ((a, n) :: l) = gg at *
  go_enter Try.func9, Try.ntmps9
  have KS := Lib.hid (GK.start w a n)
  have D1 := Lib.hid (C1.out _ (HS1.out.below KS.out.bel))
  go_wp2_with fail
  ((with_reducible refine D1.out.mono ?_); rintro e w1 ⟨b1, rfl, hr1, hb1⟩)
  have hw1 := KS.out.lt
  have HR1 := Lib.hid (rep_lo hr1 (B := w.heap.size) (by omega))
  have KS := Lib.hid (KS.out.below hb1)
  clear hr1 hb1 D1 hw1
  have D2 := Lib.hid (C2.out w1 (HS2.out.below KS.out.bel))
  go_wp2_with fail
  ((with_reducible refine D2.out.mono ?_); rintro e w2 ⟨b2, rfl, hr2, hb2⟩)
  have hw1 := KS.out.lt
  have HR1 := Lib.hid (rep_up HR1.out hb2)
  have HR2 := Lib.hid (rep_lo hr2 (B := w.heap.size) (by omega))
  have KS := Lib.hid (KS.out.below hb2)
  clear hr2 hb2 D2 hw1
  have v1 := KS.out.s1
  have v2 := KS.out.ops p hp15
  go_wp2
  go_ret3
  rw [HG.out]
  refine ⟨w2.heap.size + 1, ret3_ (Lx.bytes_ext (by simp [bt_data, Gr.text, ByteArray.data_append, opTx, unT])) (by push_cast; omega), ?_, KS.out.bel.trans ((ha_ (ha_ (Below.refl w2.heap.size w2) _) _).mono KS.out.bel.size)⟩
  show RepS _ _ (.node (mk 11 (0, 0) (opB p) 0 [G1.tree, G2.tree]).1 (mk 11 (0, 0) (opB p) 0 [G1.tree, G2.tree]).2 .no) _
  exact (mk_node (B := w.heap.size) (b := w2.heap.size + 1) (g := w2.heap.size) (vs := [.pointer (some ⟨b1, 0, none⟩), .pointer (some ⟨b2, 0, none⟩)]) rfl (hn_ _ _ _ (by simp [World.size_alloc])) (by have := KS.out.bel.size; omega) (by have := KS.out.bel.size; omega) (ho_ _ (hn_ _ _ _ (by simp [World.size_alloc]))) (rep_two (rep_up HR1.out (ha_ (ha_ (Below.refl w2.heap.size w2) _) _)) (rep_up HR2.out (ha_ (ha_ (Below.refl w2.heap.size w2) _) _))))
set_option maxRecDepth 100000 in
set_option maxHeartbeats 12800000 in
theorem grown_bin1 (d : Nat) (IH : GrownIH d) (a n : Nat) (l : List (Nat × Nat)) (A : Option Addr) (c : Nat) (w : World) (hl : ((a, n) :: l).length ≤ 60) (h : Seeds w A c ((a, n) :: l)) (D : Int) (hD : D = ((d + 1 : Nat) : Int)) (hd : d ≤ 1000) (ea : a % 9 = 1) :
    Calls Try.prog 9 #[.slice A ((a, n) :: l).length c, .int .i64 D] w (GrownR w (grownP (d + 1) ((a, n) :: l)).1 (grownP (d + 1) ((a, n) :: l)).2) := by
  obtain ⟨g0, off, rfl, hg0, k0, k1⟩ := h.first
  obtain ⟨fa, fn⟩ := h.fit (a, n) (by simp)
  simp only at fa fn k0 k1
  have HG := Lib.hid (show grownP (d + 1) ((a, n) :: l) = (.bin (n % 15) (grownP d l).1 (grownP d (l.drop (grownP d l).2)).1, 1 + (grownP d l).2 + (grownP d (l.drop (grownP d l).2)).2) by rw [grownP_succ, if_pos (by omega)])
  have HS := Lib.hid h
  have HIH := Lib.hid IH
  have hll : l.length ≤ 59 := by simp only [List.length_cons] at hl; omega
  have hlf : ∀ s ∈ l, s.1 < 256 ∧ s.2 ≤ 65535 := fun s hs => h.fit s (by simp [hs])
  have hcap := h.cap
  obtain ⟨N, hN⟩ : ∃ N, ((a, n) :: l).length = N := ⟨_, rfl⟩
  have HN := Lib.hid hN
  rw [hN] at hl hcap ⊢
  have hN1 : 1 ≤ N := by simp only [List.length_cons] at hN; omega
  have x1 : (0 : Int) ≤ (a : Int) := by omega
  have x2 : (a : Int) ≤ 255 := by omega
  have x3 : (0 : Int) ≤ (n : Int) := by omega
  have x4 : (n : Int) ≤ 65535 := by omega
  have x5 : (1 : Int) ≤ (N : Int) := by omega
  have x6 : (1 : Int) ≤ D := by omega
  have x7 : ((N : Int) == 0) = false := by simp only [beq_eq_false_iff_ne, ne_eq]; omega
  have x8 : (D == 0) = false := by simp only [beq_eq_false_iff_ne, ne_eq]; omega
  have x9 : D ≤ 9223372036854775807 := by omega
  have ea' : (a : Int) % 9 = 1 := by omega
  have HD := Lib.hid hD
  have HF := Lib.hid hlf
  obtain ⟨A1, hs1, HS1⟩ := seeds_slice h (k := 1) (by simp only [List.length_cons]; omega) 1 rfl
  rw [hN, show (((a, n) :: l).drop 1).length = l.length from rfl] at hs1
  have HS1 := Lib.hid (show Seeds w A1 (c - 1) l from HS1)
  obtain ⟨G1, m1, e1⟩ : ∃ G m, grownP d l = (G, m) := ⟨_, _, rfl⟩
  have z1 := grown_size d l hlf (by omega)
  rw [e1] at HG z1
  obtain ⟨z1, z2⟩ := z1
  simp only at z1 z2 HG
  have C1 := Lib.hid (show ∀ W, Seeds W A1 (c - 1) l → Calls Try.prog 9 #[.slice A1 l.length (c - 1), .int .i64 (D - 1)] W (GrownR W G1 m1) from fun W hW => by
    have := IH l A1 (c - 1) W (by omega) hW (D - 1) (by rw [hD]; omega)
    rw [e1] at this
    exact this)
  have y1 : (0 : Int) ≤ (m1 : Int) := by omega
  have y2 : (m1 : Int) ≤ 60 := by omega
  obtain ⟨A2, hs2, HS2⟩ := seeds_slice h (k := 1 + m1) (by simp only [List.length_cons]; omega) (1 + (m1 : Int)) (by omega)
  have ed : ((a, n) :: l).drop (1 + m1) = l.drop m1 := by rw [Nat.add_comm]; rfl
  rw [hN, ed, List.length_drop] at hs2
  rw [ed] at HS2
  have HS2 := Lib.hid HS2
  obtain ⟨G2, m2, e2⟩ : ∃ G m, grownP d (l.drop m1) = (G, m) := ⟨_, _, rfl⟩
  have z3 := grown_size d (l.drop m1) (fun s hs => hlf s (List.mem_of_mem_drop hs)) (by rw [List.length_drop]; omega)
  rw [e2] at HG z3
  obtain ⟨z3, z4⟩ := z3
  rw [List.length_drop] at z4
  simp only at z3 z4 HG
  have C2 := Lib.hid (show ∀ W, Seeds W A2 (c - (1 + m1)) (l.drop m1) → Calls Try.prog 9 #[.slice A2 (l.length - m1) (c - (1 + m1)), .int .i64 (D - 1)] W (GrownR W G2 m2) from fun W hW => by
    have := IH (l.drop m1) A2 (c - (1 + m1)) W (by rw [List.length_drop]; omega) hW (D - 1) (by rw [hD]; omega)
    rw [e2, List.length_drop] at this
    exact this)
  have y3 : (0 : Int) ≤ (m2 : Int) := by omega
  have y4 : (m2 : Int) ≤ 60 := by omega
  have ep : (n : Int) % 15 = ((n % 15 : Nat) : Int) := by omega
  have hp := op_size (n % 15) (by omega)
  have ha1 : ((n % 15 : Nat) : Int) < 15 := by omega
  have ha0 : (0 : Int) ≤ ((n % 15 : Nat) : Int) := by omega
  obtain ⟨p, hpp⟩ : ∃ p, n % 15 = p := ⟨_, rfl⟩
  have hp15 : p < 15 := by omega
  rw [hpp] at HG ep hp ha1 ha0
  clear hpp
  clear h IH hN hlf hD hd ea fa fn
  generalize grownP (d + 1) ((a, n) :: l) = gg at *
  go_enter Try.func9, Try.ntmps9
  have KS := Lib.hid (GK.start w a n)
  have D1 := Lib.hid (C1.out _ (HS1.out.below KS.out.bel))
  go_wp2_with fail
  ((with_reducible refine D1.out.mono ?_); rintro e w1 ⟨b1, rfl, hr1, hb1⟩)
  have hw1 := KS.out.lt
  have HR1 := Lib.hid (rep_lo hr1 (B := w.heap.size) (by omega))
  have KS := Lib.hid (KS.out.below hb1)
  clear hr1 hb1 D1 hw1
  have D2 := Lib.hid (C2.out w1 (HS2.out.below KS.out.bel))
  go_wp2_with fail
  ((with_reducible refine D2.out.mono ?_); rintro e w2 ⟨b2, rfl, hr2, hb2⟩)
  have hw1 := KS.out.lt
  have HR1 := Lib.hid (rep_up HR1.out hb2)
  have HR2 := Lib.hid (rep_lo hr2 (B := w.heap.size) (by omega))
  have KS := Lib.hid (KS.out.below hb2)
  clear hr2 hb2 D2 hw1
  have v1 := KS.out.s1
  have v2 := KS.out.ops p hp15
  go_wp2
  go_ret3
  rw [HG.out]
  refine ⟨w2.heap.size + 1, ret3_ (Lx.bytes_ext (by simp [bt_data, Gr.text, ByteArray.data_append, opTx, unT])) (by push_cast; omega), ?_, KS.out.bel.trans ((ha_ (ha_ (Below.refl w2.heap.size w2) _) _).mono KS.out.bel.size)⟩
  show RepS _ _ (.node (mk 11 (0, 0) (opB p) 0 [G1.tree, G2.tree]).1 (mk 11 (0, 0) (opB p) 0 [G1.tree, G2.tree]).2 .no) _
  exact (mk_node (B := w.heap.size) (b := w2.heap.size + 1) (g := w2.heap.size) (vs := [.pointer (some ⟨b1, 0, none⟩), .pointer (some ⟨b2, 0, none⟩)]) rfl (hn_ _ _ _ (by simp [World.size_alloc])) (by have := KS.out.bel.size; omega) (by have := KS.out.bel.size; omega) (ho_ _ (hn_ _ _ _ (by simp [World.size_alloc]))) (rep_two (rep_up HR1.out (ha_ (ha_ (Below.refl w2.heap.size w2) _) _)) (rep_up HR2.out (ha_ (ha_ (Below.refl w2.heap.size w2) _) _))))
set_option maxRecDepth 100000 in
set_option maxHeartbeats 12800000 in
theorem grown_bin2 (d : Nat) (IH : GrownIH d) (a n : Nat) (l : List (Nat × Nat)) (A : Option Addr) (c : Nat) (w : World) (hl : ((a, n) :: l).length ≤ 60) (h : Seeds w A c ((a, n) :: l)) (D : Int) (hD : D = ((d + 1 : Nat) : Int)) (hd : d ≤ 1000) (ea : a % 9 = 2) :
    Calls Try.prog 9 #[.slice A ((a, n) :: l).length c, .int .i64 D] w (GrownR w (grownP (d + 1) ((a, n) :: l)).1 (grownP (d + 1) ((a, n) :: l)).2) := by
  obtain ⟨g0, off, rfl, hg0, k0, k1⟩ := h.first
  obtain ⟨fa, fn⟩ := h.fit (a, n) (by simp)
  simp only at fa fn k0 k1
  have HG := Lib.hid (show grownP (d + 1) ((a, n) :: l) = (.bin (n % 15) (grownP d l).1 (grownP d (l.drop (grownP d l).2)).1, 1 + (grownP d l).2 + (grownP d (l.drop (grownP d l).2)).2) by rw [grownP_succ, if_pos (by omega)])
  have HS := Lib.hid h
  have HIH := Lib.hid IH
  have hll : l.length ≤ 59 := by simp only [List.length_cons] at hl; omega
  have hlf : ∀ s ∈ l, s.1 < 256 ∧ s.2 ≤ 65535 := fun s hs => h.fit s (by simp [hs])
  have hcap := h.cap
  obtain ⟨N, hN⟩ : ∃ N, ((a, n) :: l).length = N := ⟨_, rfl⟩
  have HN := Lib.hid hN
  rw [hN] at hl hcap ⊢
  have hN1 : 1 ≤ N := by simp only [List.length_cons] at hN; omega
  have x1 : (0 : Int) ≤ (a : Int) := by omega
  have x2 : (a : Int) ≤ 255 := by omega
  have x3 : (0 : Int) ≤ (n : Int) := by omega
  have x4 : (n : Int) ≤ 65535 := by omega
  have x5 : (1 : Int) ≤ (N : Int) := by omega
  have x6 : (1 : Int) ≤ D := by omega
  have x7 : ((N : Int) == 0) = false := by simp only [beq_eq_false_iff_ne, ne_eq]; omega
  have x8 : (D == 0) = false := by simp only [beq_eq_false_iff_ne, ne_eq]; omega
  have x9 : D ≤ 9223372036854775807 := by omega
  have ea' : (a : Int) % 9 = 2 := by omega
  have HD := Lib.hid hD
  have HF := Lib.hid hlf
  obtain ⟨A1, hs1, HS1⟩ := seeds_slice h (k := 1) (by simp only [List.length_cons]; omega) 1 rfl
  rw [hN, show (((a, n) :: l).drop 1).length = l.length from rfl] at hs1
  have HS1 := Lib.hid (show Seeds w A1 (c - 1) l from HS1)
  obtain ⟨G1, m1, e1⟩ : ∃ G m, grownP d l = (G, m) := ⟨_, _, rfl⟩
  have z1 := grown_size d l hlf (by omega)
  rw [e1] at HG z1
  obtain ⟨z1, z2⟩ := z1
  simp only at z1 z2 HG
  have C1 := Lib.hid (show ∀ W, Seeds W A1 (c - 1) l → Calls Try.prog 9 #[.slice A1 l.length (c - 1), .int .i64 (D - 1)] W (GrownR W G1 m1) from fun W hW => by
    have := IH l A1 (c - 1) W (by omega) hW (D - 1) (by rw [hD]; omega)
    rw [e1] at this
    exact this)
  have y1 : (0 : Int) ≤ (m1 : Int) := by omega
  have y2 : (m1 : Int) ≤ 60 := by omega
  obtain ⟨A2, hs2, HS2⟩ := seeds_slice h (k := 1 + m1) (by simp only [List.length_cons]; omega) (1 + (m1 : Int)) (by omega)
  have ed : ((a, n) :: l).drop (1 + m1) = l.drop m1 := by rw [Nat.add_comm]; rfl
  rw [hN, ed, List.length_drop] at hs2
  rw [ed] at HS2
  have HS2 := Lib.hid HS2
  obtain ⟨G2, m2, e2⟩ : ∃ G m, grownP d (l.drop m1) = (G, m) := ⟨_, _, rfl⟩
  have z3 := grown_size d (l.drop m1) (fun s hs => hlf s (List.mem_of_mem_drop hs)) (by rw [List.length_drop]; omega)
  rw [e2] at HG z3
  obtain ⟨z3, z4⟩ := z3
  rw [List.length_drop] at z4
  simp only at z3 z4 HG
  have C2 := Lib.hid (show ∀ W, Seeds W A2 (c - (1 + m1)) (l.drop m1) → Calls Try.prog 9 #[.slice A2 (l.length - m1) (c - (1 + m1)), .int .i64 (D - 1)] W (GrownR W G2 m2) from fun W hW => by
    have := IH (l.drop m1) A2 (c - (1 + m1)) W (by rw [List.length_drop]; omega) hW (D - 1) (by rw [hD]; omega)
    rw [e2, List.length_drop] at this
    exact this)
  have y3 : (0 : Int) ≤ (m2 : Int) := by omega
  have y4 : (m2 : Int) ≤ 60 := by omega
  have ep : (n : Int) % 15 = ((n % 15 : Nat) : Int) := by omega
  have hp := op_size (n % 15) (by omega)
  have ha1 : ((n % 15 : Nat) : Int) < 15 := by omega
  have ha0 : (0 : Int) ≤ ((n % 15 : Nat) : Int) := by omega
  obtain ⟨p, hpp⟩ : ∃ p, n % 15 = p := ⟨_, rfl⟩
  have hp15 : p < 15 := by omega
  rw [hpp] at HG ep hp ha1 ha0
  clear hpp
  clear h IH hN hlf hD hd ea fa fn
  generalize grownP (d + 1) ((a, n) :: l) = gg at *
  go_enter Try.func9, Try.ntmps9
  have KS := Lib.hid (GK.start w a n)
  have D1 := Lib.hid (C1.out _ (HS1.out.below KS.out.bel))
  go_wp2_with fail
  ((with_reducible refine D1.out.mono ?_); rintro e w1 ⟨b1, rfl, hr1, hb1⟩)
  have hw1 := KS.out.lt
  have HR1 := Lib.hid (rep_lo hr1 (B := w.heap.size) (by omega))
  have KS := Lib.hid (KS.out.below hb1)
  clear hr1 hb1 D1 hw1
  have D2 := Lib.hid (C2.out w1 (HS2.out.below KS.out.bel))
  go_wp2_with fail
  ((with_reducible refine D2.out.mono ?_); rintro e w2 ⟨b2, rfl, hr2, hb2⟩)
  have hw1 := KS.out.lt
  have HR1 := Lib.hid (rep_up HR1.out hb2)
  have HR2 := Lib.hid (rep_lo hr2 (B := w.heap.size) (by omega))
  have KS := Lib.hid (KS.out.below hb2)
  clear hr2 hb2 D2 hw1
  have v1 := KS.out.s1
  have v2 := KS.out.ops p hp15
  go_wp2
  go_ret3
  rw [HG.out]
  refine ⟨w2.heap.size + 1, ret3_ (Lx.bytes_ext (by simp [bt_data, Gr.text, ByteArray.data_append, opTx, unT])) (by push_cast; omega), ?_, KS.out.bel.trans ((ha_ (ha_ (Below.refl w2.heap.size w2) _) _).mono KS.out.bel.size)⟩
  show RepS _ _ (.node (mk 11 (0, 0) (opB p) 0 [G1.tree, G2.tree]).1 (mk 11 (0, 0) (opB p) 0 [G1.tree, G2.tree]).2 .no) _
  exact (mk_node (B := w.heap.size) (b := w2.heap.size + 1) (g := w2.heap.size) (vs := [.pointer (some ⟨b1, 0, none⟩), .pointer (some ⟨b2, 0, none⟩)]) rfl (hn_ _ _ _ (by simp [World.size_alloc])) (by have := KS.out.bel.size; omega) (by have := KS.out.bel.size; omega) (ho_ _ (hn_ _ _ _ (by simp [World.size_alloc]))) (rep_two (rep_up HR1.out (ha_ (ha_ (Below.refl w2.heap.size w2) _) _)) (rep_up HR2.out (ha_ (ha_ (Below.refl w2.heap.size w2) _) _))))
set_option maxRecDepth 100000 in
set_option maxHeartbeats 12800000 in
theorem grown_un (d : Nat) (IH : GrownIH d) (a n : Nat) (l : List (Nat × Nat)) (A : Option Addr) (c : Nat) (w : World) (hl : ((a, n) :: l).length ≤ 60) (h : Seeds w A c ((a, n) :: l)) (D : Int) (hD : D = ((d + 1 : Nat) : Int)) (hd : d ≤ 1000) (ea : a % 9 = 3) :
    Calls Try.prog 9 #[.slice A ((a, n) :: l).length c, .int .i64 D] w (GrownR w (grownP (d + 1) ((a, n) :: l)).1 (grownP (d + 1) ((a, n) :: l)).2) := by
  obtain ⟨g0, off, rfl, hg0, k0, k1⟩ := h.first
  obtain ⟨fa, fn⟩ := h.fit (a, n) (by simp)
  simp only at fa fn k0 k1
  have HG := Lib.hid (show grownP (d + 1) ((a, n) :: l) = (.un (n % 3) (grownP d l).1, 1 + (grownP d l).2) by rw [grownP_succ, if_neg (by omega), if_pos ea])
  have HS := Lib.hid h
  have HIH := Lib.hid IH
  have hll : l.length ≤ 59 := by simp only [List.length_cons] at hl; omega
  have hlf : ∀ s ∈ l, s.1 < 256 ∧ s.2 ≤ 65535 := fun s hs => h.fit s (by simp [hs])
  have hcap := h.cap
  obtain ⟨N, hN⟩ : ∃ N, ((a, n) :: l).length = N := ⟨_, rfl⟩
  have HN := Lib.hid hN
  rw [hN] at hl hcap ⊢
  have hN1 : 1 ≤ N := by simp only [List.length_cons] at hN; omega
  have x1 : (0 : Int) ≤ (a : Int) := by omega
  have x2 : (a : Int) ≤ 255 := by omega
  have x3 : (0 : Int) ≤ (n : Int) := by omega
  have x4 : (n : Int) ≤ 65535 := by omega
  have x5 : (1 : Int) ≤ (N : Int) := by omega
  have x6 : (1 : Int) ≤ D := by omega
  have x7 : ((N : Int) == 0) = false := by simp only [beq_eq_false_iff_ne, ne_eq]; omega
  have x8 : (D == 0) = false := by simp only [beq_eq_false_iff_ne, ne_eq]; omega
  have x9 : D ≤ 9223372036854775807 := by omega
  have ea' : (a : Int) % 9 = 3 := by omega
  have HD := Lib.hid hD
  have HF := Lib.hid hlf
  obtain ⟨A1, hs1, HS1⟩ := seeds_slice h (k := 1) (by simp only [List.length_cons]; omega) 1 rfl
  rw [hN, show (((a, n) :: l).drop 1).length = l.length from rfl] at hs1
  have HS1 := Lib.hid (show Seeds w A1 (c - 1) l from HS1)
  obtain ⟨G1, m1, e1⟩ : ∃ G m, grownP d l = (G, m) := ⟨_, _, rfl⟩
  have z1 := grown_size d l hlf (by omega)
  rw [e1] at HG z1
  obtain ⟨z1, z2⟩ := z1
  simp only at z1 z2 HG
  have C1 := Lib.hid (show ∀ W, Seeds W A1 (c - 1) l → Calls Try.prog 9 #[.slice A1 l.length (c - 1), .int .i64 (D - 1)] W (GrownR W G1 m1) from fun W hW => by
    have := IH l A1 (c - 1) W (by omega) hW (D - 1) (by rw [hD]; omega)
    rw [e1] at this
    exact this)
  have y1 : (0 : Int) ≤ (m1 : Int) := by omega
  have y2 : (m1 : Int) ≤ 60 := by omega
  have ep : (n : Int) % 3 = ((n % 3 : Nat) : Int) := by omega
  have hun := un_at (n % 3) (by omega)
  have hp : (unB (n % 3)).size ≤ 3 := by
    have : ∀ q, q < 3 → (unB q).size ≤ 3 := by decide
    exact this _ (by omega)
  have ha1 : ((n % 3 : Nat) : Int) < 3 := by omega
  have ha0 : (0 : Int) ≤ ((n % 3 : Nat) : Int) := by omega
  generalize n % 3 = p at *
  clear h IH hN hlf hD hd ea fa fn
  generalize grownP (d + 1) ((a, n) :: l) = gg at *
  go_enter Try.func9, Try.ntmps9
  have KS := Lib.hid (GK.start w a n)
  have D1 := Lib.hid (C1.out _ (HS1.out.below KS.out.bel))
  go_wp2_with fail
  ((with_reducible refine D1.out.mono ?_); rintro e w1 ⟨b1, rfl, hr1, hb1⟩)
  have hw1 := KS.out.lt
  have HR1 := Lib.hid (rep_lo hr1 (B := w.heap.size) (by omega))
  have KS := Lib.hid (KS.out.below hb1)
  clear hr1 hb1 D1 hw1
  have v1 := KS.out.s1
  have hw1 := KS.out.lt
  have hw2 : w.heap.size < w1.heap.size := by omega
  go_wp2
  go_ret3
  rw [HG.out]
  refine ⟨w1.heap.size + 1 + 1, ret3_ (Lx.bytes_ext (by simp [bt_data, Gr.text, ByteArray.data_append, opTx, unT])) (by push_cast; omega), ?_, KS.out.bel.trans ((ha_ (ha_ (ha_ (Below.refl w1.heap.size w1) _) _) _).mono KS.out.bel.size)⟩
  show RepS _ _ (.node (mk 12 (0, 0) (unB p) 0 [G1.tree]).1 (mk 12 (0, 0) (unB p) 0 [G1.tree]).2 .no) _
  exact (mk_node (B := w.heap.size) (b := w1.heap.size + 1 + 1) (g := w1.heap.size + 1) (vs := [.pointer (some ⟨b1, 0, none⟩)]) rfl (hn_ _ _ _ (by simp [World.size_alloc])) (by have := KS.out.bel.size; omega) (by have := KS.out.bel.size; omega) (ho_ _ (hn_ _ _ _ (by simp [World.size_alloc]))) (rep_up HR1.out (ha_ (ha_ (ha_ (Below.refl w1.heap.size w1) _) _) _)))
set_option maxRecDepth 100000 in
set_option maxHeartbeats 12800000 in
theorem grown_idx (d : Nat) (IH : GrownIH d) (a n : Nat) (l : List (Nat × Nat)) (A : Option Addr) (c : Nat) (w : World) (hl : ((a, n) :: l).length ≤ 60) (h : Seeds w A c ((a, n) :: l)) (D : Int) (hD : D = ((d + 1 : Nat) : Int)) (hd : d ≤ 1000) (ea : a % 9 = 5) :
    Calls Try.prog 9 #[.slice A ((a, n) :: l).length c, .int .i64 D] w (GrownR w (grownP (d + 1) ((a, n) :: l)).1 (grownP (d + 1) ((a, n) :: l)).2) := by
  obtain ⟨g0, off, rfl, hg0, k0, k1⟩ := h.first
  obtain ⟨fa, fn⟩ := h.fit (a, n) (by simp)
  simp only at fa fn k0 k1
  have HG := Lib.hid (show grownP (d + 1) ((a, n) :: l) = (.idx (grownP d l).1, 1 + (grownP d l).2) by rw [grownP_succ, if_neg (by omega), if_neg (by omega), if_neg (by omega), if_pos ea])
  have HS := Lib.hid h
  have HIH := Lib.hid IH
  have hll : l.length ≤ 59 := by simp only [List.length_cons] at hl; omega
  have hlf : ∀ s ∈ l, s.1 < 256 ∧ s.2 ≤ 65535 := fun s hs => h.fit s (by simp [hs])
  have hcap := h.cap
  obtain ⟨N, hN⟩ : ∃ N, ((a, n) :: l).length = N := ⟨_, rfl⟩
  have HN := Lib.hid hN
  rw [hN] at hl hcap ⊢
  have hN1 : 1 ≤ N := by simp only [List.length_cons] at hN; omega
  have x1 : (0 : Int) ≤ (a : Int) := by omega
  have x2 : (a : Int) ≤ 255 := by omega
  have x3 : (0 : Int) ≤ (n : Int) := by omega
  have x4 : (n : Int) ≤ 65535 := by omega
  have x5 : (1 : Int) ≤ (N : Int) := by omega
  have x6 : (1 : Int) ≤ D := by omega
  have x7 : ((N : Int) == 0) = false := by simp only [beq_eq_false_iff_ne, ne_eq]; omega
  have x8 : (D == 0) = false := by simp only [beq_eq_false_iff_ne, ne_eq]; omega
  have x9 : D ≤ 9223372036854775807 := by omega
  have ea' : (a : Int) % 9 = 5 := by omega
  have HD := Lib.hid hD
  have HF := Lib.hid hlf
  obtain ⟨A1, hs1, HS1⟩ := seeds_slice h (k := 1) (by simp only [List.length_cons]; omega) 1 rfl
  rw [hN, show (((a, n) :: l).drop 1).length = l.length from rfl] at hs1
  have HS1 := Lib.hid (show Seeds w A1 (c - 1) l from HS1)
  obtain ⟨G1, m1, e1⟩ : ∃ G m, grownP d l = (G, m) := ⟨_, _, rfl⟩
  have z1 := grown_size d l hlf (by omega)
  rw [e1] at HG z1
  obtain ⟨z1, z2⟩ := z1
  simp only at z1 z2 HG
  have C1 := Lib.hid (show ∀ W, Seeds W A1 (c - 1) l → Calls Try.prog 9 #[.slice A1 l.length (c - 1), .int .i64 (D - 1)] W (GrownR W G1 m1) from fun W hW => by
    have := IH l A1 (c - 1) W (by omega) hW (D - 1) (by rw [hD]; omega)
    rw [e1] at this
    exact this)
  have y1 : (0 : Int) ≤ (m1 : Int) := by omega
  have y2 : (m1 : Int) ≤ 60 := by omega
  clear h IH hN hlf hD hd ea fa fn
  generalize grownP (d + 1) ((a, n) :: l) = gg at *
  go_enter Try.func9, Try.ntmps9
  have KS := Lib.hid (GK.start w a n)
  have D1 := Lib.hid (C1.out _ (HS1.out.below KS.out.bel))
  go_wp2_with fail
  ((with_reducible refine D1.out.mono ?_); rintro e w1 ⟨b1, rfl, hr1, hb1⟩)
  have hw1 := KS.out.lt
  have HR1 := Lib.hid (rep_lo hr1 (B := w.heap.size) (by omega))
  have KS := Lib.hid (KS.out.below hb1)
  clear hr1 hb1 D1 hw1
  go_wp2
  go_ret3
  rw [HG.out]
  refine ⟨w1.heap.size + 1 + 1 + 1 + 1 + 1 + 1, ret3_ (Lx.bytes_ext (by simp [bt_data, Gr.text, ByteArray.data_append, opTx, unT])) (by push_cast; omega), ?_, KS.out.bel.trans ((ha_ (ha_ (ha_ (ha_ (ha_ (ha_ (ha_ (Below.refl w1.heap.size w1) _) _) _) _) _) _) _).mono KS.out.bel.size)⟩
  show RepS _ _ (.node (mk 2 (0, 0) ⟨#[102]⟩ 0 [mk 4 (0, 0) sNil 0 [mk 3 (0, 0) sNil 0 [nm 118, G1.tree]]]).1 (mk 2 (0, 0) ⟨#[102]⟩ 0 [mk 4 (0, 0) sNil 0 [mk 3 (0, 0) sNil 0 [nm 118, G1.tree]]]).2 .no) _
  exact (mk_node (B := w.heap.size) (b := w1.heap.size + 1 + 1 + 1 + 1 + 1 + 1) (g := w1.heap.size + 1 + 1 + 1 + 1 + 1) (vs := [.pointer (some ⟨w1.heap.size + 1 + 1 + 1 + 1, 0, none⟩)]) rfl (hn_ _ _ _ (by simp [World.size_alloc])) (by have := KS.out.bel.size; omega) (by have := KS.out.bel.size; omega) (ho_ _ (hn_ _ _ _ (by simp [World.size_alloc]))) (rep_one (mk_node (B := w.heap.size) (b := w1.heap.size + 1 + 1 + 1 + 1) (g := w1.heap.size + 1 + 1 + 1) (vs := [.pointer (some ⟨w1.heap.size + 1 + 1, 0, none⟩)]) rfl (ho_ _ (ho_ _ (hn_ _ _ _ (by simp [World.size_alloc])))) (by have := KS.out.bel.size; omega) (by have := KS.out.bel.size; omega) (ho_ _ (ho_ _ (ho_ _ (hn_ _ _ _ (by simp [World.size_alloc]))))) (rep_one (mk_node (B := w.heap.size) (b := w1.heap.size + 1 + 1) (g := w1.heap.size + 1) (vs := [.pointer (some ⟨w1.heap.size, 0, none⟩), .pointer (some ⟨b1, 0, none⟩)]) rfl (ho_ _ (ho_ _ (ho_ _ (ho_ _ (hn_ _ _ _ (by simp [World.size_alloc])))))) (by have := KS.out.bel.size; omega) (by have := KS.out.bel.size; omega) (ho_ _ (ho_ _ (ho_ _ (ho_ _ (ho_ _ (hn_ _ _ _ (by simp [World.size_alloc]))))))) (rep_two (mk_leaf (B := w.heap.size) (b := w1.heap.size) (ho_ _ (ho_ _ (ho_ _ (ho_ _ (ho_ _ (ho_ _ (hn_ _ _ _ (by simp [World.size_alloc])))))))) (by have := KS.out.bel.size; omega)) (rep_up HR1.out (ha_ (ha_ (ha_ (ha_ (ha_ (ha_ (ha_ (Below.refl w1.heap.size w1) _) _) _) _) _) _) _))))))))
set_option maxRecDepth 100000 in
set_option maxHeartbeats 12800000 in
theorem grown_call (d : Nat) (IH : GrownIH d) (a n : Nat) (l : List (Nat × Nat)) (A : Option Addr) (c : Nat) (w : World) (hl : ((a, n) :: l).length ≤ 60) (h : Seeds w A c ((a, n) :: l)) (D : Int) (hD : D = ((d + 1 : Nat) : Int)) (hd : d ≤ 1000) (ea : a % 9 = 6) :
    Calls Try.prog 9 #[.slice A ((a, n) :: l).length c, .int .i64 D] w (GrownR w (grownP (d + 1) ((a, n) :: l)).1 (grownP (d + 1) ((a, n) :: l)).2) := by
  obtain ⟨g0, off, rfl, hg0, k0, k1⟩ := h.first
  obtain ⟨fa, fn⟩ := h.fit (a, n) (by simp)
  simp only at fa fn k0 k1
  have HG := Lib.hid (show grownP (d + 1) ((a, n) :: l) = (.call (grownP d l).1 (grownP d (l.drop (grownP d l).2)).1, 1 + (grownP d l).2 + (grownP d (l.drop (grownP d l).2)).2) by rw [grownP_succ, if_neg (by omega), if_neg (by omega), if_neg (by omega), if_neg (by omega), if_pos ea])
  have HS := Lib.hid h
  have HIH := Lib.hid IH
  have hll : l.length ≤ 59 := by simp only [List.length_cons] at hl; omega
  have hlf : ∀ s ∈ l, s.1 < 256 ∧ s.2 ≤ 65535 := fun s hs => h.fit s (by simp [hs])
  have hcap := h.cap
  obtain ⟨N, hN⟩ : ∃ N, ((a, n) :: l).length = N := ⟨_, rfl⟩
  have HN := Lib.hid hN
  rw [hN] at hl hcap ⊢
  have hN1 : 1 ≤ N := by simp only [List.length_cons] at hN; omega
  have x1 : (0 : Int) ≤ (a : Int) := by omega
  have x2 : (a : Int) ≤ 255 := by omega
  have x3 : (0 : Int) ≤ (n : Int) := by omega
  have x4 : (n : Int) ≤ 65535 := by omega
  have x5 : (1 : Int) ≤ (N : Int) := by omega
  have x6 : (1 : Int) ≤ D := by omega
  have x7 : ((N : Int) == 0) = false := by simp only [beq_eq_false_iff_ne, ne_eq]; omega
  have x8 : (D == 0) = false := by simp only [beq_eq_false_iff_ne, ne_eq]; omega
  have x9 : D ≤ 9223372036854775807 := by omega
  have ea' : (a : Int) % 9 = 6 := by omega
  have HD := Lib.hid hD
  have HF := Lib.hid hlf
  obtain ⟨A1, hs1, HS1⟩ := seeds_slice h (k := 1) (by simp only [List.length_cons]; omega) 1 rfl
  rw [hN, show (((a, n) :: l).drop 1).length = l.length from rfl] at hs1
  have HS1 := Lib.hid (show Seeds w A1 (c - 1) l from HS1)
  obtain ⟨G1, m1, e1⟩ : ∃ G m, grownP d l = (G, m) := ⟨_, _, rfl⟩
  have z1 := grown_size d l hlf (by omega)
  rw [e1] at HG z1
  obtain ⟨z1, z2⟩ := z1
  simp only at z1 z2 HG
  have C1 := Lib.hid (show ∀ W, Seeds W A1 (c - 1) l → Calls Try.prog 9 #[.slice A1 l.length (c - 1), .int .i64 (D - 1)] W (GrownR W G1 m1) from fun W hW => by
    have := IH l A1 (c - 1) W (by omega) hW (D - 1) (by rw [hD]; omega)
    rw [e1] at this
    exact this)
  have y1 : (0 : Int) ≤ (m1 : Int) := by omega
  have y2 : (m1 : Int) ≤ 60 := by omega
  obtain ⟨A2, hs2, HS2⟩ := seeds_slice h (k := 1 + m1) (by simp only [List.length_cons]; omega) (1 + (m1 : Int)) (by omega)
  have ed : ((a, n) :: l).drop (1 + m1) = l.drop m1 := by rw [Nat.add_comm]; rfl
  rw [hN, ed, List.length_drop] at hs2
  rw [ed] at HS2
  have HS2 := Lib.hid HS2
  obtain ⟨G2, m2, e2⟩ : ∃ G m, grownP d (l.drop m1) = (G, m) := ⟨_, _, rfl⟩
  have z3 := grown_size d (l.drop m1) (fun s hs => hlf s (List.mem_of_mem_drop hs)) (by rw [List.length_drop]; omega)
  rw [e2] at HG z3
  obtain ⟨z3, z4⟩ := z3
  rw [List.length_drop] at z4
  simp only at z3 z4 HG
  have C2 := Lib.hid (show ∀ W, Seeds W A2 (c - (1 + m1)) (l.drop m1) → Calls Try.prog 9 #[.slice A2 (l.length - m1) (c - (1 + m1)), .int .i64 (D - 1)] W (GrownR W G2 m2) from fun W hW => by
    have := IH (l.drop m1) A2 (c - (1 + m1)) W (by rw [List.length_drop]; omega) hW (D - 1) (by rw [hD]; omega)
    rw [e2, List.length_drop] at this
    exact this)
  have y3 : (0 : Int) ≤ (m2 : Int) := by omega
  have y4 : (m2 : Int) ≤ 60 := by omega
  clear h IH hN hlf hD hd ea fa fn
  generalize grownP (d + 1) ((a, n) :: l) = gg at *
  go_enter Try.func9, Try.ntmps9
  have KS := Lib.hid (GK.start w a n)
  have D1 := Lib.hid (C1.out _ (HS1.out.below KS.out.bel))
  go_wp2_with fail
  ((with_reducible refine D1.out.mono ?_); rintro e w1 ⟨b1, rfl, hr1, hb1⟩)
  have hw1 := KS.out.lt
  have HR1 := Lib.hid (rep_lo hr1 (B := w.heap.size) (by omega))
  have KS := Lib.hid (KS.out.below hb1)
  clear hr1 hb1 D1 hw1
  have D2 := Lib.hid (C2.out w1 (HS2.out.below KS.out.bel))
  go_wp2_with fail
  ((with_reducible refine D2.out.mono ?_); rintro e w2 ⟨b2, rfl, hr2, hb2⟩)
  have hw1 := KS.out.lt
  have HR1 := Lib.hid (rep_up HR1.out hb2)
  have HR2 := Lib.hid (rep_lo hr2 (B := w.heap.size) (by omega))
  have KS := Lib.hid (KS.out.below hb2)
  clear hr2 hb2 D2 hw1
  go_wp2
  go_ret3
  rw [HG.out]
  refine ⟨w2.heap.size + 1 + 1, ret3_ (Lx.bytes_ext (by simp [bt_data, Gr.text, ByteArray.data_append, opTx, unT])) (by push_cast; omega), ?_, KS.out.bel.trans ((ha_ (ha_ (ha_ (Below.refl w2.heap.size w2) _) _) _).mono KS.out.bel.size)⟩
  show RepS _ _ (.node (mk 10 (0, 0) sNil 0 [nm 103, G1.tree, G2.tree]).1 (mk 10 (0, 0) sNil 0 [nm 103, G1.tree, G2.tree]).2 .no) _
  exact (mk_node (B := w.heap.size) (b := w2.heap.size + 1 + 1) (g := w2.heap.size + 1) (vs := [.pointer (some ⟨w2.heap.size, 0, none⟩), .pointer (some ⟨b1, 0, none⟩), .pointer (some ⟨b2, 0, none⟩)]) rfl (hn_ _ _ _ (by simp [World.size_alloc])) (by have := KS.out.bel.size; omega) (by have := KS.out.bel.size; omega) (ho_ _ (hn_ _ _ _ (by simp [World.size_alloc]))) (rep_three (mk_leaf (B := w.heap.size) (b := w2.heap.size) (ho_ _ (ho_ _ (hn_ _ _ _ (by simp [World.size_alloc])))) (by have := KS.out.bel.size; omega)) (rep_up HR1.out (ha_ (ha_ (ha_ (Below.refl w2.heap.size w2) _) _) _)) (rep_up HR2.out (ha_ (ha_ (ha_ (Below.refl w2.heap.size w2) _) _) _))))
set_option maxRecDepth 100000 in
set_option maxHeartbeats 12800000 in
theorem grown_rng (d : Nat) (IH : GrownIH d) (a n : Nat) (l : List (Nat × Nat)) (A : Option Addr) (c : Nat) (w : World) (hl : ((a, n) :: l).length ≤ 60) (h : Seeds w A c ((a, n) :: l)) (D : Int) (hD : D = ((d + 1 : Nat) : Int)) (hd : d ≤ 1000) (ea : a % 9 = 7) :
    Calls Try.prog 9 #[.slice A ((a, n) :: l).length c, .int .i64 D] w (GrownR w (grownP (d + 1) ((a, n) :: l)).1 (grownP (d + 1) ((a, n) :: l)).2) := by
  obtain ⟨g0, off, rfl, hg0, k0, k1⟩ := h.first
  obtain ⟨fa, fn⟩ := h.fit (a, n) (by simp)
  simp only at fa fn k0 k1
  have HG := Lib.hid (show grownP (d + 1) ((a, n) :: l) = (.rng (grownP d l).1 (grownP d (l.drop (grownP d l).2)).1, 1 + (grownP d l).2 + (grownP d (l.drop (grownP d l).2)).2) by rw [grownP_succ, if_neg (by omega), if_neg (by omega), if_neg (by omega), if_neg (by omega), if_neg (by omega), if_pos ea])
  have HS := Lib.hid h
  have HIH := Lib.hid IH
  have hll : l.length ≤ 59 := by simp only [List.length_cons] at hl; omega
  have hlf : ∀ s ∈ l, s.1 < 256 ∧ s.2 ≤ 65535 := fun s hs => h.fit s (by simp [hs])
  have hcap := h.cap
  obtain ⟨N, hN⟩ : ∃ N, ((a, n) :: l).length = N := ⟨_, rfl⟩
  have HN := Lib.hid hN
  rw [hN] at hl hcap ⊢
  have hN1 : 1 ≤ N := by simp only [List.length_cons] at hN; omega
  have x1 : (0 : Int) ≤ (a : Int) := by omega
  have x2 : (a : Int) ≤ 255 := by omega
  have x3 : (0 : Int) ≤ (n : Int) := by omega
  have x4 : (n : Int) ≤ 65535 := by omega
  have x5 : (1 : Int) ≤ (N : Int) := by omega
  have x6 : (1 : Int) ≤ D := by omega
  have x7 : ((N : Int) == 0) = false := by simp only [beq_eq_false_iff_ne, ne_eq]; omega
  have x8 : (D == 0) = false := by simp only [beq_eq_false_iff_ne, ne_eq]; omega
  have x9 : D ≤ 9223372036854775807 := by omega
  have ea' : (a : Int) % 9 = 7 := by omega
  have HD := Lib.hid hD
  have HF := Lib.hid hlf
  obtain ⟨A1, hs1, HS1⟩ := seeds_slice h (k := 1) (by simp only [List.length_cons]; omega) 1 rfl
  rw [hN, show (((a, n) :: l).drop 1).length = l.length from rfl] at hs1
  have HS1 := Lib.hid (show Seeds w A1 (c - 1) l from HS1)
  obtain ⟨G1, m1, e1⟩ : ∃ G m, grownP d l = (G, m) := ⟨_, _, rfl⟩
  have z1 := grown_size d l hlf (by omega)
  rw [e1] at HG z1
  obtain ⟨z1, z2⟩ := z1
  simp only at z1 z2 HG
  have C1 := Lib.hid (show ∀ W, Seeds W A1 (c - 1) l → Calls Try.prog 9 #[.slice A1 l.length (c - 1), .int .i64 (D - 1)] W (GrownR W G1 m1) from fun W hW => by
    have := IH l A1 (c - 1) W (by omega) hW (D - 1) (by rw [hD]; omega)
    rw [e1] at this
    exact this)
  have y1 : (0 : Int) ≤ (m1 : Int) := by omega
  have y2 : (m1 : Int) ≤ 60 := by omega
  obtain ⟨A2, hs2, HS2⟩ := seeds_slice h (k := 1 + m1) (by simp only [List.length_cons]; omega) (1 + (m1 : Int)) (by omega)
  have ed : ((a, n) :: l).drop (1 + m1) = l.drop m1 := by rw [Nat.add_comm]; rfl
  rw [hN, ed, List.length_drop] at hs2
  rw [ed] at HS2
  have HS2 := Lib.hid HS2
  obtain ⟨G2, m2, e2⟩ : ∃ G m, grownP d (l.drop m1) = (G, m) := ⟨_, _, rfl⟩
  have z3 := grown_size d (l.drop m1) (fun s hs => hlf s (List.mem_of_mem_drop hs)) (by rw [List.length_drop]; omega)
  rw [e2] at HG z3
  obtain ⟨z3, z4⟩ := z3
  rw [List.length_drop] at z4
  simp only at z3 z4 HG
  have C2 := Lib.hid (show ∀ W, Seeds W A2 (c - (1 + m1)) (l.drop m1) → Calls Try.prog 9 #[.slice A2 (l.length - m1) (c - (1 + m1)), .int .i64 (D - 1)] W (GrownR W G2 m2) from fun W hW => by
    have := IH (l.drop m1) A2 (c - (1 + m1)) W (by rw [List.length_drop]; omega) hW (D - 1) (by rw [hD]; omega)
    rw [e2, List.length_drop] at this
    exact this)
  have y3 : (0 : Int) ≤ (m2 : Int) := by omega
  have y4 : (m2 : Int) ≤ 60 := by omega
  clear h IH hN hlf hD hd ea fa fn
  generalize grownP (d + 1) ((a, n) :: l) = gg at *
  go_enter Try.func9, Try.ntmps9
  have KS := Lib.hid (GK.start w a n)
  have D1 := Lib.hid (C1.out _ (HS1.out.below KS.out.bel))
  go_wp2_with fail
  ((with_reducible refine D1.out.mono ?_); rintro e w1 ⟨b1, rfl, hr1, hb1⟩)
  have hw1 := KS.out.lt
  have HR1 := Lib.hid (rep_lo hr1 (B := w.heap.size) (by omega))
  have KS := Lib.hid (KS.out.below hb1)
  clear hr1 hb1 D1 hw1
  have D2 := Lib.hid (C2.out w1 (HS2.out.below KS.out.bel))
  go_wp2_with fail
  ((with_reducible refine D2.out.mono ?_); rintro e w2 ⟨b2, rfl, hr2, hb2⟩)
  have hw1 := KS.out.lt
  have HR1 := Lib.hid (rep_up HR1.out hb2)
  have HR2 := Lib.hid (rep_lo hr2 (B := w.heap.size) (by omega))
  have KS := Lib.hid (KS.out.below hb2)
  clear hr2 hb2 D2 hw1
  go_wp2
  go_ret3
  rw [HG.out]
  refine ⟨w2.heap.size + 1 + 1 + 1 + 1, ret3_ (Lx.bytes_ext (by simp [bt_data, Gr.text, ByteArray.data_append, opTx, unT])) (by push_cast; omega), ?_, KS.out.bel.trans ((ha_ (ha_ (ha_ (ha_ (ha_ (Below.refl w2.heap.size w2) _) _) _) _) _).mono KS.out.bel.size)⟩
  show RepS _ _ (.node (mk 8 (0, 0) sNil 0 [nm 83, mk 9 (0, 0) sNil 0 [G1.tree, G2.tree]]).1 (mk 8 (0, 0) sNil 0 [nm 83, mk 9 (0, 0) sNil 0 [G1.tree, G2.tree]]).2 .no) _
  exact (mk_node (B := w.heap.size) (b := w2.heap.size + 1 + 1 + 1 + 1) (g := w2.heap.size + 1 + 1 + 1) (vs := [.pointer (some ⟨w2.heap.size + 1 + 1, 0, none⟩), .pointer (some ⟨w2.heap.size + 1, 0, none⟩)]) rfl (hn_ _ _ _ (by simp [World.size_alloc])) (by have := KS.out.bel.size; omega) (by have := KS.out.bel.size; omega) (ho_ _ (hn_ _ _ _ (by simp [World.size_alloc]))) (rep_two (mk_leaf (B := w.heap.size) (b := w2.heap.size + 1 + 1) (ho_ _ (ho_ _ (hn_ _ _ _ (by simp [World.size_alloc])))) (by have := KS.out.bel.size; omega)) (mk_node (B := w.heap.size) (b := w2.heap.size + 1) (g := w2.heap.size) (vs := [.pointer (some ⟨b1, 0, none⟩), .pointer (some ⟨b2, 0, none⟩)]) rfl (ho_ _ (ho_ _ (ho_ _ (hn_ _ _ _ (by simp [World.size_alloc]))))) (by have := KS.out.bel.size; omega) (by have := KS.out.bel.size; omega) (ho_ _ (ho_ _ (ho_ _ (ho_ _ (hn_ _ _ _ (by simp [World.size_alloc])))))) (rep_two (rep_up HR1.out (ha_ (ha_ (ha_ (ha_ (ha_ (Below.refl w2.heap.size w2) _) _) _) _) _)) (rep_up HR2.out (ha_ (ha_ (ha_ (ha_ (ha_ (Below.refl w2.heap.size w2) _) _) _) _) _))))))
set_option maxRecDepth 100000 in
set_option maxHeartbeats 12800000 in
theorem grown_str (d : Nat) (IH : GrownIH d) (a n : Nat) (l : List (Nat × Nat)) (A : Option Addr) (c : Nat) (w : World) (hl : ((a, n) :: l).length ≤ 60) (h : Seeds w A c ((a, n) :: l)) (D : Int) (hD : D = ((d + 1 : Nat) : Int)) (hd : d ≤ 1000) (ea : a % 9 = 8) :
    Calls Try.prog 9 #[.slice A ((a, n) :: l).length c, .int .i64 D] w (GrownR w (grownP (d + 1) ((a, n) :: l)).1 (grownP (d + 1) ((a, n) :: l)).2) := by
  obtain ⟨g0, off, rfl, hg0, k0, k1⟩ := h.first
  obtain ⟨fa, fn⟩ := h.fit (a, n) (by simp)
  simp only at fa fn k0 k1
  have HG := Lib.hid (show grownP (d + 1) ((a, n) :: l) = (.str, 1) by rw [grownP_succ, if_neg (by omega), if_neg (by omega), if_neg (by omega), if_neg (by omega), if_neg (by omega), if_neg (by omega)])
  have HS := Lib.hid h
  have HIH := Lib.hid IH
  have hll : l.length ≤ 59 := by simp only [List.length_cons] at hl; omega
  have hlf : ∀ s ∈ l, s.1 < 256 ∧ s.2 ≤ 65535 := fun s hs => h.fit s (by simp [hs])
  have hcap := h.cap
  obtain ⟨N, hN⟩ : ∃ N, ((a, n) :: l).length = N := ⟨_, rfl⟩
  have HN := Lib.hid hN
  rw [hN] at hl hcap ⊢
  have hN1 : 1 ≤ N := by simp only [List.length_cons] at hN; omega
  have x1 : (0 : Int) ≤ (a : Int) := by omega
  have x2 : (a : Int) ≤ 255 := by omega
  have x3 : (0 : Int) ≤ (n : Int) := by omega
  have x4 : (n : Int) ≤ 65535 := by omega
  have x5 : (1 : Int) ≤ (N : Int) := by omega
  have x6 : (1 : Int) ≤ D := by omega
  have x7 : ((N : Int) == 0) = false := by simp only [beq_eq_false_iff_ne, ne_eq]; omega
  have x8 : (D == 0) = false := by simp only [beq_eq_false_iff_ne, ne_eq]; omega
  have x9 : D ≤ 9223372036854775807 := by omega
  have ea' : (a : Int) % 9 = 8 := by omega
  have HD := Lib.hid hD
  have HF := Lib.hid hlf
  obtain ⟨A1, hs1, HS1⟩ := seeds_slice h (k := 1) (by simp only [List.length_cons]; omega) 1 rfl
  rw [hN, show (((a, n) :: l).drop 1).length = l.length from rfl] at hs1
  have HS1 := Lib.hid (show Seeds w A1 (c - 1) l from HS1)
  clear h IH hN hlf hD hd ea fa fn
  generalize grownP (d + 1) ((a, n) :: l) = gg at *
  go_enter Try.func9, Try.ntmps9
  go_wp2
  go_ret3
  rw [HG.out]
  refine ⟨w.heap.size + 1 + 1, ret3_ (by rfl) (by rfl), ?_, (ha_ (ha_ (ha_ (Below.refl w.heap.size w) _) _) _)⟩
  show RepS _ _ (.node (mk 7 (0, 0) ⟨#[113]⟩ 0 []).1 (mk 7 (0, 0) ⟨#[113]⟩ 0 []).2 .no) _
  exact (mk_leaf (B := w.heap.size) (b := w.heap.size + 1 + 1) (hn_ _ _ _ (by simp [World.size_alloc])) (by omega))
set_option maxRecDepth 100000 in
set_option maxHeartbeats 12800000 in
theorem grown_num (d : Nat) (IH : GrownIH d) (a n : Nat) (l : List (Nat × Nat)) (A : Option Addr) (c : Nat) (w : World) (hl : ((a, n) :: l).length ≤ 60) (h : Seeds w A c ((a, n) :: l)) (D : Int) (hD : D = ((d + 1 : Nat) : Int)) (hd : d ≤ 1000) (ea : a % 9 = 4) :
    Calls Try.prog 9 #[.slice A ((a, n) :: l).length c, .int .i64 D] w (GrownR w (grownP (d + 1) ((a, n) :: l)).1 (grownP (d + 1) ((a, n) :: l)).2) := by
  obtain ⟨g0, off, rfl, hg0, k0, k1⟩ := h.first
  obtain ⟨fa, fn⟩ := h.fit (a, n) (by simp)
  simp only at fa fn k0 k1
  have HG := Lib.hid (show grownP (d + 1) ((a, n) :: l) = (.num n, 1) by rw [grownP_succ, if_neg (by omega), if_neg (by omega), if_pos ea])
  have HS := Lib.hid h
  have HIH := Lib.hid IH
  have hll : l.length ≤ 59 := by simp only [List.length_cons] at hl; omega
  have hlf : ∀ s ∈ l, s.1 < 256 ∧ s.2 ≤ 65535 := fun s hs => h.fit s (by simp [hs])
  have hcap := h.cap
  obtain ⟨N, hN⟩ : ∃ N, ((a, n) :: l).length = N := ⟨_, rfl⟩
  have HN := Lib.hid hN
  rw [hN] at hl hcap ⊢
  have hN1 : 1 ≤ N := by simp only [List.length_cons] at hN; omega
  have x1 : (0 : Int) ≤ (a : Int) := by omega
  have x2 : (a : Int) ≤ 255 := by omega
  have x3 : (0 : Int) ≤ (n : Int) := by omega
  have x4 : (n : Int) ≤ 65535 := by omega
  have x5 : (1 : Int) ≤ (N : Int) := by omega
  have x6 : (1 : Int) ≤ D := by omega
  have x7 : ((N : Int) == 0) = false := by simp only [beq_eq_false_iff_ne, ne_eq]; omega
  have x8 : (D == 0) = false := by simp only [beq_eq_false_iff_ne, ne_eq]; omega
  have x9 : D ≤ 9223372036854775807 := by omega
  have ea' : (a : Int) % 9 = 4 := by omega
  have HD := Lib.hid hD
  have HF := Lib.hid hlf
  obtain ⟨A1, hs1, HS1⟩ := seeds_slice h (k := 1) (by simp only [List.length_cons]; omega) 1 rfl
  rw [hN, show (((a, n) :: l).drop 1).length = l.length from rfl] at hs1
  have HS1 := Lib.hid (show Seeds w A1 (c - 1) l from HS1)
  have NB := Lib.hid (number_any n fn)
  clear h IH hN hlf hD hd ea fa fn
  generalize grownP (d + 1) ((a, n) :: l) = gg at *
  go_enter Try.func9, Try.ntmps9
  have KS := Lib.hid (GK.start w a n)
  generalize hW : (w.alloc (.cells #[.int .u8 a, .int .u16 n] 48)).alloc (.cells opsV 9) = W at KS
  have HW := Lib.hid hW
  clear hW
  go_wp2
  rw [show (w.alloc (.cells #[.int .u8 a, .int .u16 n] 48)).alloc (.cells opsV 9) = W from HW.out]
  have v1 : W.cell? ⟨w.heap.size, 1, none⟩ = some (.int .u16 n) := KS.out.s1
  have hwr : IntKind.i64.wrap (n : Int) = (n : Int) := IntWalk.i64_in _ (by omega)
  have hw1 := KS.out.lt
  have hw2 : w.heap.size < W.heap.size := by omega
  have hw3 : w.heap.size < W.drew.heap.size := hw2
  go_region_law (first
    | (go_simp; go_at_call 19; (with_reducible refine (NB.out _).mono ?_); rintro e x ⟨rfl, hb⟩; have v2 : x.cell? ⟨w.heap.size, 1, none⟩ = some (.int .u16 n) := (hb.cell (p := ⟨w.heap.size, 1, none⟩) (by first | exact hw2 | exact Nat.lt_of_lt_of_le hw2 (Nat.le_of_lt (by show W.heap.size < (W.alloc _).heap.size; rw [World.size_alloc]; exact Nat.lt_succ_self _)))).trans (by first | exact v1 | exact (World.cell?_alloc_lt W _ ⟨w.heap.size, 1, none⟩ hw2).trans v1)))
  all_goals
    clear v1 v2
    go_wp2
    go_ret3
    rw [HG.out]
    show GrownR w (.num n) 1 _ _
    first
      | exact ⟨W.heap.size, ret3_ (by rfl) (by rfl), mk_leaf (B := w.heap.size) (num_a KS.out.bel hb).2 (by have := KS.out.bel.size; omega), (num_a KS.out.bel hb).1⟩
      | exact ⟨x.heap.size, ret3_ (by rfl) (by rfl), mk_leaf (B := w.heap.size) (num_b _ KS.out.bel hb).2 (by have := KS.out.bel.size; have h2 := hb.size; exact Nat.le_trans this h2), (num_b _ KS.out.bel hb).1⟩
end Go.Proofs.Ytnboenmkngjhmaa.Ex
