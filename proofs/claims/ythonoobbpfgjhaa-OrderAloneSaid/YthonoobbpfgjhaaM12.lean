/- Order of the program. -/
import Derived.Test.YthonoobbpfgjhaaM11
set_option linter.unusedSimpArgs false
set_option linter.unusedVariables false
namespace Go.Proofs.Ythonoobbpfgjhaa.Od
open Go.RowKit
def ansOf : Except (Nm × Nat) (List Nm) → List Nm × Nm × Nat
  | .error (a, k) => ([], a, k)
  | .ok o => (o, [], 0)
/-- What Order answers. -/
def OrdR (w : World) (r : Except (Nm × Nat) (List Nm)) (e : Ending) (w' : World) : Prop := ∃ A c, e = .returned (.tuple #[.slice A (ansOf r).1.length c, .string (S (ansOf r).2.1), .int .i64 ((ansOf r).2.2 : Nat)]) ∧ NR w' A c (ansOf r).1 ∧ Below w.heap.size w w'
theorem fz_new (w : World) (v : Value) (t : TypeId) : (w.alloc (.cells #[v] t)).frozen? ⟨w.heap.size, 0, none⟩ = false := by
  unfold World.frozen?
  simp only [heap_alloc_new]
  rfl
theorem ord_ret {fn : Func} (h : fn.results = #[.cell 4 25, .tmp 5, .tmp 6]) (tmps : Array Value) (w : World) (b : Nat) (lv : Value) (hp : tmps.getD 4 undef = .pointer (some ⟨b, 0, none⟩)) (h0 : w.cell? ⟨b, 0, none⟩ = some lv) :
    (results fn tmps).run Try.prog w = .ok (.tuple #[lv, tmps.getD 5 undef, tmps.getD 6 undef]) w := by
  have hp' : tmps[4]?.getD undef = .pointer (some ⟨b, 0, none⟩) := by simpa using hp
  simp [results, h, hp', asAddr, loadVar, Try.isAgg25, h0]
theorem OE.start {w w1 : World} {q : List Md} {ba : Nat} (hb : Below w.heap.size w w1) (hz : w.heap.size < w1.heap.size) (hm : NM w1 ba q) (hba : ba ≠ w.heap.size) (c4 : w1.cell? ⟨w.heap.size, 0, none⟩ = some (.slice none 0 0)) (f4 : w1.frozen? ⟨w.heap.size, 0, none⟩ = false) (tA tS tF : TypeId) :
    OE w (w1.heap.size + 1 + 1 + 1 + 1) ((((w1.alloc (.cells #[.map (some ba)] tA)).alloc (.map #[] 0)).alloc (.cells #[.map (some (w1.heap.size + 1))] tS)).alloc (.cells #[.func (.func 17) #[] #[.pointer (some ⟨w1.heap.size, 0, none⟩), .pointer (some ⟨w1.heap.size + 1 + 1, 0, none⟩), .pointer (some ⟨w1.heap.size + 1 + 1 + 1, 0, none⟩), .pointer (some ⟨w.heap.size, 0, none⟩)]] tF))
      w1.heap.size ba (w1.heap.size + 1 + 1) (w1.heap.size + 1) (w1.heap.size + 1 + 1 + 1) w.heap.size q (.slice none 0 0) (fun _ => 0, []) := by
  have hlt := hm.lt
  generalize hw2 : w1.alloc (.cells #[.map (some ba)] tA) = w2
  have s2 : w2.heap.size = w1.heap.size + 1 := by subst hw2; simp
  generalize hw3 : w2.alloc (.map #[] 0) = w3
  have s3 : w3.heap.size = w1.heap.size + 1 + 1 := by subst hw3; simp [s2]
  generalize hw4 : w3.alloc (.cells #[.map (some (w1.heap.size + 1))] tS) = w4
  have s4 : w4.heap.size = w1.heap.size + 1 + 1 + 1 := by subst hw4; simp [s3]
  have b2 : Below w1.heap.size w1 w2 := hw2 ▸ (Below.refl w1.heap.size w1).alloc (Nat.le_refl _) _
  have b3 : Below w1.heap.size w1 w3 := hw3 ▸ b2.alloc (by omega) _
  have b4 : Below w1.heap.size w1 w4 := hw4 ▸ b3.alloc (by omega) _
  generalize hw5 : w4.alloc (.cells #[.func (.func 17) #[] #[.pointer (some ⟨w1.heap.size, 0, none⟩), .pointer (some ⟨w1.heap.size + 1 + 1, 0, none⟩), .pointer (some ⟨w1.heap.size + 1 + 1 + 1, 0, none⟩), .pointer (some ⟨w.heap.size, 0, none⟩)]] tF) = w5
  have s5 : w5.heap.size = w1.heap.size + 1 + 1 + 1 + 1 := by subst hw5; simp [s4]
  have b5 : Below w1.heap.size w1 w5 := hw5 ▸ b4.alloc (by omega) _
  have al : ∀ {x y : World} {o : Obj} {b : Nat} {v : Value}, x.alloc o = y → b < x.heap.size → x.cell? ⟨b, 0, none⟩ = some v → y.cell? ⟨b, 0, none⟩ = some v := fun {x y o b v} e hb h => by
    subst e; rw [World.cell?_alloc_lt x _ _ hb]; exact h
  have c2 : w2.cell? ⟨w1.heap.size, 0, none⟩ = some (.map (some ba)) := hw2 ▸ cell_new w1 _ _
  have d4 : w4.cell? ⟨w1.heap.size + 1 + 1, 0, none⟩ = some (.map (some (w1.heap.size + 1))) := by
    have := cell_new w3 (.map (some (w1.heap.size + 1))) tS
    rw [s3] at this
    exact hw4 ▸ this
  have e5 := cell_new w4 (.func (.func 17) #[] #[.pointer (some ⟨w1.heap.size, 0, none⟩), .pointer (some ⟨w1.heap.size + 1 + 1, 0, none⟩), .pointer (some ⟨w1.heap.size + 1 + 1 + 1, 0, none⟩), .pointer (some ⟨w.heap.size, 0, none⟩)]) tF
  rw [s4, hw5] at e5
  have m3 : IsM w3 (w1.heap.size + 1) [] (stV fun _ => 0) := by
    have := IsM.made w2 (stV fun _ => 0)
    rw [s2] at this
    exact hw3 ▸ this
  have m5 : IsM w5 (w1.heap.size + 1) [] (stV fun _ => 0) := hw5 ▸ (IsM.alloc (hw4 ▸ IsM.alloc m3 _) _)
  obtain ⟨hc, hf⟩ := bcell b5
  refine ⟨hb.trans (b5.mono (by omega)), al hw5 (by omega) (al hw4 (by omega) (al hw3 (by omega) c2)), al hw5 (by omega) d4, e5, (hc _ _ hz).trans c4, (hf _ _ hz).trans f4, OwnN.nil _ _, hm.kept (b5.block ba hlt), ⟨[], m5, fun _ _ => rfl⟩, ?_, ?_, ?_, ?_⟩
  · exact ⟨by omega, by omega, by omega, by omega, by omega⟩
  · exact ⟨by omega, by omega, by omega, hba⟩
  · exact ⟨by omega, by omega, by omega, by omega, by omega, by omega⟩
  · exact ⟨by omega, by omega, by omega, by omega⟩
theorem look_told {q : List Md} {m : Nm} : look (nl q) m = none ∨ ∃ ns, look (nl q) m = some ns := by
  cases look (nl q) m with
  | none => exact .inl rfl
  | some ns => exact .inr ⟨ns, rfl⟩
set_option maxRecDepth 100000 in
set_option maxHeartbeats 6400000 in
theorem Order_any {w : World} {A : Option Addr} {c : Nat} {q : List Md} (h : Mods w A c q) (hs : Small q) (m : Nm) :
    Calls Try.prog 8 #[.slice A q.length c, .string (S m)] w (OrdR w (orderP (nl q) m)) := by
  have hmm := @run_makeMap Try.prog
  have hb0 : Below w.heap.size w (w.alloc (.cells #[.slice none 0 0] 25)) := (Below.refl _ _).alloc (Nat.le_refl _) _
  have HC := Lib.hid (needs_any (h.below hb0))
  have H := Lib.hid h
  have HS := Lib.hid hs
  have HB0 := Lib.hid hb0
  clear h hs hb0
  go_enter Try.func8, Try.ntmps8
  go_wp2_with fail
  refine HC.out.mono ?_
  rintro e w1 ⟨b, tw, is, rfl, hb, hbs, hm, hag⟩
  obtain ⟨hc1, hf1⟩ := bcell hb
  have hz : w.heap.size < w1.heap.size := by have := hb.size; rw [World.size_alloc] at this; omega
  have hne : ¬ w.heap.size = w1.heap.size := by omega
  have c4 : w1.cell? ⟨w.heap.size, 0, none⟩ = some (.slice none 0 0) := by rw [hc1 _ _ (by rw [World.size_alloc]; omega)]; exact cell_new w _ _
  have f4 : w1.frozen? ⟨w.heap.size, 0, none⟩ = false := by rw [hf1 _ _ (by rw [World.size_alloc]; omega)]; exact fz_new w _ _
  have HB := Lib.hid hb
  have HM := Lib.hid hm
  have HBS := Lib.hid hbs
  clear hc1 hf1 hb hbs hm HC
  rcases hag with ⟨rfl, hag⟩ | ⟨rfl, rfl, hag⟩
  · have HR := Lib.hid (show orderP (nl q) m = .error (tw, 6) from by unfold orderP; rw [hag])
    clear hag
    go_wp2
    have HBW := Lib.hid (HB0.out.trans (HB.out.mono (by rw [World.size_alloc]; omega)))
    refine bodyPost_ret (ord_ret rfl _ _ w.heap.size (.slice none 0 0) rfl (by rw [World.cell?_alloc_lt _ _ _ (by rw [World.size_setCell]; exact hz)]; exact World.cell?_setCell_same _ _ _ c4)) rfl ?_
    rw [HR.out]
    exact ⟨none, 0, rfl, NR.nil _, (HBW.out.setCell (Nat.le_refl _) _).alloc (by rw [World.size_setCell]; omega) _⟩
  · have HBW := Lib.hid (HB0.out.trans (HB.out.mono (by rw [World.size_alloc]; omega)))
    have hE := OE.start HBW.out hz HM.out (by have := HBS.out; rw [World.size_alloc] at this; omega) c4 f4 40 43 44
    have HT := Lib.hid (through_any (fun x hx => H.out.each x hx) HS.out ((nl q).length + 1) m (fun _ => 0, []) _ _ hE ⟨di_start _, fun n hn => by cases hn⟩ rfl (Nat.lt_succ_of_le (fresh_le_len _ _)))
    have HR := Lib.hid (show orderP (nl q) m = (match dfs (nl q) ((nl q).length + 1) m (fun _ => 0, []) with
      | .error e => .error e
      | .ok y => .ok y.2) from by
        unfold orderP
        rw [hag]
        cases dfs (nl q) ((nl q).length + 1) m (fun _ => 0, []) <;> rfl)
    generalize dfs (nl q) ((nl q).length + 1) m (fun _ => 0, []) = res at *
    clear hag hE
    go_wp2_with fail
    refine HT.out.mono ?_
    cases res with
    | error p =>
      obtain ⟨a, k⟩ := p
      have HR2 := Lib.hid (show orderP (nl q) m = .error (a, k) from HR.out)
      rintro e w3 ⟨rfl, hk, lv3, y3, h3⟩
      have h4 := h3.cO
      have h5 := h3.fO
      have t1 : ((k : Int) != 0) = true := by simp only [bne_iff_ne, ne_eq]; omega
      have H3 := Lib.hid h3
      clear hk h3 HT HR
      go_wp2
      refine bodyPost_ret (ord_ret rfl _ _ w.heap.size (.slice none 0 0) rfl (World.cell?_setCell_same _ _ _ h4)) rfl ?_
      rw [HR2.out]
      exact ⟨none, 0, rfl, NR.nil _, H3.out.base.setCell (Nat.le_refl _) _⟩
    | ok y =>
      have HR2 := Lib.hid (show orderP (nl q) m = .ok y.2 from HR.out)
      rintro e w3 ⟨rfl, hx3, lv3, h3⟩
      have h4 := h3.cO
      have h5 := h3.fO
      have H3 := Lib.hid h3
      have hlen := hx3.len HS.out
      have hne3 : lv3.ownBlock ≠ some (⟨w.heap.size, 0, none⟩ : Addr).block := fun e => by
        have h6 := (World.ownsRow.lt h3.own _ e).1
        have h7 : (⟨w.heap.size, 0, none⟩ : Addr).block = w.heap.size := rfl
        omega
      obtain ⟨A3, c3, rfl, hN3, hg3⟩ := h3.own.form (by omega)
      have hN4 : NR (w3.setCell ⟨w.heap.size, 0, none⟩ (.slice A3 y.2.length c3)) A3 c3 y.2 := by
        obtain ⟨A4, c4, e4, hN4, _⟩ := (h3.own.setCell hne3 (.slice A3 y.2.length c3)).form (by omega)
        injection e4 with e5 e6 e7
        subst e5 e7
        exact hN4
      have HN4 := Lib.hid hN4
      clear hx3 h3 HT HR hN3 hg3 hN4 hne3
      go_wp2
      refine bodyPost_ret (ord_ret rfl _ _ w.heap.size _ rfl (World.cell?_setCell_same _ _ _ h4)) rfl ?_
      rw [HR2.out]
      exact ⟨A3, c3, rfl, HN4.out, H3.out.base.setCell (Nat.le_refl _) _⟩
end Go.Proofs.Ythonoobbpfgjhaa.Od
