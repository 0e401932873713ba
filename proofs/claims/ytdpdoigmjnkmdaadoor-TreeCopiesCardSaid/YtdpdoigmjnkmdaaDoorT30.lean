/- The contracts at trees that may be none. -/
import Derived.Test.YtdpdoigmjnkmdaaDoorT29
import Derived.Test.YtdpdoigmjnkmdaaDoorT9
set_option linter.unusedSimpArgs false
set_option linter.unusedVariables false
namespace Go.Proofs.YtdpdoigmjnkmdaaDoor.Tr
open Go.RowKit
open Fl

/-- v is the tree f, or none. -/
def One (w : World) (f : Fo) (v : Value) : Prop := (f = .no ∧ v = .pointer none) ∨ ∃ d k, f = .node d k .no ∧ Rep w (.node d k .no) [v]
theorem One.below {w w' : World} {f : Fo} {v : Value} (h : One w f v) (hb : Below w.heap.size w w') : One w' f v := by
  rcases h with h | ⟨d, k, h1, h2⟩
  · exact .inl h
  · exact .inr ⟨d, k, h1, h2.below hb⟩
theorem One.none_ (w : World) : One w .no (.pointer none) := .inl ⟨rfl, rfl⟩
theorem One.some_ {S : Nat → Prop} {w : World} {d : Nd} {k : Fo} {v : Value} (h : RepS S w (.node d k .no) [v]) : One w (.node d k .no) v := .inr ⟨d, k, rfl, h.rep⟩
theorem run_eql_none_some {P : Program} (w : World) {tp te : TypeId} (a : Addr) (hp : P.underlying tp = some (.pointer te)) : (binOp .eql tp (.pointer none) (.pointer (some a))).run P w = .ok (.bool false) w := by
  have h : ∀ d : Nat, (Op.equalIn (d + 1) tp (.pointer none) (.pointer (some a))).run P w = .ok false w := fun d => by
    simp [Op.equalIn, run_underlying hp]
  simp only [binOp]
  simp [Op.equal, Op.maxDepth, h 9999]
def txtT : Fo → List UInt8
  | .no => []
  | .node d k _ => txt1 d k
theorem bool_draw {P : Prop} {w : World} {e : Ending} {b : Bool} {w' : World} (h : e = .returned (.bool b) ∧ ∃ m, w' = w.drewN m) : e = .returned (.bool b) ∧ Below w.heap.size w w' := by
  obtain ⟨h, m, rfl⟩ := h
  exact ⟨h, below_drewN (Below.refl _ _) m⟩

set_option maxHeartbeats 1600000 in
theorem same1_nn (w : World) : Calls Tryd.prog 11 #[.pointer none, .pointer none] w fun e w' => e = .returned (.bool true) ∧ Below w.heap.size w w' := by
  go_enter Tryd.func11, Tryd.ntmps11
  go_wp2
  go_ret
  exact ⟨rfl, Below.refl _ _⟩
set_option maxHeartbeats 1600000 in
theorem same1_ns (b : Nat) (w : World) : Calls Tryd.prog 11 #[.pointer none, .pointer (some ⟨b, 0, none⟩)] w fun e w' => e = .returned (.bool false) ∧ Below w.heap.size w w' := by
  go_enter Tryd.func11, Tryd.ntmps11
  have hE := fun w => run_eql_none_some (P := Tryd.prog) w ⟨b, 0, none⟩ Tryd.underlying25
  go_wp2
  go_ret
  exact ⟨rfl, Below.refl _ _⟩
set_option maxHeartbeats 1600000 in
theorem same1_sn (b : Nat) (w : World) : Calls Tryd.prog 11 #[.pointer (some ⟨b, 0, none⟩), .pointer none] w fun e w' => e = .returned (.bool false) ∧ Below w.heap.size w w' := by
  go_enter Tryd.func11, Tryd.ntmps11
  go_wp2
  go_ret
  exact ⟨rfl, Below.refl _ _⟩
theorem same1 (f g : Fo) (v v' : Value) (w : World) (hc : f.count ≤ 1000000) (hv : One w f v) (hv' : One w g v') : Calls Tryd.prog 11 #[v, v'] w fun e w' => e = .returned (.bool (f.same g)) ∧ Below w.heap.size w w' := by
  rcases hv with ⟨rfl, rfl⟩ | ⟨d, k, rfl, h2⟩ <;> rcases hv' with ⟨rfl, rfl⟩ | ⟨d', k', rfl, h2'⟩
  · exact same1_nn w
  · obtain ⟨b, _, _, _, rfl, _⟩ := h2'.one
    exact same1_ns b w
  · obtain ⟨b, _, _, _, rfl, _⟩ := h2.one
    exact same1_sn b w
  · exact (same_any _ d k d' k' v v' w (Nat.le_refl _) hc h2 h2').mono fun e w' h => bool_draw (P := True) h

set_option maxHeartbeats 1600000 in
theorem same1r_nn (w : World) : Calls Tryd.prog 12 #[.pointer none, .pointer none] w fun e w' => e = .returned (.bool true) ∧ Below w.heap.size w w' := by
  go_enter Tryd.func12, Tryd.ntmps12
  go_wp2
  go_ret
  exact ⟨rfl, Below.refl _ _⟩
set_option maxHeartbeats 1600000 in
theorem same1r_ns (b : Nat) (w : World) : Calls Tryd.prog 12 #[.pointer none, .pointer (some ⟨b, 0, none⟩)] w fun e w' => e = .returned (.bool false) ∧ Below w.heap.size w w' := by
  go_enter Tryd.func12, Tryd.ntmps12
  go_wp2
  go_ret
  exact ⟨rfl, Below.refl _ _⟩
set_option maxHeartbeats 1600000 in
theorem same1r_sn (b : Nat) (w : World) : Calls Tryd.prog 12 #[.pointer (some ⟨b, 0, none⟩), .pointer none] w fun e w' => e = .returned (.bool false) ∧ Below w.heap.size w w' := by
  go_enter Tryd.func12, Tryd.ntmps12
  go_wp2
  go_ret
  exact ⟨rfl, Below.refl _ _⟩
theorem same1r (f g : Fo) (v v' : Value) (w : World) (hc : f.count ≤ 1000000) (hv : One w f v) (hv' : One w g v') : Calls Tryd.prog 12 #[v, v'] w fun e w' => e = .returned (.bool (f.same g)) ∧ Below w.heap.size w w' := by
  rcases hv with ⟨rfl, rfl⟩ | ⟨d, k, rfl, h2⟩ <;> rcases hv' with ⟨rfl, rfl⟩ | ⟨d', k', rfl, h2'⟩
  · exact same1r_nn w
  · obtain ⟨b, _, _, _, rfl, _⟩ := h2'.one
    exact same1r_ns b w
  · obtain ⟨b, _, _, _, rfl, _⟩ := h2.one
    exact same1r_sn b w
  · exact (rsame_any _ d k d' k' v v' w (Nat.le_refl _) hc h2 h2').mono fun e w' h => bool_draw (P := True) h

set_option maxHeartbeats 1600000 in
theorem exact1_nn (w : World) : Calls Tryd.prog 21 #[.pointer none, .pointer none] w fun e w' => e = .returned (.bool true) ∧ Below w.heap.size w w' := by
  go_enter Tryd.func21, Tryd.ntmps21
  have c := Lib.hid (same1r_nn w)
  go_wp2_with fail
  ((with_reducible refine c.out.mono ?_); rintro e w1 ⟨rfl, hb⟩)
  go_wp2
  go_ret
  exact ⟨rfl, hb⟩
set_option maxHeartbeats 1600000 in
theorem exact1_ns (b : Nat) (w : World) : Calls Tryd.prog 21 #[.pointer none, .pointer (some ⟨b, 0, none⟩)] w fun e w' => e = .returned (.bool false) ∧ Below w.heap.size w w' := by
  go_enter Tryd.func21, Tryd.ntmps21
  have c := Lib.hid (same1r_ns b w)
  go_wp2_with fail
  ((with_reducible refine c.out.mono ?_); rintro e w1 ⟨rfl, hb⟩)
  go_wp2
  go_ret
  exact ⟨rfl, hb⟩
set_option maxHeartbeats 1600000 in
theorem exact1_sn (b : Nat) (w : World) : Calls Tryd.prog 21 #[.pointer (some ⟨b, 0, none⟩), .pointer none] w fun e w' => e = .returned (.bool false) ∧ Below w.heap.size w w' := by
  go_enter Tryd.func21, Tryd.ntmps21
  have c := Lib.hid (same1r_sn b w)
  go_wp2_with fail
  ((with_reducible refine c.out.mono ?_); rintro e w1 ⟨rfl, hb⟩)
  go_wp2
  go_ret
  exact ⟨rfl, hb⟩
theorem exact1 (f g : Fo) (v v' : Value) (w : World) (hc : f.count ≤ 1000000) (hf : f.fits) (hg : g.fits) (hv : One w f v) (hv' : One w g v') : Calls Tryd.prog 21 #[v, v'] w fun e w' => e = .returned (.bool (f.exact g)) ∧ Below w.heap.size w w' := by
  rcases hv with ⟨rfl, rfl⟩ | ⟨d, k, rfl, h2⟩ <;> rcases hv' with ⟨rfl, rfl⟩ | ⟨d', k', rfl, h2'⟩
  · exact exact1_nn w
  · obtain ⟨b, _, _, _, rfl, _⟩ := h2'.one
    exact exact1_ns b w
  · obtain ⟨b, _, _, _, rfl, _⟩ := h2.one
    exact exact1_sn b w
  · exact (exact_any _ d k d' k' v v' w (Nat.le_refl _) hc hf hg h2 h2').mono fun e w' h => bool_draw (P := True) h

set_option maxHeartbeats 1600000 in
theorem count1_n (w : World) : Calls Tryd.prog 14 #[.pointer none] w fun e w' => e = .returned (.int .i64 0) ∧ Below w.heap.size w w' := by
  go_enter Tryd.func14, Tryd.ntmps14
  go_wp2
  go_ret
  exact ⟨rfl, Below.refl _ _⟩
theorem count1 (f : Fo) (v : Value) (w : World) (hc : f.count ≤ 1000000) (hv : One w f v) : Calls Tryd.prog 14 #[v] w fun e w' => e = .returned (.int .i64 (f.count : Nat)) ∧ Below w.heap.size w w' := by
  rcases hv with ⟨rfl, rfl⟩ | ⟨d, k, rfl, h2⟩
  · exact count1_n w
  · exact (count_any _ d k v w (Nat.le_refl _) hc h2).mono fun e w' ⟨h, hw⟩ => ⟨h, by subst hw; exact Below.refl _ _⟩

set_option maxHeartbeats 1600000 in
theorem count1r_n (w : World) : Calls Tryd.prog 15 #[.pointer none] w fun e w' => e = .returned (.int .i64 0) ∧ Below w.heap.size w w' := by
  go_enter Tryd.func15, Tryd.ntmps15
  go_wp2
  go_ret
  exact ⟨rfl, Below.refl _ _⟩
theorem count1r (f : Fo) (v : Value) (w : World) (hc : f.count ≤ 1000000) (hv : One w f v) : Calls Tryd.prog 15 #[v] w fun e w' => e = .returned (.int .i64 (f.count : Nat)) ∧ Below w.heap.size w w' := by
  rcases hv with ⟨rfl, rfl⟩ | ⟨d, k, rfl, h2⟩
  · exact count1r_n w
  · exact (rcount_any _ d k v w (Nat.le_refl _) hc h2).mono fun e w' ⟨h, hw⟩ => ⟨h, by subst hw; exact Below.refl _ _⟩

set_option maxHeartbeats 1600000 in
theorem deep1_n (w : World) : Calls Tryd.prog 16 #[.pointer none] w fun e w' => e = .returned (.int .i64 0) ∧ Below w.heap.size w w' := by
  go_enter Tryd.func16, Tryd.ntmps16
  go_wp2
  go_ret
  exact ⟨rfl, Below.refl _ _⟩
theorem deep1 (f : Fo) (v : Value) (w : World) (hc : f.count ≤ 1000000) (hv : One w f v) : Calls Tryd.prog 16 #[v] w fun e w' => e = .returned (.int .i64 (f.deep : Nat)) ∧ Below w.heap.size w w' := by
  rcases hv with ⟨rfl, rfl⟩ | ⟨d, k, rfl, h2⟩
  · exact deep1_n w
  · exact (deep_any _ d k v w (Nat.le_refl _) hc h2).mono fun e w' ⟨h, hw⟩ => ⟨h, by subst hw; exact Below.refl _ _⟩

set_option maxHeartbeats 1600000 in
theorem deep1r_n (w : World) : Calls Tryd.prog 17 #[.pointer none] w fun e w' => e = .returned (.int .i64 0) ∧ Below w.heap.size w w' := by
  go_enter Tryd.func17, Tryd.ntmps17
  go_wp2
  go_ret
  exact ⟨rfl, Below.refl _ _⟩
theorem deep1r (f : Fo) (v : Value) (w : World) (hc : f.count ≤ 1000000) (hv : One w f v) : Calls Tryd.prog 17 #[v] w fun e w' => e = .returned (.int .i64 (f.deep : Nat)) ∧ Below w.heap.size w w' := by
  rcases hv with ⟨rfl, rfl⟩ | ⟨d, k, rfl, h2⟩
  · exact deep1r_n w
  · exact (rdeep_any _ d k v w (Nat.le_refl _) hc h2).mono fun e w' ⟨h, hw⟩ => ⟨h, by subst hw; exact Below.refl _ _⟩

set_option maxHeartbeats 1600000 in
theorem copy1_n (w : World) : Calls Tryd.prog 23 #[.pointer none] w fun e w' => e = .returned (.pointer none) ∧ Below w.heap.size w w' := by
  go_enter Tryd.func23, Tryd.ntmps23
  go_wp2
  go_ret
  exact ⟨rfl, Below.refl _ _⟩
theorem copy1 (f : Fo) (v : Value) (w : World) (hc : f.count ≤ 1000000) (hv : One w f v) : Calls Tryd.prog 23 #[v] w fun e w' => ∃ u, e = .returned u ∧ Below w.heap.size w w' ∧ ((f = .no ∧ u = .pointer none) ∨ RepS (fun x => w.heap.size ≤ x) w' f [u]) := by
  rcases hv with ⟨rfl, rfl⟩ | ⟨d, k, rfl, h2⟩
  · exact (copy1_n w).mono fun e w' ⟨h, hb⟩ => ⟨_, h, hb, .inl ⟨rfl, rfl⟩⟩
  · exact (copy_any _ d k v w (Nat.le_refl _) hc h2).mono fun e w' ⟨u, h, hb, hr⟩ => ⟨u, h, hb, .inr hr⟩

set_option maxHeartbeats 1600000 in
theorem copy1r_n (w : World) : Calls Tryd.prog 13 #[.pointer none] w fun e w' => e = .returned (.pointer none) ∧ Below w.heap.size w w' := by
  go_enter Tryd.func13, Tryd.ntmps13
  go_wp2
  go_ret
  exact ⟨rfl, Below.refl _ _⟩
theorem copy1r (f : Fo) (v : Value) (w : World) (hc : f.count ≤ 1000000) (hv : One w f v) : Calls Tryd.prog 13 #[v] w fun e w' => ∃ u, e = .returned u ∧ Below w.heap.size w w' ∧ ((f = .no ∧ u = .pointer none) ∨ RepS (fun x => w.heap.size ≤ x) w' f [u]) := by
  rcases hv with ⟨rfl, rfl⟩ | ⟨d, k, rfl, h2⟩
  · exact (copy1r_n w).mono fun e w' ⟨h, hb⟩ => ⟨_, h, hb, .inl ⟨rfl, rfl⟩⟩
  · exact (rcopy_any _ d k v w (Nat.le_refl _) hc h2).mono fun e w' ⟨u, h, hb, hr⟩ => ⟨u, h, hb, .inr hr⟩

set_option maxHeartbeats 1600000 in
theorem text1_n (w : World) : Calls Tryd.prog 18 #[.pointer none] w fun e w' => e = .returned (.string ⟨#[]⟩) ∧ Below w.heap.size w w' := by
  go_enter Tryd.func18, Tryd.ntmps18
  go_wp2
  go_ret
  exact ⟨rfl, Below.refl _ _⟩
theorem text1 (f : Fo) (v : Value) (w : World) (hc : f.count ≤ 1000000) (hok : f.ok) (hlen : (txtT f).length ≤ 1000000000) (hT : Pl.Tab w) (hv : One w f v) : Calls Tryd.prog 18 #[v] w fun e w' => e = .returned (.string ⟨(txtT f).toArray⟩) ∧ Below w.heap.size w w' := by
  rcases hv with ⟨rfl, rfl⟩ | ⟨d, k, rfl, h2⟩
  · exact text1_n w
  · exact text_any d k v w hc hok hlen hT h2

set_option maxHeartbeats 1600000 in
theorem text1r_n (w : World) : Calls Tryd.prog 19 #[.pointer none] w fun e w' => e = .returned (.string ⟨#[]⟩) ∧ Below w.heap.size w w' := by
  go_enter Tryd.func19, Tryd.ntmps19
  go_wp2
  go_ret
  exact ⟨rfl, Below.refl _ _⟩
theorem text1r (f : Fo) (v : Value) (w : World) (hc : f.count ≤ 1000000) (hok : f.ok) (hlen : (txtT f).length ≤ 1000000000) (hv : One w f v) : Calls Tryd.prog 19 #[v] w fun e w' => e = .returned (.string ⟨(txtT f).toArray⟩) ∧ Below w.heap.size w w' := by
  rcases hv with ⟨rfl, rfl⟩ | ⟨d, k, rfl, h2⟩
  · exact text1r_n w
  · exact rtext_any _ d k v w (Nat.le_refl _) hc hok hlen h2

end Go.Proofs.YtdpdoigmjnkmdaaDoor.Tr
