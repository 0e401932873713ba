/- The walks of Count and Deep, the program's and the reference's. -/
import Derived.Test.YtdpdoigmjnkmdaaDoorT1
import Derived.Test.YtdpdoigmjnkmdaaDoorProg
set_option linter.unusedSimpArgs false
set_option linter.unusedVariables false
namespace Go.Proofs.YtdpdoigmjnkmdaaDoor.Tr
open Go.RowKit
open Fl

theorem Rep.head {w : World} {d : Nd} {k r : Fo} {vs : List Value} (h : Rep w (.node d k r) vs) : ∃ v vs', vs = v :: vs' ∧ Rep w (.node d k .no) [v] ∧ Rep w r vs' := by
  unfold Rep at h
  obtain ⟨b, A, c, ks, vs', rfl, h2, h3, h4, h5⟩ := h
  exact ⟨_, _, rfl, ⟨b, A, c, ks, [], rfl, h2, h3, h4, rfl⟩, h5⟩
theorem Rep.one {w : World} {d : Nd} {k : Fo} {v : Value} (h : Rep w (.node d k .no) [v]) : ∃ b A c ks, v = .pointer (some ⟨b, 0, none⟩) ∧ At w b d (.slice A ks.length c) ∧ Reads w w.heap.size 1 A ks.length ks ∧ Rep w k ks := by
  unfold Rep at h
  obtain ⟨b, A, c, ks, vs', h1, h2, h3, h4, h5⟩ := h
  simp only [List.cons.injEq] at h1
  exact ⟨b, A, c, ks, h1.1, h2, h3, h4⟩
/-- At a place of a row that is not its end there is a tree. -/
theorem Rep.at_ {w : World} {f : Fo} {vs : List Value} {i : Nat} (h : Rep w f (vs.drop i)) (hi : i < vs.length) : ∃ d k r, f = .node d k r ∧ Rep w (.node d k .no) [vs[i]] ∧ Rep w r (vs.drop (i + 1)) := by
  cases f with
  | no => unfold Rep at h; simp at h; omega
  | node d k r =>
    obtain ⟨v, vs', e, h1, h2⟩ := h.head
    rw [List.drop_eq_getElem_cons hi] at e
    simp only [List.cons.injEq] at e
    obtain ⟨rfl, rfl⟩ := e
    exact ⟨d, k, r, rfl, h1, h2⟩
theorem Rep.end_ {w : World} {f : Fo} {vs : List Value} {i : Nat} (h : Rep w f (vs.drop i)) (hi : ¬ i < vs.length) : f = .no := by
  cases f with
  | no => rfl
  | node d k r =>
    obtain ⟨v, vs', e, h1, h2⟩ := h.head
    rw [List.drop_eq_nil_of_le (by omega)] at e
    cases e
theorem Reads.nth {w : World} {B : Nat} {A : Option Addr} {vs : List Value} {i : Nat} (h : Reads w B 1 A vs.length vs) (hi : i < vs.length) : ∃ b off, A = some ⟨b, off, none⟩ ∧ w.cell? ⟨b, off + i, none⟩ = some vs[i] := by
  obtain ⟨b, off, u, e, _, hx, hc⟩ := h.spot hi
  rw [List.getElem?_eq_getElem hi] at hx
  injection hx with hx
  subst hx
  exact ⟨b, off, e, hc⟩
theorem Reads.len_le {w : World} {B : Nat} {A : Option Addr} {f : Fo} {vs : List Value} (h : Rep w f vs) : vs.length ≤ f.count := by
  rw [h.len]
  clear h
  induction f with
  | no => simp [Fo.len]
  | node d k r ih1 ih2 => simp [Fo.len, Fo.count]; omega

theorem Fo.deep_le : ∀ f : Fo, f.deep ≤ f.count
  | .no => Nat.le_refl _
  | .node d k r => by
    have h1 := Fo.deep_le k
    have h2 := Fo.deep_le r
    simp only [Fo.deep, Fo.count]; omega

set_option maxHeartbeats 1600000 in
theorem count_any (N : Nat) : ∀ (d : Nd) (k : Fo) (v : Value) (w : World), (Fo.node d k .no).count ≤ N → (Fo.node d k .no).count ≤ 1000000 → Rep w (.node d k .no) [v] →
    Calls Tryd.prog 14 #[v] w fun e w' => e = .returned (.int .i64 ((Fo.node d k .no).count : Nat)) ∧ w = w' := by
  induction N with
  | zero => intro d k v w h; simp [Fo.count] at h
  | succ N ih =>
    intro d k v w hN hc hr
    obtain ⟨b, A, c, ks, rfl, ⟨a0, a1, a2, a3, a4⟩, hA, hk⟩ := hr.one
    have hle := Reads.len_le (B := 0) (A := none) hk
    simp only [Fo.count] at hN hc
    have HA := Lib.hid hA
    have HK := Lib.hid hk
    have HE := Lib.hid (show (Fo.node d k .no).count = 1 + k.count by simp [Fo.count, Fo.deep])
    have IH := Lib.hid ih
    clear hA hk hr ih
    go_enter Tryd.func14, Tryd.ntmps14
    go_wp2
    go_loop [3, 13] (fun t i => ∃ (j z : Nat) (f : Fo), j ≤ ks.length ∧ i = .int .i64 j ∧ t = .int .i64 z ∧ 1 ≤ z ∧ z + f.count = 1 + k.count ∧ Hid (Rep w f (ks.drop j))) (fun _ i => ks.length - (intOf i).toNat)
    case atStart => exact ⟨0, 1, k, Nat.zero_le _, rfl, rfl, Nat.le_refl _, rfl, Lib.hid HK.out⟩
    case round =>
      obtain ⟨j, z, f, hj, rfl, rfl, hz1, hz, HR⟩ := hrel
      by_cases hlt : j < ks.length
      · obtain ⟨d1, k1, r1, rfl, g1, g2⟩ := HR.out.at_ hlt
        obtain ⟨b1, off, rfl, hcell⟩ := Reads.nth HA.out hlt
        simp only [Fo.count] at hz
        have c1 := IH.out d1 k1 ks[j] w (by simp [Fo.count]; omega) (by simp [Fo.count]; omega) g1
        rw [show (Fo.node d1 k1 .no).count = 1 + k1.count by simp [Fo.count, Fo.deep]] at c1
        have C1 := Lib.hid c1
        have G2 := Lib.hid g2
        clear g1 g2 c1 HR
        generalize ks[j] = u at *
        go_wp2_with fail
        ((with_reducible refine C1.out.mono ?_); rintro e w' ⟨rfl, rfl⟩)
        go_wp2
        go_round
        case rel => exact ⟨j + 1, z + (1 + k1.count), r1, by omega, by go_num, by go_num, by omega, by omega, G2⟩
        case measure => simp [intOf]; omega
      · have he := HR.out.end_ hlt
        subst he
        simp only [Fo.count, Fo.deep] at hz
        clear HR
        go_wp2
        go_ret
        exact ⟨by rw [HE.out]; simp; omega, rfl⟩

set_option maxHeartbeats 1600000 in
theorem rcount_any (N : Nat) : ∀ (d : Nd) (k : Fo) (v : Value) (w : World), (Fo.node d k .no).count ≤ N → (Fo.node d k .no).count ≤ 1000000 → Rep w (.node d k .no) [v] →
    Calls Tryd.prog 15 #[v] w fun e w' => e = .returned (.int .i64 ((Fo.node d k .no).count : Nat)) ∧ w = w' := by
  induction N with
  | zero => intro d k v w h; simp [Fo.count] at h
  | succ N ih =>
    intro d k v w hN hc hr
    obtain ⟨b, A, c, ks, rfl, ⟨a0, a1, a2, a3, a4⟩, hA, hk⟩ := hr.one
    have hle := Reads.len_le (B := 0) (A := none) hk
    simp only [Fo.count] at hN hc
    have HA := Lib.hid hA
    have HK := Lib.hid hk
    have HE := Lib.hid (show (Fo.node d k .no).count = 1 + k.count by simp [Fo.count, Fo.deep])
    have IH := Lib.hid ih
    clear hA hk hr ih
    go_enter Tryd.func15, Tryd.ntmps15
    go_wp2
    go_loop [3, 4] (fun t i => ∃ (j z : Nat) (f : Fo), j ≤ ks.length ∧ i = .int .i64 j ∧ t = .int .i64 z ∧ 1 ≤ z ∧ z + f.count = 1 + k.count ∧ Hid (Rep w f (ks.drop j))) (fun _ i => ks.length - (intOf i).toNat)
    case atStart => exact ⟨0, 1, k, Nat.zero_le _, rfl, rfl, Nat.le_refl _, rfl, Lib.hid HK.out⟩
    case round =>
      obtain ⟨j, z, f, hj, rfl, rfl, hz1, hz, HR⟩ := hrel
      by_cases hlt : j < ks.length
      · obtain ⟨d1, k1, r1, rfl, g1, g2⟩ := HR.out.at_ hlt
        obtain ⟨b1, off, rfl, hcell⟩ := Reads.nth HA.out hlt
        simp only [Fo.count] at hz
        have c1 := IH.out d1 k1 ks[j] w (by simp [Fo.count]; omega) (by simp [Fo.count]; omega) g1
        rw [show (Fo.node d1 k1 .no).count = 1 + k1.count by simp [Fo.count, Fo.deep]] at c1
        have C1 := Lib.hid c1
        have G2 := Lib.hid g2
        clear g1 g2 c1 HR
        generalize ks[j] = u at *
        go_wp2_with fail
        ((with_reducible refine C1.out.mono ?_); rintro e w' ⟨rfl, rfl⟩)
        go_wp2
        go_round
        case rel => exact ⟨j + 1, z + (1 + k1.count), r1, by omega, by go_num, by go_num, by omega, by omega, G2⟩
        case measure => simp [intOf]; omega
      · have he := HR.out.end_ hlt
        subst he
        simp only [Fo.count, Fo.deep] at hz
        clear HR
        go_wp2
        go_ret
        exact ⟨by rw [HE.out]; simp; omega, rfl⟩

set_option maxHeartbeats 1600000 in
theorem deep_any (N : Nat) : ∀ (d : Nd) (k : Fo) (v : Value) (w : World), (Fo.node d k .no).count ≤ N → (Fo.node d k .no).count ≤ 1000000 → Rep w (.node d k .no) [v] →
    Calls Tryd.prog 16 #[v] w fun e w' => e = .returned (.int .i64 ((Fo.node d k .no).deep : Nat)) ∧ w = w' := by
  induction N with
  | zero => intro d k v w h; simp [Fo.count] at h
  | succ N ih =>
    intro d k v w hN hc hr
    obtain ⟨b, A, c, ks, rfl, ⟨a0, a1, a2, a3, a4⟩, hA, hk⟩ := hr.one
    have hle := Reads.len_le (B := 0) (A := none) hk
    simp only [Fo.count] at hN hc
    have hd := Fo.deep_le k
    have HA := Lib.hid hA
    have HK := Lib.hid hk
    have HE := Lib.hid (show (Fo.node d k .no).deep = k.deep + 1 by simp [Fo.count, Fo.deep])
    have IH := Lib.hid ih
    clear hA hk hr ih
    go_enter Tryd.func16, Tryd.ntmps16
    go_wp2
    go_loop [3, 13] (fun t i => ∃ (j z : Nat) (f : Fo), j ≤ ks.length ∧ i = .int .i64 j ∧ t = .int .i64 z ∧ z + f.deep ≤ 2000000 ∧ max z f.deep = k.deep ∧ f.count ≤ k.count ∧ Hid (Rep w f (ks.drop j))) (fun _ i => ks.length - (intOf i).toNat)
    case atStart => exact ⟨0, 0, k, Nat.zero_le _, rfl, rfl, by omega, by simp, Nat.le_refl _, Lib.hid HK.out⟩
    case round =>
      obtain ⟨j, z, f, hj, rfl, rfl, hz1, hz, hz2, HR⟩ := hrel
      by_cases hlt : j < ks.length
      · obtain ⟨d1, k1, r1, rfl, g1, g2⟩ := HR.out.at_ hlt
        obtain ⟨b1, off, rfl, hcell⟩ := Reads.nth HA.out hlt
        simp only [Fo.deep, Fo.count] at hz hz1 hz2
        have c1 := IH.out d1 k1 ks[j] w (by simp [Fo.count]; omega) (by simp [Fo.count]; omega) g1
        rw [show (Fo.node d1 k1 .no).deep = k1.deep + 1 by simp [Fo.count, Fo.deep]] at c1
        have C1 := Lib.hid c1
        have G2 := Lib.hid g2
        clear g1 g2 c1 HR
        generalize ks[j] = u at *
        go_wp2_with fail
        ((with_reducible refine C1.out.mono ?_); rintro e w' ⟨rfl, rfl⟩)
        go_wp2
        go_round
        case rel => exact ⟨j + 1, max z (k1.deep + 1), r1, by omega, by go_num, by go_num, by omega, by omega, by omega, G2⟩
        case measure => simp [intOf]; omega
      · have he := HR.out.end_ hlt
        subst he
        simp only [Fo.count, Fo.deep] at hz
        clear HR
        go_wp2
        go_ret
        exact ⟨by rw [HE.out]; simp; omega, rfl⟩

set_option maxHeartbeats 1600000 in
theorem rdeep_any (N : Nat) : ∀ (d : Nd) (k : Fo) (v : Value) (w : World), (Fo.node d k .no).count ≤ N → (Fo.node d k .no).count ≤ 1000000 → Rep w (.node d k .no) [v] →
    Calls Tryd.prog 17 #[v] w fun e w' => e = .returned (.int .i64 ((Fo.node d k .no).deep : Nat)) ∧ w = w' := by
  induction N with
  | zero => intro d k v w h; simp [Fo.count] at h
  | succ N ih =>
    intro d k v w hN hc hr
    obtain ⟨b, A, c, ks, rfl, ⟨a0, a1, a2, a3, a4⟩, hA, hk⟩ := hr.one
    have hle := Reads.len_le (B := 0) (A := none) hk
    simp only [Fo.count] at hN hc
    have hd := Fo.deep_le k
    have HA := Lib.hid hA
    have HK := Lib.hid hk
    have HE := Lib.hid (show (Fo.node d k .no).deep = k.deep + 1 by simp [Fo.count, Fo.deep])
    have IH := Lib.hid ih
    clear hA hk hr ih
    go_enter Tryd.func17, Tryd.ntmps17
    go_wp2
    go_loop [3, 4] (fun t i => ∃ (j z : Nat) (f : Fo), j ≤ ks.length ∧ i = .int .i64 j ∧ t = .int .i64 z ∧ z + f.deep ≤ 2000000 ∧ max z f.deep = k.deep ∧ f.count ≤ k.count ∧ Hid (Rep w f (ks.drop j))) (fun _ i => ks.length - (intOf i).toNat)
    case atStart => exact ⟨0, 0, k, Nat.zero_le _, rfl, rfl, by omega, by simp, Nat.le_refl _, Lib.hid HK.out⟩
    case round =>
      obtain ⟨j, z, f, hj, rfl, rfl, hz1, hz, hz2, HR⟩ := hrel
      by_cases hlt : j < ks.length
      · obtain ⟨d1, k1, r1, rfl, g1, g2⟩ := HR.out.at_ hlt
        obtain ⟨b1, off, rfl, hcell⟩ := Reads.nth HA.out hlt
        simp only [Fo.deep, Fo.count] at hz hz1 hz2
        have c1 := IH.out d1 k1 ks[j] w (by simp [Fo.count]; omega) (by simp [Fo.count]; omega) g1
        rw [show (Fo.node d1 k1 .no).deep = k1.deep + 1 by simp [Fo.count, Fo.deep]] at c1
        have C1 := Lib.hid c1
        have G2 := Lib.hid g2
        clear g1 g2 c1 HR
        generalize ks[j] = u at *
        go_wp2_with fail
        ((with_reducible refine C1.out.mono ?_); rintro e w' ⟨rfl, rfl⟩)
        go_wp2
        go_round
        case rel => exact ⟨j + 1, max z (k1.deep + 1), r1, by omega, by go_num, by go_num, by omega, by omega, by omega, G2⟩
        case measure => simp [intOf]; omega
      · have he := HR.out.end_ hlt
        subst he
        simp only [Fo.count, Fo.deep] at hz
        clear HR
        go_wp2
        go_ret
        exact ⟨by rw [HE.out]; simp; omega, rfl⟩

end Go.Proofs.YtdpdoigmjnkmdaaDoor.Tr
