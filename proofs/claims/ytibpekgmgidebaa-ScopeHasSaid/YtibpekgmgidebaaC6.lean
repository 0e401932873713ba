/- Put, Change. -/
import Derived.Test.YtibpekgmgidebaaC5
set_option linter.unusedSimpArgs false
set_option linter.unusedVariables false
namespace Go.Proofs.Ytibpekgmgidebaa.Sc
open Go.RowKit
open Od
open Lx (EnvS isName Name_any)
attribute [local go_sem] lvl_field1

set_option maxRecDepth 100000 in
set_option maxHeartbeats 3200000 in
theorem put_out {w : World} {B vb : Nat} {ls : List Lvl} {l : Lvl} (H : EnvAt w B vb (ls ++ [l])) (E : EnvS w) (e : Ent) (hnm : isName e.name = true) (hk : 1 ≤ e.kind ∧ e.kind ≤ 9) (hv : e.v.oneCell' = true) (hin : e.name ∉ l.ks) :
    Calls Try.prog 7 #[.pointer (some ⟨vb, 0, none⟩), e.val] w fun r w' => r = .returned (.int .i64 0) ∧ w.grownBy w' (some l.b) ∧ EnvAt w' B vb (ls ++ [⟨l.cl, l.b, l.ks ++ [e.name], updI l.f e.name (e, .slice none 0 0)⟩]) := by
  have HA := Lib.hid (fun (o : Obj) => World.grownBy_alloc w o none)
  have HM := Lib.hid (fun (wx : World) (hg : w.grownBy wx none) => may_out (H.grown hg) (envS_grown E hg (by simp)) e hnm hk hin false)
  have HS := Lib.hid (fun (wx : World) (hg : w.grownBy wx none) => set_any (H.grown hg) e)
  have HF := Lib.hid (fun (wx w' : World) (hg : w.grownBy wx none) (hg2 : wx.grownBy w' (some l.b)) hm => EnvAt.set (H.grown hg) hg2 (ks := l.ks ++ [e.name]) (f := updI l.f e.name (e, .slice none 0 0)) hm (by
    intro k hk
    unfold updI
    split
    · exact ⟨hv, rfl⟩
    · rename_i hne
      exact H.one l (by simp) k (by simp only [List.mem_append, List.mem_singleton] at hk; exact hk.resolve_right hne)))
  have HIN := Lib.hid hin
  clear H E hin hnm
  obtain ⟨en, ek, et, ev, el, ea, em⟩ := e
  have sv := fun (wx : World) (a : Addr) (m : Mode) => run_store Try.prog wx a ev m hv
  unfold Ent.val at *
  dsimp only at *
  go_enter Try.func7, Try.ntmps7
  go_wp2_with fail
  with_reducible refine (HM.out _ (HA.out _)).mono ?_
  rintro r w2 ⟨rfl, hg2⟩
  have HG2 := Lib.hid (grown_trans (HA.out _) hg2)
  have HBX := Lib.hid (fun (j : Nat) => boxed (w := w) (o := #[.string (S en), .int .u8 ek, .int .i64 et, ev, .int .i64 el, .int .i64 ea, .string em]) (t := 31) (w' := w2) hg2 j)
  have c0 := HBX.out 0
  have c1 := HBX.out 1
  have c2 := HBX.out 2
  have c3 := HBX.out 3
  have c4 := HBX.out 4
  have c5 := HBX.out 5
  have c6 := HBX.out 6
  simp only [List.getElem?_toArray, List.getElem?_cons_zero, List.getElem?_cons_succ] at c0 c1 c2 c3 c4 c5 c6
  clear hg2
  go_wp2_with fail
  with_reducible refine (HS.out _ HG2.out).mono ?_
  rintro r w3 ⟨rfl, hg3, hm3⟩
  have HG3 := Lib.hid (grown_trans HG2.out hg3)
  have HE3 := Lib.hid (HF.out w2 w3 HG2.out hg3 (by rw [if_neg HIN.out] at hm3; exact hm3))
  clear hg3 hm3
  go_wp2
  go_ret
  exact ⟨rfl, HG3.out, HE3.out⟩
set_option maxRecDepth 100000 in
set_option maxHeartbeats 3200000 in
theorem put_in {w : World} {B vb : Nat} {ls : List Lvl} {l : Lvl} (H : EnvAt w B vb (ls ++ [l])) (E : EnvS w) (e : Ent) (hnm : isName e.name = true) (hk : 1 ≤ e.kind ∧ e.kind ≤ 9) (hv : e.v.oneCell' = true) (hin : e.name ∈ l.ks) :
    Calls Try.prog 7 #[.pointer (some ⟨vb, 0, none⟩), e.val] w fun r w' => r = .returned (.int .i64 6) ∧ w.grownBy w' none := by
  have HA := Lib.hid (fun (o : Obj) => World.grownBy_alloc w o none)
  have HM := Lib.hid (fun (wx : World) (hg : w.grownBy wx none) => may_in (H.grown hg) (envS_grown E hg (by simp)) e hnm hk hin false)
  clear H E hin hnm
  obtain ⟨en, ek, et, ev, el, ea, em⟩ := e
  have sv := fun (wx : World) (a : Addr) (m : Mode) => run_store Try.prog wx a ev m hv
  unfold Ent.val at *
  dsimp only at *
  go_enter Try.func7, Try.ntmps7
  go_wp2_with fail
  with_reducible refine (HM.out _ (HA.out _)).mono ?_
  rintro r w2 ⟨rfl, hg2⟩
  have HG2 := Lib.hid (grown_trans (HA.out _) hg2)
  clear hg2
  go_wp2
  go_ret
  exact ⟨rfl, HG2.out⟩
set_option maxRecDepth 100000 in
set_option maxHeartbeats 3200000 in
theorem change_in {w : World} {B vb : Nat} {ls : List Lvl} {l : Lvl} (H : EnvAt w B vb (ls ++ [l])) (E : EnvS w) (e : Ent) (hnm : isName e.name = true) (hk : 1 ≤ e.kind ∧ e.kind ≤ 9) (hv : e.v.oneCell' = true) (hin : e.name ∈ l.ks) :
    Calls Try.prog 8 #[.pointer (some ⟨vb, 0, none⟩), e.val] w fun r w' => r = .returned (.int .i64 0) ∧ w.grownBy w' (some l.b) ∧ EnvAt w' B vb (ls ++ [⟨l.cl, l.b, l.ks, updI l.f e.name (e, .slice none 0 0)⟩]) := by
  have HA := Lib.hid (fun (o : Obj) => World.grownBy_alloc w o none)
  have HM := Lib.hid (fun (wx : World) (hg : w.grownBy wx none) => may_in (H.grown hg) (envS_grown E hg (by simp)) e hnm hk hin true)
  have HS := Lib.hid (fun (wx : World) (hg : w.grownBy wx none) => set_any (H.grown hg) e)
  have HF := Lib.hid (fun (wx w' : World) (hg : w.grownBy wx none) (hg2 : wx.grownBy w' (some l.b)) hm => EnvAt.set (H.grown hg) hg2 (ks := l.ks) (f := updI l.f e.name (e, .slice none 0 0)) hm (by
    intro k hk
    unfold updI
    split
    · exact ⟨hv, rfl⟩
    · rename_i hne
      exact H.one l (by simp) k (hk)))
  have HIN := Lib.hid hin
  clear H E hin hnm
  obtain ⟨en, ek, et, ev, el, ea, em⟩ := e
  have sv := fun (wx : World) (a : Addr) (m : Mode) => run_store Try.prog wx a ev m hv
  unfold Ent.val at *
  dsimp only at *
  go_enter Try.func8, Try.ntmps8
  go_wp2_with fail
  with_reducible refine (HM.out _ (HA.out _)).mono ?_
  rintro r w2 ⟨rfl, hg2⟩
  have HG2 := Lib.hid (grown_trans (HA.out _) hg2)
  have HBX := Lib.hid (fun (j : Nat) => boxed (w := w) (o := #[.string (S en), .int .u8 ek, .int .i64 et, ev, .int .i64 el, .int .i64 ea, .string em]) (t := 31) (w' := w2) hg2 j)
  have c0 := HBX.out 0
  have c1 := HBX.out 1
  have c2 := HBX.out 2
  have c3 := HBX.out 3
  have c4 := HBX.out 4
  have c5 := HBX.out 5
  have c6 := HBX.out 6
  simp only [List.getElem?_toArray, List.getElem?_cons_zero, List.getElem?_cons_succ] at c0 c1 c2 c3 c4 c5 c6
  clear hg2
  go_wp2_with fail
  with_reducible refine (HS.out _ HG2.out).mono ?_
  rintro r w3 ⟨rfl, hg3, hm3⟩
  have HG3 := Lib.hid (grown_trans HG2.out hg3)
  have HE3 := Lib.hid (HF.out w2 w3 HG2.out hg3 (by rw [if_pos HIN.out] at hm3; exact hm3))
  clear hg3 hm3
  go_wp2
  go_ret
  exact ⟨rfl, HG3.out, HE3.out⟩
set_option maxRecDepth 100000 in
set_option maxHeartbeats 3200000 in
theorem change_out {w : World} {B vb : Nat} {ls : List Lvl} {l : Lvl} (H : EnvAt w B vb (ls ++ [l])) (E : EnvS w) (e : Ent) (hnm : isName e.name = true) (hk : 1 ≤ e.kind ∧ e.kind ≤ 9) (hv : e.v.oneCell' = true) (hin : e.name ∉ l.ks) :
    Calls Try.prog 8 #[.pointer (some ⟨vb, 0, none⟩), e.val] w fun r w' => r = .returned (.int .i64 130) ∧ w.grownBy w' none := by
  have HA := Lib.hid (fun (o : Obj) => World.grownBy_alloc w o none)
  have HM := Lib.hid (fun (wx : World) (hg : w.grownBy wx none) => may_out (H.grown hg) (envS_grown E hg (by simp)) e hnm hk hin true)
  clear H E hin hnm
  obtain ⟨en, ek, et, ev, el, ea, em⟩ := e
  have sv := fun (wx : World) (a : Addr) (m : Mode) => run_store Try.prog wx a ev m hv
  unfold Ent.val at *
  dsimp only at *
  go_enter Try.func8, Try.ntmps8
  go_wp2_with fail
  with_reducible refine (HM.out _ (HA.out _)).mono ?_
  rintro r w2 ⟨rfl, hg2⟩
  have HG2 := Lib.hid (grown_trans (HA.out _) hg2)
  clear hg2
  go_wp2
  go_ret
  exact ⟨rfl, HG2.out⟩
end Go.Proofs.Ytibpekgmgidebaa.Sc
