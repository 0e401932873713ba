/- HeapPlays: does. -/
import Derived.Test.YtfdpcjdghmdkkaaP8
import Derived.Deep.QuietTactic
set_option linter.unusedSimpArgs false
set_option linter.unusedVariables false
namespace Go.Proofs.Ytfdpcjdghmdkkaa.Hp
open Go.RowKit Go.Sort
section
variable {w0 w w' : World} {hr gl fr n last : Nat} {ks : List Nat} {g : Nat → Bk} {f : Nat → Nat}
/-- What one call leaves. -/
def DoesP (w0 : World) (hr gl fr n last : Nat) (e : Ending) (w' : World) : Prop :=
  e = .returned (.bool true) ∧ ∃ (last2 : Nat) (ks2 : List Nat) (g2 : Nat → Bk) (f2 : Nat → Nat), last2 ≤ last + 1 ∧ Bo w0 w' hr gl fr n last2 ks2 g2 f2
set_option maxRecDepth 100000 in
set_option maxHeartbeats 3200000 in
theorem does_any (S : Bo w0 w hr gl fr n last ks g f) (hl : last ≤ 1000) {dd x : Nat} {N : Int} (hd : dd < 256) (hx : x < 65536) (hN : -9223372036854775808 ≤ N ∧ N ≤ 9223372036854775807) :
    Calls Try.prog 10 #[.pointer (some ⟨w0.heap.size + 1, 0, none⟩), .pointer (some ⟨hr, 0, none⟩), .agg #[.int .u8 (dd : Nat), .int .i64 N, .int .u16 (x : Nat)]] w (DoesP w0 hr gl fr n last) := by
  have HLT := Lib.hid (show w0.heap.size + 1 < w.heap.size from S.st.1.at_.lt)
  have c2 := S.ref.c2
  have HS := Lib.hid (S.below ((Below.refl _ w).alloc (Nat.le_refl _) (.cells #[.int .u8 (dd : Nat), .int .i64 N, .int .u16 (x : Nat)] 33)))
  have c2b := HS.out.ref.c2
  obtain ⟨k, hk⟩ : ∃ k, k = x % (last + 2) := ⟨_, rfl⟩
  have t1 : (last : Int).tmod 60000 = (last : Nat) := by
    have : (last : Int).tmod 60000 = ((last % 60000 : Nat) : Int) := rfl
    rw [this, Nat.mod_eq_of_lt (by omega)]
  have t3 : (x : Int).tmod ((last : Int) + 2) = (k : Nat) := by rw [hk]; exact (Int.ofNat_tmod x (last + 2)).symm
  have t4 : ¬ (last : Int) + 2 = 0 := by omega
  have t5 : k < 65536 := by rw [hk]; have := Nat.mod_lt x (show last + 2 > 0 by omega); omega
  have w1e : IntKind.i64.wrap ((last : Int) + 2) = (last : Int) + 2 := IntWalk.i64_in _ (by omega)
  have w2e : IntKind.u16.wrap ((last : Int) + 2) = (last : Int) + 2 := by simp [IntKind.wrap, IntKind.bits, IntKind.signed]; omega
  obtain ⟨q, hq⟩ : ∃ q, q = dd % 6 := ⟨_, rfl⟩
  have u1 : (dd : Int).tmod 6 = (q : Nat) := by rw [hq]; rfl
  have u2 : q < 6 := by rw [hq]; exact Nat.mod_lt _ (by decide)
  clear S hk hq c2
  go_enter Try.func10, Try.ntmps10
  go_wp2
  go_big_quiet (fail)
  have HB := Lib.hid (HS.out.below (below_drewN (Below.refl _ _) nq))
  have hcs : ((w.alloc (.cells #[.int .u8 (dd : Nat), .int .i64 N, .int .u16 (x : Nat)] 33)).drewN nq).heap[w.heap.size]? = some (.cells #[.int .u8 (dd : Nat), .int .i64 N, .int .u16 (x : Nat)] 33 (0, 0)) := heap_alloc_new w _
  have hp1 : w0.heap.size + 1 < w.heap.size := HLT.out
  clear t1 t3 t4 w1e w2e c2b HS
  generalize ((w.alloc (.cells #[.int .u8 (dd : Nat), .int .i64 N, .int .u16 (x : Nat)] 33)).drewN nq) = wB at *
  generalize w.heap.size = pb at *
  have e0 : wB.cell? ⟨pb, 0, none⟩ = some (.int .u8 (dd : Nat)) := by simp [World.cell?, hcs]
  have e1 : wB.cell? ⟨pb, 1, none⟩ = some (.int .i64 N) := by simp [World.cell?, hcs]
  have hpl : pb < wB.heap.size := (Array.getElem?_eq_some_iff.1 hcs).1
  by_cases h4 : q < 4
  · by_cases hN1 : N < 1
    · have HM1 := Lib.hid (make_small HB.out.st.1.at_ hN1)
      have HM2 := Lib.hid (fun (w : World) => rmake_small (hr := hr) (w := w) hN1)
      clear hcs hpl hp1
      go_wp2_with (first
        | (go_at_call 19; refine HM1.out.mono ?_; rintro e w' ⟨rfl, hw⟩; have hw2 := hw.symm; subst hw2; clear hw)
        | (go_at_call 21; refine (HM2.out _).mono ?_; rintro e w' ⟨rfl, hw⟩; have hw2 := hw.symm; subst hw2; clear hw))
      go_ret
      exact ⟨rfl, last, ks, g, f, Nat.le_succ _, HB.out⟩
    · obtain ⟨m, rfl⟩ : ∃ m : Nat, N = m := ⟨N.toNat, by omega⟩
      have hmm : 1 ≤ m := by omega
      have HM1 := Lib.hid (make_win HB.out.st HB.out.rl (by omega) hmm hN.2)
      have HMM := Lib.hid (And.intro hmm hN.2)
      have HP := Lib.hid (And.intro hpl hp1)
      have HC := Lib.hid hcs
      have HLL := Lib.hid hl
      clear hN1 hN hmm hpl hp1 hcs
      go_wp2_with fail
      refine HM1.out.mono ?_
      rintro e w1 ⟨hk, h⟩
      have HR1 := Lib.hid (HB.out.keepRef hk)
      have e1b : w1.cell? ⟨pb, 1, none⟩ = some (.int .i64 (m : Nat)) := by
        have h1 := HP.out
        have := hk.block pb h1.1 (by omega) (by omega)
        rw [HC.out] at this
        simp [World.cell?, this]
      have HM2 := Lib.hid (rmake_any HR1.out HB.out.st.1.ok.top (by have := HLL.out; omega) HMM.out.1 HMM.out.2)
      have HLO := Lib.hid (And.intro HR1.out.lo HR1.out.gl_lt.1)
      clear hk e0 e1 HM1 hl
      rcases h with ⟨s, h1, h2, h3, rfl, h5, h6⟩ | ⟨h1, rfl, h3⟩
      · have HH := Lib.hid (And.intro h1 (And.intro h2 (And.intro h3 (And.intro h5 h6))))
        clear h1 h2 h3 h5 h6
        go_wp2_with fail
        refine HM2.out.mono ?_
        rintro e w2 ⟨hk2, ⟨s2, j1, j2, j3, rfl, j5⟩ | ⟨j1, rfl, j3⟩⟩
        · have es : s2 = s := Nat.le_antisymm (j3 s HH.out.2.1) (HH.out.2.2.1 s2 j1 j2)
          subst es
          have HJ := Lib.hid (And.intro hk2 j5)
          clear hk2 j1 j2 j3 j5
          go_wp2
          go_ret
          exact ⟨rfl, last + 1, _, _, _, Nat.le_refl _, ⟨HH.out.2.2.2.1.keepSt HJ.out.1 HLO.out.1 HLO.out.2, HJ.out.2, HH.out.2.2.2.2⟩⟩
        · exact absurd HH.out.2.1 (j1 s HH.out.1)
      · have HH := Lib.hid (And.intro h1 h3)
        clear h1 h3
        go_wp2_with fail
        refine HM2.out.mono ?_
        rintro e w2 ⟨hk2, ⟨s2, j1, j2, j3, rfl, j5⟩ | ⟨j1, rfl, j3⟩⟩
        · exact absurd j2 (HH.out.1 s2 j1)
        · have HJ := Lib.hid (And.intro hk2 j3)
          clear hk2 j1 j3
          go_wp2
          go_ret
          exact ⟨rfl, last, _, _, _, Nat.le_succ _, ⟨HH.out.2.keepSt HJ.out.1 HLO.out.1 HLO.out.2, HJ.out.2, HB.out.rl⟩⟩
  · have HM1 := Lib.hid (free_any HB.out.st.1.at_ k)
    have HOK := Lib.hid HB.out.st.1.ok
    have HT5 := Lib.hid t5
    have HLL := Lib.hid hl
    clear hcs hpl hp1 hN hl
    by_cases hkm : k ∈ ks
    · have hk1 := (HOK.out.key k hkm).1
      have HK1 := Lib.hid (And.intro hk1 t5)
      have HKM := Lib.hid hkm
      clear hk1
      go_wp2_with fail
      refine HM1.out.mono ?_
      rintro e w1 ⟨he, hp, hk⟩
      rw [if_pos HKM.out] at he
      subst he
      have HR1 := Lib.hid (HB.out.keepRef hk)
      have HST := Lib.hid (show StB w0 w1 (w0.heap.size + 1) w0.heap.size fr n last (ks.filter fun x => !decide (x = k)) g from ⟨⟨hp, HOK.out.freed k⟩, HB.out.st.2.trans (hk.below HB.out.st.2.size (Nat.le_succ _) (Nat.le_refl _))⟩)
      have HM2 := Lib.hid (rfree_in HR1.out HOK.out.top HK1.out (HOK.out.pos k HKM.out) (HOK.out.lo k HKM.out) (HOK.out.hi k HKM.out) (fun i hi => HB.out.rl.iff HOK.out HKM.out hi))
      have HLO := Lib.hid (And.intro HR1.out.lo HR1.out.gl_lt.1)
      clear hp hk hkm
      go_wp2_with fail
      refine HM2.out.mono ?_
      rintro e w2 ⟨rfl, hr2, hk2⟩
      have HJ := Lib.hid (And.intro hr2 hk2)
      clear hr2 hk2
      go_wp2
      go_ret
      exact ⟨rfl, last, _, _, _, Nat.le_succ _, ⟨HST.out.keepSt HJ.out.2 HLO.out.1 HLO.out.2, HJ.out.1, HB.out.rl.freed HOK.out HKM.out⟩⟩
    · have HKM := Lib.hid hkm
      go_wp2_with fail
      refine HM1.out.mono ?_
      rintro e w1 ⟨he, hp, hk⟩
      rw [if_neg HKM.out] at he
      subst he
      have HR1 := Lib.hid (HB.out.keepRef hk)
      have e2 : (ks.filter fun x => !decide (x = k)) = ks := by
        rw [List.filter_eq_self]
        intro y hy
        have : y ≠ k := fun e => HKM.out (e ▸ hy)
        simp [this]
      rw [e2] at hp
      have HST := Lib.hid (show StB w0 w1 (w0.heap.size + 1) w0.heap.size fr n last ks g from ⟨⟨hp, HOK.out⟩, HB.out.st.2.trans (hk.below HB.out.st.2.size (Nat.le_succ _) (Nat.le_refl _))⟩)
      have HM2 := Lib.hid (rfree_out HR1.out HOK.out.top HT5.out (k := k) (by
        by_cases h0 : k = 0
        · exact .inl h0
        · exact .inr fun i hi => HB.out.rl.out HKM.out h0 hi))
      clear hp hk hkm e2
      go_wp2_with fail
      refine HM2.out.mono ?_
      rintro e w2 ⟨rfl, hw⟩
      have hw2 := hw.symm
      subst hw2
      clear hw
      go_wp2
      go_ret
      exact ⟨rfl, last, _, _, _, Nat.le_succ _, ⟨HST.out, HR1.out, HB.out.rl⟩⟩
end
end Go.Proofs.Ytfdpcjdghmdkkaa.Hp
