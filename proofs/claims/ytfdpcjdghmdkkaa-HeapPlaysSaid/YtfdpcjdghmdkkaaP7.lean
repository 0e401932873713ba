/- HeapPlays: the walk of the reference's Live. -/
import Derived.Test.YtfdpcjdghmdkkaaP6
import Derived.Maps.AppendAt
set_option linter.unusedSimpArgs false
set_option linter.unusedVariables false
namespace Go.Proofs.Ytfdpcjdghmdkkaa.Hp
open Go.RowKit Go.Sort
/-- What the reference's Live builds. -/
structure Lv (w0 w : World) (last gf : Nat) (tk : Nat → Bool) (v : Value) (L : List Nat) : Prop where
  fl : w.ownsRow w0.heap.size 4 1 (.slice (some ⟨gf, 0, none⟩) (last + 1) (last + 1)) (last + 1) (tkRow (last + 1) tk)
  lr : w.ownsRow w0.heap.size 23 1 v L.length (L.map keyV)
  bel : Below w0.heap.size w0 w
  ne : v.ownBlock ≠ some gf
section
variable {w0 w w' : World} {last gf : Nat} {tk : Nat → Bool} {v v' : Value} {L : List Nat}
theorem Lv.lo (S : Lv w0 w last gf tk v L) : w0.heap.size ≤ gf ∧ gf < w.heap.size := World.ownsRow.lt S.fl gf rfl
theorem Lv.alloc (S : Lv w0 w last gf tk v L) (o : Obj) : Lv w0 (w.alloc o) last gf tk v L :=
  ⟨World.ownsRow.alloc S.fl o, World.ownsRow.alloc S.lr o, S.bel.alloc S.bel.size o, S.ne⟩
theorem Lv.setF (S : Lv w0 w last gf tk v L) {x : Nat} (hx : x < last + 1) : Lv w0 (w.setCell ⟨gf, x, none⟩ (.bool true)) last gf (updT tk x) v L := by
  obtain ⟨r1, r2⟩ := World.ownsRow.stored S.fl x (.bool true)
  rw [tkRow_set _ hx] at r1
  exact ⟨r1, rowK S.lr r2 (fun k hk e => S.ne (by rw [hk, ← e])), S.bel.grown r2 S.bel.size (fun k hk => (Option.some.inj hk) ▸ S.lo.1), S.ne⟩
theorem Lv.cellF (S : Lv w0 w last gf tk v L) {x : Nat} (hx : x < last + 1) : w.cell? ⟨gf, x, none⟩ = some (.bool (tk x)) ∧ w.frozen? ⟨gf, x, none⟩ = false := by
  refine ⟨?_, World.ownsRow.frozenAt S.fl x⟩
  rw [World.ownsRow.cellAt S.fl x (by omega), tkRow_at _ hx]
theorem Lv.app (S : Lv w0 w last gf tk v L) {k : Nat} (ho : w'.ownsRow w0.heap.size 23 1 v' (L.length + 1) (L.map keyV ++ [keyV k])) (hg : w.grownBy w' v.ownBlock) (hd : v'.ownBlock = v.ownBlock ∨ v'.ownBlock = some w.heap.size) : Lv w0 w' last gf tk v' (L ++ [k]) := by
  refine ⟨rowK S.fl hg (fun j hj e => S.ne (by rw [e, ← own_eq hj])), ?_, S.bel.grown hg S.bel.size (fun j hj => (World.ownsRow.lt S.lr j hj).1), fun e => ?_⟩
  · rw [List.length_append, List.map_append]; exact ho
  · rcases hd with h | h
    · exact S.ne (h ▸ e)
    · have := S.lo.2
      rw [h] at e
      have := Option.some.inj e
      omega
end
set_option maxRecDepth 100000 in
set_option maxHeartbeats 3200000 in
theorem rlive_any {B : Nat} {w : World} {hr gl fr n last : Nat} {f : Nat → Nat} (R : RefAt B w hr gl fr n last f) (hl : last ≤ 65535) (hf : ∀ i, i < n → f i ≤ last) (hn : n ≤ 65536) :
    Calls Try.prog 18 #[.pointer (some ⟨hr, 0, none⟩)] w fun e w' => ∃ v, e = .returned v ∧ w'.ownsRow w.heap.size 23 1 v (liveT (isT f n) last).length ((liveT (isT f n) last).map keyV) ∧ Below w.heap.size w w' := by
  obtain ⟨w3, hmk, htr, hgt, hsz⟩ := made_flags w (last + 1) (by omega)
  have hmk : (Instr.makeSlice 49 (.int .i64 ((last : Int) + 1)) (.int .i64 ((last : Int) + 1))).run Try.prog w = .ok (.slice (some ⟨w.heap.size, 0, none⟩) (last + 1) (last + 1)) w3 := hmk
  have HS0 := Lib.hid (show Lv w w3 last w.heap.size (isT f 0) (.slice none 0 0) [] from ⟨by rw [isT_zero]; exact htr, ⟨rfl, .inl ⟨rfl, rfl⟩⟩, (Below.refl _ _).grown hgt (Nat.le_refl _) (fun k hk => by cases hk), fun e => by cases e⟩)
  have c2 := R.c2
  have HR := Lib.hid R
  have HF := Lib.hid hf
  have HL := Lib.hid hl
  obtain ⟨i0, hi0, hz0, hz1, hz2⟩ := info_parts infoU16
  clear R hf htr hgt hsz
  go_enter Try.func18, Try.ntmps18
  go_wp2
  go_loopg [5] n (fun gh si wr => ∃ i : Nat, si = .int .i64 (i : Nat) ∧ i ≤ n ∧ n - i ≤ gh ∧ Hid (Lv w wr last w.heap.size (isT f i) (.slice none 0 0) []))
  case atStart => exact ⟨0, rfl, by omega, by omega, HS0⟩
  case round =>
    obtain ⟨i, rfl, hi1, hi2, hs⟩ := hrel
    have HRW := Lib.hid (HR.out.below hs.out.bel)
    have d1 := HRW.out.c1
    by_cases hi : i < n
    · have ⟨k1, k2⟩ := HRW.out.cf hi
      have hfi := HF.out i hi
      have HS := Lib.hid (hs.out.setF (x := f i) (by omega))
      have ⟨e1, e2⟩ := hs.out.cellF (x := f i) (by omega)
      rw [isT_step] at HS
      have HFI := Lib.hid hfi
      clear hmk c2 hl
      generalize f i = x at *
      have hx65 : x < last + 1 := by omega
      go_wp2
      go_roundg (n - i - 1)
      case rel => exact ⟨i + 1, by rfl, by omega, by omega, HS⟩
      case measure => omega
    · have HIN := Lib.hid (show i = n by omega)
      have HS := Lib.hid (show Lv w wr last w.heap.size (isT f n) (.slice none 0 0) (liveT (isT f n) 0) from by have := hs.out; rw [HIN.out] at this; exact this)
      clear hs hmk c2 hl

      go_wp2
      go_loopg [3, 6] last (fun gh2 sv sk wr2 => ∃ (k : Nat) (v : Value), sv = v ∧ sk = .int .i64 ((k + 1 : Nat) : Int) ∧ k ≤ last ∧ last - k ≤ gh2 ∧ Hid (Lv w wr2 last w.heap.size (isT f n) v (liveT (isT f n) k)))
      case atStart => exact ⟨0, _, rfl, rfl, by omega, by omega, HS⟩
      case round =>
        obtain ⟨k, v, rfl, rfl, hk1, hk2, hs2⟩ := hrel
        have HRW2 := Lib.hid (HR.out.below hs2.out.bel)
        have d2 := HRW2.out.c2
        have hkb : k < 70000 := by have := HL.out; omega
        by_cases hk : k < last
        · have ⟨e1, e2⟩ := hs2.out.cellF (x := k + 1) (by omega)
          cases ht : isT f n (k + 1) with
          | false =>
            rw [ht] at e1
            have HS3 := Lib.hid hs2.out
            rw [← liveT_no ht] at HS3
            have HT := Lib.hid ht
            clear ht hs2
            go_wp2
            go_roundg (last - k - 1)
            case rel => exact ⟨k + 1, _, rfl, by rfl, by omega, by omega, HS3⟩
            case measure => omega
          | true =>
            rw [ht] at e1
            have HA := Lib.hid (hs2.out.alloc (.cells #[.int .u16 (IntKind.u16.wrap ((k : Int) + 1))] 23))
            have HW := Lib.hid (show IntKind.u16.wrap ((k : Int) + 1) = ((k + 1 : Nat) : Int) by have := HL.out; simp [IntKind.wrap, IntKind.bits, IntKind.signed]; omega)
            have HT := Lib.hid (liveT_yes ht)
            have HLN := Lib.hid (liveT_len (isT f n) k)
            have hba := hs2.out.bel.size
            clear ht hs2
            go_wp2_with (at_builtin; refine wpList_append_own_at _ rfl _ _ 36 rfl w.heap.size 23 i0 (.int .u16 0) 1 2 Try.underlying36 hi0 hz0 hz1 hz2 rfl (by decide) _ _ _ rfl HA.out.lr ⟨wr.heap.size, 0, none⟩ 1 1 [.int .u16 (IntKind.u16.wrap ((k : Int) + 1))] rfl rfl (cell_one_new _ _ _) (by simp [Value.oneCell']) (by have := HLN.out; unfold maxLen; omega) (by have := HLN.out; omega) (by simp; omega) ?_; intro v2 w4 hown hg hnil hd; rw [HW.out] at hown; have HV := Lib.hid (HA.out.app (k := k + 1) hown hg hd); clear hown hg hnil hd)
            rw [← HT.out] at HV
            go_roundg (last - k - 1)
            case rel => exact ⟨k + 1, _, rfl, by rfl, by omega, by omega, HV⟩
            case measure => omega
        · have HKL := Lib.hid (show k = last by omega)
          go_wp2
          go_ret
          have := hs2.out
          rw [HKL.out] at this
          exact ⟨_, rfl, this.lr, this.bel⟩
end Go.Proofs.Ytfdpcjdghmdkkaa.Hp
