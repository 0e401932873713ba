/- LexNumbers: the walk. -/
import Derived.Test.YtkiedbanobjmlaaDoorL19
set_option linter.unusedSimpArgs false
set_option linter.unusedVariables false
namespace Go.Proofs.YtkiedbanobjmlaaDoor.Lx
open Go.RowKit
open Pl Fl

def zer (k : Nat) : List UInt8 := List.replicate k 48
theorem zer_isD {k : Nat} : ∀ c ∈ zer k, isD c = true ∧ isX c = true := by
  intro c hc
  rw [List.eq_of_mem_replicate hc]
  decide
theorem zer_head {k : Nat} {l r : List UInt8} (h : ∃ c r, l = c :: r ∧ isD c = true) : ∃ c r', zer k ++ l ++ r = c :: r' ∧ isD c = true := by
  obtain ⟨c, r0, rfl, hc⟩ := h
  rcases k with _ | k
  · exact ⟨c, r0 ++ r, rfl, hc⟩
  · exact ⟨48, _, rfl, by decide⟩
theorem num_text10 (k : Nat) {n : Nat} (hn : n ≤ 65535) : NumText (zer k ++ digs 10 n) (some (mkNum 2 n)) := by
  have hall : ∀ c ∈ zer k ++ digs 10 n, isD c = true := by
    intro c hc
    rcases List.mem_append.1 hc with hc | hc
    · exact (zer_isD c hc).1
    · exact digs_isD (by omega) (by omega) n c hc
  refine ⟨by have := zer_head (k := k) (r := []) (digs_head (B := 10) (by omega) (by omega) n); rwa [List.append_nil] at this, .inl fun c hc => isX_of_isD (hall c hc), ?_⟩
  have hv := valR_digs (B := 10) (M := 65535) (by omega) (by omega) (by omega) k (n := n) (by omega)
  rw [if_pos hn] at hv
  change valR 10 65535 (zer k ++ digs 10 n) = _ at hv
  have hne : zer k ++ digs 10 n ≠ [] := fun e => digs_ne 10 n (List.append_eq_nil_iff.1 e).2
  unfold numN numX
  have hd : isD ((zer k ++ digs 10 n).getLast?.getD 0) = true := by
    rcases h : (zer k ++ digs 10 n).getLast? with _ | x
    · rw [List.getLast?_eq_none_iff] at h; exact absurd h hne
    · exact hall x (List.mem_of_getLast? h)
  have h72 : ¬ (zer k ++ digs 10 n).getLast?.getD 0 = 72 := fun e => by rw [e] at hd; revert hd; decide
  rw [if_neg h72, hv, if_pos (by rfl)]
  rfl
theorem num_text16 (k : Nat) {n : Nat} (hn : n ≤ 65535) : NumText (zer (k + 1) ++ digs 16 n ++ [72]) (some (mkNum 2 n)) := by
  refine ⟨⟨48, _, rfl, by decide⟩, .inr ⟨_, rfl, ?_⟩, ?_⟩
  · intro c hc
    rcases List.mem_append.1 hc with hc | hc
    · exact (zer_isD c hc).2
    · exact digs_isX (by omega) (by omega) n c hc
  · have hv := valR_digs (B := 16) (M := 65535) (by omega) (by omega) (by omega) (k + 1) (n := n) (by omega)
    rw [if_pos hn] at hv
    rw [numN_snoc]
    unfold numX
    rw [if_pos rfl]
    change (valR 16 65535 (List.replicate (k + 1) 48 ++ digs 16 n)).map _ = _
    rw [hv]
    rfl
theorem num_text8 (k : Nat) {n : Nat} (hn : n ≤ 65535) : NumText (zer k ++ digs 8 n ++ [66]) (some (mkNum 2 n)) := by
  refine ⟨zer_head (digs_head (B := 8) (by omega) (by omega) n), .inl ?_, ?_⟩
  · intro c hc
    rcases List.mem_append.1 hc with hc | hc
    · rcases List.mem_append.1 hc with hc | hc
      · exact (zer_isD c hc).2
      · exact digs_isX (by omega) (by omega) n c hc
    · rw [List.mem_singleton.1 hc]; decide
  · have hv := valR_digs (B := 8) (M := 65535) (by omega) (by omega) (by omega) k (n := n) (by omega)
    rw [if_pos hn] at hv
    rw [numN_snoc]
    unfold numX
    rw [if_neg (by decide), not10 (by decide), if_neg (by simp), if_pos rfl]
    change (valR 8 65535 (List.replicate k 48 ++ digs 8 n)).map _ = _
    rw [hv]
    rfl
theorem num_textC (k : Nat) {n : Nat} (hn : n ≤ 65535) : NumText (zer k ++ digs 8 n ++ [67]) (if n ≤ 255 then some (mkNum 3 n) else none) := by
  refine ⟨zer_head (digs_head (B := 8) (by omega) (by omega) n), .inl ?_, ?_⟩
  · intro c hc
    rcases List.mem_append.1 hc with hc | hc
    · rcases List.mem_append.1 hc with hc | hc
      · exact (zer_isD c hc).2
      · exact digs_isX (by omega) (by omega) n c hc
    · rw [List.mem_singleton.1 hc]; decide
  · have hv := valR_digs (B := 8) (M := 255) (by omega) (by omega) (by omega) k (n := n) (by omega)
    rw [numN_snoc]
    unfold numX
    rw [if_neg (by decide), not10 (by decide), if_neg (by simp), if_neg (by decide), if_pos rfl]
    change (valR 8 255 (List.replicate k 48 ++ digs 8 n)).map _ = _
    rw [hv]
    by_cases h : n ≤ 255
    · rw [if_pos h, if_pos h]; rfl
    · rw [if_neg h, if_neg h]; rfl
theorem bt_app (a b : List UInt8) : bt a ++ bt b = bt (a ++ b) := by apply bytes_ext; simp [bt]
theorem bt_app1 (a : List UInt8) (c : UInt8) : bt a ++ ⟨#[c]⟩ = bt (a ++ [c]) := by apply bytes_ext; simp [bt]
theorem zer_succ (k : Nat) : zer k ++ [48] = zer (k + 1) := by unfold zer; rw [List.replicate_succ']
set_option maxRecDepth 100000 in
set_option maxHeartbeats 6400000 in
theorem numbers_walk (n : Nat) (hn : n ≤ 65535) (z : Nat) (hz : z < 256) {w : World} (E : EnvJ w) : Calls Tryd.prog 7 #[.int .u16 n, .int .u8 z] w fun e w' => e = .returned (.bool true) ∧ Below w.heap.size w w' := by
  have HE := Lib.hid E
  obtain ⟨Z, hZ⟩ : ∃ Z, Z = z % 5 := ⟨_, rfl⟩
  have hZ5 : Z < 5 := by omega
  have t1 : (z : Int).tmod 5 = (Z : Nat) := by rw [hZ]; rfl
  have t2 : (z : Int) % 5 = (Z : Nat) := by omega
  have w1 : IntKind.i64.wrap (n : Int) = (n : Int) := IntWalk.i64_in _ (by omega)
  clear E hZ
  go_enter Tryd.func7, Tryd.ntmps7
  go_wp2
  go_loop [5, 6] (fun s i => ∃ k : Nat, k ≤ Z ∧ s = .string (bt (zer k)) ∧ i = .int .i64 k) (fun _ i => Z - (intOf i).toNat)
  case atStart => exact ⟨0, Nat.zero_le _, rfl, rfl⟩
  case round =>
    obtain ⟨k, hk, rfl, rfl⟩ := hrel
    by_cases hlt : k < Z
    · have hsz : (bt (zer k)).size ≤ 5 := by rw [bt_size]; simp [zer]; omega
      have c1 : ¬ 9223372036854775807 < (bt (zer k)).size + 1 := by omega
      have x1 : (k : Int) < (Z : Int) := by omega
      go_wp2
      go_round
      case rel => exact ⟨k + 1, by omega, by rw [bt_app1, zer_succ], by go_num⟩
      case measure => simp [intOf]; omega
    · have hke : k = Z := by omega
      subst hke
      have x1 : ¬ (k : Int) < (k : Int) := by omega
      obtain ⟨zs, hzs⟩ : ∃ zs, zs = bt (zer k) := ⟨_, rfl⟩
      rw [← hzs]
      have D10 := Lib.hid (fun (W : World) => digits10 n (by omega) W)
      have D16 := Lib.hid (fun (W : World) => digits16 n (by omega) W)
      have D8 := Lib.hid (fun (W : World) => digits8 n (by omega) W)
      have l10 := digs_len (B := 10) (by omega) 20 n (by omega)
      have l16 := digs_len (B := 16) (by omega) 20 n (by omega)
      have l8 := digs_len (B := 8) (by omega) 20 n (by omega)
      have lz : zs.size ≤ 5 := by rw [hzs, bt_size]; simp [zer]; omega
      rw [← bt_size] at l10 l16 l8
      have HT1 := Lib.hid (show zs ++ bt (digs 10 n) = bt (zer k ++ digs 10 n) by rw [hzs, bt_app])
      have HT2 := Lib.hid (show (⟨#[48]⟩ : ByteArray) ++ zs ++ bt (digs 16 n) ++ ⟨#[72]⟩ = bt (zer (k + 1) ++ digs 16 n ++ [72]) by rw [hzs, bt_cons, bt_app, bt_app1]; rfl)
      have HT3 := Lib.hid (show zs ++ bt (digs 8 n) ++ ⟨#[66]⟩ = bt (zer k ++ digs 8 n ++ [66]) by rw [hzs, bt_app, bt_app1])
      have HT4 := Lib.hid (show zs ++ bt (digs 8 n) ++ ⟨#[67]⟩ = bt (zer k ++ digs 8 n ++ [67]) by rw [hzs, bt_app, bt_app1])
      clear hzs
      generalize bt (digs 10 n) = d10 at *
      generalize bt (digs 16 n) = d16 at *
      generalize bt (digs 8 n) = d8 at *
      have c1 : ¬ 9223372036854775807 < zs.size + d10.size := by omega
      have c2 : ¬ 9223372036854775807 < 1 + zs.size := by omega
      have c3 : ¬ 9223372036854775807 < 1 + zs.size + d16.size := by omega
      have c4 : ¬ 9223372036854775807 < 1 + zs.size + d16.size + 1 := by omega
      have c5 : ¬ 9223372036854775807 < zs.size + d8.size := by omega
      have c6 : ¬ 9223372036854775807 < zs.size + d8.size + 1 := by omega
      have SZ := Lib.hid (And.intro lz (And.intro l10 (And.intro l16 l8)))
      clear l10 l16 l8 lz
      go_wp2_with fail
      refine (D10.out _).mono ?_
      rintro e wa ⟨rfl, hba⟩
      have HBA := Lib.hid hba
      clear hba D10
      go_wp2_with fail
      refine (D16.out _).mono ?_
      rintro e wb ⟨rfl, hbb⟩
      have HBB := Lib.hid (HBA.out.trans (hbb.mono HBA.out.size))
      clear hbb D16
      go_wp2_with fail
      refine (D8.out _).mono ?_
      rintro e wc ⟨rfl, hbc⟩
      have HBC := Lib.hid (HBB.out.trans (hbc.mono HBB.out.size))
      clear hbc
      have HN := Lib.hid (And.intro (num_text10 k hn) (And.intro (num_text16 k hn) (And.intro (num_text8 k hn) (num_textC k hn))))
      have hal := (Below.refl wc.heap.size wc).alloc (Nat.le_refl _) (.cells #[.string (zs ++ d10), .string ((⟨#[48]⟩ : ByteArray) ++ zs ++ d16 ++ ⟨#[72]⟩), .string (zs ++ d8 ++ ⟨#[66]⟩)] 9)
      have HBT := Lib.hid (HBC.out.trans (hal.mono HBC.out.size))
      have htop := fun (j : Nat) => cell_top (W := wc) (cs := #[.string (zs ++ d10), .string ((⟨#[48]⟩ : ByteArray) ++ zs ++ d16 ++ ⟨#[72]⟩), .string (zs ++ d8 ++ ⟨#[66]⟩)]) (t := 9) rfl j
      have HTP := Lib.hid htop
      have hltg : wc.heap.size < (wc.alloc (.cells #[.string (zs ++ d10), .string ((⟨#[48]⟩ : ByteArray) ++ zs ++ d16 ++ ⟨#[72]⟩), .string (zs ++ d8 ++ ⟨#[66]⟩)] 9)).heap.size := by simp
      have HLG := Lib.hid hltg
      have HSZ := Lib.hid (show (zs ++ d10).size ≤ 100 ∧ ((⟨#[48]⟩ : ByteArray) ++ zs ++ d16 ++ ⟨#[72]⟩).size ≤ 100 ∧ (zs ++ d8 ++ ⟨#[66]⟩).size ≤ 100 ∧ (zs ++ d8 ++ ⟨#[67]⟩).size ≤ 100 by
        simp only [ByteArray.size_append]
        have e1 : (⟨#[48]⟩ : ByteArray).size = 1 := rfl
        have e2 : (⟨#[72]⟩ : ByteArray).size = 1 := rfl
        have e3 : (⟨#[66]⟩ : ByteArray).size = 1 := rfl
        have e4 : (⟨#[67]⟩ : ByteArray).size = 1 := rfl
        rw [e1, e2, e3, e4]
        have := SZ.out
        omega)
      clear hal htop hltg
      go_wp2
      clear c1 c2 c3 c4
      generalize wc.alloc (.cells #[.string (zs ++ d10), .string ((⟨#[48]⟩ : ByteArray) ++ zs ++ d16 ++ ⟨#[72]⟩), .string (zs ++ d8 ++ ⟨#[66]⟩)] 9) = wT at *
      go_loopg [8] 3 (fun gh si wr => ∃ i : Nat, si = .int .i64 (i : Nat) ∧ i ≤ 3 ∧ 3 - i ≤ gh ∧ Hid (Below wT.heap.size wT wr))
      case atStart => exact ⟨0, rfl, by omega, by omega, Lib.hid (Below.refl _ _)⟩
      case round =>
        obtain ⟨i, rfl, hi1, hi2, hb⟩ := hrel
        have HBW := Lib.hid (HBT.out.trans (hb.out.mono HBT.out.size))
        by_cases hi : i < 3
        · obtain ⟨T, L, hcell, hTs, hsc⟩ : ∃ (T : ByteArray) (L : Nat), wr.cell? ⟨wc.heap.size, i, none⟩ = some (.string T) ∧ T.size ≤ 100 ∧ scanL T.data.toList = .ok [(mkNum 2 n, 0, L), (noTk, L, L)] := by
            have hc : wr.cell? ⟨wc.heap.size, i, none⟩ = _ := (hb.out.cell (p := ⟨wc.heap.size, i, none⟩) HLG.out).trans (HTP.out i)
            have bd : ∀ l : List UInt8, (bt l).data.toList = l := fun l => by simp [bt]
            rcases (show i = 0 ∨ i = 1 ∨ i = 2 by omega) with rfl | rfl | rfl
            · refine ⟨_, (zer k ++ digs 10 n).length, hc, HSZ.out.1, ?_⟩
              rw [HT1.out, bd]
              exact HN.out.1.scan (by have := HSZ.out.1; rw [HT1.out, bt_size] at this; omega)
            · refine ⟨_, (zer (k + 1) ++ digs 16 n ++ [72]).length, hc, HSZ.out.2.1, ?_⟩
              rw [HT2.out, bd]
              exact HN.out.2.1.scan (by have := HSZ.out.2.1; rw [HT2.out, bt_size] at this; omega)
            · refine ⟨_, (zer k ++ digs 8 n ++ [66]).length, hc, HSZ.out.2.2.1, ?_⟩
              rw [HT3.out, bd]
              exact HN.out.2.2.1.scan (by have := HSZ.out.2.2.1; rw [HT3.out, bt_size] at this; omega)
          have hS := Scan_any T (by omega) (HE.out.below HBW.out).toEnvS
          rw [hsc] at hS
          have HS := Lib.hid hS
          have HI := Lib.hid hi1
          clear hS hsc hTs
          go_wp2_with fail
          refine HS.out.mono ?_
          rintro e wd ⟨g2, cp2, he, hrow, hbd⟩
          have he : e = .returned (.tuple #[.slice (some ⟨g2, 0, none⟩) 2 cp2, .complex .f64 0 0, .int .i64 0]) := he
          subst he
          have hrow : wd.ownsRow wr.heap.size 35 5 (.slice (some ⟨g2, 0, none⟩) 2 cp2) 2 (flat T.data.toList [(mkNum 2 n, 0, L), (noTk, L, L)]) := hrow
          have a0 : wd.cell? ⟨g2, 0, none⟩ = some (.int .u8 2) := (World.ownsRow.cellAt hrow 0 (by omega)).trans rfl
          have a4 : wd.cell? ⟨g2, 4, none⟩ = some (.int .i64 n) := (World.ownsRow.cellAt hrow 4 (by omega)).trans rfl
          have HBD := Lib.hid (hb.out.trans (hbd.mono hb.out.size))
          clear hrow hbd hcell
          go_wp2
          go_roundg (3 - i - 1)
          case rel => exact ⟨i + 1, by rfl, by omega, by omega, HBD⟩
          case measure => omega
        · have hi3 : i = 3 := by omega
          subst hi3
          go_wp2_with fail
          refine (D8.out _).mono ?_
          rintro e we ⟨rfl, hbe⟩
          have HBE := Lib.hid (HBW.out.trans (hbe.mono HBW.out.size))
          clear hbe
          have hS := Scan_any (zs ++ d8 ++ ⟨#[67]⟩) (by have := HSZ.out.2.2.2; omega) (HE.out.below HBE.out).toEnvS
          have hsc : scanL (zs ++ d8 ++ ⟨#[67]⟩).data.toList = numScan (zs ++ d8 ++ ⟨#[67]⟩).size (if n ≤ 255 then some (mkNum 3 n) else none) := by
            have bd : ∀ l : List UInt8, (bt l).data.toList = l := fun l => by simp [bt]
            rw [HT4.out, bd, bt_size]
            exact HN.out.2.2.2.scan (by have := HSZ.out.2.2.2; rw [HT4.out, bt_size] at this; omega)
          rw [hsc] at hS
          clear hsc
          by_cases h255 : n ≤ 255
          · rw [if_pos h255] at hS
            have b255 : ¬ (255 : Int) < (n : Int) := by omega
            have HS := Lib.hid hS
            clear hS h255
            generalize (zs ++ d8 ++ ⟨#[67]⟩).size = L at *
            go_wp2_with fail
            refine HS.out.mono ?_
            rintro e wd ⟨g2, cp2, he, hrow, hbd⟩
            have he : e = .returned (.tuple #[.slice (some ⟨g2, 0, none⟩) 2 cp2, .complex .f64 0 0, .int .i64 0]) := he
            subst he
            have hrow : wd.ownsRow we.heap.size 35 5 (.slice (some ⟨g2, 0, none⟩) 2 cp2) 2 (flat (zs ++ d8 ++ ⟨#[67]⟩).data.toList [(mkNum 3 n, 0, L), (noTk, L, L)]) := hrow
            have a0 : wd.cell? ⟨g2, 0, none⟩ = some (.int .u8 3) := (World.ownsRow.cellAt hrow 0 (by omega)).trans rfl
            have a4 : wd.cell? ⟨g2, 4, none⟩ = some (.int .i64 n) := (World.ownsRow.cellAt hrow 4 (by omega)).trans rfl
            have HBD := Lib.hid (HBE.out.trans (hbd.mono HBE.out.size))
            have HWK := Lib.hid (works_any (HE.out.below HBD.out))
            clear hrow hbd
            go_wp2_with fail
            refine HWK.out.mono ?_
            rintro e wf ⟨rfl, hbf⟩
            have HBF := Lib.hid (HBD.out.trans (hbf.mono HBD.out.size))
            clear hbf
            go_wp2
            go_ret
            exact ⟨rfl, HBF.out⟩
          · rw [if_neg h255] at hS
            have b255 : (255 : Int) < (n : Int) := by omega
            have HS := Lib.hid hS
            clear hS h255
            go_wp2_with fail
            refine HS.out.mono ?_
            rintro e wd ⟨rfl, hbd⟩
            have HBD := Lib.hid (HBE.out.trans (hbd.mono HBE.out.size))
            have HWK := Lib.hid (works_any (HE.out.below HBD.out))
            clear hbd
            go_wp2_with fail
            refine HWK.out.mono ?_
            rintro e wf ⟨rfl, hbf⟩
            have HBF := Lib.hid (HBD.out.trans (hbf.mono HBD.out.size))
            clear hbf
            go_wp2
            go_ret
            exact ⟨rfl, HBF.out⟩
theorem numbers_law (a : Int) (ha : (Lit.int .u16 a).wf = true) (b : Int) (hb : (Lit.int .u8 b).wf = true) {w : World} (E : EnvJ w) : Calls Tryd.prog 7 #[.int .u16 a, .int .u8 b] w fun e w' => e = .returned (.bool true) ∧ Below w.heap.size w w' := by
  have h1 := bounds_u16 ha
  have h2 := bounds_u8 hb
  have := numbers_walk a.toNat (by omega) b.toNat (by omega) E
  rwa [Int.toNat_of_nonneg h1.1, Int.toNat_of_nonneg h2.1] at this
end Go.Proofs.YtkiedbanobjmlaaDoor.Lx
