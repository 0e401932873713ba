/- The law, a walk. -/
import Derived.Test.YtibpekgmgidebaaC17
set_option linter.unusedSimpArgs false
set_option linter.unusedVariables false
namespace Go.Proofs.Ytibpekgmgidebaa.Sc
open Go.RowKit Go.ChangeShapes Go.WideShapes
open Od
open Lx (EnvS isName Name_any)
attribute [local go_sem] lvl_field1

set_option maxRecDepth 100000 in
set_option maxHeartbeats 6400000 in
theorem has_big {w : World} (E : EnvS w) {A1 A2 : Option Addr} {c1 c2 n1 n2 : Nat} (h : 60 < n1 ∨ 60 < n2) : Calls Try.prog 3 #[.slice A1 n1 c1, .slice A2 n2 c2] w fun r w' => r = .returned (.bool true) ∧ Below w.heap.size w w' := by
  have HW := Lib.hid (works_any E)
  clear E
  by_cases h1 : 60 < n1
  · have x1 : (60 : Int) < (n1 : Int) := by omega
    go_enter Try.func3, Try.ntmps3
    go_wp2_with fail
    with_reducible refine HW.out.mono ?_
    rintro r w1 ⟨rfl, hb⟩
    have HB := Lib.hid hb
    clear hb
    go_wp2
    go_ret
    exact ⟨rfl, HB.out⟩
  · have x1 : ¬ (60 : Int) < (n1 : Int) := by omega
    have x1b : decide ((60 : Int) < (n1 : Int)) = false := decide_eq_false x1
    have x2 : (60 : Int) < (n2 : Int) := by omega
    go_enter Try.func3, Try.ntmps3
    go_wp2_with fail
    with_reducible refine HW.out.mono ?_
    rintro r w1 ⟨rfl, hb⟩
    have HB := Lib.hid hb
    clear hb
    go_wp2
    go_ret
    exact ⟨rfl, HB.out⟩
set_option maxRecDepth 100000 in
set_option maxHeartbeats 6400000 in
theorem has_walk {w : World} (E : EnvS w) {A1 A2 : Option Addr} {c1 c2 : Nat} {p q : List Nat} (P : Bs w A1 c1 p) (Q : Bs w A2 c2 q) : Calls Try.prog 3 #[.slice A1 p.length c1, .slice A2 q.length c2] w fun r w' => r = .returned (.bool true) ∧ Below w.heap.size w w' := by
  by_cases hbig : 60 < p.length ∨ 60 < q.length
  · exact has_big E hbig
  have hp : p.length ≤ 60 := by omega
  have hq : q.length ≤ 60 := by omega
  have x1 : ¬ (60 : Int) < (p.length : Int) := by omega
  have x1b : decide ((60 : Int) < (p.length : Int)) = false := decide_eq_false x1
  have x2 : ¬ (60 : Int) < (q.length : Int) := by omega
  have hlt := envS_lt E
  have hmm := @run_makeMap Try.prog
  have HE := Lib.hid E
  have HLT := Lib.hid hlt
  have HP := Lib.hid P
  have HQ := Lib.hid Q
  clear E hlt hbig P Q
  go_enter Try.func3, Try.ntmps3
  go_wp2_with fail
  with_reducible refine (new_any w).mono ?_
  rintro r w1 ⟨vb, l0, rfl, hb1, he1, hba⟩
  have HB1 := Lib.hid hb1
  have HE1 := Lib.hid he1
  clear hb1 he1 hba
  go_wp2_with fail
  with_reducible refine (open_any HE1.out false (by simp)).mono ?_
  rintro r w2 ⟨rfl, f1, he2, hb2⟩
  have HI := Lib.hid (show Inv (w2.alloc (.map #[] 0)) w.heap.size vb w2.heap.size l0 ⟨false, w1.heap.size, [], f1⟩ from
    ⟨he2.grown (World.grownBy_alloc _ _ none), IsM.made w2 _, by have := HB1.out.trans hb2; exact this.size, fun x hx => by have := (he2.maps x hx).2.lt; omega, fun k hk => by simp at hk⟩)
  have HB2 := Lib.hid ((HB1.out.trans hb2).alloc (HB1.out.trans hb2).size (.map #[] 0))
  generalize w1.heap.size = b1 at *
  clear hb2 he2 HE1 HB1
  go_wp2
  generalize w2.alloc (.map #[] 0) = wa at *
  generalize w2.heap.size = mb at *
  obtain ⟨lA, HIA⟩ : ∃ l, Hid (Inv wa w.heap.size vb mb l0 l) := ⟨_, HI⟩
  clear HI
  go_loopg [7] p.length (fun gh si wr => ∃ (i : Nat) (l : Lvl), si = .int .i64 (i : Nat) ∧ i ≤ p.length ∧ p.length - i ≤ gh ∧ Hid (Inv wr w.heap.size vb mb l0 l) ∧ Hid (Below w.heap.size w wr))
  case atStart => exact ⟨0, lA, rfl, by omega, by omega, HIA, HB2⟩
  case round =>
    clear HIA HB2
    obtain ⟨i, l, rfl, hi1, hi2, hi, hb⟩ := hrel
    by_cases hlt : i < p.length
    · obtain ⟨b0, off0, u, eA, hb0, hu, hcell⟩ := (HP.out.reads.below hb.out).spot hlt
      obtain ⟨x, hx⟩ : ∃ x, x = p[i] := ⟨_, rfl⟩
      have hxs : x < 256 := by rw [hx]; exact HP.out.small _ (List.getElem_mem _)
      have hu2 : u = .int .u8 (x : Nat) := by
        rw [List.getElem?_map, List.getElem?_eq_getElem hlt, ← hx] at hu
        injection hu with hu; exact hu.symm
      subst hu2
      subst eA
      have hbl := hb.out.size
      clear hu hx
      obtain ⟨s1, n, hcv, hs1, hap, hnm, h12⟩ := conv_ex wr x
      have HNM := Lib.hid hnm
      have H12 := Lib.hid h12
      have HIR := Lib.hid (hi.out.grown (World.grownBy_alloc wr (.cells #[.int .u8 (97 + (x : Int) % 12)] 5) none))
      have HBR := Lib.hid (hb.out.alloc hb.out.size (.cells #[.int .u8 (97 + (x : Int) % 12)] 5))
      have HER := Lib.hid (envS_below HE.out HBR.out HLT.out)
      clear hnm h12 hi hb
      by_cases hin : n ∈ l.ks
      · have HPU := Lib.hid (show Calls Try.prog 7 #[.pointer (some ⟨vb, 0, none⟩), .agg #[.string (S n), .int .u8 3, .int .i64 0, .nilIface, .int .i64 0, .int .i64 ((i : Int) + 1), .string ⟨#[]⟩]] (wr.alloc (.cells #[.int .u8 (97 + (x : Int) % 12)] 5)) _ from put_in HIR.out.env HER.out ⟨n, 3, 0, .nilIface, 0, (i : Int) + 1, ⟨#[]⟩⟩ HNM.out (by show 1 ≤ 3 ∧ 3 ≤ 9; omega) rfl hin)
        have HIN := Lib.hid hin
        clear hin
        go_wp2_with fail
        with_reducible refine HPU.out.mono ?_
        rintro r w3 ⟨rfl, hg3⟩
        have HI3 := Lib.hid (HIR.out.grown hg3)
        have HB3 := Lib.hid (HBR.out.grown hg3 HBR.out.size (fun k e => by cases e))
        have hlk := HI3.out.at_.look_in Try.underlying27 Try.underlying9 HIN.out false
        obtain ⟨-, a1, a2, -⟩ := HI3.out.ok n HIN.out
        simp only [At] at hlk
        generalize (l.f n).1.at_ = at0 at *
        have a3 : ¬ at0 = 0 := by omega
        clear hg3
        go_wp2
        go_roundg (p.length - i - 1)
        case rel => exact ⟨i + 1, l, by rfl, by omega, by omega, HI3, HB3⟩
        case measure => omega
      · have HPU := Lib.hid (show Calls Try.prog 7 #[.pointer (some ⟨vb, 0, none⟩), .agg #[.string (S n), .int .u8 3, .int .i64 0, .nilIface, .int .i64 0, .int .i64 ((i : Int) + 1), .string ⟨#[]⟩]] (wr.alloc (.cells #[.int .u8 (97 + (x : Int) % 12)] 5)) _ from put_out HIR.out.env HER.out ⟨n, 3, 0, .nilIface, 0, (i : Int) + 1, ⟨#[]⟩⟩ HNM.out (by show 1 ≤ 3 ∧ 3 ≤ 9; omega) rfl hin)
        have HIN := Lib.hid hin
        clear hin
        go_wp2_with fail
        with_reducible refine HPU.out.mono ?_
        rintro r w3 ⟨rfl, hg3, he3⟩
        have HB3 := Lib.hid (HIR.out.below HBR.out HBR.out.size hg3)
        have hlk := (HIR.out.mid hg3).look_out Try.underlying27 Try.underlying9 HIN.out (show (zeroValue 3).run Try.prog w3 = .ok (.int .i64 0) w3 by kernel_rfl) false
        obtain ⟨w4, hrun, hg4, hi4⟩ := HIR.out.step hg3 (n := n) (e := ⟨n, 3, 0, .nilIface, 0, (i : Int) + 1, ⟨#[]⟩⟩) (ks := l.ks ++ [n]) (by rw [if_neg HIN.out]) he3 rfl (by dsimp only; omega) H12.out
        have HB4 := Lib.hid (HB3.out.grown hg4 HB3.out.size (fun k e => by injection e with e; have := HIR.out.mlo; omega))
        have HI4 := Lib.hid hi4
        dsimp only at hrun
        clear hg3 he3 hg4 hi4
        go_wp2
        go_roundg (p.length - i - 1)
        case rel => exact ⟨i + 1, _, by rfl, by omega, by omega, HI4, HB4⟩
        case measure => omega
    · have x3 : ¬ (i : Int) < (p.length : Int) := by omega
      clear hlt hi1 hi2
      have HIB := Lib.hid hi.out
      have HBB := Lib.hid hb.out
      clear hi hb
      go_wp2
      go_loopg [10] q.length (fun gh si wr => ∃ (i : Nat) (l : Lvl), si = .int .i64 (i : Nat) ∧ i ≤ q.length ∧ q.length - i ≤ gh ∧ Hid (Inv wr w.heap.size vb mb l0 l) ∧ Hid (Below w.heap.size w wr))
      case atStart => exact ⟨0, l, rfl, by omega, by omega, HIB, HBB⟩
      case round =>
        clear HIB HBB
        obtain ⟨i, l, rfl, hi1, hi2, hi, hb⟩ := hrel
        by_cases hlt : i < q.length
        · obtain ⟨b0, off0, u, eA, hb0, hu, hcell⟩ := (HQ.out.reads.below hb.out).spot hlt
          obtain ⟨x, hx⟩ : ∃ x, x = q[i] := ⟨_, rfl⟩
          have hxs : x < 256 := by rw [hx]; exact HQ.out.small _ (List.getElem_mem _)
          have hu2 : u = .int .u8 (x : Nat) := by
            rw [List.getElem?_map, List.getElem?_eq_getElem hlt, ← hx] at hu
            injection hu with hu; exact hu.symm
          subst hu2
          subst eA
          have hbl := hb.out.size
          clear hu hx
          obtain ⟨s1, n, hcv, hs1, hap, hnm, h12⟩ := conv_ex wr x
          have HNM := Lib.hid hnm
          have H12 := Lib.hid h12
          have HIR := Lib.hid (hi.out.grown (World.grownBy_alloc wr (.cells #[.int .u8 (97 + (x : Int) % 12)] 5) none))
          have HBR := Lib.hid (hb.out.alloc hb.out.size (.cells #[.int .u8 (97 + (x : Int) % 12)] 5))
          have HER := Lib.hid (envS_below HE.out HBR.out HLT.out)
          clear hnm h12 hi hb
          by_cases hin : n ∈ l.ks
          · have HPU := Lib.hid (show Calls Try.prog 8 #[.pointer (some ⟨vb, 0, none⟩), .agg #[.string (S n), .int .u8 1, .int .i64 0, .nilIface, .int .i64 0, .int .i64 ((i : Int) + 1000), .string ⟨#[]⟩]] (wr.alloc (.cells #[.int .u8 (97 + (x : Int) % 12)] 5)) _ from change_in HIR.out.env HER.out ⟨n, 1, 0, .nilIface, 0, (i : Int) + 1000, ⟨#[]⟩⟩ HNM.out (by show 1 ≤ 1 ∧ 1 ≤ 9; omega) rfl hin)
            have HIN := Lib.hid hin
            clear hin
            go_wp2_with fail
            with_reducible refine HPU.out.mono ?_
            rintro r w3 ⟨rfl, hg3, he3⟩
            have HB3 := Lib.hid (HIR.out.below HBR.out HBR.out.size hg3)
            have hlk := (HIR.out.mid hg3).look_in Try.underlying27 Try.underlying9 HIN.out false
            obtain ⟨-, a1, a2, -⟩ := HIR.out.ok n HIN.out
            obtain ⟨w4, hrun, hg4, hi4⟩ := HIR.out.step hg3 (n := n) (e := ⟨n, 1, 0, .nilIface, 0, (i : Int) + 1000, ⟨#[]⟩⟩) (ks := l.ks) (by rw [if_pos HIN.out]) he3 rfl (by dsimp only; omega) H12.out
            have HB4 := Lib.hid (HB3.out.grown hg4 HB3.out.size (fun k e => by injection e with e; have := HIR.out.mlo; omega))
            have HI4 := Lib.hid hi4
            dsimp only at hrun
            simp only [At] at hlk
            generalize (l.f n).1.at_ = at0 at hlk a1 a2
            have a3 : 0 < at0 := by omega
            clear hg3 he3 hg4 hi4
            go_wp2
            go_roundg (q.length - i - 1)
            case rel => exact ⟨i + 1, _, by rfl, by omega, by omega, HI4, HB4⟩
            case measure => omega
          · have HPU := Lib.hid (show Calls Try.prog 8 #[.pointer (some ⟨vb, 0, none⟩), .agg #[.string (S n), .int .u8 1, .int .i64 0, .nilIface, .int .i64 0, .int .i64 ((i : Int) + 1000), .string ⟨#[]⟩]] (wr.alloc (.cells #[.int .u8 (97 + (x : Int) % 12)] 5)) _ from change_out HIR.out.env HER.out ⟨n, 1, 0, .nilIface, 0, (i : Int) + 1000, ⟨#[]⟩⟩ HNM.out (by show 1 ≤ 1 ∧ 1 ≤ 9; omega) rfl hin)
            have HIN := Lib.hid hin
            clear hin
            go_wp2_with fail
            with_reducible refine HPU.out.mono ?_
            rintro r w3 ⟨rfl, hg3⟩
            have HI3 := Lib.hid (HIR.out.grown hg3)
            have HB3 := Lib.hid (HBR.out.grown hg3 HBR.out.size (fun k e => by cases e))
            have hlk := HI3.out.at_.look_out Try.underlying27 Try.underlying9 HIN.out (show (zeroValue 3).run Try.prog w3 = .ok (.int .i64 0) w3 by kernel_rfl) false
            clear hg3
            go_wp2
            go_roundg (q.length - i - 1)
            case rel => exact ⟨i + 1, l, by rfl, by omega, by omega, HI3, HB3⟩
            case measure => omega
        · have x4 : ¬ (i : Int) < (q.length : Int) := by omega
          have HIB := Lib.hid hi.out
          have HBB := Lib.hid hb.out
          clear hi hb hlt hi1 hi2
          have HNN := Lib.hid (names_any HIB.out.env (fun k hk => by have := name_le (nm_in (HIB.out.ok k hk).2.2.2); omega) (by have := HIB.out.few; omega))
          go_wp2_with fail
          with_reducible refine HNN.out.mono ?_
          rintro r w3 ⟨v, ss, rfl, hperm, hrow, hb3⟩
          obtain ⟨A, cA, m, rfl, hrd, hms, hrise⟩ := names_form hperm HIB.out.at_.nodup hrow
          have hfew := HIB.out.few
          have HRD := Lib.hid hrd
          have HMS := Lib.hid hms
          have HRI := Lib.hid hrise
          have HI3 := Lib.hid (HIB.out.grown ⟨hb3.os, hb3.tape, hb3.output, hb3.size, fun k hk _ => hb3.block k hk⟩)
          have HB3 := Lib.hid (HBB.out.trans (hb3.mono HBB.out.size))
          have HSL := Lib.hid hms.length_eq
          have hfw : m.length ≤ 12 := by have := HSL.out; omega
          clear hms hrise hrd hrow hb3 hperm HIB HBB HNN hfew
          go_wp2
          go_loopg [14] m.length (fun gh si wr => ∃ i : Nat, si = .int .i64 (i : Nat) ∧ i ≤ m.length ∧ m.length - i ≤ gh ∧ Hid (Inv wr w.heap.size vb mb l0 l) ∧ Hid (Below w3.heap.size w3 wr))
          case atStart => exact ⟨0, rfl, by omega, by omega, HI3, Lib.hid (Below.refl _ _)⟩
          case round =>
            clear HI3
            obtain ⟨i, rfl, hi1, hi2, hi, hb⟩ := hrel
            by_cases hlt : i < m.length
            · have HRW := Lib.hid (HRD.out.below hb.out)
              obtain ⟨b0, off0, u, eA, hb0, hu, hcell⟩ := HRW.out.spot hlt
              rw [List.getElem?_map, List.getElem?_eq_getElem hlt] at hu
              injection hu with hu
              subst hu
              have hmem : m[i] ∈ l.ks := HMS.out.mem_iff.1 (List.getElem_mem hlt)
              have HNX := Lib.hid (here_in hi.out.env m[i] hmem)
              have HPV := Lib.hid (show 0 < i → ∃ a, wr.cell? ⟨b0, off0 + (i - 1), none⟩ = some (.string (S a)) ∧ a < m[i] from fun h0 => by
                obtain ⟨b1, off1, u1, eA1, hb1, hu1, hcell1⟩ := HRW.out.spot (k := i - 1) (by omega)
                rw [List.getElem?_map, List.getElem?_eq_getElem (by omega)] at hu1
                injection hu1 with hu1
                subst hu1
                rw [eA] at eA1
                injection eA1 with eA1
                injection eA1 with e1 e2
                subst e1 e2
                have hr := HRI.out (i - 1) (by omega)
                simp only [show i - 1 + 1 = i by omega] at hr
                exact ⟨m[i - 1], hcell1, hr⟩)
              have HOK := Lib.hid (hi.out.ok _ hmem)
              have HLK := Lib.hid (fun (wx : World) (hg : wr.grownBy wx none) => (hi.out.grown hg).at_.look_in Try.underlying27 Try.underlying9 hmem false)
              obtain ⟨ho1, ho2⟩ := hi.out.env.one l (by simp) _ hmem
              have HO1 := Lib.hid ho1
              have HII := Lib.hid hi.out
              have HBB := Lib.hid hb.out
              have hbz := hb.out.size
              clear hmem ho1 ho2 HRW hi hb
              generalize m[i] = n at *
              unfold At at HLK
              obtain ⟨fn, fk, ft, fv, fl, fa, fm, fx, hfi⟩ : ∃ a b c d e' g h x, l.f n = (⟨a, b, c, d, e', g, h⟩, x) := ⟨_, _, _, _, _, _, _, _, rfl⟩
              rw [hfi] at HOK HNX HO1
              simp only [hfi, if_false] at HLK
              try dsimp only at HOK
              try dsimp only at HO1
              obtain ⟨hfn, a1, a2, -⟩ := HOK.out
              subst hfn
              unfold Ent.val at HNX
              try dsimp only at HNX
              have sv1 := fun (wx : World) (a : Addr) (m : Mode) => run_store Try.prog wx a fv m HO1.out
              clear HOK hfi
              subst eA
              go_wp2_with fail
              with_reducible refine HNX.out.mono ?_
              rintro r w4 ⟨rfl, hg4⟩
              have HG4 := Lib.hid (HII.out.grown (grown_trans hg4 (World.grownBy_alloc w4 (.cells #[.string (S fn), .int .u8 fk, .int .i64 ft, fv, .int .i64 fl, .int .i64 fa, .string fm] 31) none)))
              have HB4 := Lib.hid ((HBB.out.grown hg4 hbz (fun k e => by cases e)).alloc (Nat.le_trans hbz hg4.size) (.cells #[.string (S fn), .int .u8 fk, .int .i64 ft, fv, .int .i64 fl, .int .i64 fa, .string fm] 31))
              have hc4 : w4.cell? ⟨b0, off0 + i, none⟩ = some (.string (S fn)) := (World.cell?_of_block (a := ⟨b0, off0 + i, none⟩) (hg4.block b0 (by omega) (by simp))).trans hcell
              have hb4 : b0 < w4.heap.size := by have := hg4.size; omega
              have hlk := fun (o : Obj) (j : Nat) => HLK.out ((w4.alloc o).drewN j) (have h := grown_trans hg4 (World.grownBy_alloc w4 o none); ⟨h.os, h.tape, h.output, h.size, h.block⟩)
              have HPW := Lib.hid (show 0 < i → ∃ a, w4.cell? ⟨b0, off0 + (i - 1), none⟩ = some (.string (S a)) ∧ a < fn from fun h0 => by
                obtain ⟨a, h1, h2⟩ := HPV.out h0
                exact ⟨a, (World.cell?_of_block (a := ⟨b0, off0 + (i - 1), none⟩) (hg4.block b0 (by omega) (by simp))).trans h1, h2⟩)
              clear hg4 hcell HPV HNX HLK HII HBB hbz hb0
              by_cases h0 : 0 < i
              · obtain ⟨a, hpc, hless⟩ := HPW.out h0
                have hbt := less_yes hless
                have x6 : (0 : Int) < (i : Int) := by omega
                have x7 : (i : Int) - 1 = ((i - 1 : Nat) : Int) := by omega
                have x8 : (i - 1 : Nat) < m.length := by omega
                have x9 : ((i - 1 : Nat) : Int) < (m.length : Int) := by omega
                clear hless HPW
                go_wp2
                go_big_quiet (fail)
                have HI5 := Lib.hid (show Inv ((w4.alloc (.cells #[.string (S fn), .int .u8 fk, .int .i64 ft, fv, .int .i64 fl, .int .i64 fa, .string fm] 31)).drewN nq) w.heap.size vb mb l0 l from HG4.out.grown ⟨rfl, rfl, rfl, Nat.le_refl _, fun _ _ _ => rfl⟩)
                have HB5 := Lib.hid (below_drewN HB4.out nq)
                go_wp2
                go_roundg (m.length - i - 1)
                case rel => exact ⟨i + 1, by rfl, by omega, by omega, HI5, HB5⟩
                case measure => omega
              · have hi0 : i = 0 := by omega
                subst hi0
                rw [Nat.add_zero] at hc4
                clear h0 HPW
                go_wp2
                go_big_quiet (fail)
                have HI5 := Lib.hid (show Inv ((w4.alloc (.cells #[.string (S fn), .int .u8 fk, .int .i64 ft, fv, .int .i64 fl, .int .i64 fa, .string fm] 31)).drewN nq) w.heap.size vb mb l0 l from HG4.out.grown ⟨rfl, rfl, rfl, Nat.le_refl _, fun _ _ _ => rfl⟩)
                have HB5 := Lib.hid (below_drewN HB4.out nq)
                go_wp2
                go_roundg (m.length - 0 - 1)
                case rel => exact ⟨0 + 1, by rfl, by omega, by omega, HI5, HB5⟩
                case measure => omega
            · have x5 : ¬ (i : Int) < (m.length : Int) := by omega
              obtain ⟨rz, hrz⟩ : ∃ rz, wr.heap.size = rz := ⟨_, rfl⟩
              have HRZ := Lib.hid hrz
              have HI6 := Lib.hid hi.out
              have HB6 := Lib.hid (HB3.out.trans (hb.out.mono HB3.out.size))
              clear hi hb hlt hi1 hi2 HB3 hrz
              go_wp2_with (at_range; refine wpList_range _ rfl _ _ rfl _ _ Try.underlying27 mb l.ks (At l) rfl HI6.out.at_ rz HRZ.out ?_; intro w5 hi5 hg5 hs5; have HIT := Lib.hid hi5; have HG5 := Lib.hid hg5; clear hi5 hg5 hs5)
              try go_frame
              have HB5 := Lib.hid (HB6.out.grown HG5.out HB6.out.size (fun k h => by cases h))
              have HND := Lib.hid HI6.out.at_.nodup
              have HOK := Lib.hid HI6.out.ok
              have HRR := Lib.hid (show w.heap.size ≤ rz from HRZ.out ▸ HB6.out.size)
              clear HG5 HI6 HB6
              go_loopg [17] l.ks.length (fun gh sc wq => ∃ (left : List Nm) (c : Nat), sc = .int .i64 (c : Nat) ∧ left.length ≤ gh ∧ c + left.length = l.ks.length ∧ Hid left.Nodup ∧ Hid (IterM wq rz mb l.ks (At l) left) ∧ Hid (Below w.heap.size w wq))
              case atStart => exact ⟨l.ks, 0, rfl, Nat.le_refl _, by omega, HND, HIT, HB5⟩
              case round =>
                clear HIT HB5
                obtain ⟨left, c, rfl, hgh, hcl, hnd, hit, hb⟩ := hrel
                go_wp2_with (at_next; refine wpList_next _ rfl _ rfl rz mb l.ks left (At l) rfl hit.out ?_ ?_)
                · intro h0
                  subst h0
                  have HWK := Lib.hid (works_any (envS_below HE.out hb.out HLT.out))
                  have HBQ := Lib.hid hb.out
                  have hcm : c = m.length := by have := HSL.out; simp only [List.length_nil] at hcl; omega
                  subst hcm
                  clear hit hb hcl hgh hnd
                  go_wp2_with fail
                  with_reducible refine HWK.out.mono ?_
                  rintro r w7 ⟨rfl, hb7⟩
                  have HB7 := Lib.hid (HBQ.out.trans (hb7.mono HBQ.out.size))
                  clear hb7 HBQ
                  go_wp2
                  go_ret
                  exact ⟨rfl, HB7.out⟩
                · intro k w6 hk hks hi6 hg6 hs6 hen
                  have HI6 := Lib.hid hi6
                  have HB6 := Lib.hid (hb.out.grown hg6 hb.out.size (fun k hk => by injection hk with hk; have := HRR.out; omega))
                  have HFL := Lib.hid (filter_len hnd.out hk)
                  have HN6 := Lib.hid (hnd.out.filter (fun x => !decide (x = k)))
                  obtain ⟨-, a1, a2, -⟩ := HOK.out k hks
                  unfold At at hen ⊢
                  generalize (l.f k).1.at_ = at0 at hen a1 a2 ⊢
                  have a3 : 0 < at0 := by omega
                  have hc12 : c ≤ 12 := by have := HSL.out; omega
                  clear hi6 hg6 hit hb hk hks hs6
                  go_wp2
                  go_roundg (left.length - 1)
                  case rel => exact ⟨_, c + 1, by rfl, by have := HFL.out; omega, by have := HFL.out; omega, HN6, HI6, HB6⟩
                  case measure => have := HFL.out; omega
end Go.Proofs.Ytibpekgmgidebaa.Sc
