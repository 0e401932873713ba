/- The law on modules that do not matter: its walk. -/
import Derived.Test.YthonoobbpfgjhaaM24
set_option linter.unusedSimpArgs false
set_option linter.unusedVariables false
set_option linter.unusedSectionVars false
namespace Go.Proofs.Ythonoobbpfgjhaa.Od
open Go.RowKit
theorem drop_rev {q : List Md} {j : Nat} (h : j < q.length) : (q.drop j).reverse = (q.drop (j + 1)).reverse ++ [q[j]] := by
  rw [List.drop_eq_getElem_cons h, List.reverse_cons]
set_option maxRecDepth 100000 in
set_option maxHeartbeats 12800000 in
theorem alone_walk {w : World} {A : Option Addr} {c : Nat} {q : List Md} (h : Mods w A c q) (m : Nm) {B : Option Addr} {d : Nat} {more : List Md} (hmo : Mods w B d more) :
    Calls Try.prog 3 #[.slice A q.length c, .string (S m), .slice B more.length d] w (AliveR w) := by
  have hcc := h.cap
  have hcb := h.big
  have hdc := hmo.cap
  have hdb := hmo.big
  have H := Lib.hid h
  have HM := Lib.hid hmo
  have HMA := Lib.hid (many_any h)
  have HMB := Lib.hid (many_any hmo)
  have HSZ := Lib.hid (S_size m)
  clear h hmo
  go_enter Try.func3, Try.ntmps3
  go_wp2_with fail
  refine HMA.out.mono ?_
  rintro e w1 ⟨b, rfl, hsm, rfl⟩
  cases b with
  | true =>
    go_wp2_with (go_at_call 7; refine (alive_any _).mono ?_; rintro e w2 ⟨rfl, hb⟩; have HB := Lib.hid hb; clear hb)
    go_ret
    exact ⟨rfl, HB.out⟩
  | false =>
    have HS := Lib.hid (hsm rfl).1
    have hql := (hsm rfl).2
    clear hsm
    go_wp2_with fail
    refine HMB.out.mono ?_
    rintro e w1 ⟨b2, rfl, hsm2, rfl⟩
    cases b2 with
    | true =>
      go_wp2_with (go_at_call 7; refine (alive_any _).mono ?_; rintro e w2 ⟨rfl, hb⟩; have HB := Lib.hid hb; clear hb)
      go_ret
      exact ⟨rfl, HB.out⟩
    | false =>
      have HS2 := Lib.hid (hsm2 rfl).1
      have hml := (hsm2 rfl).2
      clear hsm2
      by_cases h3 : 300 < m.length
      · have y1 : decide ((300 : Int) < ((S m).size : Int)) = true := by rw [HSZ.out]; simp only [decide_eq_true_eq]; omega
        clear h3
        go_wp2_with (go_at_call 7; refine (alive_any _).mono ?_; rintro e w2 ⟨rfl, hb⟩; have HB := Lib.hid hb; clear hb)
        go_ret
        exact ⟨rfl, HB.out⟩
      · have y1 : decide ((300 : Int) < ((S m).size : Int)) = false := by rw [HSZ.out]; simp only [decide_eq_false_iff_not]; omega
        clear h3
        have HO := Lib.hid (Order_any H.out HS.out m)
        obtain ⟨o, who, kk, hans⟩ : ∃ o who kk, ansOf (orderP (nl q) m) = (o, who, kk) := ⟨_, _, _, rfl⟩
        have HANS := Lib.hid hans
        clear hans
        go_wp2_with fail
        refine HO.out.mono ?_
        rintro e w2 ⟨A2, c2, rfl, hn2, hb2⟩
        rw [HANS.out] at hn2 ⊢
        have HN2 := Lib.hid hn2
        have HB2 := Lib.hid hb2
        clear hn2 hb2 HO
        by_cases h6 : kk = 6
        · have t1 : ((kk : Int) == 6) = true := by subst h6; rfl
          clear h6
          go_wp2_with (go_at_call 7; refine (alive_any _).mono ?_; rintro e w3 ⟨rfl, hb3⟩; have HB3 := Lib.hid (HB2.out.trans (hb3.mono HB2.out.size)); clear hb3)
          go_ret
          exact ⟨rfl, HB3.out⟩
        · have t1 : ((kk : Int) == 6) = false := by simp only [beq_eq_false_iff_ne, ne_eq]; omega
          have hag : again [] (nl q) = none := by
            cases hh : again [] (nl q) with
            | none => rfl
            | some a =>
              exfalso
              have h2 : (o, who, kk) = ([], a, 6) := by rw [← HANS.out]; unfold orderP; rw [hh]; rfl
              injection h2 with _ h2
              injection h2 with _ h2
              exact h6 h2
          have hnd : (names q).Nodup := by
            have := (again_none.1 hag).1
            rwa [show (nl q).map (·.1) = names q by simp [nl, names]] at this
          have HND := Lib.hid hnd
          have hz2 := HB2.out.size
          have HOB := Lib.hid (OwnB.nil w2.heap.size w2)
          clear hag hnd h6
          go_wp2_with fail
          generalize hmv : (Value.slice none 0 0) = mv at *
          clear hmv
          go_loopw [10, 11] (fun sv iv wr => ∃ (lv : Value) (z : Int) (j : Nat), lv = sv ∧ iv = .int .i64 z ∧ z < (q.length : Int) ∧ -1 ≤ z ∧ Hid (z = (j : Int) - 1) ∧ Hid (OwnB w2.heap.size wr lv (q.drop j).reverse) ∧ Hid (Below w2.heap.size w2 wr)) (fun _ iv _ => (intOf iv + 1).toNat)
          case atStart => exact ⟨_, _, q.length, rfl, rfl, by omega, by omega, Lib.hid rfl, by rw [List.drop_length]; exact HOB, Lib.hid (Below.refl _ _)⟩
          case round =>
            clear HOB
            obtain ⟨lv, z, j, rfl, rfl, hzl, hz0, HZ, HOB, HBB⟩ := hrel
            by_cases hz : 0 ≤ z
            · obtain ⟨i, rfl⟩ : ∃ i : Nat, z = (i : Int) := ⟨z.toNat, by omega⟩
              have hil : i < q.length := by omega
              have hji : j = i + 1 := by have := HZ.out; omega
              have HBW := Lib.hid (HB2.out.trans (HBB.out.mono hz2))
              obtain ⟨g, off, rfl, hgl, z1, z2⟩ := H.out.at_ hil
              obtain ⟨A', c', e2, hN⟩ := H.out.each q[i] (List.getElem_mem hil)
              rw [e2] at z2
              have hc1 := bel HBW.out hgl z1
              have hc2 := bel HBW.out hgl z2
              have HE2 := Lib.hid e2
              have HO1 := Lib.hid (show OwnB w2.heap.size wr lv (q.drop (i + 1)).reverse from hji ▸ HOB.out)
              have HDR := Lib.hid (drop_rev hil)
              have hwz := HBB.out.size
              clear z1 z2 e2 hN hji HOB HZ
              go_wp2_with (at_builtin; refine wpList_pushB _ rfl _ _ rfl w2.heap.size lv _ rfl HO1.out (by simp; omega) (by omega) q[i] A' _ c' HE2.out _ rfl rfl ?_; intro lv4 w4 ho4 hg4 hd4; have HO4 := Lib.hid (show OwnB w2.heap.size w4 lv4 (q.drop i).reverse from by rw [HDR.out]; exact ho4); have HB4 := Lib.hid (HBB.out.grown hg4 hwz (fun k hk => (World.ownsRow.lt HO1.out k hk).1)); clear ho4 hg4 hd4)
              go_roundw
              case rel => exact ⟨lv4, _, i, rfl, rfl, by omega, by omega, Lib.hid rfl, HO4, HB4⟩
              case measure => simp [intOf]
            · have hj0 : j = 0 := by have := HZ.out; omega
              have HO1 := Lib.hid (show OwnB w2.heap.size wr lv q.reverse from by have := HOB.out; rwa [hj0, List.drop_zero] at this)
              have HBW := Lib.hid (HB2.out.trans (HBB.out.mono hz2))
              have HR := Lib.hid (Reach_new (H.out.below HBW.out) HS.out m)
              have hwz := HBB.out.size
              clear hj0 HZ HOB
              go_wp2_with fail
              refine HR.out.mono ?_
              rintro e w3 ⟨r, hr3, A3, c3, rfl, hn3, hb3, hw3⟩
              have HR3 := Lib.hid hr3
              have HN3 := Lib.hid hn3
              have HB3 := Lib.hid (HBB.out.trans (hb3.mono hwz))
              have HO3 := Lib.hid (show OwnB w2.heap.size w3 lv q.reverse from rowKept HO1.out (row := none) ⟨hb3.os, hb3.tape, hb3.output, hb3.size, fun k hk _ => hb3.block k hk⟩ (fun k _ h => by cases h))
              have HBI := Lib.hid (BackI.start (q := q) (more := more) (m := m) HND.out)
              have hz3 := hb3.size
              have HSP := Lib.hid (show Sep w3 A3 (sortN r) lv from fun hn => by
                obtain ⟨g, e, hg⟩ := hw3 hn
                obtain ⟨ad, e2, hlt, _⟩ := HN3.out.reads.2 hn
                rw [e] at e2
                injection e2 with e2
                subst e2
                exact ⟨g, e, hlt, fun e' => by have := (World.ownsRow.lt HO1.out g e').2; omega⟩)
              clear hr3 hn3 hb3 hw3 HR HO1
              go_wp2
              go_loopw [10, 13] (fun sv iv wx => ∃ (lv : Value) (k : Nat) (bk : List Md), lv = sv ∧ iv = .int .i64 k ∧ k ≤ more.length ∧ Hid (BackI q more m k bk) ∧ Hid (OwnB w2.heap.size wx lv bk) ∧ Hid (NR wx A3 c3 (sortN r)) ∧ Hid (Sep wx A3 (sortN r) lv) ∧ Hid (Below w2.heap.size w2 wx)) (fun _ iv _ => more.length - (intOf iv).toNat)
              case atStart => exact ⟨_, 0, q.reverse, rfl, rfl, Nat.zero_le _, HBI, HO3, HN3, HSP, HB3⟩
              case round =>
                clear HBI HO3 HN3 HB3 HSP
                obtain ⟨lv, k, bk, rfl, rfl, hk, HBI, HOB, HN3, HSP, HBB⟩ := hrel
                have HBW := Lib.hid (HB2.out.trans (HBB.out.mono hz2))
                obtain ⟨A5, c5, hlv, hM5⟩ := HOB.out.mods (HBI.out.needs (fun x hx => (H.out.each x hx).below HBW.out) (fun x hx => (HM.out.each x hx).below HBW.out))
                have HM5 := Lib.hid hM5
                have h5c := hM5.cap
                have h5b := hM5.big
                by_cases hlt : k < more.length
                · obtain ⟨g, off, rfl, hgl, z1, z2⟩ := HM.out.at_ hlt
                  obtain ⟨A', c', e2, hN⟩ := HM.out.each more[k] (List.getElem_mem hlt)
                  rw [e2] at z2
                  have hc1 := bel HBW.out hgl z1
                  have hc2 := bel HBW.out hgl z2
                  have HE2 := Lib.hid e2
                  have hwx := HBB.out.size
                  have HAT := Lib.hid (at_any HN3.out more[k].1)
                  subst hlv
                  by_cases he : more[k].1 = m
                  · obtain ⟨s1, s2, s3, s4⟩ := S_yes he
                    obtain ⟨t0, ht0⟩ : ∃ t0 : Bool, true = t0 := ⟨_, rfl⟩
                    have HT0 := Lib.hid (show t0 = true ↔ (more[k].1 = m ∨ more[k].1 ∈ sortN r) from ⟨fun _ => .inl he, fun _ => ht0.symm⟩)
                    have HT1 := Lib.hid ht0
                    clear ht0 he hM5 e2 hN z1 z2
                    go_wp2
                    go_loop [15, 16] (fun tv jv => ∃ (j : Nat) (tb : Bool), j ≤ bk.length ∧ tv = .bool tb ∧ jv = .int .i64 j ∧ Hid (tb = true ↔ (t0 = true ∨ more[k].1 ∈ (names bk).take j))) (fun _ jv => bk.length - (intOf jv).toNat)
                    case atStart => exact ⟨0, t0, Nat.zero_le _, by rw [← HT1.out], rfl, Lib.hid (by simp)⟩
                    case round =>
                      obtain ⟨j, tb, hj, rfl, rfl, HTB⟩ := hrel
                      by_cases hjl : j < bk.length
                      · obtain ⟨gb, ob, rfl, hgb, hcb1, _⟩ := HM5.out.at_ hjl
                        have HNS := Lib.hid (take_snoc' (names bk) j (by simp [names]; exact hjl))
                        have hnb : (names bk)[j]'(by simp [names]; exact hjl) = bk[j].1 := names_at hjl
                        cases tb with
                        | true =>
                          have HTB2 := Lib.hid (show true = true ↔ (t0 = true ∨ more[k].1 ∈ (names bk).take (j + 1)) from ⟨fun _ => (HTB.out.1 rfl).elim .inl (fun h => .inr (by rw [HNS.out]; exact List.mem_append_left _ h)), fun _ => rfl⟩)
                          clear HTB hnb
                          go_wp2
                          go_round
                          case rel => exact ⟨j + 1, true, by omega, rfl, by go_num, HTB2⟩
                          case measure => simp [intOf]; omega
                        | false =>
                          have hno : ¬ (t0 = true ∨ more[k].1 ∈ (names bk).take j) := fun h => by have := HTB.out.2 h; cases this
                          by_cases he2 : bk[j].1 = more[k].1
                          · obtain ⟨v1, v2, v3, v4⟩ := S_yes he2
                            have HTB2 := Lib.hid (show true = true ↔ (t0 = true ∨ more[k].1 ∈ (names bk).take (j + 1)) from ⟨fun _ => .inr (by rw [HNS.out, hnb, he2]; simp), fun _ => rfl⟩)
                            clear HTB he2 hnb hno
                            go_wp2
                            go_round
                            case rel => exact ⟨j + 1, true, by omega, rfl, by go_num, HTB2⟩
                            case measure => simp [intOf]; omega
                          · obtain ⟨v1, v2, v3, v4⟩ := S_no he2
                            have HTB2 := Lib.hid (show false = true ↔ (t0 = true ∨ more[k].1 ∈ (names bk).take (j + 1)) from ⟨(fun h => by cases h), fun h => by
                              exfalso
                              refine hno (h.imp id fun h => ?_)
                              rw [HNS.out, hnb] at h
                              exact (List.mem_append.1 h).elim id (fun h => absurd (List.mem_singleton.1 h).symm he2)⟩)
                            clear HTB he2 hnb hno
                            go_wp2
                            go_round
                            case rel => exact ⟨j + 1, false, by omega, rfl, by go_num, HTB2⟩
                            case measure => simp [intOf]; omega
                      · have htb := HTB.out
                        rw [List.take_of_length_le (by simp [names]; omega)] at htb
                        cases tb with
                        | true =>
                          have HBI2 := Lib.hid HBI.out.skip
                          clear htb HTB
                          go_wp2
                          go_roundw
                          case rel => exact ⟨_, k + 1, bk, rfl, by go_num, by omega, HBI2, HOB, HN3, HSP, HBB⟩
                          case measure => simp [intOf]; omega
                        | false =>
                          have hno : ¬ (t0 = true ∨ more[k].1 ∈ names bk) := fun h => by have := htb.2 h; cases this
                          have hnt : ¬ (more[k].1 = m ∨ more[k].1 ∈ sortN r) := fun h => hno (.inl (HT0.out.2 h))
                          have HBI2 := Lib.hid (HBI.out.put (List.getElem_mem hlt) (fun e => hnt (.inl e)) (fun h => hnt (.inr (mem_sortN.2 ((HR3.out.mem _).2 h)))) (fun h => hno (.inr h)))
                          have hbl : bk.length ≤ 1000000 := by have := (HBI.out.small (by omega) HS.out HS2.out hql).len; omega
                          clear htb HTB hno hnt
                          go_wp2_with (at_builtin; refine wpList_pushB _ rfl _ _ rfl w2.heap.size _ bk rfl HOB.out hbl (by omega) more[k] A' _ c' HE2.out _ rfl rfl ?_; intro lv4 w4 ho4 hg4 hd4; have HO4 := Lib.hid ho4; have HB4 := Lib.hid (HBB.out.grown hg4 hwx (fun k hk => (World.ownsRow.lt HOB.out k hk).1)); have HN4 := Lib.hid (HN3.out.sep hg4 (fun hn => by obtain ⟨g, e, _, h⟩ := HSP.out hn; exact ⟨g, e, h⟩)); have HS4 := Lib.hid (HSP.out.step hg4.size hd4); clear ho4 hg4 hd4)
                          go_roundw
                          case rel => exact ⟨lv4, k + 1, _, rfl, by go_num, by omega, HBI2, HO4, HN4, HS4, HB4⟩
                          case measure => simp [intOf]; omega
                  · obtain ⟨s1, s2, s3, s4⟩ := S_no he
                    obtain ⟨t0, ht0⟩ : ∃ t0, decide ((0 : Int) ≤ posOf (sortN r) more[k].1) = t0 := ⟨_, rfl⟩
                    have HT0 := Lib.hid (show t0 = true ↔ (more[k].1 = m ∨ more[k].1 ∈ sortN r) from by
                      rw [← ht0, decide_eq_true_eq, posOf_ge]
                      exact ⟨fun h => .inr h, fun h => h.resolve_left he⟩)
                    clear he hM5 e2 hN z1 z2
                    go_wp2_with (go_at_call 10; refine HAT.out.mono ?_; rintro e w6 ⟨rfl, rfl⟩)
                    go_loop [15, 16] (fun tv jv => ∃ (j : Nat) (tb : Bool), j ≤ bk.length ∧ tv = .bool tb ∧ jv = .int .i64 j ∧ Hid (tb = true ↔ (t0 = true ∨ more[k].1 ∈ (names bk).take j))) (fun _ jv => bk.length - (intOf jv).toNat)
                    case atStart => exact ⟨0, t0, Nat.zero_le _, rfl, rfl, Lib.hid (by simp)⟩
                    case round =>
                      obtain ⟨j, tb, hj, rfl, rfl, HTB⟩ := hrel
                      by_cases hjl : j < bk.length
                      · obtain ⟨gb, ob, rfl, hgb, hcb1, _⟩ := HM5.out.at_ hjl
                        have HNS := Lib.hid (take_snoc' (names bk) j (by simp [names]; exact hjl))
                        have hnb : (names bk)[j]'(by simp [names]; exact hjl) = bk[j].1 := names_at hjl
                        cases tb with
                        | true =>
                          have HTB2 := Lib.hid (show true = true ↔ (t0 = true ∨ more[k].1 ∈ (names bk).take (j + 1)) from ⟨fun _ => (HTB.out.1 rfl).elim .inl (fun h => .inr (by rw [HNS.out]; exact List.mem_append_left _ h)), fun _ => rfl⟩)
                          clear HTB hnb
                          go_wp2
                          go_round
                          case rel => exact ⟨j + 1, true, by omega, rfl, by go_num, HTB2⟩
                          case measure => simp [intOf]; omega
                        | false =>
                          have hno : ¬ (t0 = true ∨ more[k].1 ∈ (names bk).take j) := fun h => by have := HTB.out.2 h; cases this
                          by_cases he2 : bk[j].1 = more[k].1
                          · obtain ⟨v1, v2, v3, v4⟩ := S_yes he2
                            have HTB2 := Lib.hid (show true = true ↔ (t0 = true ∨ more[k].1 ∈ (names bk).take (j + 1)) from ⟨fun _ => .inr (by rw [HNS.out, hnb, he2]; simp), fun _ => rfl⟩)
                            clear HTB he2 hnb hno
                            go_wp2
                            go_round
                            case rel => exact ⟨j + 1, true, by omega, rfl, by go_num, HTB2⟩
                            case measure => simp [intOf]; omega
                          · obtain ⟨v1, v2, v3, v4⟩ := S_no he2
                            have HTB2 := Lib.hid (show false = true ↔ (t0 = true ∨ more[k].1 ∈ (names bk).take (j + 1)) from ⟨(fun h => by cases h), fun h => by
                              exfalso
                              refine hno (h.imp id fun h => ?_)
                              rw [HNS.out, hnb] at h
                              exact (List.mem_append.1 h).elim id (fun h => absurd (List.mem_singleton.1 h).symm he2)⟩)
                            clear HTB he2 hnb hno
                            go_wp2
                            go_round
                            case rel => exact ⟨j + 1, false, by omega, rfl, by go_num, HTB2⟩
                            case measure => simp [intOf]; omega
                      · have htb := HTB.out
                        rw [List.take_of_length_le (by simp [names]; omega)] at htb
                        cases tb with
                        | true =>
                          have HBI2 := Lib.hid HBI.out.skip
                          clear htb HTB
                          go_wp2
                          go_roundw
                          case rel => exact ⟨_, k + 1, bk, rfl, by go_num, by omega, HBI2, HOB, HN3, HSP, HBB⟩
                          case measure => simp [intOf]; omega
                        | false =>
                          have hno : ¬ (t0 = true ∨ more[k].1 ∈ names bk) := fun h => by have := htb.2 h; cases this
                          have hnt : ¬ (more[k].1 = m ∨ more[k].1 ∈ sortN r) := fun h => hno (.inl (HT0.out.2 h))
                          have HBI2 := Lib.hid (HBI.out.put (List.getElem_mem hlt) (fun e => hnt (.inl e)) (fun h => hnt (.inr (mem_sortN.2 ((HR3.out.mem _).2 h)))) (fun h => hno (.inr h)))
                          have hbl : bk.length ≤ 1000000 := by have := (HBI.out.small (by omega) HS.out HS2.out hql).len; omega
                          clear htb HTB hno hnt
                          go_wp2_with (at_builtin; refine wpList_pushB _ rfl _ _ rfl w2.heap.size _ bk rfl HOB.out hbl (by omega) more[k] A' _ c' HE2.out _ rfl rfl ?_; intro lv4 w4 ho4 hg4 hd4; have HO4 := Lib.hid ho4; have HB4 := Lib.hid (HBB.out.grown hg4 hwx (fun k hk => (World.ownsRow.lt HOB.out k hk).1)); have HN4 := Lib.hid (HN3.out.sep hg4 (fun hn => by obtain ⟨g, e, _, h⟩ := HSP.out hn; exact ⟨g, e, h⟩)); have HS4 := Lib.hid (HSP.out.step hg4.size hd4); clear ho4 hg4 hd4)
                          go_roundw
                          case rel => exact ⟨lv4, k + 1, _, rfl, by go_num, by omega, HBI2, HO4, HN4, HS4, HB4⟩
                          case measure => simp [intOf]; omega
                · have HSB := Lib.hid (HBI.out.small (by omega) HS.out HS2.out hql)
                  have HOO := Lib.hid (HBI.out.order HND.out)
                  have HO5 := Lib.hid (Order_any HM5.out HSB.out m)
                  obtain ⟨s1, s2, s3, s4⟩ := S_yes (rfl : who = who)
                  have HN6 := Lib.hid (show ∀ wy, Below w2.heap.size w2 wy → NR wy A2 c2 o from fun wy hb => HN2.out.below hb)
                  subst hlv
                  clear hM5 HN2
                  go_wp2_with fail
                  refine HO5.out.mono ?_
                  rintro e w7 ⟨A7, c7, rfl, hn7, hb7⟩
                  rw [← HOO.out, HANS.out] at hn7 ⊢
                  have HB7 := Lib.hid (HBB.out.trans (hb7.mono HBB.out.size))
                  have HT := Lib.hid (texts_any (HN6.out w7 HB7.out) hn7)
                  clear hn7 hb7 HO5
                  go_wp2_with fail
                  refine HT.out.mono ?_
                  rintro e w8 ⟨rfl, n8, rfl⟩
                  rw [show decide True = true from rfl]
                  have HB8 := Lib.hid (below_dn HB7.out n8)
                  clear HB7 HT
                  generalize w7.drewN n8 = w8 at *
                  go_wp2_with fail
                  refine (alive_any _).mono ?_
                  rintro e w9 ⟨rfl, hb9⟩
                  have HB9 := Lib.hid (HB2.out.trans ((HB8.out.trans (hb9.mono HB8.out.size)).mono hz2))
                  clear hb9
                  go_wp2
                  go_ret
                  exact ⟨rfl, HB9.out⟩
end Go.Proofs.Ythonoobbpfgjhaa.Od
