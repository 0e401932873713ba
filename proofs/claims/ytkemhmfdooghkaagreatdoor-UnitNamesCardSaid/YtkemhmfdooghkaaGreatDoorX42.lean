import Derived.Test.YtkemhmfdooghkaaGreatDoorX41
set_option linter.unusedSimpArgs false
set_option linter.unusedVariables false
set_option maxRecDepth 100000
set_option maxHeartbeats 6400000
namespace Go.Proofs.YtkemhmfdooghkaaGreatDoor
namespace Lx
open Go.RowKit
open Pl Fl
attribute [local go_sem] run_store_complexL
structure NumAt (s : ByteArray) (n : Nat) : Prop where
 n1 : 1 ≤ n
 le : n ≤ s.size
 c72 : s.data.toList[n - 1]? = some 72 → 2 ≤ n ∧ (∀ c ∈ (s.extract 0 (n - 1)).data.toList, isX c = true) ∧ numN (s.extract 0 n).data.toList = (valR 16 65535 (s.extract 0 (n - 1)).data.toList).map (mkNum 2)
 c67 : s.data.toList[n - 1]? = some 67 → 2 ≤ n ∧ (∀ c ∈ (s.extract 0 (n - 1)).data.toList, isX c = true) ∧ numN (s.extract 0 n).data.toList = (valR 8 255 (s.extract 0 (n - 1)).data.toList).map (mkNum 3)
 c66 : s.data.toList[n - 1]? = some 66 → 2 ≤ n ∧ (∀ c ∈ (s.extract 0 (n - 1)).data.toList, isX c = true) ∧ numN (s.extract 0 n).data.toList = (valR 8 65535 (s.extract 0 (n - 1)).data.toList).map (mkNum 2)
 cd : ∀ x, s.data.toList[n - 1]? = some x → x ≠ 72 → x ≠ 67 → x ≠ 66 → (∀ c ∈ (s.extract 0 n).data.toList, isX c = true) ∧ numN (s.extract 0 n).data.toList = (valR 10 65535 (s.extract 0 n).data.toList).map (mkNum 2)
theorem take_last {l : List UInt8} {n : Nat} {x : UInt8} (h1 : 1 ≤ n) (hx : l[n - 1]? = some x) : l.take n = l.take (n - 1) ++ [x] := by
 obtain ⟨m, rfl⟩ : ∃ m, n = m + 1 := ⟨n - 1, by omega⟩
 simp only [Nat.add_sub_cancel] at hx ⊢
 rw [List.take_add_one, hx]
 rfl
theorem numN_snoc (h : List UInt8) (x : UInt8) : numN (h ++ [x]) = numX x h (h ++ [x]) := by
 unfold numN
 rw [List.getLast?_concat, List.dropLast_concat]
 rfl
theorem not10 {h : List UInt8} {x : UInt8} (hx : 10 ≤ dgt x) : (valR 10 65535 (h ++ [x])) = none := by
 rw [valR_pU 10 65535 (by omega) (by omega) (by simp)]
 obtain ⟨k, hk⟩ := pU10_last (l := h) hx 0
 rw [hk]
theorem runN_pos0 {p : UInt8 → Bool} {s : List UInt8} {c : UInt8} (h : s.head? = some c) (hc : p c = true) : 1 ≤ runN p s := by
 rcases s with _ | ⟨a, r⟩
 ·cases h
 ·injection h with h; subst h; rw [runN_yes hc]; omega
theorem num_at (s : ByteArray) (h0 : 0 < s.size) (hd : isD s[0] = true) (m n : Nat) (hm : runN isX s.data.toList = m) (hn : n = m ∧ s.data.toList[m]? ≠ some 72 ∨ n = m + 1 ∧ s.data.toList[m]? = some 72) : NumAt s n := by
 have hm1 : 1 ≤ m := by
  have := runN_pos0 (p := isX) (s := s.data.toList) (c := s[0]) (head_at s h0) (isX_of_isD hd)
  omega
 have hml : m ≤ s.data.toList.length := by rw [← hm]; exact runN_le _ _
 have hls : s.data.toList.length = s.size := by simp
 have hall := runN_all isX s.data.toList
 rw [hm] at hall
 have hnl : n ≤ s.size := by
  rcases hn with ⟨rfl, _⟩ | ⟨rfl, h⟩
  ·omega
  ·obtain ⟨h, _⟩ := List.getElem?_eq_some_iff.1 h; omega
 have hX1 : ∀ c ∈ s.data.toList.take (n - 1), isX c = true := by
  intro c hc
  refine hall c ?_
  have : (s.data.toList.take m).take (n - 1) = s.data.toList.take (n - 1) := by
   rw [List.take_take]; congr 1; omega
  rw [← this] at hc
  exact List.mem_of_mem_take hc
 have h2 : ∀ x, s.data.toList[n - 1]? = some x → isD x = false → 2 ≤ n := by
  intro x hx hnd
  rcases Nat.lt_or_ge n 2 with h | h
  ·exfalso
   have e : n - 1 = 0 := by omega
   rw [e] at hx
   have hh := head_at s h0
   rw [List.head?_eq_getElem?, hx] at hh
   injection hh with hh
   rw [hh, hd] at hnd
   cases hnd
  ·exact h
 refine ⟨by omega, hnl, ?_, ?_, ?_, ?_⟩
 ·intro hx
  refine ⟨h2 _ hx rfl, by rw [take_data]; exact hX1, ?_⟩
  rw [take_data, take_data, take_last (by omega) hx, numN_snoc]
  unfold numX
  rw [if_pos rfl]
 ·intro hx
  refine ⟨h2 _ hx rfl, by rw [take_data]; exact hX1, ?_⟩
  rw [take_data, take_data, take_last (by omega) hx, numN_snoc]
  unfold numX
  rw [if_neg (by decide), not10 (by decide), if_neg (by simp), if_neg (by decide), if_pos rfl]
 ·intro hx
  refine ⟨h2 _ hx rfl, by rw [take_data]; exact hX1, ?_⟩
  rw [take_data, take_data, take_last (by omega) hx, numN_snoc]
  unfold numX
  rw [if_neg (by decide), not10 (by decide), if_neg (by simp), if_pos rfl]
 ·intro x hx n72 n67 n66
  have hnm : n = m := by
   rcases hn with ⟨h, _⟩ | ⟨h, h72⟩
   ·exact h
   ·exfalso
    rw [h, Nat.add_sub_cancel, h72] at hx
    injection hx with hx
    exact n72 hx.symm
  refine ⟨by rw [take_data, hnm]; exact hall, ?_⟩
  rw [take_data, take_last (by omega) hx, numN_snoc]
  unfold numX
  rw [if_neg n72]
  cases hv : valR 10 65535 (s.data.toList.take (n - 1) ++ [x]) with
  | none => rw [if_neg (by simp), if_neg n66, if_neg n67]; rfl
  | some v => rfl
theorem num_by (B M k : Nat) (hB : 2 ≤ B) (hM : M < 18446744073709551616) {l : List UInt8} (hl : l ≠ []) : (valR B M l).map (mkNum k) = match pU B 0 l with | .ok v => if v ≤ M then some (mkNum k v) else none | .error _ => none := by
 rw [valR_pU B M hB hM hl]
 cases pU B 0 l with
 | error e => rfl
 | ok v =>
   dsimp only
   split <;> rfl
theorem ne_u8 {x : UInt8} (k : Nat) (h : k < 256) (hx : x ≠ UInt8.ofNat k) : ((x.toNat : Int) == (k : Int)) = false := by
 simp only [beq_eq_false_iff_ne, ne_eq]
 intro e
 apply hx
 apply UInt8.toNat_inj.1
 rw [UInt8.toNat_ofNat']
 omega
theorem number_anyP (s : ByteArray) (h0 : 0 < s.size) (hs : s.size ≤ 281474976710656) (hd : isD s[0] = true) {w : World} (E : EnvS w) :
 Calls Tryz.prog 69 #[.string s] w fun e w' => tokEnd s.data.toList (oneN s.data.toList) e ∧ Below w.heap.size w w' := by
 have HR := qh (run_hex s (by omega))
 have HLE := qh (runN_le isX s.data.toList)
 have HNA := qh (num_at s h0 hd)
 have HDA := qh (digit_at s h0 (by omega) hd)
 have HEn := qh E
 have hls : s.data.toList.length = s.size := by simp
 clear E
 go_enter Tryz.func69, Tryz.ntmps69
 go_wp2_with fail
 ((with_reducible refine (HR.out _).mono ?_); rintro e w1 ⟨rfl, rfl⟩)
 clear HR
 generalize hm : runN isX s.data.toList = m at *
 have hml : m ≤ s.size := by have := HLE.out; omega
 have x0 : (0 : Int) ≤ (m : Int) := by omega
 have hcase : ∃ n, (n = m ∧ s.data.toList[m]? ≠ some 72 ∨ n = m + 1 ∧ s.data.toList[m]? = some 72) := by
  by_cases h : s.data.toList[m]? = some 72
  ·exact ⟨m + 1, .inr ⟨rfl, h⟩⟩
  ·exact ⟨m, .inl ⟨rfl, h⟩⟩
 obtain ⟨n, hn⟩ := hcase
 have HN := HNA.out m n rfl hn
 have HA := HDA.out m n rfl hn
 clear HNA HDA HLE hm
 rcases hn with ⟨hnm, h72⟩ | ⟨hnm, h72⟩
 ·subst hnm
  by_cases hlt : n < s.size
  case' pos =>
   have x1 : (n : Int) < (s.size : Int) := by omega
   have x2 : ((s[n].toNat : Int) == 72) = false := ne_u8 72 (by omega) (fun e => h72 (by
    have := congrArg List.head? (drop_cons s n hlt); rw [List.head?_drop] at this; rw [this, e]; rfl))
  case' neg =>
   have x1 : ¬ (n : Int) < (s.size : Int) := by omega
   have x2 : decide ((n : Int) < (s.size : Int)) = false := decide_eq_false x1
  all_goals
   clear h72
   -- n bytes are taken
   have hn1 := HN.n1
   have hnl := HN.le
   have i0 : (0 : Int) ≤ ((n - 1 : Nat) : Int) := by omega
   have i1 : ((n - 1 : Nat) : Int) < (s.size : Int) := by omega
   have i2 : ((n - 1 : Nat) : Int) ≤ (s.size : Int) := by omega
   have i3 : (0 : Int) ≤ (n : Int) := by omega
   have i4 : (n : Int) ≤ (s.size : Int) := by omega
   have hkk : n - 1 < s.size := by omega
   have HNL := qh (show n ≤ s.data.toList.length by rw [hls]; exact hnl)
   have hx : s.data.toList[n - 1]? = some s[n - 1] := by have := congrArg List.head? (drop_cons s (n - 1) hkk); rw [List.head?_drop] at this; rw [this]; rfl
   have g72 : s[n - 1] ≠ 72 → ((s[n - 1].toNat : Int) == 72) = false := fun h => ne_u8 72 (by omega) h
   have g67 : s[n - 1] ≠ 67 → ((s[n - 1].toNat : Int) == 67) = false := fun h => ne_u8 67 (by omega) h
   have g66 : s[n - 1] ≠ 66 → ((s[n - 1].toNat : Int) == 66) = false := fun h => ne_u8 66 (by omega) h
   by_cases e72 : s[n - 1] = 72
   ·have b72 : ((s[n - 1].toNat : Int) == 72) = true := by rw [e72]; rfl
    obtain ⟨hn2, HX2, HR2⟩ := HN.c72 (by rw [hx, e72])
    clear g72 g67 g66 e72 hx
    have hz0 : (s.extract 0 (n - 1)).size ≠ 0 := by rw [ByteArray.size_extract]; omega
    have hzl : (s.extract 0 (n - 1)).data.toList ≠ [] := fun e => hz0 ((empty_iff _).1 e)
    have hR := HR2.trans (num_by 16 65535 2 (by omega) (by omega) hzl)
    have HP := qh (fun (w' : World) (E' : EnvS w') => parseP 16 (by omega) (s.extract 0 (n - 1)) hz0 (by simp; omega) HX2 E')
    have HRR := qh hR
    have HPL := qh (pU_lt (s.extract 0 (n - 1)).data.toList 16 0)
    have HNS := qh HA.none
    have HSM := qh HA.some
    clear hR HR2 HX2 hz0 hzl HA HN
    go_wp2_with fail
    refine (HP.out _ (HEn.out.below nl (((Below.refl _ _).alloc nl _).alloc (by simp) _))).mono ?_
    rintro e w3 ⟨he, hb⟩
    have hz := hb.size
    rw [World.size_alloc, World.size_alloc] at hz
    have hlt1 : w.heap.size < w3.heap.size := by omega
    have hlt2 : w.heap.size + 1 < w3.heap.size := by omega
    have hB0 := ((Blk.new w 40 #[.int .u8 0, .complex .f64 0 0, .complex .f64 0 0, .string ⟨#[]⟩, .int .i64 0]).alloc (.cells #[.int .u8 2, .complex .f64 0 0, .complex .f64 0 0, .string ⟨#[]⟩, .int .i64 0] 40)).below hb (by simp; omega)
    have hB1 := (Blk.new (w.alloc (.cells #[.int .u8 0, .complex .f64 0 0, .complex .f64 0 0, .string ⟨#[]⟩, .int .i64 0] 40)) 40 #[.int .u8 2, .complex .f64 0 0, .complex .f64 0 0, .string ⟨#[]⟩, .int .i64 0]).below hb (by simp)
    rw [World.size_alloc] at hB1
    have hBl : Hid (Below w.heap.size w w3) := qh ((((Below.refl w.heap.size w).alloc nl _).alloc (by simp) _).trans (hb.mono (by simp; omega)))
    obtain ⟨m0, m1, m2, m3, m4, f0, f1, f2, f3, f4⟩ := hB0.tok
    obtain ⟨p0, p1, p2, p3, p4, q0, q1, q2, q3, q4⟩ := hB1.tok
    have HB0 := qh hB0
    clear hB0 hB1 hb hz
    cases hr : pU 16 0 (s.extract 0 (n - 1)).data.toList with
    | error kk =>
      rw [hr] at he
      obtain ⟨v, T, p, he⟩ := he
      subst he
      have HO := qh (HNS.out (by rw [HRR.out, hr]))
      clear HNS HSM HRR hr HPL HP
      go_wp2
      (try simp only [Exit.inBlock, Exit.then])
      refine bodyPost_ret (tok_ret3 rfl _ _ w.heap.size _ _ _ _ _ rfl (tok_stored HB0.out _ _ _ _ _)) rfl ?_
      refine ⟨?_, below_stored hBl.out nl _ _ _ _ _⟩
      rw [HO.out]
      exact ⟨⟨2, ⟨#[]⟩, 0⟩, n, HNL.out, by rw [tok_vals0]; rfl⟩
    | ok v =>
      have hvl := HPL.out v (by omega) hr
      rw [hr] at he
      have he2 : e = .returned (.tuple #[.int .u64 (v : Nat), .nilIface]) := he
      subst he2
      clear he
      by_cases hv : v ≤ 65535
      ·have HO := qh (HSM.out (mkNum 2 v) (by rw [HRR.out, hr]; exact if_pos hv))
       have wv : IntKind.i64.wrap (v : Int) = (v : Int) := IntWalk.i64_in _ (by omega)
       have tv : ¬ (65535 : Int) < (v : Int) := by omega
       have HVV := qh hvl
       clear HNS HSM HRR hr HPL HP hv hvl
       go_wp2
       (try simp only [Exit.inBlock, Exit.then])
       refine bodyPost_ret (tok_ret3 rfl _ _ w.heap.size _ _ _ _ _ rfl (tok_stored (HB0.out.far (by simp) _) _ _ _ _ _)) rfl ?_
       refine ⟨?_, below_stored (hBl.out.setCell (by simp) _) nl _ _ _ _ _⟩
       rw [HO.out]
       simp [tokEnd, tok_vals0, mkNum]
      ·have HO := qh (HNS.out (by rw [HRR.out, hr]; exact if_neg hv))
       have tv : (65535 : Int) < (v : Int) := by omega
       clear HNS HSM HRR hr HPL HP hv
       go_wp2
       (try simp only [Exit.inBlock, Exit.then])
       refine bodyPost_ret (tok_ret3 rfl _ _ w.heap.size _ _ _ _ _ rfl (tok_stored HB0.out _ _ _ _ _)) rfl ?_
       refine ⟨?_, below_stored hBl.out nl _ _ _ _ _⟩
       rw [HO.out]
       exact ⟨⟨2, ⟨#[]⟩, 0⟩, n, HNL.out, by rw [tok_vals0]; rfl⟩
   have b72 := g72 e72
   by_cases e67 : s[n - 1] = 67
   ·have b67 : ((s[n - 1].toNat : Int) == 67) = true := by rw [e67]; rfl
    obtain ⟨hn2, HX2, HR2⟩ := HN.c67 (by rw [hx, e67])
    clear g72 g67 g66 e67 hx
    have hz0 : (s.extract 0 (n - 1)).size ≠ 0 := by rw [ByteArray.size_extract]; omega
    have hzl : (s.extract 0 (n - 1)).data.toList ≠ [] := fun e => hz0 ((empty_iff _).1 e)
    have hR := HR2.trans (num_by 8 255 3 (by omega) (by omega) hzl)
    have HP := qh (fun (w' : World) (E' : EnvS w') => parseP 8 (by omega) (s.extract 0 (n - 1)) hz0 (by simp; omega) HX2 E')
    have HRR := qh hR
    have HPL := qh (pU_lt (s.extract 0 (n - 1)).data.toList 8 0)
    have HNS := qh HA.none
    have HSM := qh HA.some
    clear hR HR2 HX2 hz0 hzl HA HN
    go_wp2_with fail
    refine (HP.out _ (HEn.out.below nl (((Below.refl _ _).alloc nl _).alloc (by simp) _))).mono ?_
    rintro e w3 ⟨he, hb⟩
    have hz := hb.size
    rw [World.size_alloc, World.size_alloc] at hz
    have hlt1 : w.heap.size < w3.heap.size := by omega
    have hlt2 : w.heap.size + 1 < w3.heap.size := by omega
    have hB0 := ((Blk.new w 40 #[.int .u8 0, .complex .f64 0 0, .complex .f64 0 0, .string ⟨#[]⟩, .int .i64 0]).alloc (.cells #[.int .u8 3, .complex .f64 0 0, .complex .f64 0 0, .string ⟨#[]⟩, .int .i64 0] 40)).below hb (by simp; omega)
    have hB1 := (Blk.new (w.alloc (.cells #[.int .u8 0, .complex .f64 0 0, .complex .f64 0 0, .string ⟨#[]⟩, .int .i64 0] 40)) 40 #[.int .u8 3, .complex .f64 0 0, .complex .f64 0 0, .string ⟨#[]⟩, .int .i64 0]).below hb (by simp)
    rw [World.size_alloc] at hB1
    have hBl : Hid (Below w.heap.size w w3) := qh ((((Below.refl w.heap.size w).alloc nl _).alloc (by simp) _).trans (hb.mono (by simp; omega)))
    obtain ⟨m0, m1, m2, m3, m4, f0, f1, f2, f3, f4⟩ := hB0.tok
    obtain ⟨p0, p1, p2, p3, p4, q0, q1, q2, q3, q4⟩ := hB1.tok
    have HB0 := qh hB0
    clear hB0 hB1 hb hz
    cases hr : pU 8 0 (s.extract 0 (n - 1)).data.toList with
    | error kk =>
      rw [hr] at he
      obtain ⟨v, T, p, he⟩ := he
      subst he
      have HO := qh (HNS.out (by rw [HRR.out, hr]))
      clear HNS HSM HRR hr HPL HP
      go_wp2
      (try simp only [Exit.inBlock, Exit.then])
      refine bodyPost_ret (tok_ret3 rfl _ _ w.heap.size _ _ _ _ _ rfl (tok_stored HB0.out _ _ _ _ _)) rfl ?_
      refine ⟨?_, below_stored hBl.out nl _ _ _ _ _⟩
      rw [HO.out]
      exact ⟨⟨3, ⟨#[]⟩, 0⟩, n, HNL.out, by rw [tok_vals0]; rfl⟩
    | ok v =>
      have hvl := HPL.out v (by omega) hr
      rw [hr] at he
      have he2 : e = .returned (.tuple #[.int .u64 (v : Nat), .nilIface]) := he
      subst he2
      clear he
      by_cases hv : v ≤ 255
      ·have HO := qh (HSM.out (mkNum 3 v) (by rw [HRR.out, hr]; exact if_pos hv))
       have wv : IntKind.i64.wrap (v : Int) = (v : Int) := IntWalk.i64_in _ (by omega)
       have tv : ¬ (255 : Int) < (v : Int) := by omega
       have HVV := qh hvl
       clear HNS HSM HRR hr HPL HP hv hvl
       go_wp2
       (try simp only [Exit.inBlock, Exit.then])
       refine bodyPost_ret (tok_ret3 rfl _ _ w.heap.size _ _ _ _ _ rfl (tok_stored (HB0.out.far (by simp) _) _ _ _ _ _)) rfl ?_
       refine ⟨?_, below_stored (hBl.out.setCell (by simp) _) nl _ _ _ _ _⟩
       rw [HO.out]
       simp [tokEnd, tok_vals0, mkNum]
      ·have HO := qh (HNS.out (by rw [HRR.out, hr]; exact if_neg hv))
       have tv : (255 : Int) < (v : Int) := by omega
       clear HNS HSM HRR hr HPL HP hv
       go_wp2
       (try simp only [Exit.inBlock, Exit.then])
       refine bodyPost_ret (tok_ret3 rfl _ _ w.heap.size _ _ _ _ _ rfl (tok_stored HB0.out _ _ _ _ _)) rfl ?_
       refine ⟨?_, below_stored hBl.out nl _ _ _ _ _⟩
       rw [HO.out]
       exact ⟨⟨3, ⟨#[]⟩, 0⟩, n, HNL.out, by rw [tok_vals0]; rfl⟩
   have b67 := g67 e67
   by_cases e66 : s[n - 1] = 66
   ·have b66 : ((s[n - 1].toNat : Int) == 66) = true := by rw [e66]; rfl
    obtain ⟨hn2, HX2, HR2⟩ := HN.c66 (by rw [hx, e66])
    clear g72 g67 g66 e66 hx
    have hz0 : (s.extract 0 (n - 1)).size ≠ 0 := by rw [ByteArray.size_extract]; omega
    have hzl : (s.extract 0 (n - 1)).data.toList ≠ [] := fun e => hz0 ((empty_iff _).1 e)
    have hR := HR2.trans (num_by 8 65535 2 (by omega) (by omega) hzl)
    have HP := qh (fun (w' : World) (E' : EnvS w') => parseP 8 (by omega) (s.extract 0 (n - 1)) hz0 (by simp; omega) HX2 E')
    have HRR := qh hR
    have HPL := qh (pU_lt (s.extract 0 (n - 1)).data.toList 8 0)
    have HNS := qh HA.none
    have HSM := qh HA.some
    clear hR HR2 HX2 hz0 hzl HA HN
    go_wp2_with fail
    refine (HP.out _ (HEn.out.below nl (((Below.refl _ _).alloc nl _).alloc (by simp) _))).mono ?_
    rintro e w3 ⟨he, hb⟩
    have hz := hb.size
    rw [World.size_alloc, World.size_alloc] at hz
    have hlt1 : w.heap.size < w3.heap.size := by omega
    have hlt2 : w.heap.size + 1 < w3.heap.size := by omega
    have hB0 := ((Blk.new w 40 #[.int .u8 0, .complex .f64 0 0, .complex .f64 0 0, .string ⟨#[]⟩, .int .i64 0]).alloc (.cells #[.int .u8 2, .complex .f64 0 0, .complex .f64 0 0, .string ⟨#[]⟩, .int .i64 0] 40)).below hb (by simp; omega)
    have hB1 := (Blk.new (w.alloc (.cells #[.int .u8 0, .complex .f64 0 0, .complex .f64 0 0, .string ⟨#[]⟩, .int .i64 0] 40)) 40 #[.int .u8 2, .complex .f64 0 0, .complex .f64 0 0, .string ⟨#[]⟩, .int .i64 0]).below hb (by simp)
    rw [World.size_alloc] at hB1
    have hBl : Hid (Below w.heap.size w w3) := qh ((((Below.refl w.heap.size w).alloc nl _).alloc (by simp) _).trans (hb.mono (by simp; omega)))
    obtain ⟨m0, m1, m2, m3, m4, f0, f1, f2, f3, f4⟩ := hB0.tok
    obtain ⟨p0, p1, p2, p3, p4, q0, q1, q2, q3, q4⟩ := hB1.tok
    have HB0 := qh hB0
    clear hB0 hB1 hb hz
    cases hr : pU 8 0 (s.extract 0 (n - 1)).data.toList with
    | error kk =>
      rw [hr] at he
      obtain ⟨v, T, p, he⟩ := he
      subst he
      have HO := qh (HNS.out (by rw [HRR.out, hr]))
      clear HNS HSM HRR hr HPL HP
      go_wp2
      (try simp only [Exit.inBlock, Exit.then])
      refine bodyPost_ret (tok_ret3 rfl _ _ w.heap.size _ _ _ _ _ rfl (tok_stored HB0.out _ _ _ _ _)) rfl ?_
      refine ⟨?_, below_stored hBl.out nl _ _ _ _ _⟩
      rw [HO.out]
      exact ⟨⟨2, ⟨#[]⟩, 0⟩, n, HNL.out, by rw [tok_vals0]; rfl⟩
    | ok v =>
      have hvl := HPL.out v (by omega) hr
      rw [hr] at he
      have he2 : e = .returned (.tuple #[.int .u64 (v : Nat), .nilIface]) := he
      subst he2
      clear he
      by_cases hv : v ≤ 65535
      ·have HO := qh (HSM.out (mkNum 2 v) (by rw [HRR.out, hr]; exact if_pos hv))
       have wv : IntKind.i64.wrap (v : Int) = (v : Int) := IntWalk.i64_in _ (by omega)
       have tv : ¬ (65535 : Int) < (v : Int) := by omega
       have HVV := qh hvl
       clear HNS HSM HRR hr HPL HP hv hvl
       go_wp2
       (try simp only [Exit.inBlock, Exit.then])
       refine bodyPost_ret (tok_ret3 rfl _ _ w.heap.size _ _ _ _ _ rfl (tok_stored (HB0.out.far (by simp) _) _ _ _ _ _)) rfl ?_
       refine ⟨?_, below_stored (hBl.out.setCell (by simp) _) nl _ _ _ _ _⟩
       rw [HO.out]
       simp [tokEnd, tok_vals0, mkNum]
      ·have HO := qh (HNS.out (by rw [HRR.out, hr]; exact if_neg hv))
       have tv : (65535 : Int) < (v : Int) := by omega
       clear HNS HSM HRR hr HPL HP hv
       go_wp2
       (try simp only [Exit.inBlock, Exit.then])
       refine bodyPost_ret (tok_ret3 rfl _ _ w.heap.size _ _ _ _ _ rfl (tok_stored HB0.out _ _ _ _ _)) rfl ?_
       refine ⟨?_, below_stored hBl.out nl _ _ _ _ _⟩
       rw [HO.out]
       exact ⟨⟨2, ⟨#[]⟩, 0⟩, n, HNL.out, by rw [tok_vals0]; rfl⟩
   have b66 := g66 e66
   obtain ⟨HX2, HR2⟩ := HN.cd _ hx e72 e67 e66
   clear g72 g67 g66 e72 e67 e66 hx
   have hz0 : (s.extract 0 n).size ≠ 0 := by rw [ByteArray.size_extract]; omega
   have hzl : (s.extract 0 n).data.toList ≠ [] := fun e => hz0 ((empty_iff _).1 e)
   have hR := HR2.trans (num_by 10 65535 2 (by omega) (by omega) hzl)
   have HP := qh (fun (w' : World) (E' : EnvS w') => parseP 10 (by omega) (s.extract 0 n) hz0 (by simp; omega) HX2 E')
   have HRR := qh hR
   have HPL := qh (pU_lt (s.extract 0 n).data.toList 10 0)
   have HNS := qh HA.none
   have HSM := qh HA.some
   clear hR HR2 HX2 hz0 hzl HA HN
   go_wp2_with fail
   refine (HP.out _ (HEn.out.below nl (((Below.refl _ _).alloc nl _).alloc (by simp) _))).mono ?_
   rintro e w3 ⟨he, hb⟩
   have hz := hb.size
   rw [World.size_alloc, World.size_alloc] at hz
   have hlt1 : w.heap.size < w3.heap.size := by omega
   have hlt2 : w.heap.size + 1 < w3.heap.size := by omega
   have hB0 := ((Blk.new w 40 #[.int .u8 0, .complex .f64 0 0, .complex .f64 0 0, .string ⟨#[]⟩, .int .i64 0]).alloc (.cells #[.int .u8 2, .complex .f64 0 0, .complex .f64 0 0, .string ⟨#[]⟩, .int .i64 0] 40)).below hb (by simp; omega)
   have hB1 := (Blk.new (w.alloc (.cells #[.int .u8 0, .complex .f64 0 0, .complex .f64 0 0, .string ⟨#[]⟩, .int .i64 0] 40)) 40 #[.int .u8 2, .complex .f64 0 0, .complex .f64 0 0, .string ⟨#[]⟩, .int .i64 0]).below hb (by simp)
   rw [World.size_alloc] at hB1
   have hBl : Hid (Below w.heap.size w w3) := qh ((((Below.refl w.heap.size w).alloc nl _).alloc (by simp) _).trans (hb.mono (by simp; omega)))
   obtain ⟨m0, m1, m2, m3, m4, f0, f1, f2, f3, f4⟩ := hB0.tok
   obtain ⟨p0, p1, p2, p3, p4, q0, q1, q2, q3, q4⟩ := hB1.tok
   have HB0 := qh hB0
   clear hB0 hB1 hb hz
   cases hr : pU 10 0 (s.extract 0 n).data.toList with
   | error kk =>
     rw [hr] at he
     obtain ⟨v, T, p, he⟩ := he
     subst he
     have HO := qh (HNS.out (by rw [HRR.out, hr]))
     clear HNS HSM HRR hr HPL HP
     go_wp2
     (try simp only [Exit.inBlock, Exit.then])
     refine bodyPost_ret (tok_ret3 rfl _ _ w.heap.size _ _ _ _ _ rfl (tok_stored HB0.out _ _ _ _ _)) rfl ?_
     refine ⟨?_, below_stored hBl.out nl _ _ _ _ _⟩
     rw [HO.out]
     exact ⟨⟨2, ⟨#[]⟩, 0⟩, n, HNL.out, by rw [tok_vals0]; rfl⟩
   | ok v =>
     have hvl := HPL.out v (by omega) hr
     rw [hr] at he
     have he2 : e = .returned (.tuple #[.int .u64 (v : Nat), .nilIface]) := he
     subst he2
     clear he
     by_cases hv : v ≤ 65535
     ·have HO := qh (HSM.out (mkNum 2 v) (by rw [HRR.out, hr]; exact if_pos hv))
      have wv : IntKind.i64.wrap (v : Int) = (v : Int) := IntWalk.i64_in _ (by omega)
      have tv : ¬ (65535 : Int) < (v : Int) := by omega
      have HVV := qh hvl
      clear HNS HSM HRR hr HPL HP hv hvl
      go_wp2
      (try simp only [Exit.inBlock, Exit.then])
      refine bodyPost_ret (tok_ret3 rfl _ _ w.heap.size _ _ _ _ _ rfl (tok_stored (HB0.out.far (by simp) _) _ _ _ _ _)) rfl ?_
      refine ⟨?_, below_stored (hBl.out.setCell (by simp) _) nl _ _ _ _ _⟩
      rw [HO.out]
      simp [tokEnd, tok_vals0, mkNum]
     ·have HO := qh (HNS.out (by rw [HRR.out, hr]; exact if_neg hv))
      have tv : (65535 : Int) < (v : Int) := by omega
      clear HNS HSM HRR hr HPL HP hv
      go_wp2
      (try simp only [Exit.inBlock, Exit.then])
      refine bodyPost_ret (tok_ret3 rfl _ _ w.heap.size _ _ _ _ _ rfl (tok_stored HB0.out _ _ _ _ _)) rfl ?_
      refine ⟨?_, below_stored hBl.out nl _ _ _ _ _⟩
      rw [HO.out]
      exact ⟨⟨2, ⟨#[]⟩, 0⟩, n, HNL.out, by rw [tok_vals0]; rfl⟩
 ·have hlt : m < s.size := by obtain ⟨h, _⟩ := List.getElem?_eq_some_iff.1 h72; omega
  have x1 : (m : Int) < (s.size : Int) := by omega
  have x2 : ((s[m].toNat : Int) == 72) = true := by
   have := congrArg List.head? (drop_cons s m hlt)
   rw [List.head?_drop, h72] at this
   injection this with this
   rw [← this]; rfl
  have hmn : (m : Int) + 1 = (n : Nat) := by omega
  clear h72 hnm hml
  -- n bytes are taken
  have hn1 := HN.n1
  have hnl := HN.le
  have i0 : (0 : Int) ≤ ((n - 1 : Nat) : Int) := by omega
  have i1 : ((n - 1 : Nat) : Int) < (s.size : Int) := by omega
  have i2 : ((n - 1 : Nat) : Int) ≤ (s.size : Int) := by omega
  have i3 : (0 : Int) ≤ (n : Int) := by omega
  have i4 : (n : Int) ≤ (s.size : Int) := by omega
  have hkk : n - 1 < s.size := by omega
  have HNL := qh (show n ≤ s.data.toList.length by rw [hls]; exact hnl)
  have hx : s.data.toList[n - 1]? = some s[n - 1] := by have := congrArg List.head? (drop_cons s (n - 1) hkk); rw [List.head?_drop] at this; rw [this]; rfl
  have g72 : s[n - 1] ≠ 72 → ((s[n - 1].toNat : Int) == 72) = false := fun h => ne_u8 72 (by omega) h
  have g67 : s[n - 1] ≠ 67 → ((s[n - 1].toNat : Int) == 67) = false := fun h => ne_u8 67 (by omega) h
  have g66 : s[n - 1] ≠ 66 → ((s[n - 1].toNat : Int) == 66) = false := fun h => ne_u8 66 (by omega) h
  by_cases e72 : s[n - 1] = 72
  ·have b72 : ((s[n - 1].toNat : Int) == 72) = true := by rw [e72]; rfl
   obtain ⟨hn2, HX2, HR2⟩ := HN.c72 (by rw [hx, e72])
   clear g72 g67 g66 e72 hx
   have hz0 : (s.extract 0 (n - 1)).size ≠ 0 := by rw [ByteArray.size_extract]; omega
   have hzl : (s.extract 0 (n - 1)).data.toList ≠ [] := fun e => hz0 ((empty_iff _).1 e)
   have hR := HR2.trans (num_by 16 65535 2 (by omega) (by omega) hzl)
   have HP := qh (fun (w' : World) (E' : EnvS w') => parseP 16 (by omega) (s.extract 0 (n - 1)) hz0 (by simp; omega) HX2 E')
   have HRR := qh hR
   have HPL := qh (pU_lt (s.extract 0 (n - 1)).data.toList 16 0)
   have HNS := qh HA.none
   have HSM := qh HA.some
   clear hR HR2 HX2 hz0 hzl HA HN
   go_wp2_with fail
   refine (HP.out _ (HEn.out.below nl (((Below.refl _ _).alloc nl _).alloc (by simp) _))).mono ?_
   rintro e w3 ⟨he, hb⟩
   have hz := hb.size
   rw [World.size_alloc, World.size_alloc] at hz
   have hlt1 : w.heap.size < w3.heap.size := by omega
   have hlt2 : w.heap.size + 1 < w3.heap.size := by omega
   have hB0 := ((Blk.new w 40 #[.int .u8 0, .complex .f64 0 0, .complex .f64 0 0, .string ⟨#[]⟩, .int .i64 0]).alloc (.cells #[.int .u8 2, .complex .f64 0 0, .complex .f64 0 0, .string ⟨#[]⟩, .int .i64 0] 40)).below hb (by simp; omega)
   have hB1 := (Blk.new (w.alloc (.cells #[.int .u8 0, .complex .f64 0 0, .complex .f64 0 0, .string ⟨#[]⟩, .int .i64 0] 40)) 40 #[.int .u8 2, .complex .f64 0 0, .complex .f64 0 0, .string ⟨#[]⟩, .int .i64 0]).below hb (by simp)
   rw [World.size_alloc] at hB1
   have hBl : Hid (Below w.heap.size w w3) := qh ((((Below.refl w.heap.size w).alloc nl _).alloc (by simp) _).trans (hb.mono (by simp; omega)))
   obtain ⟨m0, m1, m2, m3, m4, f0, f1, f2, f3, f4⟩ := hB0.tok
   obtain ⟨p0, p1, p2, p3, p4, q0, q1, q2, q3, q4⟩ := hB1.tok
   have HB0 := qh hB0
   clear hB0 hB1 hb hz
   cases hr : pU 16 0 (s.extract 0 (n - 1)).data.toList with
   | error kk =>
     rw [hr] at he
     obtain ⟨v, T, p, he⟩ := he
     subst he
     have HO := qh (HNS.out (by rw [HRR.out, hr]))
     clear HNS HSM HRR hr HPL HP
     go_wp2
     (try simp only [Exit.inBlock, Exit.then])
     refine bodyPost_ret (tok_ret3 rfl _ _ w.heap.size _ _ _ _ _ rfl (tok_stored HB0.out _ _ _ _ _)) rfl ?_
     refine ⟨?_, below_stored hBl.out nl _ _ _ _ _⟩
     rw [HO.out]
     exact ⟨⟨2, ⟨#[]⟩, 0⟩, n, HNL.out, by rw [tok_vals0]; rfl⟩
   | ok v =>
     have hvl := HPL.out v (by omega) hr
     rw [hr] at he
     have he2 : e = .returned (.tuple #[.int .u64 (v : Nat), .nilIface]) := he
     subst he2
     clear he
     by_cases hv : v ≤ 65535
     ·have HO := qh (HSM.out (mkNum 2 v) (by rw [HRR.out, hr]; exact if_pos hv))
      have wv : IntKind.i64.wrap (v : Int) = (v : Int) := IntWalk.i64_in _ (by omega)
      have tv : ¬ (65535 : Int) < (v : Int) := by omega
      have HVV := qh hvl
      clear HNS HSM HRR hr HPL HP hv hvl
      go_wp2
      (try simp only [Exit.inBlock, Exit.then])
      refine bodyPost_ret (tok_ret3 rfl _ _ w.heap.size _ _ _ _ _ rfl (tok_stored (HB0.out.far (by simp) _) _ _ _ _ _)) rfl ?_
      refine ⟨?_, below_stored (hBl.out.setCell (by simp) _) nl _ _ _ _ _⟩
      rw [HO.out]
      simp [tokEnd, tok_vals0, mkNum]
     ·have HO := qh (HNS.out (by rw [HRR.out, hr]; exact if_neg hv))
      have tv : (65535 : Int) < (v : Int) := by omega
      clear HNS HSM HRR hr HPL HP hv
      go_wp2
      (try simp only [Exit.inBlock, Exit.then])
      refine bodyPost_ret (tok_ret3 rfl _ _ w.heap.size _ _ _ _ _ rfl (tok_stored HB0.out _ _ _ _ _)) rfl ?_
      refine ⟨?_, below_stored hBl.out nl _ _ _ _ _⟩
      rw [HO.out]
      exact ⟨⟨2, ⟨#[]⟩, 0⟩, n, HNL.out, by rw [tok_vals0]; rfl⟩
  have b72 := g72 e72
  by_cases e67 : s[n - 1] = 67
  ·have b67 : ((s[n - 1].toNat : Int) == 67) = true := by rw [e67]; rfl
   obtain ⟨hn2, HX2, HR2⟩ := HN.c67 (by rw [hx, e67])
   clear g72 g67 g66 e67 hx
   have hz0 : (s.extract 0 (n - 1)).size ≠ 0 := by rw [ByteArray.size_extract]; omega
   have hzl : (s.extract 0 (n - 1)).data.toList ≠ [] := fun e => hz0 ((empty_iff _).1 e)
   have hR := HR2.trans (num_by 8 255 3 (by omega) (by omega) hzl)
   have HP := qh (fun (w' : World) (E' : EnvS w') => parseP 8 (by omega) (s.extract 0 (n - 1)) hz0 (by simp; omega) HX2 E')
   have HRR := qh hR
   have HPL := qh (pU_lt (s.extract 0 (n - 1)).data.toList 8 0)
   have HNS := qh HA.none
   have HSM := qh HA.some
   clear hR HR2 HX2 hz0 hzl HA HN
   go_wp2_with fail
   refine (HP.out _ (HEn.out.below nl (((Below.refl _ _).alloc nl _).alloc (by simp) _))).mono ?_
   rintro e w3 ⟨he, hb⟩
   have hz := hb.size
   rw [World.size_alloc, World.size_alloc] at hz
   have hlt1 : w.heap.size < w3.heap.size := by omega
   have hlt2 : w.heap.size + 1 < w3.heap.size := by omega
   have hB0 := ((Blk.new w 40 #[.int .u8 0, .complex .f64 0 0, .complex .f64 0 0, .string ⟨#[]⟩, .int .i64 0]).alloc (.cells #[.int .u8 3, .complex .f64 0 0, .complex .f64 0 0, .string ⟨#[]⟩, .int .i64 0] 40)).below hb (by simp; omega)
   have hB1 := (Blk.new (w.alloc (.cells #[.int .u8 0, .complex .f64 0 0, .complex .f64 0 0, .string ⟨#[]⟩, .int .i64 0] 40)) 40 #[.int .u8 3, .complex .f64 0 0, .complex .f64 0 0, .string ⟨#[]⟩, .int .i64 0]).below hb (by simp)
   rw [World.size_alloc] at hB1
   have hBl : Hid (Below w.heap.size w w3) := qh ((((Below.refl w.heap.size w).alloc nl _).alloc (by simp) _).trans (hb.mono (by simp; omega)))
   obtain ⟨m0, m1, m2, m3, m4, f0, f1, f2, f3, f4⟩ := hB0.tok
   obtain ⟨p0, p1, p2, p3, p4, q0, q1, q2, q3, q4⟩ := hB1.tok
   have HB0 := qh hB0
   clear hB0 hB1 hb hz
   cases hr : pU 8 0 (s.extract 0 (n - 1)).data.toList with
   | error kk =>
     rw [hr] at he
     obtain ⟨v, T, p, he⟩ := he
     subst he
     have HO := qh (HNS.out (by rw [HRR.out, hr]))
     clear HNS HSM HRR hr HPL HP
     go_wp2
     (try simp only [Exit.inBlock, Exit.then])
     refine bodyPost_ret (tok_ret3 rfl _ _ w.heap.size _ _ _ _ _ rfl (tok_stored HB0.out _ _ _ _ _)) rfl ?_
     refine ⟨?_, below_stored hBl.out nl _ _ _ _ _⟩
     rw [HO.out]
     exact ⟨⟨3, ⟨#[]⟩, 0⟩, n, HNL.out, by rw [tok_vals0]; rfl⟩
   | ok v =>
     have hvl := HPL.out v (by omega) hr
     rw [hr] at he
     have he2 : e = .returned (.tuple #[.int .u64 (v : Nat), .nilIface]) := he
     subst he2
     clear he
     by_cases hv : v ≤ 255
     ·have HO := qh (HSM.out (mkNum 3 v) (by rw [HRR.out, hr]; exact if_pos hv))
      have wv : IntKind.i64.wrap (v : Int) = (v : Int) := IntWalk.i64_in _ (by omega)
      have tv : ¬ (255 : Int) < (v : Int) := by omega
      have HVV := qh hvl
      clear HNS HSM HRR hr HPL HP hv hvl
      go_wp2
      (try simp only [Exit.inBlock, Exit.then])
      refine bodyPost_ret (tok_ret3 rfl _ _ w.heap.size _ _ _ _ _ rfl (tok_stored (HB0.out.far (by simp) _) _ _ _ _ _)) rfl ?_
      refine ⟨?_, below_stored (hBl.out.setCell (by simp) _) nl _ _ _ _ _⟩
      rw [HO.out]
      simp [tokEnd, tok_vals0, mkNum]
     ·have HO := qh (HNS.out (by rw [HRR.out, hr]; exact if_neg hv))
      have tv : (255 : Int) < (v : Int) := by omega
      clear HNS HSM HRR hr HPL HP hv
      go_wp2
      (try simp only [Exit.inBlock, Exit.then])
      refine bodyPost_ret (tok_ret3 rfl _ _ w.heap.size _ _ _ _ _ rfl (tok_stored HB0.out _ _ _ _ _)) rfl ?_
      refine ⟨?_, below_stored hBl.out nl _ _ _ _ _⟩
      rw [HO.out]
      exact ⟨⟨3, ⟨#[]⟩, 0⟩, n, HNL.out, by rw [tok_vals0]; rfl⟩
  have b67 := g67 e67
  by_cases e66 : s[n - 1] = 66
  ·have b66 : ((s[n - 1].toNat : Int) == 66) = true := by rw [e66]; rfl
   obtain ⟨hn2, HX2, HR2⟩ := HN.c66 (by rw [hx, e66])
   clear g72 g67 g66 e66 hx
   have hz0 : (s.extract 0 (n - 1)).size ≠ 0 := by rw [ByteArray.size_extract]; omega
   have hzl : (s.extract 0 (n - 1)).data.toList ≠ [] := fun e => hz0 ((empty_iff _).1 e)
   have hR := HR2.trans (num_by 8 65535 2 (by omega) (by omega) hzl)
   have HP := qh (fun (w' : World) (E' : EnvS w') => parseP 8 (by omega) (s.extract 0 (n - 1)) hz0 (by simp; omega) HX2 E')
   have HRR := qh hR
   have HPL := qh (pU_lt (s.extract 0 (n - 1)).data.toList 8 0)
   have HNS := qh HA.none
   have HSM := qh HA.some
   clear hR HR2 HX2 hz0 hzl HA HN
   go_wp2_with fail
   refine (HP.out _ (HEn.out.below nl (((Below.refl _ _).alloc nl _).alloc (by simp) _))).mono ?_
   rintro e w3 ⟨he, hb⟩
   have hz := hb.size
   rw [World.size_alloc, World.size_alloc] at hz
   have hlt1 : w.heap.size < w3.heap.size := by omega
   have hlt2 : w.heap.size + 1 < w3.heap.size := by omega
   have hB0 := ((Blk.new w 40 #[.int .u8 0, .complex .f64 0 0, .complex .f64 0 0, .string ⟨#[]⟩, .int .i64 0]).alloc (.cells #[.int .u8 2, .complex .f64 0 0, .complex .f64 0 0, .string ⟨#[]⟩, .int .i64 0] 40)).below hb (by simp; omega)
   have hB1 := (Blk.new (w.alloc (.cells #[.int .u8 0, .complex .f64 0 0, .complex .f64 0 0, .string ⟨#[]⟩, .int .i64 0] 40)) 40 #[.int .u8 2, .complex .f64 0 0, .complex .f64 0 0, .string ⟨#[]⟩, .int .i64 0]).below hb (by simp)
   rw [World.size_alloc] at hB1
   have hBl : Hid (Below w.heap.size w w3) := qh ((((Below.refl w.heap.size w).alloc nl _).alloc (by simp) _).trans (hb.mono (by simp; omega)))
   obtain ⟨m0, m1, m2, m3, m4, f0, f1, f2, f3, f4⟩ := hB0.tok
   obtain ⟨p0, p1, p2, p3, p4, q0, q1, q2, q3, q4⟩ := hB1.tok
   have HB0 := qh hB0
   clear hB0 hB1 hb hz
   cases hr : pU 8 0 (s.extract 0 (n - 1)).data.toList with
   | error kk =>
     rw [hr] at he
     obtain ⟨v, T, p, he⟩ := he
     subst he
     have HO := qh (HNS.out (by rw [HRR.out, hr]))
     clear HNS HSM HRR hr HPL HP
     go_wp2
     (try simp only [Exit.inBlock, Exit.then])
     refine bodyPost_ret (tok_ret3 rfl _ _ w.heap.size _ _ _ _ _ rfl (tok_stored HB0.out _ _ _ _ _)) rfl ?_
     refine ⟨?_, below_stored hBl.out nl _ _ _ _ _⟩
     rw [HO.out]
     exact ⟨⟨2, ⟨#[]⟩, 0⟩, n, HNL.out, by rw [tok_vals0]; rfl⟩
   | ok v =>
     have hvl := HPL.out v (by omega) hr
     rw [hr] at he
     have he2 : e = .returned (.tuple #[.int .u64 (v : Nat), .nilIface]) := he
     subst he2
     clear he
     by_cases hv : v ≤ 65535
     ·have HO := qh (HSM.out (mkNum 2 v) (by rw [HRR.out, hr]; exact if_pos hv))
      have wv : IntKind.i64.wrap (v : Int) = (v : Int) := IntWalk.i64_in _ (by omega)
      have tv : ¬ (65535 : Int) < (v : Int) := by omega
      have HVV := qh hvl
      clear HNS HSM HRR hr HPL HP hv hvl
      go_wp2
      (try simp only [Exit.inBlock, Exit.then])
      refine bodyPost_ret (tok_ret3 rfl _ _ w.heap.size _ _ _ _ _ rfl (tok_stored (HB0.out.far (by simp) _) _ _ _ _ _)) rfl ?_
      refine ⟨?_, below_stored (hBl.out.setCell (by simp) _) nl _ _ _ _ _⟩
      rw [HO.out]
      simp [tokEnd, tok_vals0, mkNum]
     ·have HO := qh (HNS.out (by rw [HRR.out, hr]; exact if_neg hv))
      have tv : (65535 : Int) < (v : Int) := by omega
      clear HNS HSM HRR hr HPL HP hv
      go_wp2
      (try simp only [Exit.inBlock, Exit.then])
      refine bodyPost_ret (tok_ret3 rfl _ _ w.heap.size _ _ _ _ _ rfl (tok_stored HB0.out _ _ _ _ _)) rfl ?_
      refine ⟨?_, below_stored hBl.out nl _ _ _ _ _⟩
      rw [HO.out]
      exact ⟨⟨2, ⟨#[]⟩, 0⟩, n, HNL.out, by rw [tok_vals0]; rfl⟩
  have b66 := g66 e66
  obtain ⟨HX2, HR2⟩ := HN.cd _ hx e72 e67 e66
  clear g72 g67 g66 e72 e67 e66 hx
  have hz0 : (s.extract 0 n).size ≠ 0 := by rw [ByteArray.size_extract]; omega
  have hzl : (s.extract 0 n).data.toList ≠ [] := fun e => hz0 ((empty_iff _).1 e)
  have hR := HR2.trans (num_by 10 65535 2 (by omega) (by omega) hzl)
  have HP := qh (fun (w' : World) (E' : EnvS w') => parseP 10 (by omega) (s.extract 0 n) hz0 (by simp; omega) HX2 E')
  have HRR := qh hR
  have HPL := qh (pU_lt (s.extract 0 n).data.toList 10 0)
  have HNS := qh HA.none
  have HSM := qh HA.some
  clear hR HR2 HX2 hz0 hzl HA HN
  go_wp2_with fail
  refine (HP.out _ (HEn.out.below nl (((Below.refl _ _).alloc nl _).alloc (by simp) _))).mono ?_
  rintro e w3 ⟨he, hb⟩
  have hz := hb.size
  rw [World.size_alloc, World.size_alloc] at hz
  have hlt1 : w.heap.size < w3.heap.size := by omega
  have hlt2 : w.heap.size + 1 < w3.heap.size := by omega
  have hB0 := ((Blk.new w 40 #[.int .u8 0, .complex .f64 0 0, .complex .f64 0 0, .string ⟨#[]⟩, .int .i64 0]).alloc (.cells #[.int .u8 2, .complex .f64 0 0, .complex .f64 0 0, .string ⟨#[]⟩, .int .i64 0] 40)).below hb (by simp; omega)
  have hB1 := (Blk.new (w.alloc (.cells #[.int .u8 0, .complex .f64 0 0, .complex .f64 0 0, .string ⟨#[]⟩, .int .i64 0] 40)) 40 #[.int .u8 2, .complex .f64 0 0, .complex .f64 0 0, .string ⟨#[]⟩, .int .i64 0]).below hb (by simp)
  rw [World.size_alloc] at hB1
  have hBl : Hid (Below w.heap.size w w3) := qh ((((Below.refl w.heap.size w).alloc nl _).alloc (by simp) _).trans (hb.mono (by simp; omega)))
  obtain ⟨m0, m1, m2, m3, m4, f0, f1, f2, f3, f4⟩ := hB0.tok
  obtain ⟨p0, p1, p2, p3, p4, q0, q1, q2, q3, q4⟩ := hB1.tok
  have HB0 := qh hB0
  clear hB0 hB1 hb hz
  cases hr : pU 10 0 (s.extract 0 n).data.toList with
  | error kk =>
    rw [hr] at he
    obtain ⟨v, T, p, he⟩ := he
    subst he
    have HO := qh (HNS.out (by rw [HRR.out, hr]))
    clear HNS HSM HRR hr HPL HP
    go_wp2
    (try simp only [Exit.inBlock, Exit.then])
    refine bodyPost_ret (tok_ret3 rfl _ _ w.heap.size _ _ _ _ _ rfl (tok_stored HB0.out _ _ _ _ _)) rfl ?_
    refine ⟨?_, below_stored hBl.out nl _ _ _ _ _⟩
    rw [HO.out]
    exact ⟨⟨2, ⟨#[]⟩, 0⟩, n, HNL.out, by rw [tok_vals0]; rfl⟩
  | ok v =>
    have hvl := HPL.out v (by omega) hr
    rw [hr] at he
    have he2 : e = .returned (.tuple #[.int .u64 (v : Nat), .nilIface]) := he
    subst he2
    clear he
    by_cases hv : v ≤ 65535
    ·have HO := qh (HSM.out (mkNum 2 v) (by rw [HRR.out, hr]; exact if_pos hv))
     have wv : IntKind.i64.wrap (v : Int) = (v : Int) := IntWalk.i64_in _ (by omega)
     have tv : ¬ (65535 : Int) < (v : Int) := by omega
     have HVV := qh hvl
     clear HNS HSM HRR hr HPL HP hv hvl
     go_wp2
     (try simp only [Exit.inBlock, Exit.then])
     refine bodyPost_ret (tok_ret3 rfl _ _ w.heap.size _ _ _ _ _ rfl (tok_stored (HB0.out.far (by simp) _) _ _ _ _ _)) rfl ?_
     refine ⟨?_, below_stored (hBl.out.setCell (by simp) _) nl _ _ _ _ _⟩
     rw [HO.out]
     simp [tokEnd, tok_vals0, mkNum]
    ·have HO := qh (HNS.out (by rw [HRR.out, hr]; exact if_neg hv))
     have tv : (65535 : Int) < (v : Int) := by omega
     clear HNS HSM HRR hr HPL HP hv
     go_wp2
     (try simp only [Exit.inBlock, Exit.then])
     refine bodyPost_ret (tok_ret3 rfl _ _ w.heap.size _ _ _ _ _ rfl (tok_stored HB0.out _ _ _ _ _)) rfl ?_
     refine ⟨?_, below_stored hBl.out nl _ _ _ _ _⟩
     rw [HO.out]
     exact ⟨⟨2, ⟨#[]⟩, 0⟩, n, HNL.out, by rw [tok_vals0]; rfl⟩
end Lx
end Go.Proofs.YtkemhmfdooghkaaGreatDoor
