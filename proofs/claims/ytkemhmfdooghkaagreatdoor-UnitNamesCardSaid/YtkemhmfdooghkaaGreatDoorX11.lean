import Derived.Test.YtkemhmfdooghkaaGreatDoorX10
set_option linter.unusedSimpArgs false
set_option linter.unusedVariables false
set_option maxRecDepth 100000
set_option maxHeartbeats 6400000
namespace Go.Proofs.YtkemhmfdooghkaaGreatDoor
namespace Rn
open Tr (Nd Fo)
open Lx (Tk noTk lex)
open Ex
open St (wd nu Bx isNm isWd6 la ls lex_sem lex_joined lex_bx armOut StopS sS_end stm_name eS_col eS_sem eW_end eS_bar sSem sCol sBar sElse sEnd sOf sTo sCase)
def nn (s : ByteArray) : Tk := ⟨1, s, 0⟩
inductive Ty where
 | prim | set | enum | proc | prc | sub : Ty
 | arr (s : Ty) : Ty
 | rc (s t : Ty) : Ty
 | cs (s : Ty) : Ty
 | ptr (s : Ty) : Ty
abbrev b_arr : List UInt8 := [65, 82, 82, 65, 89, 32, 91, 48, 46, 46, 51, 93, 44, 32, 66, 79, 79, 76, 69, 65, 78, 32, 79, 70]
abbrev b_rc1 : List UInt8 := [82, 69, 67, 79, 82, 68, 32, 97, 44, 32, 98, 58]
abbrev b_rc2 : List UInt8 := [99, 58]
abbrev b_end : List UInt8 := [69, 78, 68]
abbrev b_cs1 : List UInt8 := [82, 69, 67, 79, 82, 68, 32, 120, 58, 32, 67, 72, 65, 82, 59, 32, 67, 65, 83, 69, 32, 116, 58, 32, 66, 79, 79, 76, 69, 65, 78, 32, 79, 70, 32, 84, 82, 85, 69, 58, 32, 121, 58]
abbrev b_cs2 : List UInt8 := [124, 32, 70, 65, 76, 83, 69, 58, 32, 69, 76, 83, 69, 32, 122, 58, 32, 67, 72, 65, 82, 59, 32, 119, 58, 32, 73, 78, 84, 69, 71, 69, 82, 32, 69, 78, 68, 59, 32, 69, 78, 68]
abbrev b_ptr : List UInt8 := [80, 79, 73, 78, 84, 69, 82, 32, 84, 79]
abbrev b_set : List UInt8 := [83, 69, 84, 32, 79, 70, 32, 91, 49, 46, 46, 57, 93]
abbrev b_enum : List UInt8 := [40, 114, 101, 100, 44, 32, 103, 114, 101, 101, 110, 44, 32, 98, 108, 117, 101, 41]
abbrev b_proc : List UInt8 := [80, 82, 79, 67, 69, 68, 85, 82, 69, 32, 40, 86, 65, 82, 32, 65, 82, 82, 65, 89, 32, 79, 70, 32, 77, 46, 84, 44, 32, 67, 72, 65, 82, 41, 58, 32, 66, 79, 79, 76, 69, 65, 78]
abbrev b_prc : List UInt8 := [80, 82, 79, 67, 69, 68, 85, 82, 69]
abbrev b_sub : List UInt8 := [91, 45, 49, 46, 46, 53, 93]
abbrev b_prim : List UInt8 := [67, 65, 82, 68, 73, 78, 65, 76]
abbrev b_u0a : List UInt8 := [68, 69, 70, 73, 78, 73, 84, 73, 79, 78, 32, 77, 79, 68, 85, 76, 69, 32, 77, 59, 32, 73, 77, 80, 79, 82, 84, 32, 65, 44, 32, 66, 59, 32, 70, 82, 79, 77, 32, 67, 32, 73, 77, 80, 79, 82, 84, 32, 120, 44, 32, 121, 59, 32, 67, 79, 78, 83, 84, 32, 99, 32, 61, 32, 55, 59, 32, 84, 89, 80, 69, 32, 84, 59, 32, 85, 32, 61]
abbrev b_u0b : List UInt8 := [86, 65, 82, 32, 118, 58, 32, 85, 59, 32, 80, 82, 79, 67, 69, 68, 85, 82, 69, 32, 112, 40, 86, 65, 82, 32, 97, 58, 32, 85, 41, 58, 32, 84, 59, 32, 69, 78, 68, 32, 77, 46]
abbrev b_u1a : List UInt8 := [73, 77, 80, 76, 69, 77, 69, 78, 84, 65, 84, 73, 79, 78, 32, 77, 79, 68, 85, 76, 69, 32, 77, 59, 32, 73, 77, 80, 79, 82, 84, 32, 65, 44, 32, 66, 59, 32, 70, 82, 79, 77, 32, 67, 32, 73, 77, 80, 79, 82, 84, 32, 120, 44, 32, 121, 59, 32, 84, 89, 80, 69, 32, 84, 32, 61]
abbrev b_u1b : List UInt8 := [80, 82, 79, 67, 69, 68, 85, 82, 69, 32, 112, 59, 32, 66, 69, 71, 73, 78]
abbrev b_u1c : List UInt8 := [69, 78, 68, 32, 112, 59, 32, 66, 69, 71, 73, 78]
abbrev b_u1d : List UInt8 := [69, 78, 68, 32, 77, 46]
abbrev b_u2a : List UInt8 := [77, 79, 68, 85, 76, 69, 32, 77, 59, 32, 73, 77, 80, 79, 82, 84, 32, 65, 44, 32, 66, 59, 32, 70, 82, 79, 77, 32, 67, 32, 73, 77, 80, 79, 82, 84, 32, 120, 44, 32, 121, 59, 32, 86, 65, 82, 32, 118, 58]
abbrev b_u2b : List UInt8 := [66, 69, 71, 73, 78]
abbrev b_u3a : List UInt8 := [77, 79, 68, 85, 76, 69, 32, 77, 59, 32, 77, 79, 68, 85, 76, 69, 32, 76, 59, 32, 69, 88, 80, 79, 82, 84, 32, 101, 59, 32, 86, 65, 82, 32, 101, 58]
abbrev b_u3d : List UInt8 := [69, 78, 68, 32, 76, 59, 32, 69, 78, 68, 32, 77, 46]
abbrev k_arr : List Tk := [wd De.sArray, sy sBra, nu 0, sy sRan, nu 3, sy sKet, sy sCom, nn ⟨#[66, 79, 79, 76, 69, 65, 78]⟩, wd sOf]
abbrev k_rc1 : List Tk := [wd De.sRecord, na 97, sy sCom, na 98, sy sCol]
abbrev k_rc2 : List Tk := [na 99, sy sCol]
abbrev k_end : List Tk := [wd sEnd]
abbrev k_cs1 : List Tk := [wd De.sRecord, na 120, sy sCol, nn ⟨#[67, 72, 65, 82]⟩, sy sSem, wd sCase, na 116, sy sCol, nn ⟨#[66, 79, 79, 76, 69, 65, 78]⟩, wd sOf, nn ⟨#[84, 82, 85, 69]⟩, sy sCol, na 121, sy sCol]
abbrev k_cs2 : List Tk := [sy sBar, nn ⟨#[70, 65, 76, 83, 69]⟩, sy sCol, wd sElse, na 122, sy sCol, nn ⟨#[67, 72, 65, 82]⟩, sy sSem, na 119, sy sCol, nn ⟨#[73, 78, 84, 69, 71, 69, 82]⟩, wd sEnd, sy sSem, wd sEnd]
abbrev k_ptr : List Tk := [wd De.sPointer, wd sTo]
abbrev k_set : List Tk := [wd De.sSet, wd sOf, sy sBra, nu 1, sy sRan, nu 9, sy sKet]
abbrev k_enum : List Tk := [sy sPar, nn ⟨#[114, 101, 100]⟩, sy sCom, nn ⟨#[103, 114, 101, 101, 110]⟩, sy sCom, nn ⟨#[98, 108, 117, 101]⟩, sy sRap]
abbrev k_proc : List Tk := [wd De.sProc, sy sPar, wd De.sVar, wd De.sArray, wd sOf, na 77, sy sDot, na 84, sy sCom, nn ⟨#[67, 72, 65, 82]⟩, sy sRap, sy sCol, nn ⟨#[66, 79, 79, 76, 69, 65, 78]⟩]
abbrev k_prc : List Tk := [wd De.sProc]
abbrev k_sub : List Tk := [sy sBra, sy sMin, nu 1, sy sRan, nu 5, sy sKet]
abbrev k_prim : List Tk := [nn ⟨#[67, 65, 82, 68, 73, 78, 65, 76]⟩]
abbrev k_u0a : List Tk := [wd Un.sDefn, wd De.sModule, na 77, sy sSem, wd De.sImport, na 65, sy sCom, na 66, sy sSem, wd Un.sFrom, na 67, wd De.sImport, na 120, sy sCom, na 121, sy sSem, wd De.sConst, na 99, sy De.sEqu, nu 7, sy sSem, wd De.sType, na 84, sy sSem, na 85, sy De.sEqu]
abbrev k_u0b : List Tk := [wd De.sVar, na 118, sy sCol, na 85, sy sSem, wd De.sProc, na 112, sy sPar, wd De.sVar, na 97, sy sCol, na 85, sy sRap, sy sCol, na 84, sy sSem, wd sEnd, na 77, sy sDot]
abbrev k_u1a : List Tk := [wd Un.sImpl, wd De.sModule, na 77, sy sSem, wd De.sImport, na 65, sy sCom, na 66, sy sSem, wd Un.sFrom, na 67, wd De.sImport, na 120, sy sCom, na 121, sy sSem, wd De.sType, na 84, sy De.sEqu]
abbrev k_u1b : List Tk := [wd De.sProc, na 112, sy sSem, wd De.sBegin]
abbrev k_u1c : List Tk := [wd sEnd, na 112, sy sSem, wd De.sBegin]
abbrev k_u1d : List Tk := [wd sEnd, na 77, sy sDot]
abbrev k_u2a : List Tk := [wd De.sModule, na 77, sy sSem, wd De.sImport, na 65, sy sCom, na 66, sy sSem, wd Un.sFrom, na 67, wd De.sImport, na 120, sy sCom, na 121, sy sSem, wd De.sVar, na 118, sy sCol]
abbrev k_u2b : List Tk := [wd De.sBegin]
abbrev k_u3a : List Tk := [wd De.sModule, na 77, sy sSem, wd De.sModule, na 76, sy sSem, wd De.sExport, na 101, sy sSem, wd De.sVar, na 101, sy sCol]
abbrev k_u3d : List Tk := [wd sEnd, na 76, sy sSem, wd sEnd, na 77, sy sDot]
theorem lx_arr : lex b_arr = some k_arr := by kernel_rfl
theorem lx_rc1 : lex b_rc1 = some k_rc1 := by kernel_rfl
theorem lx_rc2 : lex b_rc2 = some k_rc2 := by kernel_rfl
theorem lx_end : lex b_end = some k_end := by kernel_rfl
theorem lx_cs1 : lex b_cs1 = some k_cs1 := by kernel_rfl
theorem lx_cs2 : lex b_cs2 = some k_cs2 := by kernel_rfl
theorem lx_ptr : lex b_ptr = some k_ptr := by kernel_rfl
theorem lx_set : lex b_set = some k_set := by kernel_rfl
theorem lx_enum : lex b_enum = some k_enum := by kernel_rfl
theorem lx_proc : lex b_proc = some k_proc := by kernel_rfl
theorem lx_prc : lex b_prc = some k_prc := by kernel_rfl
theorem lx_sub : lex b_sub = some k_sub := by kernel_rfl
theorem lx_prim : lex b_prim = some k_prim := by kernel_rfl
theorem lx_u0a : lex b_u0a = some k_u0a := by kernel_rfl
theorem lx_u0b : lex b_u0b = some k_u0b := by kernel_rfl
theorem lx_u1a : lex b_u1a = some k_u1a := by kernel_rfl
theorem lx_u1b : lex b_u1b = some k_u1b := by kernel_rfl
theorem lx_u1c : lex b_u1c = some k_u1c := by kernel_rfl
theorem lx_u1d : lex b_u1d = some k_u1d := by kernel_rfl
theorem lx_u2a : lex b_u2a = some k_u2a := by kernel_rfl
theorem lx_u2b : lex b_u2b = some k_u2b := by kernel_rfl
theorem lx_u3a : lex b_u3a = some k_u3a := by kernel_rfl
theorem lx_u3d : lex b_u3d = some k_u3d := by kernel_rfl
def Ty.text : Ty → List UInt8
 | .prim => b_prim
 | .set => b_set
 | .enum => b_enum
 | .proc => b_proc
 | .prc => b_prc
 | .sub => b_sub
 | .arr s => b_arr ++ 32 :: s.text
 | .rc s t => b_rc1 ++ 32 :: (s.text ++ 59 :: 32 :: (b_rc2 ++ 32 :: (t.text ++ 32 :: b_end)))
 | .cs s => b_cs1 ++ 32 :: (s.text ++ 32 :: b_cs2)
 | .ptr s => b_ptr ++ 32 :: s.text
def Ty.toks : Ty → List Tk
 | .prim => k_prim
 | .set => k_set
 | .enum => k_enum
 | .proc => k_proc
 | .prc => k_prc
 | .sub => k_sub
 | .arr s => k_arr ++ s.toks
 | .rc s t => k_rc1 ++ (s.toks ++ sy sSem :: (k_rc2 ++ (t.toks ++ k_end)))
 | .cs s => k_cs1 ++ (s.toks ++ k_cs2)
 | .ptr s => k_ptr ++ s.toks
def Ty.deep : Ty → Nat
 | .arr s => s.deep + 1
 | .rc s t => max s.deep t.deep + 1
 | .cs s => s.deep + 1
 | .ptr s => s.deep + 1
 | _ => 0
theorem lex_ty : ∀ x : Ty, lex x.text = some x.toks
 | .prim => lx_prim
 | .set => lx_set
 | .enum => lx_enum
 | .proc => lx_proc
 | .prc => lx_prc
 | .sub => lx_sub
 | .arr s => by unfold Ty.text Ty.toks; rw [la lx_arr, lex_ty s]; rfl
 | .ptr s => by unfold Ty.text Ty.toks; rw [la lx_ptr, lex_ty s]; rfl
 | .cs s => by unfold Ty.text Ty.toks; rw [la lx_cs1, la (lex_ty s), lx_cs2]; rfl
 | .rc s t => by
   have h : lex (b_rc2 ++ 32 :: (t.text ++ 32 :: b_end)) = some (k_rc2 ++ (t.toks ++ k_end)) := by rw [la lx_rc2, la (lex_ty t), lx_end]; rfl
   unfold Ty.text Ty.toks
   rw [la lx_rc1, lex_joined (lex_ty s) h]
   rfl
def typeP : Nat → List Nat → Ty × Nat
 | 0, _ => (.prim, 0)
 | _ + 1, [] => (.prim, 0)
 | d + 1, a :: l =>
   if a % 9 = 0 then (.arr (typeP d l).1, (typeP d l).2 + 1)
   else if a % 9 = 1 then (.rc (typeP d l).1 (typeP d (l.drop (typeP d l).2)).1, (typeP d l).2 + (typeP d (l.drop (typeP d l).2)).2 + 1)
   else if a % 9 = 2 then (.cs (typeP d l).1, (typeP d l).2 + 1)
   else if a % 9 = 3 then (.ptr (typeP d l).1, (typeP d l).2 + 1)
   else if a % 9 = 4 then (.set, 1)
   else if a % 9 = 5 then (.enum, 1)
   else if a % 9 = 6 then (.proc, 1)
   else if a % 9 = 7 then (.prc, 1)
   else (.sub, 1)
theorem typeP_succ (d a : Nat) (l : List Nat) : typeP (d + 1) (a :: l) =
 if a % 9 = 0 then (.arr (typeP d l).1, (typeP d l).2 + 1)
 else if a % 9 = 1 then (.rc (typeP d l).1 (typeP d (l.drop (typeP d l).2)).1, (typeP d l).2 + (typeP d (l.drop (typeP d l).2)).2 + 1)
 else if a % 9 = 2 then (.cs (typeP d l).1, (typeP d l).2 + 1)
 else if a % 9 = 3 then (.ptr (typeP d l).1, (typeP d l).2 + 1)
 else if a % 9 = 4 then (.set, 1)
 else if a % 9 = 5 then (.enum, 1)
 else if a % 9 = 6 then (.proc, 1)
 else if a % 9 = 7 then (.prc, 1)
 else (.sub, 1) := rfl
theorem type_ok : ∀ (d : Nat) (l : List Nat), (typeP d l).1.deep ≤ d ∧ (typeP d l).2 ≤ l.length ∧ (typeP d l).1.text.length + 100 ≤ 200 * 2 ^ d
 | 0, l => ⟨Nat.le_refl _, Nat.zero_le _, by simp [typeP, Ty.text]⟩
 | d + 1, [] => ⟨Nat.zero_le _, Nat.zero_le _, by have := Nat.one_le_two_pow (n := d + 1); simp [typeP, Ty.text]; omega⟩
 | d + 1, a :: l => by
   obtain ⟨h1, h2, h3⟩ := type_ok d l
   obtain ⟨h4, h5, h6⟩ := type_ok d (l.drop (typeP d l).2)
   rw [List.length_drop] at h5
   have h7 : 2 ^ (d + 1) = 2 ^ d * 2 := Nat.pow_succ _ _
   have h8 := Nat.one_le_two_pow (n := d)
   rw [typeP_succ, h7]
   generalize (typeP d l).1 = x at *
   generalize (typeP d l).2 = n at *
   generalize (typeP d (l.drop n)).1 = y at *
   generalize (typeP d (l.drop n)).2 = m at *
   repeat' split
   all_goals
    refine ⟨?_, ?_, ?_⟩
    ·simp only [Ty.deep]; omega
    ·simp only [List.length_cons]; omega
    ·simp only [Ty.text, List.length_cons, List.length_append, List.length_nil]; omega
section
variable {α : Type} {Q : α → Prop} {p : Par α} {A : PT → Par α} {B : Par α} {g f i j k : Nat} {L : List PT} {t u : Tk} {s : ByteArray}
theorem tT_u {v : PT} (h : v.1 = t) : tT s v = tkT s t := by rw [← h]; rfl
theorem nm_y {v : PT} (h : v.1 = t) (hk : t.kind = 1) : isNm v = true := by unfold isNm; rw [h, hk]; rfl
theorem nm_n {v : PT} (h : v.1 = t) (hk : decide (t.kind = 1) = false) : ¬ isNm v = true := by unfold isNm; rw [h, hk]; simp
theorem runs_ends (h : (tk L i).1 = t) (hk : t.kind = 1) (ht : t.text = s) (h2 : Runs Q p L (i + 1) k) : Runs Q (De.endsF s p) L i k := by
 obtain ⟨b, e, hb⟩ := h2
 exact ⟨b, (if_pos (by unfold De.isEnd isNm; rw [h, hk, ht]; simp)).trans e, hb⟩
theorem runs_the (h : (tk L i).1 = t) (hk : t.kind = 1) (ht : t.text = s) (h2 : ∀ v, Runs Q (A v) L (i + 1) k) : Runs Q (tokP (Un.isThe s) A B) L i k := by
 obtain ⟨b, e, hb⟩ := h2 (tk L i)
 exact ⟨b, (if_pos (by unfold Un.isThe isNm; rw [h, hk, ht]; simp)).trans e, hb⟩
theorem names_1 {acc : List T1} (h : (tk L i).1 = t) (hk : t.kind = 1) (h1 : (tk L (i + 1)).1 = u) (hu : tkT sCom u = false) : Rn (De.namesF (f + 1) acc) L i (i + 1) :=
 runs_nm h hk fun _ _ => runs_n h1 hu rn_ret
theorem names_c {acc : List T1} (h : (tk L i).1 = t) (hk : t.kind = 1) (h1 : (tk L (i + 1)).1 = sy sCom) (h2 : ∀ acc', Rn (De.namesF f acc') L (i + 1 + 1) k) : Rn (De.namesF (f + 1) acc) L i k :=
 runs_nm h hk fun _ _ => runs_y h1 rfl fun _ _ => h2 _
theorem ref_1 (h : (tk L i).1 = t) (hk : t.kind = 1) (h1 : (tk L (i + 1)).1 = u) (hu : tkT sDot u = false) : Rn (De.refF g) L i (i + 1) :=
 runs_pos h fun _ _ => runs_bind (P := fun _ => True) (qual_name h hk h1 hu fun _ => trivial) fun _ _ => rn_ret
theorem ref_2 (hg : 4 ≤ g) (h : (tk L i).1 = t) (hk : t.kind = 1) (h1 : (tk L (i + 1)).1 = sy sDot) {v : Tk} (h2 : (tk L (i + 1 + 1)).1 = v) (hv : v.kind = 1) (h3 : (tk L (i + 1 + 1 + 1)).1 = u) (hu : tkT sDot u = false) : Rn (De.refF g) L i (i + 1 + 1 + 1) := by
 obtain ⟨g, rfl⟩ : ∃ g', g = g' + 4 := ⟨g - 4, by omega⟩
 refine runs_pos h fun _ _ => rn_bind (j := i + 1 + 1 + 1) (runs_bind (P := fun _ => True) ⟨tk L _, by unfold nameP; rw [if_pos (by rw [h]; exact hk)], trivial⟩ fun _ _ => ?_) fun _ => rn_ret
 exact runs_y h1 rfl fun _ _ => runs_bind (P := fun _ => True) ⟨tk L _, by unfold nameP; rw [if_pos (by rw [h2]; exact hv)], trivial⟩ fun _ _ => dots_stop' h3 hu trivial _
theorem sub_2 (h5 : 5 ≤ g) {p : Nat × Nat} {n m : Int} (h : (tk L i).1 = nu n) (h1 : (tk L (i + 1)).1 = sy sRan) (h2 : (tk L (i + 1 + 1)).1 = nu m) (h3 : (tk L (i + 1 + 1 + 1)).1 = sy sKet) : Rn (De.subF g p) L i (i + 1 + 1 + 1 + 1) :=
 rn_bind (runs_exU h5 h rfl h1 stopE_ran) fun _ => runs_need h1 rfl (rn_bind (runs_exU h5 h2 rfl h3 stopE_ket) fun _ => runs_need h3 rfl rn_ret)
def StopT (t : Tk) : Prop := tkT sDot t = false ∧ tkT sPar t = false
theorem lab_1 (h5 : 5 ≤ g) (h : (tk L i).1 = t) (hk : t.kind = 1) (h1 : (tk L (i + 1)).1 = sy sCol) : Rn (labelsF g) L i (i + 1) := by
 obtain ⟨n, hn⟩ : ∃ n, g = n + 1 := ⟨g - 1, by omega⟩
 have e : Rn (elemF (exprF g)) L i (i + 1) := runs_pos h fun _ _ => rn_bind (runs_exN h5 h hk h1 eS_col) fun _ => runs_n h1 rfl rn_ret
 exact runs_pos h fun _ _ => rn_bind (rn_bind e fun x => Rn.eq (congrArg (fun m => manyRF (elemF (exprF g)) m [x] L _) hn) (runs_n h1 rfl rn_ret)) fun _ => rn_ret
end
section
variable {g f i k : Nat} {L : List PT} {t : Tk}
theorem typ_open {Q : T1 → Prop} (h : Runs Q (De.typG g (De.typF g f)) L i k) : Runs Q (De.typF g (f + 1)) L i k := h
theorem typ_a (h : (tk L i).1 = wd De.sArray) (h2 : ∀ p, Rn (De.arrayR g (De.typF g f) g p) L (i + 1) k) : Rn (De.typF g (f + 1)) L i k :=
 typ_open (runs_pos h fun u _ => runs_y h rfl fun _ _ => h2 _)
theorem typ_r (h : (tk L i).1 = wd De.sRecord) (h2 : ∀ p, Rn (De.recF g (De.typF g f) p) L (i + 1) k) : Rn (De.typF g (f + 1)) L i k :=
 typ_open (runs_pos h fun u _ => runs_n h rfl (runs_y h rfl fun _ _ => h2 _))
theorem typ_t (h : (tk L i).1 = wd De.sSet) (h2 : ∀ p, Rn (De.setF g p) L (i + 1) k) : Rn (De.typF g (f + 1)) L i k :=
 typ_open (runs_pos h fun u _ => runs_n h rfl (runs_n h rfl (runs_y h rfl fun _ _ => h2 _)))
theorem typ_p (h : (tk L i).1 = wd De.sPointer) (h2 : ∀ p, Rn (De.ptrF (De.typF g f) p) L (i + 1) k) : Rn (De.typF g (f + 1)) L i k :=
 typ_open (runs_pos h fun u _ => runs_n h rfl (runs_n h rfl (runs_n h rfl (runs_y h rfl fun _ _ => h2 _))))
theorem typ_c (h : (tk L i).1 = wd De.sProc) (h2 : ∀ p, Rn (De.prcF g p) L (i + 1) k) : Rn (De.typF g (f + 1)) L i k :=
 typ_open (runs_pos h fun u _ => runs_n h rfl (runs_n h rfl (runs_n h rfl (runs_n h rfl (runs_y h rfl fun _ _ => h2 _)))))
def NoW (t : Tk) : Prop := tkT De.sArray t = false ∧ tkT De.sRecord t = false ∧ tkT De.sSet t = false ∧ tkT De.sPointer t = false ∧ tkT De.sProc t = false
theorem typ_s (h : (tk L i).1 = t) (hn : NoW t) (h2 : Rn (De.simpleF g) L i k) : Rn (De.typF g (f + 1)) L i k :=
 typ_open (runs_pos h fun u _ => runs_n h hn.1 (runs_n h hn.2.1 (runs_n h hn.2.2.1 (runs_n h hn.2.2.2.1 (runs_n h hn.2.2.2.2 h2)))))
theorem sim_p (h : (tk L i).1 = sy sPar) (h2 : ∀ p, Rn (De.enumF g p) L (i + 1) k) : Rn (De.simpleF g) L i k := runs_pos h fun u _ => runs_y h rfl fun _ _ => h2 _
theorem sim_b (h : (tk L i).1 = sy sBra) (h2 : ∀ p, Rn (De.subF g p) L (i + 1) k) : Rn (De.simpleF g) L i k := runs_pos h fun u _ => runs_n h rfl (runs_y h rfl fun _ _ => h2 _)
theorem sim_n (h : (tk L i).1 = t) (hk : t.kind = 1) (h2 : Rn (De.refF g) L i k) : Rn (De.simpleF g) L i k :=
 have hn : ∀ s, tkT s t = false := fun s => by unfold tkT; rw [hk]; rfl
 runs_pos h fun u _ => runs_n h (hn _) (runs_n h (hn _) h2)
theorem typ_n {u : Tk} (h : (tk L i).1 = t) (hk : t.kind = 1) (h1 : (tk L (i + 1)).1 = u) (hu : tkT sDot u = false) : Rn (De.typF g (f + 1)) L i (i + 1) :=
 have hn : ∀ s, tkT s t = false := fun s => by unfold tkT; rw [hk]; rfl
 typ_s h ⟨hn _, hn _, hn _, hn _, hn _⟩ (sim_n h hk (ref_1 h hk h1 hu))
end
section
variable {g : Nat} {L : List PT}
theorem ty_runs (hg : 20 ≤ g) : ∀ (x : Ty) (f i : Nat), x.deep < f → AtT L i x.toks → StopT (tk L (i + x.toks.length)).1 → Rn (De.typF g f) L i (i + x.toks.length)
 | x, 0, i, hd, _, _ => by omega
 | .prim, f + 1, i, hd, h, hs => typ_n h.1 rfl rfl hs.1
 | .set, f + 1, i, hd, h, hs => by
   obtain ⟨h0, h1, h2, h3, h4, h5, h6, _⟩ := h
   exact typ_t h0 fun p => runs_need h1 rfl (rn_bind (sim_b h2 fun p => sub_2 (g := g) (by omega) h3 h4 h5 h6) fun _ => rn_ret)
 | .sub, f + 1, i, hd, h, hs => by
   obtain ⟨h0, h1, h2, h3, h4, h5, _⟩ := h
   exact typ_s h0 ⟨rfl, rfl, rfl, rfl, rfl⟩ (sim_b h0 fun p => rn_bind (runs_exM (g := g) (by omega) h1 h2 rfl h3 stopE_ran) fun _ => runs_need h3 rfl (rn_bind (runs_exU (g := g) (by omega) h4 rfl h5 stopE_ket) fun _ => runs_need h5 rfl rn_ret))
 | .enum, f + 1, i, hd, h, hs => by
   obtain ⟨h0, h1, h2, h3, h4, h5, h6, _⟩ := h
   obtain ⟨g, rfl⟩ : ∃ g', g = g' + 20 := ⟨g - 20, by omega⟩
   exact typ_s h0 ⟨rfl, rfl, rfl, rfl, rfl⟩ (sim_p h0 fun p => rn_bind (names_c h1 rfl h2 fun _ => names_c h3 rfl h4 fun _ => names_1 h5 rfl h6 rfl) fun _ => runs_need h6 rfl rn_ret)
 | .prc, f + 1, i, hd, h, hs => by
   obtain ⟨h0, _⟩ := h
   exact typ_c h0 fun p => rn_bind (runs_n rfl hs.2 rn_ret) fun _ => rn_ret
 | .proc, f + 1, i, hd, h, hs => by
   obtain ⟨h0, h1, h2, h3, h4, h5, h6, h7, h8, h9, h10, h11, h12, _⟩ := h
   obtain ⟨g, rfl⟩ : ∃ g', g = g' + 20 := ⟨g - 20, by omega⟩
   refine typ_c h0 fun p => rn_bind (runs_y h1 rfl fun _ _ => runs_pos h2 fun v hv => runs_el (by rw [tT_u hv]; decide) (rn_bind (j := i + 1 + 1 + 1 + 1 + 1 + 1 + 1 + 1 + 1 + 1) ?_ fun _ => runs_need h10 rfl (runs_y h11 rfl fun _ _ => rn_bind (ref_1 h12 rfl rfl hs.1) fun _ => rn_ret))) fun _ => rn_ret
   refine rn_bind (runs_pos h2 fun _ _ => runs_y h2 rfl fun _ _ => rn_bind (runs_pos h3 fun _ _ => runs_y h3 rfl fun _ _ => runs_need h4 rfl (rn_bind (ref_2 (by omega) h5 rfl h6 h7 rfl h8 rfl) fun _ => rn_ret)) fun _ => rn_ret) fun _ => runs_y h8 rfl fun _ _ => ?_
   exact rn_bind (runs_pos h9 fun _ _ => runs_n h9 rfl (rn_bind (runs_pos h9 fun _ _ => runs_n h9 rfl (ref_1 h9 rfl h10 rfl)) fun _ => rn_ret)) fun _ => runs_n h10 rfl rn_ret
 | .ptr s, f + 1, i, hd, h, hs => by
   obtain ⟨h0, h1, h⟩ := h
   have hl : i + (Ty.ptr s).toks.length = i + 1 + 1 + s.toks.length := by simp [Ty.toks]; omega
   rw [hl] at hs ⊢
   exact typ_p h0 fun p => runs_need h1 rfl (rn_bind (ty_runs hg s f _ (by simp only [Ty.deep] at hd; omega) h hs) fun _ => rn_ret)
 | .arr s, f + 1, i, hd, h, hs => by
   obtain ⟨h0, h1, h2, h3, h4, h5, h6, h7, h8, h⟩ := h
   have hl : i + (Ty.arr s).toks.length = i + 1 + 1 + 1 + 1 + 1 + 1 + 1 + 1 + 1 + s.toks.length := by simp [Ty.toks]; omega
   rw [hl] at hs ⊢
   have ih := ty_runs hg s f _ (by simp only [Ty.deep] at hd; omega) h hs
   obtain ⟨n, hn⟩ : ∃ n, g = n + 1 + 1 := ⟨g - 2, by omega⟩
   refine typ_a h0 fun p => Rn.eq (congrArg (fun m => De.arrayR g (De.typF g f) m p L (i + 1)) hn) ?_
   exact rn_bind (sim_b h1 fun p => sub_2 (g := g) (by omega) h2 h3 h4 h5) fun _ => runs_y h6 rfl fun _ _ => rn_bind (rn_bind (sim_n h7 rfl (ref_1 h7 rfl h8 rfl)) fun _ => runs_n h8 rfl (runs_need h8 rfl (rn_bind ih fun _ => rn_ret))) fun _ => rn_ret
 | .rc s t, f + 1, i, hd, h, hs => by
   obtain ⟨h0, h1, h2, h3, h4, h⟩ := h
   have h : AtT L (i + 1 + 1 + 1 + 1 + 1) (s.toks ++ sy sSem :: (k_rc2 ++ (t.toks ++ k_end))) := h
   obtain ⟨h5, h6, h7, h8, h⟩ := atT_app h
   have h : AtT L (i + 1 + 1 + 1 + 1 + 1 + s.toks.length + 1 + 1 + 1) (t.toks ++ k_end) := h
   obtain ⟨h9, h10, _⟩ := atT_app h
   have hl : i + (Ty.rc s t).toks.length = i + 1 + 1 + 1 + 1 + 1 + s.toks.length + 1 + 1 + 1 + t.toks.length + 1 := by simp [Ty.toks]; omega
   rw [hl]
   have r1 := ty_runs hg s f _ (by simp only [Ty.deep] at hd; omega) h5 (by rw [h6]; exact ⟨rfl, rfl⟩)
   have r2 := ty_runs hg t f _ (by simp only [Ty.deep] at hd; omega) h9 (by rw [h10]; exact ⟨rfl, rfl⟩)
   obtain ⟨n, hn⟩ : ∃ n, g = n + 1 + 1 + 1 := ⟨g - 3, by omega⟩
   have n1 : Rn (De.namesF g []) L (i + 1) (i + 1 + 1 + 1 + 1) := Rn.eq (congrArg (fun m => De.namesF m [] L (i + 1)) hn) (names_c h1 rfl h2 fun _ => names_1 h3 rfl h4 rfl)
   have n2 : Rn (De.namesF g []) L (i + 1 + 1 + 1 + 1 + 1 + s.toks.length + 1) (i + 1 + 1 + 1 + 1 + 1 + s.toks.length + 1 + 1) := Rn.eq (congrArg (fun m => De.namesF m [] L _) hn) (names_1 h7 rfl h8 rfl)
   refine typ_r h0 fun p => rn_bind (j := i + 1 + 1 + 1 + 1 + 1 + s.toks.length + 1 + 1 + 1 + t.toks.length) ?_ fun _ => runs_need h10 rfl rn_ret
   refine Rn.eq (congrArg (fun m => De.fieldsR g (De.typF g f) (De.partF g (De.typF g f)) true m [] L (i + 1)) hn) ?_
   exact runs_pos h1 fun u hu => runs_if (nm_y hu rfl) (rn_bind n1 fun _ => runs_need h4 rfl (rn_bind r1 fun _ => runs_y h6 rfl fun _ _ => runs_pos h7 fun u hu => runs_if (nm_y hu rfl) (rn_bind n2 fun _ => runs_need h8 rfl (rn_bind r2 fun _ => runs_n h10 rfl rn_ret))))
 | .cs s, f + 1, i, hd, h, hs => by
   obtain ⟨h0, h1, h2, h3, h4, h5, h6, h7, h8, h9, h10, h11, h12, h13, h⟩ := h
   have h : AtT L (i + 1 + 1 + 1 + 1 + 1 + 1 + 1 + 1 + 1 + 1 + 1 + 1 + 1 + 1) (s.toks ++ k_cs2) := h
   obtain ⟨h14, h15, h16, h17, h18, h19, h20, h21, h22, h23, h24, h25, h26, h27, h28, _⟩ := atT_app h
   have hl : i + (Ty.cs s).toks.length = i + 1 + 1 + 1 + 1 + 1 + 1 + 1 + 1 + 1 + 1 + 1 + 1 + 1 + 1 + s.toks.length + 1 + 1 + 1 + 1 + 1 + 1 + 1 + 1 + 1 + 1 + 1 + 1 + 1 + 1 := by simp [Ty.toks]; omega
   rw [hl]
   have r1 := ty_runs hg s f _ (by simp only [Ty.deep] at hd; omega) h14 (by rw [h15]; exact ⟨rfl, rfl⟩)
   obtain ⟨f, rfl⟩ : ∃ f', f = f' + 1 := ⟨f - 1, by simp only [Ty.deep] at hd; omega⟩
   obtain ⟨n, hn⟩ : ∃ n, g = n + 1 + 1 + 1 := ⟨g - 3, by omega⟩
   have nm1 : ∀ {i : Nat} {t u : Tk}, (tk L i).1 = t → t.kind = 1 → (tk L (i + 1)).1 = u → tkT sCom u = false → Rn (De.namesF g []) L i (i + 1) := fun {i t u} h hk h1 hu => Rn.eq (congrArg (fun m => De.namesF m [] L i) hn) (names_1 h hk h1 hu)
   refine typ_r h0 fun p => rn_bind (j := i + 1 + 1 + 1 + 1 + 1 + 1 + 1 + 1 + 1 + 1 + 1 + 1 + 1 + 1 + s.toks.length + 1 + 1 + 1 + 1 + 1 + 1 + 1 + 1 + 1 + 1 + 1 + 1 + 1) ?_ fun _ => runs_need h28 rfl rn_ret
   refine Rn.eq (congrArg (fun m => De.fieldsR g (De.typF g (f + 1)) (De.partF g (De.typF g (f + 1))) true m [] L (i + 1)) hn) ?_
   refine runs_pos h1 fun u hu => runs_if (nm_y hu rfl) (rn_bind (nm1 h1 rfl h2 rfl) fun _ => runs_need h2 rfl (rn_bind (typ_n h3 rfl h4 rfl) fun _ => runs_y h4 rfl fun _ _ => runs_pos h5 fun u hu => runs_el (nm_n hu rfl) (runs_if (by rw [tT_u hu]; rfl) (rn_bind (j := i + 1 + 1 + 1 + 1 + 1 + 1 + 1 + 1 + 1 + 1 + 1 + 1 + 1 + 1 + s.toks.length + 1 + 1 + 1 + 1 + 1 + 1 + 1 + 1 + 1 + 1 + 1 + 1) ?_ fun _ => runs_y h27 rfl fun _ _ => rn_ret))))
   refine runs_pos h5 fun _ _ => runs_need h5 rfl (runs_nm h6 rfl fun _ _ => runs_need h7 rfl (rn_bind (ref_1 h8 rfl h9 rfl) fun x => runs_need h9 rfl (rn_bind (j := i + 1 + 1 + 1 + 1 + 1 + 1 + 1 + 1 + 1 + 1 + 1 + 1 + 1 + 1 + s.toks.length + 1 + 1 + 1) ?_ fun _ => runs_y h18 rfl fun _ _ => rn_bind (j := i + 1 + 1 + 1 + 1 + 1 + 1 + 1 + 1 + 1 + 1 + 1 + 1 + 1 + 1 + s.toks.length + 1 + 1 + 1 + 1 + 1 + 1 + 1 + 1 + 1 + 1 + 1) ?_ fun _ => runs_need h26 rfl rn_ret)))
   ·refine Rn.eq (congrArg (fun m => De.armsR g (De.typF g (f + 1)) m [x] L _) hn) ?_
    refine runs_pos h10 fun u hu => runs_el (arm_no hu rfl rfl rfl) (rn_bind (lab_1 (g := g) (by omega) h10 rfl h11) fun _ => runs_need h11 rfl (rn_bind (j := i + 1 + 1 + 1 + 1 + 1 + 1 + 1 + 1 + 1 + 1 + 1 + 1 + 1 + 1 + s.toks.length) ?_ fun _ => runs_y h15 rfl fun _ _ => runs_pos h16 fun u hu => runs_el (arm_no hu rfl rfl rfl) (rn_bind (lab_1 (g := g) (by omega) h16 rfl h17) fun _ => runs_need h17 rfl (rn_bind ?_ fun _ => runs_n h18 rfl rn_ret))))
    ·refine Rn.eq (congrArg (fun m => De.fieldsR g (De.typF g (f + 1)) failP false m [] L _) hn) ?_
     exact runs_pos h12 fun u hu => runs_if (nm_y hu rfl) (rn_bind (nm1 h12 rfl h13 rfl) fun _ => runs_need h13 rfl (rn_bind r1 fun _ => runs_n h15 rfl rn_ret))
    ·refine Rn.eq (congrArg (fun m => De.fieldsR g (De.typF g (f + 1)) failP false m [] L _) hn) ?_
     exact runs_pos h18 fun u hu => runs_el (nm_n hu rfl) (runs_el (by simp) (runs_n h18 rfl rn_ret))
   ·refine Rn.eq (congrArg (fun m => De.fieldsR g (De.typF g (f + 1)) failP false m [] L _) hn) ?_
    exact runs_pos h19 fun u hu => runs_if (nm_y hu rfl) (rn_bind (nm1 h19 rfl h20 rfl) fun _ => runs_need h20 rfl (rn_bind (typ_n h21 rfl h22 rfl) fun _ => runs_y h22 rfl fun _ _ => runs_pos h23 fun u hu => runs_if (nm_y hu rfl) (rn_bind (nm1 h23 rfl h24 rfl) fun _ => runs_need h24 rfl (rn_bind (typ_n h25 rfl h26 rfl) fun _ => runs_n h26 rfl rn_ret))))
end
end Rn
end Go.Proofs.YtkemhmfdooghkaaGreatDoor
