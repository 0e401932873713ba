import Derived.Test.YtkemhmfdooghkaaGreatDoorX11
import Derived.StillTailTactics
set_option linter.unusedSimpArgs false
set_option linter.unusedVariables false
set_option maxRecDepth 100000
set_option maxHeartbeats 6400000
namespace Go.Proofs.YtkemhmfdooghkaaGreatDoor
namespace Rn
open Tr (Nd Fo)
open Lx (Tk noTk lex)
open Ex
open St (wd nu Bx isNm isWd6 la ls lex_sem lex_joined lex_bx StopS sS_end stm_name eS_col eS_sem eW_end sSem sCol sEnd deep_le)
def unitX (k : Nat) (t x : List UInt8) : List UInt8 := match k with
 | 0 => b_u0a ++ 32 :: (t ++ 59 :: 32 :: b_u0b)
 | 1 => b_u1a ++ 32 :: (t ++ 59 :: 32 :: (b_u1b ++ 32 :: (x ++ 32 :: (b_u1c ++ 32 :: (x ++ 32 :: b_u1d)))))
 | 2 => b_u2a ++ 32 :: (t ++ 59 :: 32 :: (b_u2b ++ 32 :: (x ++ 32 :: b_u1d)))
 | _ => b_u3a ++ 32 :: (t ++ 59 :: 32 :: (b_u2b ++ 32 :: (x ++ 32 :: b_u3d)))
def unitT (k : Nat) (t x : List Tk) : List Tk := match k with
 | 0 => k_u0a ++ (t ++ sy sSem :: k_u0b)
 | 1 => k_u1a ++ (t ++ sy sSem :: (k_u1b ++ (x ++ (k_u1c ++ (x ++ k_u1d)))))
 | 2 => k_u2a ++ (t ++ sy sSem :: (k_u2b ++ (x ++ k_u1d)))
 | _ => k_u3a ++ (t ++ sy sSem :: (k_u2b ++ (x ++ k_u3d)))
theorem lex_unit (k : Nat) {t x : List UInt8} {tl xl : List Tk} (ht : lex t = some tl) (hx : lex x = some xl) : lex (unitX k t x) = some (unitT k tl xl) := by
 have h2 : ∀ {r : List UInt8} {m : List Tk}, lex r = some m → lex (b_u2b ++ 32 :: (x ++ 32 :: r)) = some (k_u2b ++ (xl ++ m)) := fun h => by rw [la lx_u2b, la hx, h]; rfl
 match k with
 | 0 => show lex (b_u0a ++ 32 :: (t ++ 59 :: 32 :: b_u0b)) = some (k_u0a ++ (tl ++ sy sSem :: k_u0b)); rw [la lx_u0a, lex_joined ht lx_u0b]; rfl
 | 1 =>
   have h1 : lex (b_u1b ++ 32 :: (x ++ 32 :: (b_u1c ++ 32 :: (x ++ 32 :: b_u1d)))) = some (k_u1b ++ (xl ++ (k_u1c ++ (xl ++ k_u1d)))) := by rw [la lx_u1b, la hx, la lx_u1c, la hx, lx_u1d]; rfl
   show lex (b_u1a ++ 32 :: (t ++ 59 :: 32 :: (b_u1b ++ 32 :: (x ++ 32 :: (b_u1c ++ 32 :: (x ++ 32 :: b_u1d)))))) = some (k_u1a ++ (tl ++ sy sSem :: (k_u1b ++ (xl ++ (k_u1c ++ (xl ++ k_u1d)))))); rw [la lx_u1a, lex_joined ht h1]; rfl
 | 2 => show lex (b_u2a ++ 32 :: (t ++ 59 :: 32 :: (b_u2b ++ 32 :: (x ++ 32 :: b_u1d)))) = some (k_u2a ++ (tl ++ sy sSem :: (k_u2b ++ (xl ++ k_u1d)))); rw [la lx_u2a, lex_joined ht (h2 lx_u1d)]; rfl
 | k + 3 => show lex (b_u3a ++ 32 :: (t ++ 59 :: 32 :: (b_u2b ++ 32 :: (x ++ 32 :: b_u3d)))) = some (k_u3a ++ (tl ++ sy sSem :: (k_u2b ++ (xl ++ k_u3d)))); rw [la lx_u3a, lex_joined ht (h2 lx_u3d)]; rfl
section
variable {g f i k : Nat} {L : List PT}
theorem blk_open {Q : T1 → Prop} (h : Runs Q (De.blockG g (De.typF g g) (De.blockF g f)) L i k) : Runs Q (De.blockF g (f + 1)) L i k := h
section
variable {ty bl : Par T1} {df : Bool} {acc : List T1} {t : Tk} {p : Par T1}
def NoD (t : Tk) : Prop := (decide (t.kind = 6) && decide (t.text = De.sConst)) = false ∧ (decide (t.kind = 6) && decide (t.text = De.sType)) = false ∧ (decide (t.kind = 6) && decide (t.text = De.sVar)) = false
theorem dec_c {j : Nat} (h : (tk L i).1 = wd De.sConst) (h1 : Rn (De.secR (De.constF g) g acc) L (i + 1) j) (h2 : ∀ acc, Rn (De.declsR g ty bl df f acc) L j k) : Rn (De.declsR g ty bl df (f + 1) acc) L i k :=
 runs_w h rfl fun _ _ => rn_bind h1 fun _ => h2 _
theorem dec_t {j : Nat} (h : (tk L i).1 = wd De.sType) (h1 : Rn (De.secR (De.typeF ty df) g acc) L (i + 1) j) (h2 : ∀ acc, Rn (De.declsR g ty bl df f acc) L j k) : Rn (De.declsR g ty bl df (f + 1) acc) L i k :=
 runs_wn h rfl (runs_w h rfl fun _ _ => rn_bind h1 fun _ => h2 _)
theorem dec_v {j : Nat} (h : (tk L i).1 = wd De.sVar) (h1 : Rn (De.secR (De.varF g ty) g acc) L (i + 1) j) (h2 : ∀ acc, Rn (De.declsR g ty bl df f acc) L j k) : Rn (De.declsR g ty bl df (f + 1) acc) L i k :=
 runs_wn h rfl (runs_wn h rfl (runs_w h rfl fun _ _ => rn_bind h1 fun _ => h2 _))
theorem dec_p {j : Nat} (h : (tk L i).1 = wd De.sProc) (h1 : Rn (De.procF g bl df) L i j) (h2 : ∀ acc, Rn (De.declsR g ty bl df f acc) L j k) : Rn (De.declsR g ty bl df (f + 1) acc) L i k :=
 runs_wn h rfl (runs_wn h rfl (runs_wn h rfl (runs_pos h fun u hu => runs_if (by rw [tT_u hu]; rfl) (rn_bind h1 fun _ => h2 _))))
theorem dec_m {j : Nat} (h : (tk L i).1 = wd De.sModule) (h1 : Rn (De.modF g bl) L i j) (h2 : ∀ acc, Rn (De.declsR g ty bl false f acc) L j k) : Rn (De.declsR g ty bl false (f + 1) acc) L i k :=
 runs_wn h rfl (runs_wn h rfl (runs_wn h rfl (runs_pos h fun u hu => runs_el (by rw [tT_u hu]; decide) (runs_if (by rw [tT_u hu]; rfl) (rn_bind h1 fun _ => h2 _)))))
theorem dec_0 (h : (tk L i).1 = t) (hd : NoD t) (h1 : tkT De.sProc t = false) (h2 : tkT De.sModule t = false) : Rn (De.declsR g ty bl df (f + 1) acc) L i i :=
 runs_wn h hd.1 (runs_wn h hd.2.1 (runs_wn h hd.2.2 (runs_pos h fun u hu => runs_el (by rw [tT_u hu, h1]; simp) (runs_el (by rw [tT_u hu, h2]; simp) rn_ret))))
theorem sec_1 {j : Nat} (h : (tk L i).1 = t) (hk : t.kind = 1) (h1 : Rn p L i j) (h2 : (tk L j).1 = sy sSem) (h3 : ∀ acc, Rn (De.secR p f acc) L (j + 1) k) : Rn (De.secR p (f + 1) acc) L i k :=
 runs_pos h fun u hu => runs_if (nm_y hu hk) (rn_bind h1 fun _ => runs_need h2 rfl (h3 _))
theorem sec_0 (h : (tk L i).1 = t) (hk : decide (t.kind = 1) = false) : Rn (De.secR p (f + 1) acc) L i i := runs_pos h fun u hu => runs_el (nm_n hu hk) rn_ret
end
theorem blk_body {ty bl : Par T1} {j : Nat} {x : Bx} (hg : 20 ≤ g) (hL : L.length < g) (hf : x.fits) (hd : Rn (De.declsR g ty bl false g []) L i j) (h : (tk L j).1 = wd De.sBegin) (hx : AtT L (j + 1) x.toks) (h1 : (tk L (j + 1 + x.toks.length)).1 = wd sEnd) (hd2 : x.deep ≤ g) : Rn (De.blockG g ty bl) L i (j + 1 + x.toks.length + 1) :=
 runs_pos rfl fun _ _ => rn_bind hd fun _ => runs_y h rfl fun _ _ => rn_bind (runs_body (by omega) hL hf hx h1 sS_end rfl hd2) fun _ => runs_need h1 rfl rn_ret
abbrev nM : ByteArray := ⟨#[77]⟩
theorem tail_runs {bl : Par T1} {df : Par (List T1)} {kd j m : Nat} {p : Nat × Nat} (h0 : (tk L i).1 = wd De.sModule) (h1 : (tk L (i + 1)).1 = na 77) (h2 : (tk L (i + 1 + 1)).1 = sy sSem) (hi : Rn (Un.importsR g g []) L (i + 1 + 1 + 1) j) (hr : ∀ l, Rn (Un.restF bl df kd l) L j m)
 (h3 : (tk L m).1 = na 77) (h4 : (tk L (m + 1)).1 = sy sDot) : Runs (fun a => a.1.name = nM) (Un.tailF g bl df kd p) L i (m + 1 + 1) :=
 runs_need h0 rfl (runs_nm h1 rfl fun u hu => runs_need h2 rfl (rn_bind hi fun l => rn_bind (hr l) fun l2 => runs_the h3 rfl (by rw [hu]) fun _ => runs_need h4 rfl (runs_ret (by show u.1.text = _; rw [hu]; rfl))))
def NoI (t : Tk) : Prop := tkT Un.sFrom t = false ∧ tkT De.sImport t = false
theorem imp_runs (hg : 20 ≤ g) {u : Tk} (h : AtT L i ([wd De.sImport, na 65, sy sCom, na 66, sy sSem, wd Un.sFrom, na 67, wd De.sImport, na 120, sy sCom, na 121, sy sSem])) (hu : (tk L (i + 1 + 1 + 1 + 1 + 1 + 1 + 1 + 1 + 1 + 1 + 1 + 1)).1 = u) (hn : NoI u) : Rn (Un.importsR g g []) L i (i + 1 + 1 + 1 + 1 + 1 + 1 + 1 + 1 + 1 + 1 + 1 + 1) := by
 obtain ⟨h0, h1, h2, h3, h4, h5, h6, h7, h8, h9, h10, h11, _⟩ := h
 obtain ⟨g, rfl⟩ : ∃ g', g = g' + 20 := ⟨g - 20, by omega⟩
 exact runs_n h0 rfl (runs_y h0 rfl fun _ _ => rn_bind (names_c h1 rfl h2 fun _ => names_1 h3 rfl h4 rfl) fun _ => runs_need h4 rfl (runs_y h5 rfl fun _ _ => runs_nm h6 rfl fun _ _ => runs_need h7 rfl (rn_bind (names_c h8 rfl h9 fun _ => names_1 h10 rfl h11 rfl) fun _ => runs_need h11 rfl (runs_n hu hn.1 (runs_n hu hn.2 rn_ret)))))
end
section
variable {g : Nat} {L : List PT}
theorem ty_at (hg : 20 ≤ g) {x : Ty} (hd : x.deep ≤ 4) {i : Nat} (h : AtT L i x.toks) (h1 : (tk L (i + x.toks.length)).1 = sy sSem) : Rn (De.typF g g) L i (i + x.toks.length) := ty_runs hg x g i (by omega) h (by rw [h1]; exact ⟨rfl, rfl⟩)
theorem unit_0 (hg : 20 ≤ g) (hL : L.length < g) {y : Ty} (hy : y.deep ≤ 4) {x : List Tk} (h : AtT L 0 (unitT 0 y.toks x)) (hl : L.length = (unitT 0 y.toks x).length) : Runs (fun a => a.1.name = nM) (Un.unitG g (De.blockF g g) (De.defF g)) L 0 L.length := by
 obtain ⟨h0, h1, h2, h3, h4, h5, h6, h7, h8, h9, h10, h11, h12, h13, h14, h15, h16, h17, h18, h19, h20, h21, h22, h23, h24, h25, h⟩ := h
 have h : AtT L (0 + 1 + 1 + 1 + 1 + 1 + 1 + 1 + 1 + 1 + 1 + 1 + 1 + 1 + 1 + 1 + 1 + 1 + 1 + 1 + 1 + 1 + 1 + 1 + 1 + 1 + 1) (y.toks ++ sy sSem :: k_u0b) := h
 obtain ⟨hy0, hs, h26, h27, h28, h29, h30, h31, h32, h33, h34, h35, h36, h37, h38, h39, h40, h41, h42, h43, h44, _⟩ := atT_app h
 have ry := ty_at hg hy hy0 hs
 have hl2 : L.length = 0 + 1 + 1 + 1 + 1 + 1 + 1 + 1 + 1 + 1 + 1 + 1 + 1 + 1 + 1 + 1 + 1 + 1 + 1 + 1 + 1 + 1 + 1 + 1 + 1 + 1 + 1 + y.toks.length + 1 + 1 + 1 + 1 + 1 + 1 + 1 + 1 + 1 + 1 + 1 + 1 + 1 + 1 + 1 + 1 + 1 + 1 + 1 + 1 := by rw [hl]; simp [unitT] <;> omega
 rw [hl2]
 generalize hJ : 0 + 1 + 1 + 1 + 1 + 1 + 1 + 1 + 1 + 1 + 1 + 1 + 1 + 1 + 1 + 1 + 1 + 1 + 1 + 1 + 1 + 1 + 1 + 1 + 1 + 1 + 1 + y.toks.length = J at *
 have hi := imp_runs (L := L) (i := 0 + 1 + 1 + 1 + 1) hg ⟨h4, h5, h6, h7, h8, h9, h10, h11, h12, h13, h14, h15, trivial⟩ h16 ⟨rfl, rfl⟩
 obtain ⟨n, hn⟩ : ∃ n, g = n + 20 := ⟨g - 20, by omega⟩
 have hs1 : Rn (De.secR (De.constF g) g []) L (0 + 1 + 1 + 1 + 1 + 1 + 1 + 1 + 1 + 1 + 1 + 1 + 1 + 1 + 1 + 1 + 1 + 1) (0 + 1 + 1 + 1 + 1 + 1 + 1 + 1 + 1 + 1 + 1 + 1 + 1 + 1 + 1 + 1 + 1 + 1 + 1 + 1 + 1 + 1) := Rn.eq (congrArg (fun m => De.secR (De.constF g) m [] L _) hn) (sec_1 h17 rfl (runs_nm h17 rfl fun _ _ => runs_need h18 rfl (rn_bind (runs_exU (g := g) (by omega) h19 rfl h20 eS_sem) fun _ => rn_ret)) h20 fun _ => sec_0 h21 rfl)
 have hs2 : ∀ acc, Rn (De.secR (De.typeF (De.typF g g) true) g acc) L (0 + 1 + 1 + 1 + 1 + 1 + 1 + 1 + 1 + 1 + 1 + 1 + 1 + 1 + 1 + 1 + 1 + 1 + 1 + 1 + 1 + 1 + 1) (J + 1) := fun acc => Rn.eq (congrArg (fun m => De.secR (De.typeF (De.typF g g) true) m acc L _) hn) (sec_1 h22 rfl (runs_nm h22 rfl fun _ _ => runs_pos h23 fun u hu => runs_if (by rw [tT_u hu]; rfl) rn_ret) h23 fun _ => sec_1 h24 rfl (runs_nm h24 rfl fun _ _ => runs_pos h25 fun u hu => runs_el (by rw [tT_u hu]; decide) (runs_need h25 rfl (rn_bind ry fun _ => rn_ret))) hs fun _ => sec_0 h26 rfl)
 have nm1 : ∀ {i : Nat} {t u : Tk}, (tk L i).1 = t → t.kind = 1 → (tk L (i + 1)).1 = u → tkT sCom u = false → Rn (De.namesF g []) L i (i + 1) := fun {i t u} h hk h1 hu => Rn.eq (congrArg (fun m => De.namesF m [] L i) hn) (names_1 h hk h1 hu)
 have ty1 : Rn (De.typF g g) L (J + 1 + 1 + 1 + 1) (J + 1 + 1 + 1 + 1 + 1) := Rn.eq (congrArg (fun m => De.typF g m L _) hn) (typ_n h29 rfl h30 rfl)
 have hs3 : ∀ acc, Rn (De.secR (De.varF g (De.typF g g)) g acc) L (J + 1 + 1) (J + 1 + 1 + 1 + 1 + 1 + 1) := fun acc => Rn.eq (congrArg (fun m => De.secR (De.varF g (De.typF g g)) m acc L _) hn) (sec_1 h27 rfl (runs_pos h27 fun _ _ => rn_bind (nm1 h27 rfl h28 rfl) fun _ => runs_need h28 rfl (rn_bind ty1 fun _ => rn_ret)) h30 fun _ => sec_0 h31 rfl)
 have hp : Rn (De.procF g failP true) L (J + 1 + 1 + 1 + 1 + 1 + 1) (J + 1 + 1 + 1 + 1 + 1 + 1 + 1 + 1 + 1 + 1 + 1 + 1 + 1 + 1 + 1 + 1 + 1) := by
  refine rn_bind (j := J + 1 + 1 + 1 + 1 + 1 + 1 + 1 + 1 + 1 + 1 + 1 + 1 + 1 + 1 + 1 + 1) (runs_pos h31 fun _ _ => runs_need h31 rfl (runs_nm h32 rfl fun _ _ => rn_bind (runs_y h33 rfl fun _ _ => runs_pos h34 fun u hu => runs_el (by rw [tT_u hu]; decide) (rn_bind (j := J + 1 + 1 + 1 + 1 + 1 + 1 + 1 + 1 + 1 + 1 + 1 + 1 + 1) ?_ fun _ => runs_need h38 rfl (runs_y h39 rfl fun _ _ => rn_bind (ref_1 h40 rfl h41 rfl) fun _ => rn_ret))) fun _ => rn_ret)) fun _ => runs_need h41 rfl (runs_if rfl rn_ret)
  refine Rn.eq (congrArg (fun m => De.parsR g sSem true m [] L _) hn) (rn_bind (runs_pos h34 fun _ _ => runs_y h34 rfl fun _ _ => runs_if rfl (rn_bind (nm1 h35 rfl h36 rfl) fun _ => runs_need h36 rfl (rn_bind (runs_pos h37 fun _ _ => runs_n h37 rfl (ref_1 h37 rfl h38 rfl)) fun _ => rn_ret))) fun _ => runs_n h38 rfl rn_ret)
 have hdf : Rn (De.defF g) L (0 + 1 + 1 + 1 + 1 + 1 + 1 + 1 + 1 + 1 + 1 + 1 + 1 + 1 + 1 + 1 + 1) (J + 1 + 1 + 1 + 1 + 1 + 1 + 1 + 1 + 1 + 1 + 1 + 1 + 1 + 1 + 1 + 1 + 1) := Rn.eq (congrArg (fun m => De.declsR g (De.typF g g) failP true m [] L _) hn) (dec_c h16 hs1 fun _ => dec_t h21 (hs2 _) fun _ => dec_v h26 (hs3 _) fun _ => dec_p h31 hp fun _ => dec_0 h42 ⟨rfl, rfl, rfl⟩ rfl rfl)
 exact runs_pos h0 fun u _ => runs_w h0 rfl fun _ _ => tail_runs h1 h2 h3 hi (fun l => runs_if rfl (rn_bind hdf fun _ => runs_need h42 rfl rn_ret)) h43 h44
theorem unit_1 (hg : 20 ≤ g) (hL : L.length < g) {y : Ty} (hy : y.deep ≤ 4) {x : Bx} (hx : x.fits) (hxd : x.deep ≤ g) (h : AtT L 0 (unitT 1 y.toks x.toks)) (hl : L.length = (unitT 1 y.toks x.toks).length) : Runs (fun a => a.1.name = nM) (Un.unitG g (De.blockF g g) (De.defF g)) L 0 L.length := by
 obtain ⟨h0, h1, h2, h3, h4, h5, h6, h7, h8, h9, h10, h11, h12, h13, h14, h15, h16, h17, h18, h⟩ := h
 have h : AtT L (0 + 1 + 1 + 1 + 1 + 1 + 1 + 1 + 1 + 1 + 1 + 1 + 1 + 1 + 1 + 1 + 1 + 1 + 1 + 1) (y.toks ++ sy sSem :: (k_u1b ++ (x.toks ++ (k_u1c ++ (x.toks ++ k_u1d))))) := h
 obtain ⟨hy0, hs, h19, h20, h21, h22, h⟩ := atT_app h
 have h : AtT L (0 + 1 + 1 + 1 + 1 + 1 + 1 + 1 + 1 + 1 + 1 + 1 + 1 + 1 + 1 + 1 + 1 + 1 + 1 + 1 + y.toks.length + 1 + 1 + 1 + 1 + 1) (x.toks ++ (k_u1c ++ (x.toks ++ k_u1d))) := h
 obtain ⟨hx0, h23, h24, h25, h26, h⟩ := atT_app h
 have h : AtT L (0 + 1 + 1 + 1 + 1 + 1 + 1 + 1 + 1 + 1 + 1 + 1 + 1 + 1 + 1 + 1 + 1 + 1 + 1 + 1 + y.toks.length + 1 + 1 + 1 + 1 + 1 + x.toks.length + 1 + 1 + 1 + 1) (x.toks ++ k_u1d) := h
 obtain ⟨hx1, h27, h28, h29, _⟩ := atT_app h
 have ry := ty_at hg hy hy0 hs
 have hl2 : L.length = 0 + 1 + 1 + 1 + 1 + 1 + 1 + 1 + 1 + 1 + 1 + 1 + 1 + 1 + 1 + 1 + 1 + 1 + 1 + 1 + y.toks.length + 1 + 1 + 1 + 1 + 1 + x.toks.length + 1 + 1 + 1 + 1 + x.toks.length + 1 + 1 + 1 := by rw [hl]; simp [unitT] <;> omega
 rw [hl2]
 generalize hJ : 0 + 1 + 1 + 1 + 1 + 1 + 1 + 1 + 1 + 1 + 1 + 1 + 1 + 1 + 1 + 1 + 1 + 1 + 1 + 1 + y.toks.length = J at *
 have hi := imp_runs (L := L) (i := 0 + 1 + 1 + 1 + 1) hg ⟨h4, h5, h6, h7, h8, h9, h10, h11, h12, h13, h14, h15, trivial⟩ h16 ⟨rfl, rfl⟩
 obtain ⟨n, hn⟩ : ∃ n, g = n + 20 := ⟨g - 20, by omega⟩
 have hs2 : Rn (De.secR (De.typeF (De.typF g g) false) g []) L (0 + 1 + 1 + 1 + 1 + 1 + 1 + 1 + 1 + 1 + 1 + 1 + 1 + 1 + 1 + 1 + 1 + 1) (J + 1) := Rn.eq (congrArg (fun m => De.secR (De.typeF (De.typF g g) false) m [] L _) hn) (sec_1 h17 rfl (runs_nm h17 rfl fun _ _ => runs_pos h18 fun u hu => runs_el (by simp) (runs_need h18 rfl (rn_bind ry fun _ => rn_ret))) hs fun _ => sec_0 h19 rfl)
 have hb1 : Rn (De.blockF g (n + 19)) L (J + 1 + 1 + 1 + 1) (J + 1 + 1 + 1 + 1 + 1 + x.toks.length + 1) :=
  blk_open (blk_body hg hL hx (Rn.eq (congrArg (fun m => De.declsR g (De.typF g g) (De.blockF g (n + 18)) false m [] L _) hn) (dec_0 h22 ⟨rfl, rfl, rfl⟩ rfl rfl)) h22 hx0 h23 hxd)
 have hp : Rn (De.procF g (De.blockF g (n + 19)) false) L (J + 1) (J + 1 + 1 + 1 + 1 + 1 + x.toks.length + 1 + 1 + 1) :=
  runs_bind (P := fun h => h.1.name = ⟨#[112]⟩) (j := J + 1 + 1 + 1) (runs_pos h19 fun _ _ => runs_need h19 rfl (runs_nm h20 rfl fun u hu => rn_bind (runs_n h21 rfl rn_ret) fun _ => runs_ret (by show u.1.text = _; rw [hu]; rfl))) fun v hv => runs_need h21 rfl (runs_el (by simp) (rn_bind hb1 fun _ => by rw [hv]; exact runs_ends h24 rfl rfl (runs_need h25 rfl rn_ret)))
 have hb2 : Rn (De.blockF g g) L (0 + 1 + 1 + 1 + 1 + 1 + 1 + 1 + 1 + 1 + 1 + 1 + 1 + 1 + 1 + 1 + 1) (J + 1 + 1 + 1 + 1 + 1 + x.toks.length + 1 + 1 + 1 + 1 + x.toks.length + 1) :=
  Rn.eq (congrArg (fun m => De.blockF g m L _) hn) (blk_open (blk_body hg hL hx (Rn.eq (congrArg (fun m => De.declsR g (De.typF g g) (De.blockF g (n + 19)) false m [] L _) hn) (dec_t h16 hs2 fun _ => dec_p h19 hp fun _ => dec_0 h26 ⟨rfl, rfl, rfl⟩ rfl rfl)) h26 hx1 h27 hxd))
 exact runs_pos h0 fun u _ => runs_wn h0 rfl (runs_w h0 rfl fun _ _ => tail_runs h1 h2 h3 hi (fun l => runs_el (by decide) (rn_bind hb2 fun _ => rn_ret)) h28 h29)
theorem unit_2 (hg : 20 ≤ g) (hL : L.length < g) {y : Ty} (hy : y.deep ≤ 4) {x : Bx} (hx : x.fits) (hxd : x.deep ≤ g) (h : AtT L 0 (unitT 2 y.toks x.toks)) (hl : L.length = (unitT 2 y.toks x.toks).length) : Runs (fun a => a.1.name = nM) (Un.unitG g (De.blockF g g) (De.defF g)) L 0 L.length := by
 obtain ⟨h0, h1, h2, h3, h4, h5, h6, h7, h8, h9, h10, h11, h12, h13, h14, h15, h16, h17, h⟩ := h
 have h : AtT L (0 + 1 + 1 + 1 + 1 + 1 + 1 + 1 + 1 + 1 + 1 + 1 + 1 + 1 + 1 + 1 + 1 + 1 + 1) (y.toks ++ sy sSem :: (k_u2b ++ (x.toks ++ k_u1d))) := h
 obtain ⟨hy0, hs, h18, h⟩ := atT_app h
 have h : AtT L (0 + 1 + 1 + 1 + 1 + 1 + 1 + 1 + 1 + 1 + 1 + 1 + 1 + 1 + 1 + 1 + 1 + 1 + 1 + y.toks.length + 1 + 1) (x.toks ++ k_u1d) := h
 obtain ⟨hx0, h19, h20, h21, _⟩ := atT_app h
 have ry := ty_at hg hy hy0 hs
 have hl2 : L.length = 0 + 1 + 1 + 1 + 1 + 1 + 1 + 1 + 1 + 1 + 1 + 1 + 1 + 1 + 1 + 1 + 1 + 1 + 1 + y.toks.length + 1 + 1 + x.toks.length + 1 + 1 + 1 := by rw [hl]; simp [unitT] <;> omega
 rw [hl2]
 generalize hJ : 0 + 1 + 1 + 1 + 1 + 1 + 1 + 1 + 1 + 1 + 1 + 1 + 1 + 1 + 1 + 1 + 1 + 1 + 1 + y.toks.length = J at *
 have hi := imp_runs (L := L) (i := 0 + 1 + 1 + 1) hg ⟨h3, h4, h5, h6, h7, h8, h9, h10, h11, h12, h13, h14, trivial⟩ h15 ⟨rfl, rfl⟩
 obtain ⟨n, hn⟩ : ∃ n, g = n + 20 := ⟨g - 20, by omega⟩
 have nm1 : Rn (De.namesF g []) L (0 + 1 + 1 + 1 + 1 + 1 + 1 + 1 + 1 + 1 + 1 + 1 + 1 + 1 + 1 + 1 + 1) (0 + 1 + 1 + 1 + 1 + 1 + 1 + 1 + 1 + 1 + 1 + 1 + 1 + 1 + 1 + 1 + 1 + 1) := Rn.eq (congrArg (fun m => De.namesF m [] L _) hn) (names_1 h16 rfl h17 rfl)
 have hs3 : Rn (De.secR (De.varF g (De.typF g g)) g []) L (0 + 1 + 1 + 1 + 1 + 1 + 1 + 1 + 1 + 1 + 1 + 1 + 1 + 1 + 1 + 1 + 1) (J + 1) := Rn.eq (congrArg (fun m => De.secR (De.varF g (De.typF g g)) m [] L _) hn) (sec_1 h16 rfl (runs_pos h16 fun _ _ => rn_bind nm1 fun _ => runs_need h17 rfl (rn_bind ry fun _ => rn_ret)) hs fun _ => sec_0 h18 rfl)
 have hb2 : Rn (De.blockF g g) L (0 + 1 + 1 + 1 + 1 + 1 + 1 + 1 + 1 + 1 + 1 + 1 + 1 + 1 + 1 + 1) (J + 1 + 1 + x.toks.length + 1) :=
  Rn.eq (congrArg (fun m => De.blockF g m L _) hn) (blk_open (blk_body hg hL hx (Rn.eq (congrArg (fun m => De.declsR g (De.typF g g) (De.blockF g (n + 19)) false m [] L _) hn) (dec_v h15 hs3 fun _ => dec_0 h18 ⟨rfl, rfl, rfl⟩ rfl rfl)) h18 hx0 h19 hxd))
 exact runs_pos h0 fun u _ => runs_wn h0 rfl (runs_wn h0 rfl (tail_runs h0 h1 h2 hi (fun l => runs_el (by decide) (rn_bind hb2 fun _ => rn_ret)) h20 h21))
theorem unit_3 (hg : 20 ≤ g) (hL : L.length < g) {y : Ty} (hy : y.deep ≤ 4) {x : Bx} (hx : x.fits) (hxd : x.deep ≤ g) (h : AtT L 0 (unitT 3 y.toks x.toks)) (hl : L.length = (unitT 3 y.toks x.toks).length) : Runs (fun a => a.1.name = nM) (Un.unitG g (De.blockF g g) (De.defF g)) L 0 L.length := by
 obtain ⟨h0, h1, h2, h3, h4, h5, h6, h7, h8, h9, h10, h11, h⟩ := h
 have h : AtT L (0 + 1 + 1 + 1 + 1 + 1 + 1 + 1 + 1 + 1 + 1 + 1 + 1) (y.toks ++ sy sSem :: (k_u2b ++ (x.toks ++ k_u3d))) := h
 obtain ⟨hy0, hs, h12, h⟩ := atT_app h
 have h : AtT L (0 + 1 + 1 + 1 + 1 + 1 + 1 + 1 + 1 + 1 + 1 + 1 + 1 + y.toks.length + 1 + 1) (x.toks ++ k_u3d) := h
 obtain ⟨hx0, h13, h14, h15, h16, h17, h18, _⟩ := atT_app h
 have ry := ty_at hg hy hy0 hs
 have hl2 : L.length = 0 + 1 + 1 + 1 + 1 + 1 + 1 + 1 + 1 + 1 + 1 + 1 + 1 + y.toks.length + 1 + 1 + x.toks.length + 1 + 1 + 1 + 1 + 1 + 1 := by rw [hl]; simp [unitT] <;> omega
 rw [hl2]
 generalize hJ : 0 + 1 + 1 + 1 + 1 + 1 + 1 + 1 + 1 + 1 + 1 + 1 + 1 + y.toks.length = J at *
 obtain ⟨n, hn⟩ : ∃ n, g = n + 20 := ⟨g - 20, by omega⟩
 have hi : Rn (Un.importsR g g []) L (0 + 1 + 1 + 1) (0 + 1 + 1 + 1) := Rn.eq (congrArg (fun m => Un.importsR g m [] L _) hn) (runs_n h3 rfl (runs_n h3 rfl rn_ret))
 have nm1 : ∀ {i : Nat} {t u : Tk}, (tk L i).1 = t → t.kind = 1 → (tk L (i + 1)).1 = u → tkT sCom u = false → Rn (De.namesF g []) L i (i + 1) := fun {i t u} h hk h1 hu => Rn.eq (congrArg (fun m => De.namesF m [] L i) hn) (names_1 h hk h1 hu)
 have hs3 : Rn (De.secR (De.varF g (De.typF g g)) g []) L (0 + 1 + 1 + 1 + 1 + 1 + 1 + 1 + 1 + 1 + 1) (J + 1) := Rn.eq (congrArg (fun m => De.secR (De.varF g (De.typF g g)) m [] L _) hn) (sec_1 h10 rfl (runs_pos h10 fun _ _ => rn_bind (nm1 h10 rfl h11 rfl) fun _ => runs_need h11 rfl (rn_bind ry fun _ => rn_ret)) hs fun _ => sec_0 h12 rfl)
 have hb1 : Rn (De.blockF g (n + 19)) L (0 + 1 + 1 + 1 + 1 + 1 + 1 + 1 + 1 + 1) (J + 1 + 1 + x.toks.length + 1) :=
  blk_open (blk_body hg hL hx (Rn.eq (congrArg (fun m => De.declsR g (De.typF g g) (De.blockF g (n + 18)) false m [] L _) hn) (dec_v h9 hs3 fun _ => dec_0 h12 ⟨rfl, rfl, rfl⟩ rfl rfl)) h12 hx0 h13 hxd)
 have hm : Rn (De.modF g (De.blockF g (n + 19))) L (0 + 1 + 1 + 1) (J + 1 + 1 + x.toks.length + 1 + 1 + 1) :=
  runs_pos h3 fun _ _ => runs_need h3 rfl (runs_nm h4 rfl fun u hu => runs_need h5 rfl (rn_bind (Rn.eq (congrArg (fun m => De.impR g m [] L _) hn) (runs_n h6 rfl rn_ret)) fun l => rn_bind (runs_y h6 rfl fun _ _ => runs_n h7 rfl (rn_bind (nm1 h7 rfl h8 rfl) fun _ => runs_need h8 rfl rn_ret)) fun _ => rn_bind hb1 fun _ => by rw [hu]; exact runs_ends h14 rfl rfl (runs_need h15 rfl rn_ret)))
 have hb2 : Rn (De.blockF g g) L (0 + 1 + 1 + 1) (J + 1 + 1 + x.toks.length + 1 + 1 + 1 + 1) :=
  Rn.eq (congrArg (fun m => De.blockF g m L _) hn) (blk_open (runs_pos h3 fun _ _ => rn_bind (Rn.eq (congrArg (fun m => De.declsR g (De.typF g g) (De.blockF g (n + 19)) false m [] L _) hn) (dec_m h3 hm fun _ => dec_0 h16 ⟨rfl, rfl, rfl⟩ rfl rfl)) fun _ => runs_n h16 rfl (runs_pos h16 fun _ _ => runs_need h16 rfl rn_ret)))
 exact runs_pos h0 fun u _ => runs_wn h0 rfl (runs_wn h0 rfl (tail_runs h0 h1 h2 hi (fun l => runs_el (by decide) (rn_bind hb2 fun _ => rn_ret)) h17 h18))
theorem unit_all (k : Nat) (hL : L.length < g) {y : Ty} (hy : y.deep ≤ 4) {x : Bx} (hx : x.fits) (h : AtT L 0 (unitT k y.toks x.toks)) (hl : L.length = (unitT k y.toks x.toks).length) : Runs (fun a => a.1.name = nM) (Un.parseU g) L 0 L.length := by
 have h20 : 20 ≤ L.length := by
  rw [hl]
  match k with
  | 0 => simp [unitT] <;> omega
  | 1 => simp [unitT] <;> omega
  | 2 => simp [unitT] <;> omega
  | k + 3 => simp [unitT] <;> omega
 have hd : 1 ≤ k → x.deep ≤ g := fun h1 => by
  have := deep_le x
  have h2 : x.toks.length ≤ L.length := by
   rw [hl]
   match k, h1 with
   | 1, _ => simp [unitT] <;> omega
   | 2, _ => simp [unitT] <;> omega
   | k + 3, _ => simp [unitT] <;> omega
  omega
 have hu : Runs (fun a => a.1.name = nM) (Un.unitG g (De.blockF g g) (De.defF g)) L 0 L.length := by
  match k with
  | 0 => exact unit_0 (by omega) hL hy h hl
  | 1 => exact unit_1 (by omega) hL hy hx (hd (by omega)) h hl
  | 2 => exact unit_2 (by omega) hL hy hx (hd (by omega)) h hl
  | k + 3 => exact unit_3 (by omega) hL hy hx (hd (by omega)) h hl
 have hf : (tk L L.length).1 = noTk := by rw [tk_end nl]; rfl
 exact runs_bind hu fun a ha => runs_pos hf fun u hu => runs_if (by unfold Un.isFin; rw [hu]; rfl) (runs_ret ha)
end
end Rn
namespace Ex
open Go.RowKit
open Tr (Nd Fo)
open Lx (Tk noTk Blk run_store_complexL TokAt)
open Fl
attribute [local go_sem] run_store_complexL
def PT.vals (t : PT) : List Value := t.1.vals t.2.1 t.2.2
def PT.val (t : PT) : Value := t.1.val t.2.1 t.2.2
def flatP (l : List PT) : List Value := l.flatMap PT.vals
structure Toks (w0 : World) (br : Nat) (A : Option Addr) (L : List PT) : Prop where
 reads : Reads w0 w0.heap.size 5 A L.length (flatP L)
 low : br < w0.heap.size
 far : ∀ ad, A = some ad → ad.block ≠ br
 len : L.length ≤ 20000
structure PInv (w0 w : World) (br : Nat) (A : Option Addr) (c : Nat) (L : List PT) (i : Nat) : Prop where
 row : Blk w br 153 #[.slice A L.length c, .int .i64 i]
 grown : w0.grownBy w (some br)
section
variable {w0 w w' : World} {br c i : Nat} {A : Option Addr} {L : List PT}
theorem grown_trans {a b d : World} {r : Option Nat} (h : a.grownBy b r) (h' : b.grownBy d r) : a.grownBy d r :=
 ⟨h'.os.trans h.os, h'.tape.trans h.tape, h'.output.trans h.output, Nat.le_trans h.size h'.size, fun k hk hr => (h'.block k (Nat.lt_of_lt_of_le hk h.size) hr).trans (h.block k hk hr)⟩
theorem grown_of_below {a b : World} (h : Below a.heap.size a b) (r : Option Nat) : a.grownBy b r := ⟨h.os, h.tape, h.output, h.size, fun k hk _ => h.block k hk⟩
theorem PInv.below (h : PInv w0 w br A c L i) (hb : Below w.heap.size w w') : PInv w0 w' br A c L i :=
 ⟨h.row.below hb h.row.lt, grown_trans h.grown (grown_of_below hb _)⟩
theorem flatP_len (l : List PT) : (flatP l).length = l.length * 5 := by
 induction l with
 | nil => rfl
 | cons t l ih => simp only [flatP, List.flatMap_cons, List.length_append, List.length_cons] at ih ⊢; rw [ih, show (PT.vals t).length = 5 from rfl]; omega
theorem flatP_at (l : List PT) (i j : Nat) (hi : i < l.length) (hj : j < 5) : (flatP l)[i * 5 + j]? = (PT.vals l[i])[j]? := by
 induction l generalizing i with
 | nil => simp at hi
 | cons t l ih =>
   cases i with
   | zero =>
     simp only [flatP, List.flatMap_cons, Nat.zero_mul, Nat.zero_add, List.getElem_cons_zero]
     rw [List.getElem?_append_left (by rw [show (PT.vals t).length = 5 from rfl]; omega)]
   | succ i =>
     simp only [flatP, List.flatMap_cons, List.getElem_cons_succ]
     rw [List.getElem?_append_right (by rw [show (PT.vals t).length = 5 from rfl]; omega), show (PT.vals t).length = 5 from rfl, show (i + 1) * 5 + j - 5 = i * 5 + j from by omega]
     exact ih i (by simpa using hi)
theorem PInv.tok (h : PInv w0 w br A c L i) (ht : Toks w0 br A L) {k : Nat} (hk : k < L.length) : ∃ g off, A = some ⟨g, off, none⟩ ∧ ∀ j, j < 5 → w.cell? ⟨g, off + k * 5 + j, none⟩ = (PT.vals L[k])[j]? := by
 obtain ⟨⟨g, off, sp⟩, e, hlt, hc⟩ := ht.reads.2 (by omega)
 have hl := flatP_len L
 have hget : ∀ m, m < L.length * 5 → ∃ u, (flatP L)[m]? = some u := fun m hm => ⟨(flatP L)[m]'(by omega), List.getElem?_eq_getElem (by omega)⟩
 have hs : sp = none := by
  obtain ⟨u, hu⟩ := hget 0 (by omega)
  have := World.cell?_spot (hc 0 u hu)
  simpa [Addr.add] using this
 subst hs
 refine ⟨g, off, e, fun j hj => ?_⟩
 rw [← flatP_at L k j hk hj]
 obtain ⟨u, hu⟩ := hget (k * 5 + j) (by omega)
 rw [hu, ← hc _ u hu]
 have ha : (⟨g, off, none⟩ : Addr).add (k * 5 + j) = ⟨g, off + k * 5 + j, none⟩ := by unfold Addr.add; split <;> simp_all [Nat.add_assoc]
 rw [ha]
 have hne := ht.far _ e
 exact World.cell?_of_block (h.grown.block g hlt (fun e => hne (by simpa using e)))
end
abbrev zeroB : Obj := .cells #[.int .u8 0, .complex .f64 0 0, .complex .f64 0 0, .string ⟨#[]⟩, .int .i64 0] 40
theorem now_any {w0 : World} {br c i : Nat} {A : Option Addr} {L : List PT} (ht : Toks w0 br A L) (hi : i ≤ 1000000) (w : World) (h : PInv w0 w br A c L i) :
 Calls Tryz.prog 143 #[.pointer (some ⟨br, 0, none⟩)] w fun e w' => e = .returned (PT.val (tk L i)) ∧ Below w.heap.size w w' := by
 have hlen := ht.len
 have x0 : (0 : Int) ≤ (i : Int) := by omega
 have hbA : Below w.heap.size w (w.alloc zeroB) := (Below.refl w.heap.size w).alloc nl _
 have hP := h.below hbA
 have hB := Blk.new w 40 #[.int .u8 0, .complex .f64 0 0, .complex .f64 0 0, .string ⟨#[]⟩, .int .i64 0]
 have HBA := qh hbA
 have HB := qh hB
 have m0 := hP.row.cell 0
 have m1 := hP.row.cell 1
 simp only [List.getElem?_toArray, List.getElem?_cons_zero, List.getElem?_cons_succ] at m0 m1
 by_cases hlt : i < L.length
 ·obtain ⟨g, off, rfl, hc⟩ := hP.tok ht hlt
  have x1 : (i : Int) < (L.length : Int) := by omega
  have x2 : ¬ (i : Int) < 0 := by omega
  have HT := qh (show tk L i = L[i] by unfold tk; rw [List.getElem?_eq_getElem hlt]; rfl)
  obtain ⟨⟨⟨k, t, n⟩, ⟨p1, p2⟩, ⟨q1, q2⟩⟩, hL⟩ : ∃ t : PT, t = L[i] := ⟨_, rfl⟩
  rw [← hL] at hc HT
  have c0 := hc 0 (by omega)
  have c1 := hc 1 (by omega)
  have c2 := hc 2 (by omega)
  have c3 := hc 3 (by omega)
  have c4 := hc 4 (by omega)
  simp only [PT.vals, Lx.Tk.vals, Pl.C, List.getElem?_cons_zero, List.getElem?_cons_succ, Nat.add_zero] at c0 c1 c2 c3 c4
  have hIW : IntKind.i64.wrap (i : Int) = (i : Int) := IntWalk.i64_in _ (by omega)
  clear hc hL h ht hbA hB hP
  go_enter Tryz.func143, Tryz.ntmps143
  go_wp2
  generalize w.alloc zeroB = wa at *
  go_quiet (fail)
  go_wp2
  have m0' : (wa.drewN nq).cell? _ = _ := m0
  have m1' : (wa.drewN nq).cell? _ = _ := m1
  have c0' : (wa.drewN nq).cell? _ = _ := c0
  have c1' : (wa.drewN nq).cell? _ = _ := c1
  have c2' : (wa.drewN nq).cell? _ = _ := c2
  have c3' : (wa.drewN nq).cell? _ = _ := c3
  have c4' : (wa.drewN nq).cell? _ = _ := c4
  have HBA := qh (Lx.below_drewN HBA.out nq)
  have HB := qh (HB.out.drewN nq)
  clear m0 m1 c0 c1 c2 c3 c4
  generalize wa.drewN nq = wb at *
  go_still_tail 10, (by kernel_rfl)
  change wpList _ _ _ _ _ wb.drew
  have HBA := qh (Lx.below_drewN HBA.out 1)
  have HB := qh (HB.out.drewN 1)
  clear m0' m1' c0' c1' c2' c3' c4'
  rw [show wb.drewN 1 = wb.drew from rfl] at HBA HB
  generalize wb.drew = wc at *
  obtain ⟨z0, z1, z2, z3, z4, f0, f1, f2, f3, f4⟩ := HB.out.tok
  go_wp2
  refine bodyPost_ret (Lx.tok_ret1 rfl _ _ w.heap.size _ _ _ _ _ rfl (Lx.tok_stored HB.out _ _ _ _ _)) rfl ?_
  exact ⟨by rw [HT.out]; rfl, Lx.below_stored HBA.out nl _ _ _ _ _⟩
 ·have x1 : ¬ (i : Int) < (L.length : Int) := by omega
  have HT := qh (show tk L i = noPT by unfold tk; rw [List.getElem?_eq_none (by omega)]; rfl)
  clear h ht hB hP hbA
  go_enter Tryz.func143, Tryz.ntmps143
  go_wp2
  generalize w.alloc zeroB = wa at *
  go_quiet (fail)
  have HBA := qh (Lx.below_drewN HBA.out nq)
  have HB := qh (HB.out.drewN nq)
  clear m0 m1
  generalize wa.drewN nq = wb at *
  obtain ⟨z0, z1, z2, z3, z4, f0, f1, f2, f3, f4⟩ := HB.out.tok
  go_wp2
  refine bodyPost_ret (Lx.tok_ret1 rfl _ _ w.heap.size _ _ _ _ _ rfl (Lx.tok_stored HB.out _ _ _ _ _)) rfl ?_
  exact ⟨by rw [HT.out]; simp [PT.val, noPT, noTk, Lx.Tk.val, Lx.Tk.vals, Pl.C, fl_0], Lx.below_stored HBA.out nl _ _ _ _ _⟩
theorem val_form (t : PT) : ∃ (k : Nat) (p1 p2 q1 q2 : Nat) (s : ByteArray) (n : Int), t = (⟨k, s, n⟩, (p1, p2), (q1, q2)) ∧ PT.val t = .agg #[.int .u8 k, .complex .f64 (fl p1) (fl p2), .complex .f64 (fl q1) (fl q2), .string s, .int .i64 n] := by
 obtain ⟨⟨k, s, n⟩, ⟨p1, p2⟩, ⟨q1, q2⟩⟩ := t
 exact ⟨k, p1, p2, q1, q2, s, n, rfl, rfl⟩
theorem is_any {w0 : World} {br c i : Nat} {A : Option Addr} {L : List PT} (ht : Toks w0 br A L) (hi : i ≤ 1000000) (s : ByteArray) (w : World) (h : PInv w0 w br A c L i) :
 Calls Tryz.prog 162 #[.pointer (some ⟨br, 0, none⟩), .string s] w fun e w' => e = .returned (.bool (isT L i s)) ∧ Below w.heap.size w w' := by
 have N1 := qh (now_any ht hi w h)
 have HI := qh (show isT L i s = (isSW (tk L i) && decide ((tk L i).1.text = s)) from rfl)
 obtain ⟨k, p1, p2, q1, q2, t, n, e1, e2⟩ := val_form (tk L i)
 rw [e2] at N1
 rw [e1] at HI
 clear e1 e2 h ht hi
 generalize isT L i s = b at *
 go_enter Tryz.func162, Tryz.ntmps162
 go_wp2_with fail
 ((with_reducible refine N1.out.mono ?_); rintro e w1 ⟨rfl, hb⟩)
 have HB := qh hb
 have hl : t.toList = t.data.toList := ByteArray.toList_eq t
 have hl2 : s.toList = s.data.toList := ByteArray.toList_eq s
 have ht1 : (t.toList == s.toList) = decide (t = s) := by
  rw [hl, hl2, Bool.eq_iff_iff, beq_iff_eq, decide_eq_true_eq]
  exact ⟨fun h => Lx.bytes_ext h, fun h => by rw [h]⟩
 have k5 : ((k : Int) == 5) = decide (k = 5) := by rw [Bool.eq_iff_iff, beq_iff_eq, decide_eq_true_eq]; omega
 have k6 : ((k : Int) == 6) = decide (k = 6) := by rw [Bool.eq_iff_iff, beq_iff_eq, decide_eq_true_eq]; omega
 simp only [isSW] at HI
 clear hl hl2 hb N1
 generalize decide (t = s) = bt at *
 generalize decide (k = 5) = b5 at *
 generalize decide (k = 6) = b6 at *
 have HI2 := qh HI.out
 rcases b5 with _ | _ <;> rcases b6 with _ | _ <;> rcases bt with _ | _
 all_goals
  go_wp2
  go_ret
  exact ⟨ret_bool (by rw [HI2.out]; rfl), HB.out.alloc HB.out.size _⟩
end Ex
end Go.Proofs.YtkemhmfdooghkaaGreatDoor
