/- A part of the proof: N1, N7, E2, E3. -/
import Derived.Test.YtkemhmfdooghkaaGreatDoorZ1
import Derived.Test.YtkemhmfdooghkaaGreatDoorZ7
import Derived.Test.YtkemhmfdooghkaaGreatDoorZ5
import Derived.Deep.QuietTactic
import Derived.BigQuiet
import Derived.Outline
import Derived.StillTailTactics
set_option linter.unusedSimpArgs false
set_option linter.unusedVariables false

section
namespace Go.Proofs.YtkemhmfdooghkaaGreatDoor.Un
open Tr (Nd Fo)
open Lx (Tk noTk)
open Ex St De
section
variable {α β : Type} {p : Par α} {q : α → Par β} {L : List PT} {i j k : Nat} {a : α}
theorem bind_ok (h : p L i = .ok (a, j)) : bindP p q L i = q a L j := by unfold bindP; rw [h]
theorem need_y {s : ByteArray} {p : Par α} (h : isT L i s = true) : needF s p L i = p L (i + 1) := if_pos h
theorem tok_y {t : PT → Bool} {A : PT → Par α} {B : Par α} (h : t (tk L i) = true) : tokP t A B L i = A (tk L i) L (i + 1) := if_pos h
theorem tok_n {t : PT → Bool} {A : PT → Par α} {B : Par α} (h : t (tk L i) = false) : tokP t A B L i = B L i := if_neg (by rw [h]; simp)
end
abbrev sFrom : ByteArray := ⟨#[70, 82, 79, 77]⟩
abbrev sDefn : ByteArray := ⟨#[68, 69, 70, 73, 78, 73, 84, 73, 79, 78]⟩
abbrev sImpl : ByteArray := ⟨#[73, 77, 80, 76, 69, 77, 69, 78, 84, 65, 84, 73, 79, 78]⟩
def isThe (which : ByteArray) (t : PT) : Bool := isNm t && (decide (which = sNil) || decide (t.1.text = which))
def isFin (t : PT) : Bool := decide (t.1.kind = 0)
section
variable (g : Nat) (bl : Par T1) (df : Par (List T1))
def importsR : Nat → List T1 → Par (List T1)
 | 0, _ => failP
 | f + 1, acc => tokP (tT sFrom) (fun t => tokP isNm (fun n => needF sImport (bindP (namesF g []) fun l => needF sSem (importsR f (acc ++ [mk 54 t.2.1 n.1.text 0 l])))) failP)
   (tokP (tT sImport) (fun t => bindP (namesF g []) fun l => needF sSem (importsR f (acc ++ [mk 53 t.2.1 sNil 0 l]))) (retP acc))
def restF (k : Nat) (l : List T1) : Par (List T1) := if k = 50 then bindP df fun d => needF sEnd (retP (l ++ d)) else bindP bl fun b => retP (l ++ [b])
def tailF (k : Nat) (p : Nat × Nat) : Par T1 := needF sModule (tokP isNm (fun n => needF sSem (bindP (importsR g g []) fun l => bindP (restF bl df k l) fun l2 => tokP (isThe n.1.text) (fun _ => needF sDot (retP (mk k p n.1.text 0 l2))) failP)) failP)
def unitG : Par T1 := posP fun t => tokP (isWd6 sDefn) (fun _ => tailF g bl df 50 t.2.1) (tokP (isWd6 sImpl) (fun _ => tailF g bl df 51 t.2.1) (tailF g bl df 52 t.2.1))
def parseG : Par T1 := bindP (unitG g bl df) fun x => posP fun t => if isFin t = true then retP x else failP
end
def parseU (g : Nat) : Par T1 := parseG g (blockF g g) (defF g)
section
variable {g : Nat} {bl : Par T1} {df : Par (List T1)} (hb : Good2 bl) (hd : Good2 df)
theorem isThe_no (n : ByteArray) : isThe n noPT = false := rfl
theorem g2_imports : ∀ (f : Nat) (acc : List T1), Good2 (importsR g f acc)
 | 0, _ => g2_fail
 | f + 1, acc => g2_tok (tT_no _) (fun t => g2_tok rfl (fun n => g2_need (g2_bind (g2_names _ _) fun l => g2_need (g2_imports f _))) g2_fail)
   (g2_tok (tT_no _) (fun t => g2_bind (g2_names _ _) fun l => g2_need (g2_imports f _)) (g2_ret _))
include hb hd
theorem g2_rest {k : Nat} {l : List T1} : Good2 (restF bl df k l) := g2_if (g2_bind hd fun d => g2_need (g2_ret _)) (g2_bind hb fun b => g2_ret _)
theorem g2_tail {k : Nat} {p : Nat × Nat} : Good2 (tailF g bl df k p) := g2_need (g2_tok rfl (fun n => g2_need (g2_bind (g2_imports _ _) fun l => g2_bind (g2_rest hb hd) fun l2 => g2_tok (isThe_no _) (fun _ => g2_need (g2_ret _)) g2_fail)) g2_fail)
theorem g2_unit : Good2 (unitG g bl df) := g2_pos fun t => g2_tok (isWd6_no _) (fun _ => g2_tail hb hd) (g2_tok (isWd6_no _) (fun _ => g2_tail hb hd) (g2_tail hb hd))
end
end Go.Proofs.YtkemhmfdooghkaaGreatDoor.Un
end

section
namespace Go.Proofs.YtkemhmfdooghkaaGreatDoor.Un
open Tr (Nd Fo)
open Lx (Tk noTk lex lex_app lex_nil)
open Ex St De
def kw (s : ByteArray) : Tk := ⟨6, s, 0⟩
def ks (s : ByteArray) : Tk := ⟨5, s, 0⟩
def kn (c : UInt8) : Tk := ⟨1, ⟨#[c]⟩, 0⟩
abbrev Im := Bool × UInt8
def chunkB (p : Im) : List UInt8 := if p.1 = true then [70, 82, 79, 77, 32, p.2, 32, 73, 77, 80, 79, 82, 84, 32, 120, 44, 32, 121, 59] else [73, 77, 80, 79, 82, 84, 32, p.2, 44, 32, p.2, 59]
def chunkK (p : Im) : List Tk := if p.1 = true then [kw sFrom, kn p.2, kw sImport, kn 120, ks sCom, kn 121, ks sSem] else [kw sImport, kn p.2, ks sCom, kn p.2, ks sSem]
def OKc (c : UInt8) : Prop := ∃ j, j < 8 ∧ c = UInt8.ofNat (65 + j)
theorem chunk_lex {p : Im} (h : OKc p.2) : lex (chunkB p) = some (chunkK p) := by
 obtain ⟨b, c⟩ := p
 obtain ⟨j, hj, rfl⟩ := h
 rcases b with _ | _ <;> (rcases (show j = 0 ∨ j = 1 ∨ j = 2 ∨ j = 3 ∨ j = 4 ∨ j = 5 ∨ j = 6 ∨ j = 7 by omega) with rfl | rfl | rfl | rfl | rfl | rfl | rfl | rfl <;> kernel_rfl)
def textI (ps : List Im) : List UInt8 := ps.flatMap fun p => chunkB p ++ [32]
def toksI (ps : List Im) : List Tk := ps.flatMap chunkK
def hdB : List UInt8 := [77, 79, 68, 85, 76, 69, 32, 77, 59, 32]
def enB : List UInt8 := [69, 78, 68, 32, 77, 46]
theorem la {s r : List UInt8} {l : List Tk} (h : lex s = some l) : lex (s ++ 32 :: r) = (lex r).map (l ++ ·) := lex_app r _ s l (Nat.le_refl _) h
theorem lex_textI (r : List UInt8) {m : List Tk} (hr : lex r = some m) : ∀ ps : List Im, (∀ p ∈ ps, OKc p.2) → lex (textI ps ++ r) = some (toksI ps ++ m)
 | [], _ => hr
 | p :: ps, h => by
   have ih := lex_textI r hr ps (fun q hq => h q (List.mem_cons_of_mem _ hq))
   show lex ((chunkB p ++ [32] ++ textI ps) ++ r) = some (chunkK p ++ toksI ps ++ m)
   rw [List.append_assoc, List.append_assoc, List.singleton_append, la (chunk_lex (h p (List.mem_cons_self ..))), ih]
   simp
def allK (ps : List Im) : List Tk := [kw sModule, kn 77, ks sSem] ++ (toksI ps ++ [kw sEnd, kn 77, ks sDot])
theorem lex_all {ps : List Im} (h : ∀ p ∈ ps, OKc p.2) : lex (hdB ++ (textI ps ++ enB)) = some (allK ps) := by
 have h1 : lex [77, 79, 68, 85, 76, 69, 32, 77, 59] = some [kw sModule, kn 77, ks sSem] := by kernel_rfl
 have h2 : lex enB = some [kw sEnd, kn 77, ks sDot] := by kernel_rfl
 rw [show hdB ++ (textI ps ++ enB) = [77, 79, 68, 85, 76, 69, 32, 77, 59] ++ 32 :: (textI ps ++ enB) from rfl, la h1, lex_textI enB h2 ps h]
 rfl
def AtK (L : List PT) (i : Nat) (ts : List Tk) : Prop := ∀ k t, ts[k]? = some t → (tk L (i + k)).1 = t
section
variable {L : List PT} {i : Nat}
theorem atK_of {ts : List Tk} (h : L.map (·.1) = ts) : AtK L 0 ts := fun k t ht => by
 rw [Nat.zero_add, tk_map, h, ht]; rfl
theorem AtK.app {a b : List Tk} (h : AtK L i (a ++ b)) : AtK L i a ∧ AtK L (i + a.length) b := by
 refine ⟨fun k t ht => h k t ?_, fun k t ht => ?_⟩
 ·rw [List.getElem?_append_left (List.getElem?_eq_some_iff.1 ht).1]; exact ht
 ·have := h (a.length + k) t (by rw [List.getElem?_append_right (by omega), Nat.add_sub_cancel_left]; exact ht)
  rw [← Nat.add_assoc] at this
  exact this
theorem AtK.cons {t : Tk} {b : List Tk} (h : AtK L i (t :: b)) : (tk L i).1 = t ∧ AtK L (i + 1) b := by
 obtain ⟨h1, h2⟩ := AtK.app (a := [t]) (b := b) h
 exact ⟨h1 0 t rfl, h2⟩
theorem isT_of {t : Tk} {s : ByteArray} (h : (tk L i).1 = t) : isT L i s = ((decide (t.kind = 5) || decide (t.kind = 6)) && decide (t.text = s)) := by
 unfold isT isSW; rw [h]
theorem tT_of {t : Tk} {s : ByteArray} (h : (tk L i).1 = t) : tT s (tk L i) = ((decide (t.kind = 5) || decide (t.kind = 6)) && decide (t.text = s)) := isT_of h
theorem nm_of {t : Tk} (h : (tk L i).1 = t) : isNm (tk L i) = decide (t.kind = 1) := by unfold isNm; rw [h]
theorem wd_of {t : Tk} {s : ByteArray} (h : (tk L i).1 = t) : isWd6 s (tk L i) = (decide (t.kind = 6) && decide (t.text = s)) := by unfold isWd6; rw [h]
theorem the_of {t : Tk} {s : ByteArray} (h : (tk L i).1 = t) : isThe s (tk L i) = (decide (t.kind = 1) && (decide (s = sNil) || decide (t.text = s))) := by unfold isThe isNm; rw [h]
theorem fin_of {t : Tk} (h : (tk L i).1 = t) : isFin (tk L i) = decide (t.kind = 0) := by unfold isFin; rw [h]
theorem names2 {g : Nat} (hg : 2 ≤ g) {a b : UInt8} {r : Tk} (h : AtK L i [kn a, ks sCom, kn b, r]) (hr : ((decide (r.kind = 5) || decide (r.kind = 6)) && decide (r.text = sCom)) = false) :
 ∃ p q, namesF g [] L i = .ok ([mk 1 p ⟨#[a]⟩ 0 [], mk 1 q ⟨#[b]⟩ 0 []], i + 3) := by
 obtain ⟨g, rfl⟩ : ∃ g', g = g' + 2 := ⟨g - 2, by omega⟩
 obtain ⟨h1, h⟩ := h.cons
 obtain ⟨h2, h⟩ := h.cons
 obtain ⟨h3, h⟩ := h.cons
 obtain ⟨h4, h⟩ := h.cons
 refine ⟨(tk L i).2.1, (tk L (i + 1 + 1)).2.1, ?_⟩
 rw [namesF, tok_y (t := isNm) (by rw [nm_of h1]; rfl), tok_y (t := tT sCom) (by rw [tT_of h2]; rfl), namesF, tok_y (t := isNm) (by rw [nm_of h3]; rfl), tok_n (t := tT sCom) (by rw [tT_of h4]; exact hr), h1, h3]
 rfl
def NodeOK (k : T1) (p : Im) : Prop := if p.1 = true then k.1.kind = 54 ∧ k.1.name = ⟨#[p.2]⟩ else k.1.kind = 53 ∧ ∃ a b, k.2 = forest [mk 1 a ⟨#[p.2]⟩ 0 [], mk 1 b ⟨#[p.2]⟩ 0 []]
def NodeL : List T1 → List Im → Prop
 | [], [] => True
 | k :: l, p :: ps => NodeOK k p ∧ NodeL l ps
 | _, _ => False
theorem imports_run {g : Nat} (hg : 2 ≤ g) : ∀ (ps : List Im) (f : Nat) (acc : List T1) (i : Nat), ps.length < f → AtK L i (toksI ps ++ [kw sEnd]) → ∃ l, importsR g f acc L i = .ok (acc ++ l, i + (toksI ps).length) ∧ NodeL l ps
 | [], f, acc, i, hf, h => by
   obtain ⟨f, rfl⟩ : ∃ f', f = f' + 1 := ⟨f - 1, by simp at hf; omega⟩
   obtain ⟨h1, _⟩ := AtK.cons (t := kw sEnd) (b := []) h
   refine ⟨[], ?_, trivial⟩
   rw [importsR, tok_n (t := tT sFrom) (by rw [tT_of h1]; rfl), tok_n (t := tT sImport) (by rw [tT_of h1]; rfl), List.append_nil]
   rfl
 | p :: ps, f, acc, i, hf, h => by
   obtain ⟨f, rfl⟩ : ∃ f', f = f' + 1 := ⟨f - 1, by simp at hf; omega⟩
   have hf' : ps.length < f := by simpa using hf
   have h' : AtK L i (chunkK p ++ (toksI ps ++ [kw sEnd])) := by
    have : toksI (p :: ps) ++ [kw sEnd] = chunkK p ++ (toksI ps ++ [kw sEnd]) := by simp [toksI]
    rw [← this]; exact h
   obtain ⟨hc, hr⟩ := h'.app
   have hlen : (toksI (p :: ps)).length = (chunkK p).length + (toksI ps).length := by simp [toksI]
   obtain ⟨b, c⟩ := p
   rcases b with _ | _
   ·have hc : AtK L i [kw sImport, kn c, ks sCom, kn c, ks sSem] := hc
    obtain ⟨h1, hc⟩ := hc.cons
    obtain ⟨a1, a2, hn⟩ := names2 hg hc rfl
    obtain ⟨-, hc⟩ := hc.cons
    obtain ⟨-, hc⟩ := hc.cons
    obtain ⟨-, hc⟩ := hc.cons
    obtain ⟨h5, -⟩ := hc.cons
    obtain ⟨l, e, hl⟩ := imports_run hg ps f (acc ++ [mk 53 (tk L i).2.1 sNil 0 [mk 1 a1 ⟨#[c]⟩ 0 [], mk 1 a2 ⟨#[c]⟩ 0 []]]) (i + 5) hf' hr
    refine ⟨mk 53 (tk L i).2.1 sNil 0 [mk 1 a1 ⟨#[c]⟩ 0 [], mk 1 a2 ⟨#[c]⟩ 0 []] :: l, ?_, ⟨rfl, a1, a2, rfl⟩, hl⟩
    rw [importsR, tok_n (t := tT sFrom) (by rw [tT_of h1]; rfl), tok_y (t := tT sImport) (by rw [tT_of h1]; rfl), bind_ok hn, need_y (by rw [isT_of h5]; rfl), e, hlen]
    simp only [List.append_assoc, List.singleton_append]
    rw [show (chunkK (false, c)).length = 5 from rfl, Nat.add_assoc]
   ·have hc : AtK L i [kw sFrom, kn c, kw sImport, kn 120, ks sCom, kn 121, ks sSem] := hc
    obtain ⟨h1, hc⟩ := hc.cons
    obtain ⟨h2, hc⟩ := hc.cons
    obtain ⟨h3, hc⟩ := hc.cons
    obtain ⟨a1, a2, hn⟩ := names2 hg hc rfl
    obtain ⟨-, hc⟩ := hc.cons
    obtain ⟨-, hc⟩ := hc.cons
    obtain ⟨-, hc⟩ := hc.cons
    obtain ⟨h5, -⟩ := hc.cons
    obtain ⟨l, e, hl⟩ := imports_run hg ps f (acc ++ [mk 54 (tk L i).2.1 ⟨#[c]⟩ 0 [mk 1 a1 ⟨#[120]⟩ 0 [], mk 1 a2 ⟨#[121]⟩ 0 []]]) (i + 7) hf' hr
    refine ⟨mk 54 (tk L i).2.1 ⟨#[c]⟩ 0 [mk 1 a1 ⟨#[120]⟩ 0 [], mk 1 a2 ⟨#[121]⟩ 0 []] :: l, ?_, ⟨rfl, rfl⟩, hl⟩
    rw [importsR, tok_y (t := tT sFrom) (by rw [tT_of h1]; rfl), tok_y (t := isNm) (by rw [nm_of h2]; rfl), need_y (by rw [isT_of h3]; rfl), bind_ok hn, need_y (by rw [isT_of h5]; rfl), h2, show (kn c).text = ⟨#[c]⟩ from rfl, e, hlen]
    simp only [List.append_assoc, List.singleton_append]
    rw [show (chunkK (true, c)).length = 7 from rfl, Nat.add_assoc]
theorem unit_run {g : Nat} {bl : Par T1} {df : Par (List T1)} {ps : List Im} (hg : ps.length + 2 ≤ g) (h : L.map (·.1) = allK ps ++ [noTk]) {b : T1}
 (hb : bl L (3 + (toksI ps).length) = .ok (b, 3 + (toksI ps).length + 1)) :
 ∃ l p j, parseG g bl df L 0 = .ok (mk 52 p ⟨#[77]⟩ 0 (l ++ [b]), j) ∧ NodeL l ps := by
 have ha : AtK L 0 ([kw sModule, kn 77, ks sSem] ++ ((toksI ps ++ [kw sEnd]) ++ [kn 77, ks sDot, noTk])) := atK_of (by rw [h]; simp [allK])
 obtain ⟨a1, a2⟩ := ha.app
 obtain ⟨a2, a3⟩ := a2.app
 obtain ⟨h1, a1⟩ := a1.cons
 obtain ⟨h2, a1⟩ := a1.cons
 obtain ⟨h3, a1⟩ := a1.cons
 rw [List.length_append, List.length_singleton, show 0 + [kw sModule, kn 77, ks sSem].length + ((toksI ps).length + 1) = 3 + (toksI ps).length + 1 by simp only [List.length_cons, List.length_nil]; omega] at a3
 obtain ⟨h4, a3⟩ := a3.cons
 obtain ⟨h5, a3⟩ := a3.cons
 obtain ⟨h6, a3⟩ := a3.cons
 obtain ⟨l, e, hl⟩ := imports_run (L := L) (g := g) (by omega) ps g [] 3 (by omega) a2
 refine ⟨l, (tk L 0).2.1, 3 + (toksI ps).length + 1 + 1 + 1, ?_, hl⟩
 have hu : unitG g bl df L 0 = .ok (mk 52 (tk L 0).2.1 ⟨#[77]⟩ 0 (l ++ [b]), 3 + (toksI ps).length + 1 + 1 + 1) := by
  unfold unitG posP
  show tokP (isWd6 sDefn) _ _ L 0 = _
  rw [tok_n (t := isWd6 sDefn) (by rw [wd_of h1]; rfl), tok_n (t := isWd6 sImpl) (by rw [wd_of h1]; rfl)]
  unfold tailF
  rw [need_y (by rw [isT_of h1]; rfl), tok_y (t := isNm) (by rw [nm_of h2]; rfl), need_y (by rw [isT_of h3]; rfl), bind_ok e, h2, show (kn 77).text = ⟨#[77]⟩ from rfl]
  have hr : restF bl df 52 ([] ++ l) L (3 + (toksI ps).length) = .ok (l ++ [b], 3 + (toksI ps).length + 1) := by
   unfold restF
   rw [if_neg (by decide), bind_ok hb]
   rfl
  rw [bind_ok hr, tok_y (t := isThe ⟨#[77]⟩) (by rw [the_of h4]; rfl), need_y (by rw [isT_of h5]; rfl)]
  rfl
 unfold parseG
 rw [bind_ok hu]
 show (if isFin (tk L (3 + (toksI ps).length + 1 + 1 + 1)) = true then retP _ else failP) L _ = _
 rw [if_pos (by rw [fin_of h6]; rfl)]
 rfl
end
end Go.Proofs.YtkemhmfdooghkaaGreatDoor.Un
end

section
namespace Go.Proofs.YtkemhmfdooghkaaGreatDoor.Ex
open Go.RowKit
open Tr (Nd Fo)
open Lx (Tk noTk Blk run_store_complexL TokAt)
open Fl
attribute [local go_sem] run_store_complexL
def PT.vals (t : PT) : List Value := t.1.vals t.2.1 t.2.2
def PT.val (t : PT) : Value := t.1.val t.2.1 t.2.2
def flatP (l : List PT) : List Value := l.flatMap PT.vals
structure Toks (w0 : World) (br : Nat) (A : Option Addr) (L : List PT) : Prop where
 reads : Reads w0 w0.heap.size 5 A L.length (flatP L)
 low : br < w0.heap.size
 far : ∀ ad, A = some ad → ad.block ≠ br
 len : L.length ≤ 20000
structure PInv (w0 w : World) (br : Nat) (A : Option Addr) (c : Nat) (L : List PT) (i : Nat) : Prop where
 row : Blk w br 153 #[.slice A L.length c, .int .i64 i]
 grown : w0.grownBy w (some br)
section
variable {w0 w w' : World} {br c i : Nat} {A : Option Addr} {L : List PT}
theorem grown_trans {a b d : World} {r : Option Nat} (h : a.grownBy b r) (h' : b.grownBy d r) : a.grownBy d r :=
 ⟨h'.os.trans h.os, h'.tape.trans h.tape, h'.output.trans h.output, Nat.le_trans h.size h'.size, fun k hk hr => (h'.block k (Nat.lt_of_lt_of_le hk h.size) hr).trans (h.block k hk hr)⟩
theorem grown_of_below {a b : World} (h : Below a.heap.size a b) (r : Option Nat) : a.grownBy b r := ⟨h.os, h.tape, h.output, h.size, fun k hk _ => h.block k hk⟩
theorem PInv.below (h : PInv w0 w br A c L i) (hb : Below w.heap.size w w') : PInv w0 w' br A c L i :=
 ⟨h.row.below hb h.row.lt, grown_trans h.grown (grown_of_below hb _)⟩
theorem PInv.drewN (h : PInv w0 w br A c L i) (n : Nat) : PInv w0 (w.drewN n) br A c L i := h.below (Lx.below_drewN (Below.refl _ _) n)
theorem flatP_len (l : List PT) : (flatP l).length = l.length * 5 := by
 induction l with
 | nil => rfl
 | cons t l ih => simp only [flatP, List.flatMap_cons, List.length_append, List.length_cons] at ih ⊢; rw [ih, show (PT.vals t).length = 5 from rfl]; omega
theorem flatP_at (l : List PT) (i j : Nat) (hi : i < l.length) (hj : j < 5) : (flatP l)[i * 5 + j]? = (PT.vals l[i])[j]? := by
 induction l generalizing i with
 | nil => simp at hi
 | cons t l ih =>
   cases i with
   | zero =>
     simp only [flatP, List.flatMap_cons, Nat.zero_mul, Nat.zero_add, List.getElem_cons_zero]
     rw [List.getElem?_append_left (by rw [show (PT.vals t).length = 5 from rfl]; omega)]
   | succ i =>
     simp only [flatP, List.flatMap_cons, List.getElem_cons_succ]
     rw [List.getElem?_append_right (by rw [show (PT.vals t).length = 5 from rfl]; omega), show (PT.vals t).length = 5 from rfl, show (i + 1) * 5 + j - 5 = i * 5 + j from by omega]
     exact ih i (by simpa using hi)
theorem PInv.tok (h : PInv w0 w br A c L i) (ht : Toks w0 br A L) {k : Nat} (hk : k < L.length) : ∃ g off, A = some ⟨g, off, none⟩ ∧ ∀ j, j < 5 → w.cell? ⟨g, off + k * 5 + j, none⟩ = (PT.vals L[k])[j]? := by
 obtain ⟨⟨g, off, sp⟩, e, hlt, hc⟩ := ht.reads.2 (by omega)
 have hl := flatP_len L
 have hget : ∀ m, m < L.length * 5 → ∃ u, (flatP L)[m]? = some u := fun m hm => ⟨(flatP L)[m]'(by omega), List.getElem?_eq_getElem (by omega)⟩
 have hs : sp = none := by
  obtain ⟨u, hu⟩ := hget 0 (by omega)
  have := World.cell?_spot (hc 0 u hu)
  simpa [Addr.add] using this
 subst hs
 refine ⟨g, off, e, fun j hj => ?_⟩
 rw [← flatP_at L k j hk hj]
 obtain ⟨u, hu⟩ := hget (k * 5 + j) (by omega)
 rw [hu, ← hc _ u hu]
 have ha : (⟨g, off, none⟩ : Addr).add (k * 5 + j) = ⟨g, off + k * 5 + j, none⟩ := by unfold Addr.add; split <;> simp_all [Nat.add_assoc]
 rw [ha]
 have hne := ht.far _ e
 exact World.cell?_of_block (h.grown.block g hlt (fun e => hne (by simpa using e)))
end
abbrev zeroB : Obj := .cells #[.int .u8 0, .complex .f64 0 0, .complex .f64 0 0, .string ⟨#[]⟩, .int .i64 0] 40
set_option maxRecDepth 100000 in set_option maxHeartbeats 6400000 in
theorem now_any {w0 : World} {br c i : Nat} {A : Option Addr} {L : List PT} (ht : Toks w0 br A L) (hi : i ≤ 1000000) (w : World) (h : PInv w0 w br A c L i) :
 Calls Tryz.prog 143 #[.pointer (some ⟨br, 0, none⟩)] w fun e w' => e = .returned (PT.val (tk L i)) ∧ Below w.heap.size w w' := by
 have hlen := ht.len
 have x0 : (0 : Int) ≤ (i : Int) := by omega
 have hbA : Below w.heap.size w (w.alloc zeroB) := (Below.refl w.heap.size w).alloc (Nat.le_refl _) _
 have hP := h.below hbA
 have hB := Blk.new w 40 #[.int .u8 0, .complex .f64 0 0, .complex .f64 0 0, .string ⟨#[]⟩, .int .i64 0]
 have HBA := qh hbA
 have HB := qh hB
 have m0 := hP.row.cell 0
 have m1 := hP.row.cell 1
 simp only [List.getElem?_toArray, List.getElem?_cons_zero, List.getElem?_cons_succ] at m0 m1
 by_cases hlt : i < L.length
 ·obtain ⟨g, off, rfl, hc⟩ := hP.tok ht hlt
  have x1 : (i : Int) < (L.length : Int) := by omega
  have x2 : ¬ (i : Int) < 0 := by omega
  have HT := qh (show tk L i = L[i] by unfold tk; rw [List.getElem?_eq_getElem hlt]; rfl)
  obtain ⟨⟨⟨k, t, n⟩, ⟨p1, p2⟩, ⟨q1, q2⟩⟩, hL⟩ : ∃ t : PT, t = L[i] := ⟨_, rfl⟩
  rw [← hL] at hc HT
  have c0 := hc 0 (by omega)
  have c1 := hc 1 (by omega)
  have c2 := hc 2 (by omega)
  have c3 := hc 3 (by omega)
  have c4 := hc 4 (by omega)
  simp only [PT.vals, Lx.Tk.vals, Pl.C, List.getElem?_cons_zero, List.getElem?_cons_succ, Nat.add_zero] at c0 c1 c2 c3 c4
  have hIW : IntKind.i64.wrap (i : Int) = (i : Int) := IntWalk.i64_in _ (by omega)
  clear hc hL h ht hbA hB hP
  go_enter Tryz.func143, Tryz.ntmps143
  go_wp2
  generalize w.alloc zeroB = wa at *
  go_quiet (fail)
  go_wp2
  have m0' : (wa.drewN nq).cell? _ = _ := m0
  have m1' : (wa.drewN nq).cell? _ = _ := m1
  have c0' : (wa.drewN nq).cell? _ = _ := c0
  have c1' : (wa.drewN nq).cell? _ = _ := c1
  have c2' : (wa.drewN nq).cell? _ = _ := c2
  have c3' : (wa.drewN nq).cell? _ = _ := c3
  have c4' : (wa.drewN nq).cell? _ = _ := c4
  have HBA := qh (Lx.below_drewN HBA.out nq)
  have HB := qh (HB.out.drewN nq)
  clear m0 m1 c0 c1 c2 c3 c4
  generalize wa.drewN nq = wb at *
  go_still_tail 10, (by kernel_rfl)
  change wpList _ _ _ _ _ wb.drew
  have HBA := qh (Lx.below_drewN HBA.out 1)
  have HB := qh (HB.out.drewN 1)
  clear m0' m1' c0' c1' c2' c3' c4'
  rw [show wb.drewN 1 = wb.drew from rfl] at HBA HB
  generalize wb.drew = wc at *
  obtain ⟨z0, z1, z2, z3, z4, f0, f1, f2, f3, f4⟩ := HB.out.tok
  go_wp2
  refine bodyPost_ret (Lx.tok_ret1 rfl _ _ w.heap.size _ _ _ _ _ rfl (Lx.tok_stored HB.out _ _ _ _ _)) rfl ?_
  exact ⟨by rw [HT.out]; rfl, Lx.below_stored HBA.out (Nat.le_refl _) _ _ _ _ _⟩
 ·have x1 : ¬ (i : Int) < (L.length : Int) := by omega
  have HT := qh (show tk L i = noPT by unfold tk; rw [List.getElem?_eq_none (by omega)]; rfl)
  clear h ht hB hP hbA
  go_enter Tryz.func143, Tryz.ntmps143
  go_wp2
  generalize w.alloc zeroB = wa at *
  go_quiet (fail)
  have HBA := qh (Lx.below_drewN HBA.out nq)
  have HB := qh (HB.out.drewN nq)
  clear m0 m1
  generalize wa.drewN nq = wb at *
  obtain ⟨z0, z1, z2, z3, z4, f0, f1, f2, f3, f4⟩ := HB.out.tok
  go_wp2
  refine bodyPost_ret (Lx.tok_ret1 rfl _ _ w.heap.size _ _ _ _ _ rfl (Lx.tok_stored HB.out _ _ _ _ _)) rfl ?_
  exact ⟨by rw [HT.out]; simp [PT.val, noPT, noTk, Lx.Tk.val, Lx.Tk.vals, Pl.C, fl_0], Lx.below_stored HBA.out (Nat.le_refl _) _ _ _ _ _⟩
theorem val_form (t : PT) : ∃ (k : Nat) (p1 p2 q1 q2 : Nat) (s : ByteArray) (n : Int), t = (⟨k, s, n⟩, (p1, p2), (q1, q2)) ∧ PT.val t = .agg #[.int .u8 k, .complex .f64 (fl p1) (fl p2), .complex .f64 (fl q1) (fl q2), .string s, .int .i64 n] := by
 obtain ⟨⟨k, s, n⟩, ⟨p1, p2⟩, ⟨q1, q2⟩⟩ := t
 exact ⟨k, p1, p2, q1, q2, s, n, rfl, rfl⟩
set_option maxRecDepth 100000 in set_option maxHeartbeats 6400000 in
theorem is_any {w0 : World} {br c i : Nat} {A : Option Addr} {L : List PT} (ht : Toks w0 br A L) (hi : i ≤ 1000000) (s : ByteArray) (w : World) (h : PInv w0 w br A c L i) :
 Calls Tryz.prog 162 #[.pointer (some ⟨br, 0, none⟩), .string s] w fun e w' => e = .returned (.bool (isT L i s)) ∧ Below w.heap.size w w' := by
 have N1 := qh (now_any ht hi w h)
 have HI := qh (show isT L i s = (isSW (tk L i) && decide ((tk L i).1.text = s)) from rfl)
 obtain ⟨k, p1, p2, q1, q2, t, n, e1, e2⟩ := val_form (tk L i)
 rw [e2] at N1
 rw [e1] at HI
 clear e1 e2 h ht hi
 generalize isT L i s = b at *
 go_enter Tryz.func162, Tryz.ntmps162
 go_wp2_with fail
 ((with_reducible refine N1.out.mono ?_); rintro e w1 ⟨rfl, hb⟩)
 have HB := qh hb
 have hl : t.toList = t.data.toList := ByteArray.toList_eq t
 have hl2 : s.toList = s.data.toList := ByteArray.toList_eq s
 have ht1 : (t.toList == s.toList) = decide (t = s) := by
  rw [hl, hl2, Bool.eq_iff_iff, beq_iff_eq, decide_eq_true_eq]
  exact ⟨fun h => Lx.bytes_ext h, fun h => by rw [h]⟩
 have k5 : ((k : Int) == 5) = decide (k = 5) := by rw [Bool.eq_iff_iff, beq_iff_eq, decide_eq_true_eq]; omega
 have k6 : ((k : Int) == 6) = decide (k = 6) := by rw [Bool.eq_iff_iff, beq_iff_eq, decide_eq_true_eq]; omega
 simp only [isSW] at HI
 clear hl hl2 hb N1
 generalize decide (t = s) = bt at *
 generalize decide (k = 5) = b5 at *
 generalize decide (k = 6) = b6 at *
 have HI2 := qh HI.out
 rcases b5 with _ | _ <;> rcases b6 with _ | _ <;> rcases bt with _ | _
 all_goals
  go_wp2
  go_ret
  exact ⟨ret_bool (by rw [HI2.out]; rfl), HB.out.alloc HB.out.size _⟩
end Go.Proofs.YtkemhmfdooghkaaGreatDoor.Ex
end

section
namespace Go.Proofs.YtkemhmfdooghkaaGreatDoor.Ex
open Go.RowKit
open Tr (Nd Fo RepS)
open Lx (Tk noTk Blk run_store_complexL TokAt)
open Fl
attribute [local go_sem] run_store_complexL
abbrev bad (k : Nat) : Ending := .panicked [{ v := .iface 151 (.int .i64 k), recovered := false }]
def TreeR (B : Nat) (w0 w : World) (br : Nat) (A : Option Addr) (c : Nat) (L : List PT) (r : Except Nat (T1 × Nat)) (e : Ending) (w' : World) : Prop := match r with
 | .ok (x, j) => ∃ b, e = .returned (.pointer (some ⟨b, 0, none⟩)) ∧ PInv w0 w' br A c L j ∧ w.grownBy w' (some br) ∧ RepS (fun y => B ≤ y) w' (.node x.1 x.2 .no) [.pointer (some ⟨b, 0, none⟩)]
 | .error k => e = bad k ∧ w.grownBy w' (some br)
section
variable {w0 w w' : World} {br c i i' : Nat} {A : Option Addr} {L : List PT}
theorem PInv.at_ (h : PInv w0 w br A c L i) : w.cell? ⟨br, 1, none⟩ = some (.int .i64 i) ∧ w.frozen? ⟨br, 1, none⟩ = false ∧ br < w.heap.size := ⟨h.row.cell 1, h.row.frozen 1, h.row.lt⟩
theorem PInv.set_ (h : PInv w0 w br A c L i) (j : Nat) : PInv w0 (w.setCell ⟨br, 1, none⟩ (.int .i64 j)) br A c L j ∧ w.grownBy (w.setCell ⟨br, 1, none⟩ (.int .i64 j)) (some br) := by
 have hg := Lx.grown_set w br 1 (.int .i64 j)
 refine ⟨⟨?_, grown_trans h.grown hg⟩, hg⟩
 have := h.row.set_ 1 (.int .i64 j)
 simpa using this
structure PG (w0 w w1 : World) (br : Nat) (A : Option Addr) (c : Nat) (L : List PT) (i : Nat) : Prop where
 inv : PInv w0 w1 br A c L i
 since : w.grownBy w1 (some br)
theorem PG.far {w1 : World} (h : PG w0 w w1 br A c L i) (hw : PInv w0 w br A c L i') {b : Nat} (hb : w.heap.size ≤ b) (o : Nat) (u : Value) : PG w0 w (w1.setCell ⟨b, o, none⟩ u) br A c L i := by
 have hl := hw.row.lt
 have hs := hw.grown.size
 have hg := Lx.grown_set w1 b o u
 have hk : ∀ (a : World), a.heap.size ≤ b → a.grownBy w1 (some br) → a.grownBy (w1.setCell ⟨b, o, none⟩ u) (some br) := fun a ha h =>
  ⟨h.os, h.tape, h.output, by rw [World.size_setCell]; exact h.size, fun k hk hr => (hg.block k (Nat.lt_of_lt_of_le hk h.size) (fun e => by injection e with e; omega)).trans (h.block k hk hr)⟩
 exact ⟨⟨h.1.row.far (show br ≠ b by omega) u, hk w0 (by omega) h.1.grown⟩, hk w hb h.2⟩
theorem PG.below {w1 w2 : World} (h : PG w0 w w1 br A c L i) (hb : Below w1.heap.size w1 w2) : PG w0 w w2 br A c L i := ⟨h.1.below hb, grown_trans h.2 (grown_of_below hb _)⟩
theorem PG.set_ {w1 : World} (h : PG w0 w w1 br A c L i) (j : Nat) : PG w0 w (w1.setCell ⟨br, 1, none⟩ (.int .i64 j)) br A c L j := ⟨(h.1.set_ j).1, grown_trans h.2 (h.1.set_ j).2⟩
theorem PG.store5 {w1 : World} (h : PG w0 w w1 br A c L i) (hw : PInv w0 w br A c L i') {b : Nat} (hb : w.heap.size ≤ b) (x0 x1 x2 x3 x4 : Value) :
 PG w0 w (((((w1.setCell ⟨b, 0, none⟩ x0).setCell ⟨b, 1, none⟩ x1).setCell ⟨b, 2, none⟩ x2).setCell ⟨b, 3, none⟩ x3).setCell ⟨b, 4, none⟩ x4) br A c L i :=
 ((((h.far hw hb _ _).far hw hb _ _).far hw hb _ _).far hw hb _ _).far hw hb _ _
end
theorem isT_lt {L : List PT} {i : Nat} {s : ByteArray} (h : isT L i s = true) : i < L.length := by
 rcases Nat.lt_or_ge i L.length with h1 | h1
 ·exact h1
 ·unfold isT tk at h
  rw [List.getElem?_eq_none h1] at h
  simp [isSW, noPT, noTk] at h
set_option maxRecDepth 100000 in set_option maxHeartbeats 6400000 in
theorem eat_no {w0 : World} {br c i : Nat} {A : Option Addr} {L : List PT} (ht : Toks w0 br A L) (hi : i ≤ 900000) (s : ByteArray) (w : World) (h : PInv w0 w br A c L i) (hT : isT L i s = false) :
 Calls Tryz.prog 144 #[.pointer (some ⟨br, 0, none⟩), .string s] w fun e w' => e = .returned (.bool false) ∧ PInv w0 w' br A c L i ∧ w.grownBy w' (some br) := by
 have n1 := is_any ht (by omega) s w h
 rw [hT] at n1
 have N1 := qh n1
 have H := qh h
 clear h ht n1
 go_enter Tryz.func144, Tryz.ntmps144
 go_wp2_with fail
 ((with_reducible refine N1.out.mono ?_); rintro e w1 ⟨rfl, hb⟩)
 have HP := qh (H.out.below hb)
 have HG := qh (grown_of_below hb (some br))
 clear hb N1 H
 go_wp2
 go_ret
 exact ⟨rfl, HP.out, HG.out⟩
set_option maxRecDepth 100000 in set_option maxHeartbeats 6400000 in
theorem eat_yes {w0 : World} {br c i : Nat} {A : Option Addr} {L : List PT} (ht : Toks w0 br A L) (hi : i ≤ 900000) (s : ByteArray) (w : World) (h : PInv w0 w br A c L i) (hT : isT L i s = true) :
 Calls Tryz.prog 144 #[.pointer (some ⟨br, 0, none⟩), .string s] w fun e w' => e = .returned (.bool true) ∧ PInv w0 w' br A c L (i + 1) ∧ w.grownBy w' (some br) := by
 have n1 := is_any ht (by omega) s w h
 rw [hT] at n1
 have N1 := qh n1
 have H := qh h
 clear h ht n1
 go_enter Tryz.func144, Tryz.ntmps144
 go_wp2_with fail
 ((with_reducible refine N1.out.mono ?_); rintro e w1 ⟨rfl, hb⟩)
 have HP := qh (H.out.below hb)
 have HG := qh (grown_of_below hb (some br))
 clear hb N1 H
 obtain ⟨m1, f1, hlt⟩ := HP.out.at_
 have x0 : (0 : Int) ≤ (i : Int) := by omega
 go_wp2
 go_ret
 obtain ⟨hp, hg⟩ := HP.out.set_ (i + 1)
 exact ⟨rfl, hp, grown_trans HG.out hg⟩
set_option maxRecDepth 100000 in set_option maxHeartbeats 6400000 in
theorem need_ok {w0 : World} {br c i : Nat} {A : Option Addr} {L : List PT} (ht : Toks w0 br A L) (hi : i ≤ 900000) (s : ByteArray) (w : World) (h : PInv w0 w br A c L i) (hT : isT L i s = true) :
 Calls Tryz.prog 159 #[.pointer (some ⟨br, 0, none⟩), .string s] w fun e w' => e = .returned (.tuple #[]) ∧ PInv w0 w' br A c L (i + 1) ∧ w.grownBy w' (some br) := by
 have N1 := qh (eat_yes ht hi s w h hT)
 clear h ht
 go_enter Tryz.func159, Tryz.ntmps159
 go_wp2_with fail
 ((with_reducible refine N1.out.mono ?_); rintro e w1 ⟨rfl, hp, hg⟩)
 have HP := qh hp
 have HG := qh hg
 clear hp hg
 go_wp2
 go_end0
 exact ⟨rfl, HP.out, HG.out⟩
set_option maxRecDepth 100000 in set_option maxHeartbeats 6400000 in
theorem need_no {w0 : World} {br c i : Nat} {A : Option Addr} {L : List PT} (ht : Toks w0 br A L) (hi : i ≤ 900000) (s : ByteArray) (w : World) (h : PInv w0 w br A c L i) (hT : isT L i s = false) :
 Calls Tryz.prog 159 #[.pointer (some ⟨br, 0, none⟩), .string s] w fun e w' => e = bad i ∧ w.grownBy w' (some br) := by
 have N1 := qh (eat_no ht hi s w h hT)
 clear h ht
 go_enter Tryz.func159, Tryz.ntmps159
 go_wp2_with fail
 ((with_reducible refine N1.out.mono ?_); rintro e w1 ⟨rfl, hp, hg⟩)
 obtain ⟨m1, f1, hlt⟩ := hp.at_
 have HG := qh hg
 clear hp hg
 go_wp2
 exact ⟨rfl, rfl, HG.out⟩
set_option maxRecDepth 100000 in set_option maxHeartbeats 6400000 in
theorem name_ok {w0 : World} {br c i : Nat} {A : Option Addr} {L : List PT} (ht : Toks w0 br A L) (hi : i ≤ 900000) (w : World) (h : PInv w0 w br A c L i) (hT : (tk L i).1.kind = 1) :
 Calls Tryz.prog 170 #[.pointer (some ⟨br, 0, none⟩)] w fun e w' => e = .returned (PT.val (tk L i)) ∧ PInv w0 w' br A c L (i + 1) ∧ w.grownBy w' (some br) := by
 have hbA : Below w.heap.size w (w.alloc zeroB) := (Below.refl w.heap.size w).alloc (Nat.le_refl _) _
 have N1 := qh (now_any ht (by omega) _ (h.below hbA))
 have H := qh h
 have HBA := qh hbA
 have hB := Blk.new w 40 #[.int .u8 0, .complex .f64 0 0, .complex .f64 0 0, .string ⟨#[]⟩, .int .i64 0]
 have HB := qh hB
 obtain ⟨k, p1, p2, q1, q2, t, n, e1, e2⟩ := val_form (tk L i)
 rw [e1] at hT
 simp only at hT
 subst hT
 rw [e2] at N1 ⊢
 have hal : w.heap.size < (w.alloc zeroB).heap.size := by rw [World.size_alloc]; exact Nat.lt_succ_self _
 clear hbA hB h e1 e2 ht
 go_enter Tryz.func170, Tryz.ntmps170
 go_wp2_with fail
 ((with_reducible refine N1.out.mono ?_); rintro e w1 ⟨rfl, hb⟩)
 have hp := (H.out.below HBA.out).below hb
 have hbk := HB.out.below hb hal
 have hbl : Below w.heap.size w w1 := HBA.out.trans (hb.mono (Nat.le_of_lt hal))
 obtain ⟨m1, f1, hlt⟩ := hp.at_
 obtain ⟨z0, z1, z2, z3, z4, g0, g1, g2, g3, g4⟩ := hbk.tok
 have HP := qh hp
 have HBK := qh hbk
 have HBL := qh hbl
 have hbr := H.out.row.lt
 have x0 : (0 : Int) ≤ (i : Int) := by omega
 have hlt2 := hbk.lt
 clear hp hbk hbl hb HB HBA N1
 go_wp2
 have hPG := ((show PG w0 w w1 br A c L i from ⟨HP.out, grown_of_below HBL.out _⟩).set_ (i + 1))
 have hPG2 := (hPG.store5 H.out (Nat.le_refl _) (.int .u8 1) (.complex .f64 (fl p1) (fl p2)) (.complex .f64 (fl q1) (fl q2)) (.string t) (.int .i64 n)).below ((Below.refl _ _).alloc (Nat.le_refl _) (.cells #[.int .u8 1, .complex .f64 (fl p1) (fl p2), .complex .f64 (fl q1) (fl q2), .string t, .int .i64 n] 40))
 refine bodyPost_ret (Lx.tok_ret1 rfl _ _ w.heap.size _ _ _ _ _ rfl ((Lx.tok_stored (HBK.out.far (p := ⟨br, 1, none⟩) (Nat.ne_of_gt hbr) _) _ _ _ _ _).alloc _)) rfl ?_
 exact ⟨rfl, hPG2.1, hPG2.2⟩
set_option maxRecDepth 100000 in set_option maxHeartbeats 6400000 in
theorem name_no {w0 : World} {br c i : Nat} {A : Option Addr} {L : List PT} (ht : Toks w0 br A L) (hi : i ≤ 900000) (w : World) (h : PInv w0 w br A c L i) (hT : ¬ (tk L i).1.kind = 1) :
 Calls Tryz.prog 170 #[.pointer (some ⟨br, 0, none⟩)] w fun e w' => e = bad i ∧ w.grownBy w' (some br) := by
 have hbA : Below w.heap.size w (w.alloc zeroB) := (Below.refl w.heap.size w).alloc (Nat.le_refl _) _
 have N1 := qh (now_any ht (by omega) _ (h.below hbA))
 have H := qh h
 have HBA := qh hbA
 obtain ⟨k, p1, p2, q1, q2, t, n, e1, e2⟩ := val_form (tk L i)
 rw [e1] at hT
 simp only at hT
 rw [e2] at N1
 have k1 : ((k : Int) == 1) = false := by simp only [beq_eq_false_iff_ne, ne_eq]; omega
 have k2 : ((k : Int) != 1) = true := by simp [bne, k1]
 have hal : w.heap.size < (w.alloc zeroB).heap.size := by rw [World.size_alloc]; exact Nat.lt_succ_self _
 clear hbA h e1 e2 ht hT
 go_enter Tryz.func170, Tryz.ntmps170
 go_wp2_with fail
 ((with_reducible refine N1.out.mono ?_); rintro e w1 ⟨rfl, hb⟩)
 have hp := (H.out.below HBA.out).below hb
 have hbl : Below w.heap.size w w1 := HBA.out.trans (hb.mono (Nat.le_of_lt hal))
 obtain ⟨m1, f1, hlt⟩ := hp.at_
 have HBL := qh hbl
 clear hp hbl hb HBA N1 H
 go_wp2
 exact ⟨rfl, rfl, grown_of_below (HBL.out.alloc HBL.out.size _) _⟩
end Go.Proofs.YtkemhmfdooghkaaGreatDoor.Ex
end
