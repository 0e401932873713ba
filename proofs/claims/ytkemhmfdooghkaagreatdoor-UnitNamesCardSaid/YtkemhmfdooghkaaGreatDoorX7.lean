import Derived.Test.YtkemhmfdooghkaaGreatDoorX6
import Derived.Lib.ItoaNum
import Derived.Lib.ItoaMem
import Derived.Lib.AtoiAll
import Derived.Lib.AtoiAllCases
set_option linter.unusedSimpArgs false
set_option linter.unusedVariables false
set_option maxRecDepth 100000
set_option maxHeartbeats 6400000
namespace Go.Proofs.YtkemhmfdooghkaaGreatDoor
namespace De
open Tr (Nd Fo)
open Lx (Tk noTk)
open Ex St
abbrev sEqu : ByteArray := ⟨#[61]⟩
abbrev sArray : ByteArray := ⟨#[65, 82, 82, 65, 89]⟩
abbrev sRecord : ByteArray := ⟨#[82, 69, 67, 79, 82, 68]⟩
abbrev sSet : ByteArray := ⟨#[83, 69, 84]⟩
abbrev sPointer : ByteArray := ⟨#[80, 79, 73, 78, 84, 69, 82]⟩
abbrev sProc : ByteArray := ⟨#[80, 82, 79, 67, 69, 68, 85, 82, 69]⟩
abbrev sVar : ByteArray := ⟨#[86, 65, 82]⟩
abbrev sConst : ByteArray := ⟨#[67, 79, 78, 83, 84]⟩
abbrev sType : ByteArray := ⟨#[84, 89, 80, 69]⟩
abbrev sModule : ByteArray := ⟨#[77, 79, 68, 85, 76, 69]⟩
abbrev sImport : ByteArray := ⟨#[73, 77, 80, 79, 82, 84]⟩
abbrev sExport : ByteArray := ⟨#[69, 88, 80, 79, 82, 84]⟩
abbrev sQual : ByteArray := ⟨#[81, 85, 65, 76, 73, 70, 73, 69, 68]⟩
abbrev sBegin : ByteArray := ⟨#[66, 69, 71, 73, 78]⟩
def namesF : Nat → List T1 → Par (List T1)
 | 0, _ => failP
 | f + 1, acc => tokP isNm (fun t => tokP (tT sCom) (fun _ => namesF f (acc ++ [mk 1 t.2.1 t.1.text 0 []])) (retP (acc ++ [mk 1 t.2.1 t.1.text 0 []]))) failP
def isEnd (name : ByteArray) (t : PT) : Bool := isNm t && decide (t.1.text = name)
def endsF {α : Type} (name : ByteArray) (p : Par α) : Par α := tokP (isEnd name) (fun _ => p) failP
section
variable (g : Nat)
def refF : Par T1 := posP fun t => bindP (qualF g) fun x => retP (mk 20 t.2.1 sNil 0 [x])
def enumF (p : Nat × Nat) : Par T1 := bindP (namesF g []) fun l => needF sRap (retP (mk 21 p sNil 0 l))
def subF (p : Nat × Nat) : Par T1 := bindP (exprF g) fun x => needF sRan (bindP (exprF g) fun y => needF sKet (retP (mk 22 p sNil 0 [x, y])))
def simpleF : Par T1 := posP fun t => tokP (tT sPar) (fun _ => enumF g t.2.1) (tokP (tT sBra) (fun _ => subF g t.2.1) (refF g))
def formalF : Par T1 := posP fun t => tokP (tT sArray) (fun _ => needF sOf (bindP (refF g) fun x => retP (mk 24 t.2.1 sNil 0 [x]))) (refF g)
def paramB (nm : Bool) (p : Nat × Nat) (n : Int) : Par T1 := if nm = true then bindP (namesF g []) fun l => needF sCol (bindP (formalF g) fun x => retP (mk 34 p sNil n (l ++ [x]))) else bindP (formalF g) fun x => retP (mk 34 p sNil n [x])
def paramF (nm : Bool) : Par T1 := posP fun t => tokP (tT sVar) (fun _ => paramB g nm t.2.1 1) (paramB g nm t.2.1 0)
def parsR (sep : ByteArray) (nm : Bool) : Nat → List T1 → Par (List T1)
 | 0, _ => failP
 | f + 1, acc => bindP (paramF g nm) fun x => tokP (tT sep) (fun _ => parsR sep nm f (acc ++ [x])) (retP (acc ++ [x]))
def ansF (l : List T1) : Par (List T1) := needF sRap (tokP (tT sCol) (fun _ => bindP (refF g) fun x => retP (l ++ [x])) (retP (l ++ [zeroT])))
def paramsF (sep : ByteArray) (nm : Bool) : Par (List T1) := tokP (tT sPar) (fun _ => posP fun t => if tT sRap t = true then ansF g [] else bindP (parsR g sep nm g []) (ansF g)) (retP [zeroT])
def headF (p : Nat × Nat) (n : ByteArray) (l : List T1) : T1 := mk 43 p n 0 [mk 33 p sNil 0 l]
def headingF : Par T1 := posP fun t => needF sProc (tokP isNm (fun n => bindP (paramsF g sSem true) fun l => retP (headF t.2.1 n.1.text l)) failP)
variable (ty : Par T1)
def fieldsR (pt : Par T1) (pb : Bool) : Nat → List T1 → Par (List T1)
 | 0, _ => failP
 | f + 1, acc => posP fun t => if isNm t = true then bindP (namesF g []) fun l => needF sCol (bindP ty fun x => tokP (tT sSem) (fun _ => fieldsR pt pb f (acc ++ [mk 26 t.2.1 sNil 0 (l ++ [x])])) (retP (acc ++ [mk 26 t.2.1 sNil 0 (l ++ [x])])))
   else if (pb && tT sCase t) = true then bindP pt fun x => tokP (tT sSem) (fun _ => retP (acc ++ [x])) (retP (acc ++ [x]))
   else tokP (tT sSem) (fun _ => fieldsR pt pb f acc) (retP acc)
def plainFs : Par (List T1) := fieldsR g ty failP false g []
def armsR : Nat → List T1 → Par (List T1)
 | 0, _ => failP
 | f + 1, acc => posP fun t => if armOut t = true then tokP (tT sBar) (fun _ => armsR f acc) (retP acc)
   else bindP (labelsF g) fun x => needF sCol (bindP (plainFs g ty) fun l => tokP (tT sBar) (fun _ => armsR f (acc ++ [mk 28 t.2.1 sNil 0 (x :: l)])) (retP (acc ++ [mk 28 t.2.1 sNil 0 (x :: l)])))
def partF : Par T1 := posP fun t => needF sCase (tokP isNm (fun n => needF sCol (bindP (refF g) fun x => needF sOf (bindP (armsR g ty g [x]) fun l =>
 tokP (tT sElse) (fun u => bindP (plainFs g ty) fun fl => needF sEnd (retP (mk 27 t.2.1 n.1.text 0 (l ++ [mk 30 u.2.1 sNil 0 fl])))) (needF sEnd (retP (mk 27 t.2.1 n.1.text 0 l)))))) failP)
def arrayR : Nat → Nat × Nat → Par T1
 | 0, _ => failP
 | f + 1, p => bindP (simpleF g) fun x => tokP (tT sCom) (fun u => bindP (arrayR f u.2.1) fun y => retP (mk 23 p sNil 0 [x, y])) (needF sOf (bindP ty fun y => retP (mk 23 p sNil 0 [x, y])))
def recF (p : Nat × Nat) : Par T1 := bindP (fieldsR g ty (partF g ty) true g []) fun l => needF sEnd (retP (mk 25 p sNil 0 l))
def setF (p : Nat × Nat) : Par T1 := needF sOf (bindP (simpleF g) fun x => retP (mk 31 p sNil 0 [x]))
def ptrF (p : Nat × Nat) : Par T1 := needF sTo (bindP ty fun x => retP (mk 32 p sNil 0 [x]))
def prcF (p : Nat × Nat) : Par T1 := bindP (paramsF g sCom false) fun l => retP (mk 33 p sNil 0 l)
def typG : Par T1 := posP fun t => tokP (tT sArray) (fun _ => arrayR g ty g t.2.1) (tokP (tT sRecord) (fun _ => recF g ty t.2.1) (tokP (tT sSet) (fun _ => setF g t.2.1)
 (tokP (tT sPointer) (fun _ => ptrF ty t.2.1) (tokP (tT sProc) (fun _ => prcF g t.2.1) (simpleF g)))))
end
def typF (g : Nat) : Nat → Par T1
 | 0 => failP
 | f + 1 => typG g (typF g f)
section
variable (g : Nat) (ty bl : Par T1)
def constF : Par T1 := tokP isNm (fun t => needF sEqu (bindP (exprF g) fun x => retP (mk 40 t.2.1 t.1.text 0 [x]))) failP
def typeF (df : Bool) : Par T1 := tokP isNm (fun t => posP fun u => if (df && tT sSem u) = true then retP (mk 41 t.2.1 t.1.text 0 [zeroT]) else needF sEqu (bindP ty fun x => retP (mk 41 t.2.1 t.1.text 0 [x]))) failP
def varF : Par T1 := posP fun t => bindP (namesF g []) fun l => needF sCol (bindP ty fun x => retP (mk 42 t.2.1 sNil 0 (l ++ [x])))
def secR (q : Par T1) : Nat → List T1 → Par (List T1)
 | 0, _ => failP
 | f + 1, acc => posP fun t => if isNm t = true then bindP q fun x => needF sSem (secR q f (acc ++ [x])) else retP acc
def addK (h b : T1) : T1 := (h.1, h.2.app (forest [b]))
def procF (df : Bool) : Par T1 := bindP (headingF g) fun h => needF sSem (if df = true then retP h else bindP bl fun b => endsF h.1.name (needF sSem (retP (addK h b))))
def impR : Nat → List T1 → Par (List T1)
 | 0, _ => failP
 | f + 1, acc => tokP (tT sImport) (fun t => bindP (namesF g []) fun l => needF sSem (impR f (acc ++ [mk 53 t.2.1 sNil 0 l]))) (retP acc)
def expB (p : Nat × Nat) (q : Int) (acc : List T1) : Par (List T1) := bindP (namesF g []) fun l => needF sSem (retP (acc ++ [mk 55 p sNil q l]))
def expF (acc : List T1) : Par (List T1) := tokP (tT sExport) (fun t => tokP (tT sQual) (fun _ => expB g t.2.1 1 acc) (expB g t.2.1 0 acc)) (retP acc)
def modF : Par T1 := posP fun t => needF sModule (tokP isNm (fun n => needF sSem (bindP (impR g g []) fun l => bindP (expF g l) fun l2 => bindP bl fun b => endsF n.1.text (needF sSem (retP (mk 44 t.2.1 n.1.text 0 (l2 ++ [b])))))) failP)
def declsR (df : Bool) : Nat → List T1 → Par (List T1)
 | 0, _ => failP
 | f + 1, acc => tokP (isWd6 sConst) (fun _ => bindP (secR (constF g) g acc) (declsR df f)) (tokP (isWd6 sType) (fun _ => bindP (secR (typeF ty df) g acc) (declsR df f)) (tokP (isWd6 sVar) (fun _ => bindP (secR (varF g ty) g acc) (declsR df f))
   (posP fun t => if tT sProc t = true then bindP (procF g bl df) fun x => declsR df f (acc ++ [x]) else if (tT sModule t && !df) = true then bindP (modF g bl) fun x => declsR df f (acc ++ [x]) else retP acc)))
def bdF (g : Nat) : Par T1 := bodyF g (g + 1)
def blockG : Par T1 := posP fun t => bindP (declsR g ty bl false g []) fun l => tokP (tT sBegin) (fun _ => bindP (bdF g) fun b => needF sEnd (retP (mk 45 t.2.1 sNil 0 (l ++ [b]))))
 (posP fun u => needF sEnd (retP (mk 45 t.2.1 sNil 0 (l ++ [mk 46 u.2.1 sNil 0 []]))))
end
def blockF (g : Nat) : Nat → Par T1
 | 0 => failP
 | f + 1 => blockG g (typF g g) (blockF g f)
def defF (g : Nat) : Par (List T1) := declsR g (typF g g) failP true g []
section
variable {g : Nat}
theorem g2_if {α : Type} {c : Prop} [Decidable c] {p q : Par α} (h1 : Good2 p) (h2 : Good2 q) : Good2 (if c then p else q) := by split <;> assumption
theorem isEnd_no (n : ByteArray) : isEnd n noPT = false := rfl
theorem isWd6_no (n : ByteArray) : isWd6 n noPT = false := rfl
theorem g2_names : ∀ (f : Nat) (acc : List T1), Good2 (namesF f acc)
 | 0, _ => g2_fail
 | f + 1, acc => g2_tok rfl (fun t => g2_tok (tT_no _) (fun _ => g2_names f _) (g2_ret _)) g2_fail
theorem g2_ends {α : Type} {n : ByteArray} {p : Par α} (h : Good2 p) : Good2 (endsF n p) := g2_tok (isEnd_no n) (fun _ => h) g2_fail
theorem g2_qual : Good2 (qualF g) := g2_of (good_qualF g)
theorem g2_ref : Good2 (refF g) := g2_pos fun t => g2_bind g2_qual fun x => g2_ret _
theorem g2_enum {p : Nat × Nat} : Good2 (enumF g p) := g2_bind (g2_names _ _) fun l => g2_need (g2_ret _)
theorem g2_sub {p : Nat × Nat} : Good2 (subF g p) := g2_bind g2_expr fun x => g2_need (g2_bind g2_expr fun y => g2_need (g2_ret _))
theorem g2_simple : Good2 (simpleF g) := g2_pos fun t => g2_tok (tT_no _) (fun _ => g2_enum) (g2_tok (tT_no _) (fun _ => g2_sub) g2_ref)
theorem g2_formal : Good2 (formalF g) := g2_pos fun t => g2_tok (tT_no _) (fun _ => g2_need (g2_bind g2_ref fun x => g2_ret _)) g2_ref
theorem g2_paramB {nm : Bool} {p : Nat × Nat} {n : Int} : Good2 (paramB g nm p n) := by
 unfold paramB
 exact g2_if (g2_bind (g2_names _ _) fun l => g2_need (g2_bind g2_formal fun x => g2_ret _)) (g2_bind g2_formal fun x => g2_ret _)
theorem g2_param {nm : Bool} : Good2 (paramF g nm) := g2_pos fun t => g2_tok (tT_no _) (fun _ => g2_paramB) g2_paramB
theorem g2_pars {sep : ByteArray} {nm : Bool} : ∀ (f : Nat) (acc : List T1), Good2 (parsR g sep nm f acc)
 | 0, _ => g2_fail
 | f + 1, acc => g2_bind g2_param fun x => g2_tok (tT_no _) (fun _ => g2_pars f _) (g2_ret _)
theorem g2_ans {l : List T1} : Good2 (ansF g l) := g2_need (g2_tok (tT_no _) (fun _ => g2_bind g2_ref fun x => g2_ret _) (g2_ret _))
theorem g2_params {sep : ByteArray} {nm : Bool} : Good2 (paramsF g sep nm) := g2_tok (tT_no _) (fun _ => g2_pos fun t => g2_if g2_ans (g2_bind (g2_pars _ _) fun l => g2_ans)) (g2_ret _)
theorem g2_heading : Good2 (headingF g) := g2_pos fun t => g2_need (g2_tok rfl (fun n => g2_bind g2_params fun l => g2_ret _) g2_fail)
section
variable {ty : Par T1} (ht : Good2 ty)
include ht
theorem g2_fields {pt : Par T1} (hp : Good2 pt) {pb : Bool} : ∀ (f : Nat) (acc : List T1), Good2 (fieldsR g ty pt pb f acc)
 | 0, _ => g2_fail
 | f + 1, acc => g2_pos fun t => g2_if (g2_bind (g2_names _ _) fun l => g2_need (g2_bind ht fun x => g2_tok (tT_no _) (fun _ => g2_fields hp f _) (g2_ret _)))
   (g2_if (g2_bind hp fun x => g2_tok (tT_no _) (fun _ => g2_ret _) (g2_ret _)) (g2_tok (tT_no _) (fun _ => g2_fields hp f _) (g2_ret _)))
theorem g2_plainFs : Good2 (plainFs g ty) := g2_fields ht g2_fail _ _
theorem g2_arms : ∀ (f : Nat) (acc : List T1), Good2 (armsR g ty f acc)
 | 0, _ => g2_fail
 | f + 1, acc => g2_pos fun t => g2_if (g2_tok (tT_no _) (fun _ => g2_arms f _) (g2_ret _)) (g2_bind g2_labels fun x => g2_need (g2_bind (g2_plainFs ht) fun l => g2_tok (tT_no _) (fun _ => g2_arms f _) (g2_ret _)))
theorem g2_part : Good2 (partF g ty) := g2_pos fun t => g2_need (g2_tok rfl (fun n => g2_need (g2_bind g2_ref fun x => g2_need (g2_bind (g2_arms ht _ _) fun l =>
 g2_tok (tT_no _) (fun u => g2_bind (g2_plainFs ht) fun fl => g2_need (g2_ret _)) (g2_need (g2_ret _))))) g2_fail)
theorem g2_array : ∀ (f : Nat) (p : Nat × Nat), Good2 (arrayR g ty f p)
 | 0, _ => g2_fail
 | f + 1, p => g2_bind g2_simple fun x => g2_tok (tT_no _) (fun u => g2_bind (g2_array f _) fun y => g2_ret _) (g2_need (g2_bind ht fun y => g2_ret _))
theorem g2_rec {p : Nat × Nat} : Good2 (recF g ty p) := g2_bind (g2_fields ht (g2_part ht) _ _) fun l => g2_need (g2_ret _)
theorem g2_ptr {p : Nat × Nat} : Good2 (ptrF ty p) := g2_need (g2_bind ht fun x => g2_ret _)
end
theorem g2_set {p : Nat × Nat} : Good2 (setF g p) := g2_need (g2_bind g2_simple fun x => g2_ret _)
theorem g2_prc {p : Nat × Nat} : Good2 (prcF g p) := g2_bind g2_params fun l => g2_ret _
theorem g2_typG {ty : Par T1} (ht : Good2 ty) : Good2 (typG g ty) := g2_pos fun t => g2_tok (tT_no _) (fun _ => g2_array ht _ _) (g2_tok (tT_no _) (fun _ => g2_rec ht) (g2_tok (tT_no _) (fun _ => g2_set)
 (g2_tok (tT_no _) (fun _ => g2_ptr ht) (g2_tok (tT_no _) (fun _ => g2_prc) g2_simple))))
theorem g2_typF : ∀ f : Nat, Good2 (typF g f)
 | 0 => g2_fail
 | f + 1 => g2_typG (g2_typF f)
section
variable {ty bl : Par T1}
theorem g2_const : Good2 (constF g) := g2_tok rfl (fun t => g2_need (g2_bind g2_expr fun x => g2_ret _)) g2_fail
theorem g2_type (ht : Good2 ty) {df : Bool} : Good2 (typeF ty df) := g2_tok rfl (fun t => g2_pos fun u => g2_if (g2_ret _) (g2_need (g2_bind ht fun x => g2_ret _))) g2_fail
theorem g2_var (ht : Good2 ty) : Good2 (varF g ty) := g2_pos fun t => g2_bind (g2_names _ _) fun l => g2_need (g2_bind ht fun x => g2_ret _)
theorem g2_sec {q : Par T1} (hq : Good2 q) : ∀ (f : Nat) (acc : List T1), Good2 (secR q f acc)
 | 0, _ => g2_fail
 | f + 1, acc => g2_pos fun t => g2_if (g2_bind hq fun x => g2_need (g2_sec hq f _)) (g2_ret _)
theorem g2_proc (hb : Good2 bl) {df : Bool} : Good2 (procF g bl df) := g2_bind g2_heading fun h => g2_need (g2_if (g2_ret _) (g2_bind hb fun b => g2_ends (g2_need (g2_ret _))))
theorem g2_imp : ∀ (f : Nat) (acc : List T1), Good2 (impR g f acc)
 | 0, _ => g2_fail
 | f + 1, acc => g2_tok (tT_no _) (fun t => g2_bind (g2_names _ _) fun l => g2_need (g2_imp f _)) (g2_ret _)
theorem g2_expB {p : Nat × Nat} {q : Int} {acc : List T1} : Good2 (expB g p q acc) := g2_bind (g2_names _ _) fun l => g2_need (g2_ret _)
theorem g2_exp {acc : List T1} : Good2 (expF g acc) := g2_tok (tT_no _) (fun t => g2_tok (tT_no _) (fun _ => g2_expB) g2_expB) (g2_ret _)
theorem g2_mod (hb : Good2 bl) : Good2 (modF g bl) := g2_pos fun t => g2_need (g2_tok rfl (fun n => g2_need (g2_bind (g2_imp _ _) fun l => g2_bind g2_exp fun l2 => g2_bind hb fun b => g2_ends (g2_need (g2_ret _)))) g2_fail)
theorem g2_decls (ht : Good2 ty) (hb : Good2 bl) {df : Bool} : ∀ (f : Nat) (acc : List T1), Good2 (declsR g ty bl df f acc)
 | 0, _ => g2_fail
 | f + 1, acc => g2_tok (isWd6_no _) (fun _ => g2_bind (g2_sec g2_const _ _) fun l => g2_decls ht hb f l) (g2_tok (isWd6_no _) (fun _ => g2_bind (g2_sec (g2_type ht) _ _) fun l => g2_decls ht hb f l)
   (g2_tok (isWd6_no _) (fun _ => g2_bind (g2_sec (g2_var ht) _ _) fun l => g2_decls ht hb f l)
   (g2_pos fun t => g2_if (g2_bind (g2_proc hb) fun x => g2_decls ht hb f _) (g2_if (g2_bind (g2_mod hb) fun x => g2_decls ht hb f _) (g2_ret _)))))
theorem g2_bdF : Good2 (bdF g) := g2_bodyF _ _
theorem g2_blockG (ht : Good2 ty) (hb : Good2 bl) : Good2 (blockG g ty bl) := g2_pos fun t => g2_bind (g2_decls ht hb _ _) fun l => g2_tok (tT_no _) (fun _ => g2_bind g2_bdF fun b => g2_need (g2_ret _)) (g2_pos fun u => g2_need (g2_ret _))
end
theorem g2_blockF : ∀ f : Nat, Good2 (blockF g f)
 | 0 => g2_fail
 | f + 1 => g2_blockG (g2_typF _) (g2_blockF f)
theorem g2_defF : Good2 (defF g) := g2_decls (g2_typF _) g2_fail _ _
end
end De
namespace Un
open Tr (Nd Fo)
open Lx (Tk noTk)
open Ex St De
section
variable {α β : Type} {p : Par α} {q : α → Par β} {L : List PT} {i j k : Nat} {a : α}
theorem bind_ok (h : p L i = .ok (a, j)) : bindP p q L i = q a L j := by unfold bindP; rw [h]
theorem need_y {s : ByteArray} {p : Par α} (h : isT L i s = true) : needF s p L i = p L (i + 1) := if_pos h
theorem tok_y {t : PT → Bool} {A : PT → Par α} {B : Par α} (h : t (tk L i) = true) : tokP t A B L i = A (tk L i) L (i + 1) := if_pos h
theorem tok_n {t : PT → Bool} {A : PT → Par α} {B : Par α} (h : t (tk L i) = false) : tokP t A B L i = B L i := if_neg (by rw [h]; simp)
end
abbrev sFrom : ByteArray := ⟨#[70, 82, 79, 77]⟩
abbrev sDefn : ByteArray := ⟨#[68, 69, 70, 73, 78, 73, 84, 73, 79, 78]⟩
abbrev sImpl : ByteArray := ⟨#[73, 77, 80, 76, 69, 77, 69, 78, 84, 65, 84, 73, 79, 78]⟩
def isThe (which : ByteArray) (t : PT) : Bool := isNm t && (decide (which = sNil) || decide (t.1.text = which))
def isFin (t : PT) : Bool := decide (t.1.kind = 0)
section
variable (g : Nat) (bl : Par T1) (df : Par (List T1))
def importsR : Nat → List T1 → Par (List T1)
 | 0, _ => failP
 | f + 1, acc => tokP (tT sFrom) (fun t => tokP isNm (fun n => needF sImport (bindP (namesF g []) fun l => needF sSem (importsR f (acc ++ [mk 54 t.2.1 n.1.text 0 l])))) failP)
   (tokP (tT sImport) (fun t => bindP (namesF g []) fun l => needF sSem (importsR f (acc ++ [mk 53 t.2.1 sNil 0 l]))) (retP acc))
def restF (k : Nat) (l : List T1) : Par (List T1) := if k = 50 then bindP df fun d => needF sEnd (retP (l ++ d)) else bindP bl fun b => retP (l ++ [b])
def tailF (k : Nat) (p : Nat × Nat) : Par T1 := needF sModule (tokP isNm (fun n => needF sSem (bindP (importsR g g []) fun l => bindP (restF bl df k l) fun l2 => tokP (isThe n.1.text) (fun _ => needF sDot (retP (mk k p n.1.text 0 l2))) failP)) failP)
def unitG : Par T1 := posP fun t => tokP (isWd6 sDefn) (fun _ => tailF g bl df 50 t.2.1) (tokP (isWd6 sImpl) (fun _ => tailF g bl df 51 t.2.1) (tailF g bl df 52 t.2.1))
def parseG : Par T1 := bindP (unitG g bl df) fun x => posP fun t => if isFin t = true then retP x else failP
end
def parseU (g : Nat) : Par T1 := parseG g (blockF g g) (defF g)
section
variable {g : Nat} {bl : Par T1} {df : Par (List T1)} (hb : Good2 bl) (hd : Good2 df)
theorem isThe_no (n : ByteArray) : isThe n noPT = false := rfl
theorem g2_imports : ∀ (f : Nat) (acc : List T1), Good2 (importsR g f acc)
 | 0, _ => g2_fail
 | f + 1, acc => g2_tok (tT_no _) (fun t => g2_tok rfl (fun n => g2_need (g2_bind (g2_names _ _) fun l => g2_need (g2_imports f _))) g2_fail)
   (g2_tok (tT_no _) (fun t => g2_bind (g2_names _ _) fun l => g2_need (g2_imports f _)) (g2_ret _))
include hb hd
theorem g2_rest {k : Nat} {l : List T1} : Good2 (restF bl df k l) := g2_if (g2_bind hd fun d => g2_need (g2_ret _)) (g2_bind hb fun b => g2_ret _)
theorem g2_tail {k : Nat} {p : Nat × Nat} : Good2 (tailF g bl df k p) := g2_need (g2_tok rfl (fun n => g2_need (g2_bind (g2_imports _ _) fun l => g2_bind (g2_rest hb hd) fun l2 => g2_tok (isThe_no _) (fun _ => g2_need (g2_ret _)) g2_fail)) g2_fail)
theorem g2_unit : Good2 (unitG g bl df) := g2_pos fun t => g2_tok (isWd6_no _) (fun _ => g2_tail hb hd) (g2_tok (isWd6_no _) (fun _ => g2_tail hb hd) (g2_tail hb hd))
end
end Un
namespace Ex
open Tr (Nd Fo)
open Lx (Tk noTk)
def opsB : List ByteArray := [⟨#[42]⟩, ⟨#[47]⟩, ⟨#[68, 73, 86]⟩, ⟨#[77, 79, 68]⟩, ⟨#[65, 78, 68]⟩, ⟨#[43]⟩, ⟨#[45]⟩, ⟨#[79, 82]⟩, ⟨#[61]⟩, ⟨#[35]⟩, ⟨#[60]⟩, ⟨#[60, 61]⟩, ⟨#[62]⟩, ⟨#[62, 61]⟩, ⟨#[73, 78]⟩]
def opB (k : Nat) : ByteArray := opsB.getD k ⟨#[]⟩
def opTk (k : Nat) : Tk := ⟨if k = 2 ∨ k = 3 ∨ k = 4 ∨ k = 7 ∨ k = 14 then 6 else 5, opB k, 0⟩
def opLev (k : Nat) : Nat := if k < 5 then 2 else if k < 8 then 1 else 0
def unB (k : Nat) : ByteArray := if k = 0 then ⟨#[43]⟩ else if k = 1 then ⟨#[45]⟩ else sNot
def unTk (k : Nat) : Tk := ⟨if k = 2 then 6 else 5, unB k, 0⟩
inductive Gr where
 | z : Gr
 | bin (op : Nat) (a b : Gr) : Gr
 | un (op : Nat) (a : Gr) : Gr
 | num (n : Nat) : Gr
 | idx (a : Gr) : Gr
 | call (a b : Gr) : Gr
 | rng (a b : Gr) : Gr
 | str : Gr
def Gr.fits : Gr → Prop
 | .z => True
 | .bin op a b => op < 15 ∧ a.fits ∧ b.fits
 | .un op a => op < 3 ∧ a.fits
 | .num n => n ≤ 65535
 | .idx a => a.fits
 | .call a b => a.fits ∧ b.fits
 | .rng a b => a.fits ∧ b.fits
 | .str => True
def nm (c : UInt8) : T1 := mk 1 (0, 0) ⟨#[c]⟩ 0 []
def sy (s : ByteArray) : Tk := ⟨5, s, 0⟩
def na (c : UInt8) : Tk := ⟨1, ⟨#[c]⟩, 0⟩
def Gr.toks : Gr → List Tk
 | .z => [na 122]
 | .bin op a b => sy sPar :: (a.toks ++ opTk op :: (b.toks ++ [sy sRap]))
 | .un op a => sy sPar :: unTk op :: (a.toks ++ [sy sRap])
 | .num n => [⟨2, sNil, n⟩]
 | .idx a => na 118 :: sy sBra :: (a.toks ++ [sy sKet, sy sHat, sy sDot, na 102])
 | .call a b => na 103 :: sy sPar :: (a.toks ++ sy sCom :: (b.toks ++ [sy sRap]))
 | .rng a b => na 83 :: sy sCur :: (a.toks ++ sy sRan :: (b.toks ++ [sy sRuc]))
 | .str => [⟨4, ⟨#[113]⟩, 0⟩]
def AtT (L : List PT) : Nat → List Tk → Prop
 | _, [] => True
 | i, t :: l => (tk L i).1 = t ∧ AtT L (i + 1) l
theorem atT_app {L : List PT} : ∀ {a b : List Tk} {i : Nat}, AtT L i (a ++ b) → AtT L i a ∧ AtT L (i + a.length) b
 | [], b, i, h => ⟨trivial, h⟩
 | t :: a, b, i, h => by
   obtain ⟨h1, h2⟩ := h
   obtain ⟨h3, h4⟩ := atT_app h2
   exact ⟨⟨h1, h3⟩, by rw [List.length_cons, show i + (a.length + 1) = i + 1 + a.length from by omega]; exact h4⟩
def tkT (s : ByteArray) (t : Tk) : Bool := (decide (t.kind = 5) || decide (t.kind = 6)) && decide (t.text = s)
theorem isT_tk (L : List PT) (i : Nat) (s : ByteArray) : isT L i s = tkT s (tk L i).1 := rfl
theorem isT_at {L : List PT} {i : Nat} {t : Tk} (h : (tk L i).1 = t) (s : ByteArray) : isT L i s = tkT s t := by rw [isT_tk, h]
def opK (k : Nat) (t : Tk) : Bool := (decide (t.kind = 5) || decide (t.kind = 6)) && (ops k).any (fun s => decide (s = t.text))
theorem opT_at {L : List PT} {i : Nat} {t : Tk} (h : (tk L i).1 = t) (k : Nat) : opT k (tk L i) = opK k t := by unfold opT opK isSW; rw [h]
theorem opK_high (k : Nat) (t : Tk) : opK (k + 2) t = opK 2 t := rfl
theorem opK_all {t : Tk} (h0 : opK 0 t = false) (h1 : opK 1 t = false) (h2 : opK 2 t = false) : ∀ k, opK k t = false
 | 0 => h0
 | 1 => h1
 | k + 2 => by rw [opK_high]; exact h2
structure StopF (t : Tk) : Prop where
 dot : tkT sDot t = false
 hat : tkT sHat t = false
 bra : tkT sBra t = false
 par : tkT sPar t = false
 cur : tkT sCur t = false
structure StopE (t : Tk) : Prop extends StopF t where
 ops : ∀ k, opK k t = false
theorem stopE_of {t : Tk} (h1 : tkT sDot t = false) (h2 : tkT sHat t = false) (h3 : tkT sBra t = false) (h4 : tkT sPar t = false) (h5 : tkT sCur t = false) (h6 : opK 0 t = false) (h7 : opK 1 t = false) (h8 : opK 2 t = false) : StopE t :=
 ⟨⟨h1, h2, h3, h4, h5⟩, opK_all h6 h7 h8⟩
theorem stopE_rap : StopE (sy sRap) := stopE_of (by decide) (by decide) (by decide) (by decide) (by decide) (by decide) (by decide) (by decide)
theorem stopE_ket : StopE (sy sKet) := stopE_of (by decide) (by decide) (by decide) (by decide) (by decide) (by decide) (by decide) (by decide)
theorem stopE_com : StopE (sy sCom) := stopE_of (by decide) (by decide) (by decide) (by decide) (by decide) (by decide) (by decide) (by decide)
theorem stopE_ran : StopE (sy sRan) := stopE_of (by decide) (by decide) (by decide) (by decide) (by decide) (by decide) (by decide) (by decide)
theorem stopE_ruc : StopE (sy sRuc) := stopE_of (by decide) (by decide) (by decide) (by decide) (by decide) (by decide) (by decide) (by decide)
theorem op_facts : ∀ op, op < 15 → tkT sDot (opTk op) = false ∧ tkT sHat (opTk op) = false ∧ tkT sBra (opTk op) = false ∧ tkT sPar (opTk op) = false ∧ tkT sCur (opTk op) = false ∧ opK 0 (opTk op) = decide (opLev op = 0) ∧ opK 1 (opTk op) = decide (opLev op = 1) ∧ opK 2 (opTk op) = decide (opLev op = 2) ∧ (opLev op = 0 ∨ opLev op = 1 ∨ opLev op = 2) ∧ (opTk op).text = opB op := by decide
theorem stopF_op {op : Nat} (h : op < 15) : StopF (opTk op) := by
 obtain ⟨h1, h2, h3, h4, h5, _⟩ := op_facts op h
 exact ⟨h1, h2, h3, h4, h5⟩
theorem opK_op {op : Nat} (h : op < 15) (k : Nat) (hk : k ≤ 2) : opK k (opTk op) = decide (opLev op = k) := by
 obtain ⟨_, _, _, _, _, h0, h1, h2, _⟩ := op_facts op h
 obtain rfl | rfl | rfl : k = 0 ∨ k = 1 ∨ k = 2 := by omega
 ·exact h0
 ·exact h1
 ·exact h2
section
variable {L : List PT} {i j : Nat}
theorem tk_lt {t : Tk} (h : (tk L i).1 = t) (ht : t.kind ≠ 0) : i < L.length := by
 rcases Nat.lt_or_ge i L.length with h1 | h1
 ·exact h1
 ·rw [tk_end h1] at h
  rw [← h] at ht
  exact absurd rfl ht
end
end Ex
namespace Num
open Go
theorem dec_big (n : Nat) (h : 9 < n) : Lib.decDigits n = Lib.decDigits (n / 10) ++ [UInt8.ofNat (48 + n % 10)] := by
 rw [Lib.decDigits, dif_neg (by omega)]
theorem dec_small (n : Nat) (h : ¬ 9 < n) : Lib.decDigits n = [UInt8.ofNat (48 + n)] := by
 rw [Lib.decDigits, dif_pos (by omega)]
def valFrom (n : Nat) (l : List UInt8) : Nat := l.foldl (fun n c => 10 * n + (c.toNat - 48)) n
def val (l : List UInt8) : Nat := valFrom 0 l
theorem val_snoc (l : List UInt8) (c : UInt8) : val (l ++ [c]) = 10 * val l + (c.toNat - 48) := by unfold val valFrom; rw [List.foldl_append]; rfl
theorem valFrom_cons (n : Nat) (c : UInt8) (l : List UInt8) : valFrom n (c :: l) = valFrom (10 * n + (c.toNat - 48)) l := by unfold valFrom; rw [List.foldl_cons]
theorem valFrom_ge (l : List UInt8) : ∀ n : Nat, n ≤ valFrom n l := by
 induction l with
 | nil => intro n; simp [valFrom]
 | cons c l ih =>
   intro n
   have := ih (10 * n + (c.toNat - 48))
   rw [valFrom_cons]; omega
def Digits (l : List UInt8) : Prop := ∀ c ∈ l, 48 ≤ c.toNat ∧ c.toNat ≤ 57
theorem digit_toNat (n : Nat) (h : n < 10) : (UInt8.ofNat (48 + n)).toNat = 48 + n := by
 rw [UInt8.toNat_ofNat']; omega
theorem val_dec (n : Nat) : val (Lib.decDigits n) = n := by
 induction n using Nat.strongRecOn with
 | ind n ih =>
   by_cases h : 9 < n
   ·rw [dec_big n h, val_snoc, ih (n / 10) (by omega), digit_toNat _ (by omega)]; omega
   ·rw [dec_small n h]
    show 10 * 0 + ((UInt8.ofNat (48 + n)).toNat - 48) = n
    rw [digit_toNat _ (by omega)]; omega
theorem dec_digits (n : Nat) : Digits (Lib.decDigits n) := by
 induction n using Nat.strongRecOn with
 | ind n ih =>
   intro c hc
   by_cases h : 9 < n
   ·rw [dec_big n h, List.mem_append] at hc
    rcases hc with hc | hc
    ·exact ih (n / 10) (by omega) c hc
    ·rw [List.mem_singleton] at hc
     subst hc
     rw [digit_toNat _ (by omega)]; omega
   ·rw [dec_small n h, List.mem_singleton] at hc
    subst hc
    rw [digit_toNat _ (by omega)]; omega
theorem dec_ne (n : Nat) : Lib.decDigits n ≠ [] := by
 by_cases h : 9 < n
 ·rw [dec_big n h]; simp
 ·rw [dec_small n h]; simp
end Num
end Go.Proofs.YtkemhmfdooghkaaGreatDoor
