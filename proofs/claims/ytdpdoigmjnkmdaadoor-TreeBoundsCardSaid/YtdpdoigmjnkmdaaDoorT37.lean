/- The walk of the law TreeBounds. -/
import Derived.Test.YtdpdoigmjnkmdaaDoorT33
import Derived.Lib.AppendStr
import Derived.Lib.FrozenHead
import Derived.Lib.SlBytesConst
import Derived.Deep.Cut
set_option linter.unusedSimpArgs false
set_option linter.unusedVariables false
namespace Go.Proofs.YtdpdoigmjnkmdaaDoor.Tr
open Go.RowKit
open Fl

/-! ### A tree that is deep, and one that is wide -/
def n1 : Nd := ⟨1, (0, 0), ⟨#[]⟩, 0⟩
def n2 : Nd := ⟨2, (0, 0), ⟨#[]⟩, 0⟩
def kD : Nat → Fo
  | 0 => .no
  | n + 1 => .node n1 (kD n) .no
def kW : Nat → Fo
  | 0 => .no
  | n + 1 => .node n2 .no (kW n)
def A10 : List UInt8 := [40, 49, 32, 45, 32, 48, 58, 32, 48, 32]
def B9 : List UInt8 := [40, 49, 32, 45, 32, 48, 58, 32, 48]
def P11 : List UInt8 := [32, 40, 50, 32, 45, 32, 48, 58, 32, 48, 41]
def rep (l : List UInt8) : Nat → List UInt8
  | 0 => []
  | n + 1 => rep l n ++ l
theorem rep_len (l : List UInt8) : ∀ n, (rep l n).length = n * l.length
  | 0 => by simp [rep]
  | n + 1 => by simp [rep, rep_len l n, Nat.add_mul]
theorem rep_front (l : List UInt8) : ∀ n, rep l (n + 1) = l ++ rep l n
  | 0 => by simp [rep]
  | n + 1 => by
    show rep l (n + 1) ++ l = l ++ (rep l n ++ l)
    rw [rep_front l n, List.append_assoc]
theorem nd_n1 : ndT n1 = B9 := by
  unfold ndT n1
  simp only
  rw [show ((1 : Nat) : Int) = 1 from rfl, show (((⟨#[]⟩ : ByteArray).size : Nat) : Int) = 0 from rfl, it_1, it_0, pos_00]
  rfl
theorem txt_n2 : txt1 n2 .no = [40, 50, 32, 45, 32, 48, 58, 32, 48, 41] := by
  unfold txt1 ndT n2
  simp only [Fo.txt]
  rw [show ((2 : Nat) : Int) = 2 from rfl, show (((⟨#[]⟩ : ByteArray).size : Nat) : Int) = 0 from rfl, it_2, it_0, pos_00]
  rfl
theorem txt_kD : ∀ n, txt1 n1 (kD n) = rep A10 n ++ (B9 ++ [41]) ++ rep [41] n
  | 0 => by unfold txt1 kD; rw [nd_n1]; simp [Fo.txt, rep]
  | n + 1 => by
    have ih := txt_kD n
    unfold txt1
    rw [nd_n1, show kD (n + 1) = .node n1 (kD n) .no from rfl, txt_node, ih, rep_front A10 n]
    simp [Fo.txt, rep, A10, B9]
theorem txt_kW : ∀ n, (kW n).txt = rep P11 n
  | 0 => rfl
  | n + 1 => by
    rw [show kW (n + 1) = .node n2 .no (kW n) from rfl, txt_node, txt_n2, txt_kW n, rep_front P11 n]
    rfl
theorem txt_W (n : Nat) : txt1 n1 (kW n) = B9 ++ rep P11 n ++ [41] := by unfold txt1; rw [nd_n1, txt_kW]
theorem kD_deep : ∀ n, (kD n).deep = n
  | 0 => rfl
  | n + 1 => by show max ((kD n).deep + 1) 0 = _; rw [kD_deep n]; omega
theorem kD_count : ∀ n, (kD n).count = n
  | 0 => rfl
  | n + 1 => by show 1 + (kD n).count + 0 = _; rw [kD_count n]; omega
theorem kW_deep : ∀ n, (kW n).deep ≤ 1
  | 0 => Nat.zero_le _
  | n + 1 => by show max (0 + 1) (kW n).deep ≤ 1; have := kW_deep n; omega
theorem kW_count : ∀ n, (kW n).count = n
  | 0 => rfl
  | n + 1 => by show 1 + 0 + (kW n).count = _; rw [kW_count n]; omega
theorem n1_nrm : n1.nrm := ⟨by decide, .inl rfl, by unfold inR n1; simp, by unfold inR; decide⟩
theorem n2_nrm : n2.nrm := ⟨by decide, .inl rfl, by unfold inR n2; simp, by unfold inR; decide⟩
theorem kD_nrm : ∀ n, (kD n).nrm
  | 0 => trivial
  | n + 1 => ⟨n1_nrm, kD_nrm n, trivial⟩
theorem kW_nrm : ∀ n, (kW n).nrm
  | 0 => trivial
  | n + 1 => ⟨n2_nrm, trivial, kW_nrm n⟩

/-- Read of a tree's text, that tree perhaps too deep, or too great. -/
def ReadB (w : World) (d : Nd) (k : Fo) (e : Ending) (w' : World) : Prop :=
  (1 + k.deep ≤ 100 ∧ cnt1 k ≤ 8192 ∧ ∃ b, e = .returned (.tuple #[.pointer (some ⟨b, 0, none⟩), .int .i64 0]) ∧ Below w.heap.size w w' ∧ RepS (fun x => w.heap.size ≤ x) w' (.node d k .no) [.pointer (some ⟨b, 0, none⟩)]) ∨
  ∃ c : Int, e = .returned (.tuple #[.pointer none, .int .i64 c]) ∧ Below w.heap.size w w' ∧ ((c = 50 ∧ 100 < 1 + k.deep) ∨ (c = 51 ∧ 8192 < cnt1 k))
theorem readB (d : Nd) (k : Fo) (w : World) (h : EnvW w) (h1 : d.nrm) (h2 : k.nrm) (hl : (txt1 d k).length ≤ 1000000000) :
    Calls Tryd.prog 20 #[.string ⟨(txt1 d k).toArray⟩] w (ReadB w d k) := by
  refine (read_any (txt1 d k) w hl h.mx h.tabs h.sz).mono fun e w' hr => ?_
  rcases hr with ⟨d', k', u, he, g1, g2, g3, g6, g7, g4, g5⟩ | ⟨c, he, hc', hb, herr⟩
  · obtain ⟨rfl, rfl, _⟩ := txt1_part (x := []) (y := []) h1 g1 h2 g2 (by rw [g3])
    obtain ⟨b, _, _, _, rfl, -⟩ := g5.rep.one
    exact .inl ⟨g6, g7, b, he, g4, g5⟩
  · exact .inr ⟨c, he, hb, herr d k h1 h2 rfl⟩
theorem str_add (l m : List UInt8) : (⟨l.toArray⟩ ++ ⟨m.toArray⟩ : ByteArray) = ⟨(l ++ m).toArray⟩ := ByteArray.mk_append_mk l m

/-- A row of bytes: of the call's own, or full. -/
def RowB (w : World) (B : Nat) (v : Value) (l : List UInt8) : Prop :=
  w.ownsRow B 5 1 v l.length (Lib.byteCells l) ∨ ∃ g, v = .slice (some ⟨g, 0, none⟩) l.length l.length ∧ B ≤ g ∧ g < w.heap.size ∧ ∀ j u, (Lib.byteCells l)[j]? = some u → w.cell? ((⟨g, 0, none⟩ : Addr).add j) = some u
theorem run_append_rowb {w : World} {B : Nat} {v : Value} {l : List UInt8} (ty : TypeId) (h : RowB w B v l) (s : ByteArray) (hs : 0 < s.size) (h63 : l.length + s.size ≤ 1000000000) (hB : B ≤ w.heap.size) :
    ∃ v' w' row, (Builtin.append_ #[38, 9] ty #[v, .string s]).run Tryd.prog w = .ok v' w' ∧ w'.ownsRow B 5 1 v' (l.length + s.size) (Lib.byteCells l ++ Lib.strCells s) ∧ w.grownBy w' row ∧ ∀ g, row = some g → B ≤ g := by
  obtain ⟨i0, hi, hz0, hz1, hz2⟩ := info_parts info5
  have hm : l.length + s.size ≤ maxLen := by unfold maxLen; omega
  rcases h with h | ⟨g, rfl, hg, hlt, hc⟩
  · obtain ⟨v', w', h1, h2, h3, _⟩ := Lib.run_append_own_string (P := Tryd.prog) w B 38 9 ty 5 i0 Tryd.underlying38 Tryd.underlying9 hi hz0 hz1 hz2 v l.length _ h s hm (by omega) hB
    exact ⟨v', w', _, h1, h2, h3, fun g hg => (h.lt g hg).1⟩
  · have hxl : (Lib.byteCells l).length = l.length := by unfold Lib.byteCells; simp
    have hr := Lib.run_append_grow_string (P := Tryd.prog) w 38 9 ty 5 i0 (.int .u8 0) Tryd.underlying38 Tryd.underlying9 hi hz0 ⟨g, 0, none⟩ l.length l.length (Lib.byteCells l) (by rw [hz1]; simpa using hxl) hc s (by omega) (by omega) (by rw [hz2]; exact growslice_fits (by omega) (by omega))
    have hge := grownCap_ge w (l.length + s.size) l.length 5
    have hcm2 : grownCap w (l.length + s.size) l.length 5 ≤ maxLen := grownCap_le_maxLen w (l.length + s.size) l.length 5 hm
    have hlen : (Lib.byteCells l ++ Lib.strCells s).length = (l.length + s.size) * 1 := by rw [List.length_append, hxl, Lib.strCells_length, Nat.mul_one]
    refine ⟨_, _, none, hr, ⟨hlen, .inr ⟨w.heap.size, _, _, rfl, hB, heap_alloc_new w.drew _, hge, hcm2, ?_, ?_⟩⟩, ⟨rfl, rfl, rfl, by simp, fun q hq _ => Below.heap_alloc w.drew _ q hq⟩, fun g hg => by cases hg⟩
    · have hz1' : (Value.int IntKind.u8 0).cells.size = 1 := rfl
      simp only [Array.size_append, List.size_toArray, size_zeroCells, hz1', hxl, Lib.strCells_length]
      omega
    · simp only [Array.toList_append, List.append_assoc]
      rw [← List.append_assoc, ← hlen]
      exact List.take_left
theorem wpList_append_rowb {w : World} {ops : Array Oper} {rest : List Oper} {o : Oper} {a : Act} {Q : Exit → Act → World → Prop} (hgd : o.guard = none) (sl x : Operand)
    (ho : o.op = .call { callee := .builtin .append, args := #[sl, x], argTypes := #[38, 9] }) (B : Nat) (v : Value) (l : List UInt8) (hs : a.eval sl = v) (h : RowB w B v l) (s : ByteArray) (hx : a.eval x = .string s)
    (h0 : 0 < s.size) (h63 : l.length + s.size ≤ 1000000000) (hB : B ≤ w.heap.size)
    (k : ∀ v' w' row, w'.ownsRow B 5 1 v' (l.length + s.size) (Lib.byteCells l ++ Lib.strCells s) → w.grownBy w' row → (∀ g, row = some g → B ≤ g) → wpList Tryd.prog ops Q rest (a.put o.dst v') w') : wpList Tryd.prog ops Q (o :: rest) a w := by
  refine wpList_plain hgd fun K hK => ?_
  obtain ⟨v', w', row, hr, h2, h3, h4⟩ := run_append_rowb o.type h s h0 h63 hB
  unfold Oper.wp execOp
  simp only [ho, resolve, invoke, builtin, Sem.run_bind, Sem.run_pure, Result.andThen_ok, List.map_toArray, List.map_cons, List.map_nil, hs, hx, hr]
  exact hK _ _ (k v' w' row h2 h3 h4)

set_option maxRecDepth 100000 in
set_option maxHeartbeats 12800000 in
theorem bounds_law (dd ww : Nat) (w : World) (hE : EnvW w) (hd : dd < 256) (hw : ww < 65536) :
    Calls Tryd.prog 5 #[.int .u8 dd, .int .u16 ww] w fun e w' => e = .returned (.bool true) ∧ Below w.heap.size w w' := by
  have HE := Lib.hid hE
  clear hE
  obtain ⟨wd, hwd⟩ : ∃ wd, wd = ww % 8212 := ⟨_, rfl⟩
  have hwl : wd < 8212 := by rw [hwd]; exact Nat.mod_lt _ (by omega)
  have hrem : (ww : Int) % 8212 = (wd : Int) := by rw [hwd]; rfl
  clear hwd
  go_enter Tryd.func5, Tryd.ntmps5
  go_wp2_with fail
  go_loop [7, 8, 9] (fun a c i => ∃ (j : Nat) (ab cb : ByteArray), j ≤ dd ∧ i = .int .i64 j ∧ a = .string ab ∧ c = .string cb ∧ ab.size ≤ 10 * j ∧ cb.size ≤ j ∧ Hid (ab = ⟨(rep A10 j).toArray⟩) ∧ Hid (cb = ⟨(rep [41] j).toArray⟩)) (fun _ _ i => dd - (intOf i).toNat)
  case atStart => exact ⟨0, ⟨#[]⟩, ⟨#[]⟩, by omega, rfl, rfl, rfl, by simp [ByteArray.size], by simp [ByteArray.size], Lib.hid rfl, Lib.hid rfl⟩
  case round =>
    obtain ⟨j, ab, cb, hj, rfl, rfl, rfl, za, zb, HA, HC⟩ := hrel
    by_cases hlt : j < dd
    case' pos =>
      have q1 : ¬ 9223372036854775807 < ab.size + 10 := by omega
      have q2 : ¬ 9223372036854775807 < cb.size + 1 := by omega
      go_wp2
      go_round
      case rel =>
        refine ⟨j + 1, _, _, by omega, by go_num, rfl, rfl, ?_, ?_, Lib.hid ?_, Lib.hid ?_⟩
        · rw [ByteArray.size_append]; show _ + 10 ≤ _; omega
        · rw [ByteArray.size_append]; show _ + 1 ≤ _; omega
        · rw [HA.out]; exact str_add _ _
        · rw [HC.out]; exact str_add _ _
      case measure => simp [intOf]; omega
    obtain rfl : j = dd := by omega
    have hstr : ab ++ ⟨#[40, 49, 32, 45, 32, 48, 58, 32, 48, 41]⟩ ++ cb = ⟨(txt1 n1 (kD j)).toArray⟩ := by
      rw [HA.out, HC.out, txt_kD, show (⟨#[40, 49, 32, 45, 32, 48, 58, 32, 48, 41]⟩ : ByteArray) = ⟨(B9 ++ [41]).toArray⟩ from rfl, str_add, str_add]
    have HSTR := Lib.hid hstr
    clear hstr
    have hll : (txt1 n1 (kD j)).length ≤ 1000000000 := by
      rw [txt_kD]; simp only [List.length_append, rep_len]; simp [A10, B9]; omega
    have cR := Lib.hid (readB n1 (kD j) w HE.out n1_nrm (kD_nrm j) hll)
    have q3 : ¬ 9223372036854775807 < ab.size + 10 := by omega
    have q4 : ¬ 9223372036854775807 < ab.size + 10 + cb.size := by omega
    go_wp2_with fail
    rw [HSTR.out]
    ((with_reducible refine cR.out.mono ?_); rintro e w2 hres)
    clear cR hll q3 q4
    have hcn : cnt1 (kD j) = 1 + (kD j).count := rfl
    have hdp := kD_deep j
    have hct := kD_count j
    by_cases h100 : 100 < j + 1
    case' pos =>
      rcases hres with ⟨h, _⟩ | ⟨c, rfl, hb, hc⟩
      case' inl => omega
      obtain rfl : c = 50 := by omega
      have hdc : decide (100 < (j : Int) + 1) = true := by simp; omega
      have B2 := Lib.hid hb
      clear hb hc hdp hct hcn
      go_upto_region 14 with (fail)
      generalize w2 = w3 at *
    case' neg =>
      rcases hres with ⟨_, _, bx, rfl, hb, hr⟩ | ⟨c, rfl, hb, hc⟩
      case' inr => omega
      have hdc : decide (100 < (j : Int) + 1) = false := by simp; omega
      have X2 := Lib.hid (One.some_ hr)
      have B1 := Lib.hid hb
      have cD := deep1 (.node n1 (kD j) .no) (.pointer (some ⟨bx, 0, none⟩)) w2 (by simp only [Fo.count]; omega) X2.out
      rw [show ((Fo.node n1 (kD j) .no).deep : Nat) = j + 1 by simp only [Fo.deep]; omega] at cD
      have CD := Lib.hid cD
      clear hb hr cD hdp hct hcn
      go_wp2_with fail
      ((with_reducible refine CD.out.mono ?_); rintro e w3 ⟨rfl, hb⟩)
      have B2 := Lib.hid (B1.out.trans (hb.mono B1.out.size))
      clear hb B1 X2 CD
      go_upto_region 14 with (fail)
    all_goals
      clear za zb HA HC HSTR
      have kc := fun (w : World) (C : Array Value) (n c : Nat) => Lib.run_convert_bytes_const (P := Tryd.prog) w 38 5 C n c Tryd.underlying38 Tryd.underlying5
      have B3 := Lib.hid (B2.out.alloc B2.out.size (.cells #[.int .u8 40, .int .u8 49, .int .u8 32, .int .u8 45, .int .u8 32, .int .u8 48, .int .u8 58, .int .u8 32, .int .u8 48] 5 (9, 10)))
      have hlow := B2.out.size
      have HO0 : Hid (RowB (w3.alloc (.cells #[.int .u8 40, .int .u8 49, .int .u8 32, .int .u8 45, .int .u8 32, .int .u8 48, .int .u8 58, .int .u8 32, .int .u8 48] 5 (9, 10))) w3.heap.size (.slice (some ⟨w3.heap.size, 0, none⟩) 9 9) B9) := Lib.hid (.inr ⟨w3.heap.size, rfl, Nat.le_refl _, by simp, fun j u hu => World.news_of_block (cs := #[.int .u8 40, .int .u8 49, .int .u8 32, .int .u8 45, .int .u8 32, .int .u8 48, .int .u8 58, .int .u8 32, .int .u8 48]) (t := 5) (fr := (9, 10)) (heap_alloc_new w3 _) j u hu⟩)
      have HS0 : Hid (w3.heap.size ≤ (w3.alloc (.cells #[.int .u8 40, .int .u8 49, .int .u8 32, .int .u8 45, .int .u8 32, .int .u8 48, .int .u8 58, .int .u8 32, .int .u8 48] 5 (9, 10))).heap.size) := Lib.hid (by simp)
      go_wp2
      generalize w3.alloc (.cells #[.int .u8 40, .int .u8 49, .int .u8 32, .int .u8 45, .int .u8 32, .int .u8 48, .int .u8 58, .int .u8 32, .int .u8 48] 5 (9, 10)) = w4 at *
      clear kc
      generalize w3.heap.size = g3 at *
      go_loopw [12, 13] (fun v i wr => ∃ (k : Nat) (l : List UInt8), k ≤ wd ∧ i = .int .i64 k ∧ l.length = 9 + 11 * k ∧ Hid (RowB wr g3 v l) ∧ Hid (l = B9 ++ rep P11 k) ∧ Hid (g3 ≤ wr.heap.size) ∧ Hid (Below w.heap.size w wr)) (fun _ i _ => wd - (intOf i).toNat)
      case atStart => exact ⟨0, B9, by omega, rfl, rfl, HO0, Lib.hid (by simp [rep]), HS0, B3⟩
      case round =>
        obtain ⟨k, l, hk, rfl, hll, HO, HL, HS, HB⟩ := hrel
        have HLL := Lib.hid hll
        clear hll
        by_cases hlt : k < wd
        case' pos =>
          go_wp2_with (at_builtin; refine wpList_append_rowb rfl _ _ rfl g3 _ l rfl HO.out ⟨#[32, 40, 50, 32, 45, 32, 48, 58, 32, 48, 41]⟩ rfl (by decide) (by show _ + 11 ≤ _; rw [HLL.out]; omega) HS.out ?_)
          intro v' w5 row hown' hgrow hrow
          have BN := Lib.hid (HB.out.grown hgrow HB.out.size (fun q hq => by have := hrow q hq; omega))
          have HON := Lib.hid (show RowB w5 g3 v' (l ++ P11) from .inl (by
            rw [List.length_append]
            have e : Lib.byteCells (l ++ P11) = Lib.byteCells l ++ Lib.strCells ⟨#[32, 40, 50, 32, 45, 32, 48, 58, 32, 48, 41]⟩ := by unfold Lib.byteCells Lib.strCells; simp [P11]
            rw [e]; exact hown'))
          have HSN := Lib.hid (Nat.le_trans HS.out hgrow.size)
          clear hown' hgrow hrow
          go_wp2
          go_roundw
          case rel => exact ⟨k + 1, l ++ P11, by omega, by go_num, by rw [List.length_append, HLL.out]; show _ + 11 = _; omega, HON, Lib.hid (by rw [HL.out]; simp [rep]), HSN, BN⟩
          case measure => simp [intOf]; omega
        obtain rfl : k = wd := by omega
        have hv : ∃ g cp, u12 = .slice (some ⟨g, 0, none⟩) l.length cp ∧ ∀ j u, (Lib.byteCells l)[j]? = some u → wr.cell? ((⟨g, 0, none⟩ : Addr).add j) = some u := by
          rcases HO.out with h | ⟨g, h1, _, _, h2⟩
          · obtain ⟨g, cp, h1, _⟩ := h.form (by rw [HLL.out]; omega)
            subst h1
            exact ⟨g, cp, rfl, h.cells (g := g) rfl⟩
          · exact ⟨g, _, h1, h2⟩
        obtain ⟨g, cp, rfl, hgc⟩ := hv
        have hcb := run_convert_bytes_back (P := Tryd.prog) wr 38 9 5 ⟨g, 0, none⟩ cp l Tryd.underlying38 Tryd.underlying5 Tryd.underlying9 (fun j hj => hgc j _ (by unfold Lib.byteCells; simp [hj]))
        have hll2 : l.length ≤ 100000 := by rw [HLL.out]; omega
        have hzl := bsize l
        have hstr : (⟨l.toArray⟩ : ByteArray) ++ ⟨#[41]⟩ = ⟨(txt1 n1 (kW k)).toArray⟩ := by
          rw [show (⟨#[41]⟩ : ByteArray) = ⟨([41] : List UInt8).toArray⟩ from rfl, str_add, HL.out, txt_W]
        have HSTR := Lib.hid hstr
        have hl3 : (txt1 n1 (kW k)).length ≤ 1000000000 := by rw [txt_W, ← HL.out]; simp only [List.length_append]; simp; omega
        have cR := Lib.hid (readB n1 (kW k) wr (HE.out.below HB.out) n1_nrm (kW_nrm k) hl3)
        clear hgc hstr hl3
        generalize hlb : (⟨l.toArray⟩ : ByteArray) = lb at *
        clear hlb
        have q5 : ¬ 9223372036854775807 < l.length + 1 := by omega
        go_wp2_with fail
        rw [HSTR.out]
        ((with_reducible refine cR.out.mono ?_); rintro e w5 hres)
        have hdw := kW_deep k
        have hcw := kW_count k
        have hcn : cnt1 (kW k) = 1 + (kW k).count := rfl
        clear cR hcb q5 hzl
        by_cases h8 : 8192 < k + 1
        case' pos =>
          rcases hres with ⟨_, h, _⟩ | ⟨c, rfl, hb, hc⟩
          case' inl => omega
          obtain rfl : c = 51 := by omega
          have hdc2 : decide (8192 < (k : Int) + 1) = true := by simp; omega
          have BN := Lib.hid (HB.out.trans (hb.mono HB.out.size))
          clear hb hc hdw hcw hcn
          go_wp2_with fail
          ((with_reducible refine (works_any _ (HE.out.below BN.out)).mono ?_); rintro e w6 ⟨rfl, hb⟩)
          have BZ := Lib.hid (BN.out.trans (hb.mono BN.out.size))
          clear hb
          go_wp2
          go_ret
          exact ⟨rfl, BZ.out⟩
        rcases hres with ⟨_, _, bx, rfl, hb, hr⟩ | ⟨c, rfl, hb, hc⟩
        case' inr => omega
        have hdc2 : decide (8192 < (k : Int) + 1) = false := by simp; omega
        have XN := Lib.hid (One.some_ hr)
        have BN := Lib.hid (HB.out.trans (hb.mono HB.out.size))
        have cD := count1 (.node n1 (kW k) .no) (.pointer (some ⟨bx, 0, none⟩)) w5 (by simp only [Fo.count]; omega) XN.out
        rw [show ((Fo.node n1 (kW k) .no).count : Nat) = k + 1 by simp only [Fo.count]; omega] at cD
        have CD := Lib.hid cD
        clear hb hr cD hdw hcw hcn
        go_wp2_with fail
        ((with_reducible refine CD.out.mono ?_); rintro e w6 ⟨rfl, hb⟩)
        have BM := Lib.hid (BN.out.trans (hb.mono BN.out.size))
        clear hb
        go_wp2_with fail
        ((with_reducible refine (works_any _ (HE.out.below BM.out)).mono ?_); rintro e w7 ⟨rfl, hb⟩)
        have BZ := Lib.hid (BM.out.trans (hb.mono BM.out.size))
        clear hb
        go_wp2
        go_ret
        exact ⟨rfl, BZ.out⟩
theorem bounds_int (d ww : Int) (w : World) (hE : EnvW w) (h1 : (Lit.int .u8 d).wf = true) (h2 : (Lit.int .u16 ww).wf = true) :
    Calls Tryd.prog 5 #[.int .u8 d, .int .u16 ww] w fun e w' => e = .returned (.bool true) ∧ Below w.heap.size w w' := by
  have q1 : 0 ≤ d ∧ d ≤ 255 := by simpa [Lit.wf, IntKind.min, IntKind.max, IntKind.signed, IntKind.bits] using h1
  have q2 : 0 ≤ ww ∧ ww ≤ 65535 := by simpa [Lit.wf, IntKind.min, IntKind.max, IntKind.signed, IntKind.bits] using h2
  obtain ⟨a, rfl⟩ : ∃ n : Nat, d = n := ⟨d.toNat, by omega⟩
  obtain ⟨b, rfl⟩ : ∃ n : Nat, ww = n := ⟨ww.toNat, by omega⟩
  exact bounds_law a b w hE (by omega) (by omega)
end Go.Proofs.YtdpdoigmjnkmdaaDoor.Tr
