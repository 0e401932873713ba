/- The walk of math/bits.OnesCount16, whose table is a constant of 256 bytes. -/
import Derived.Test.YthnboggjlppopaaW3
namespace Go.Proofs.Ythnboggjlppopaa
open Go.RowKit

set_option maxRecDepth 100000 in
set_option maxHeartbeats 400000 in
theorem ones_any (s : Nat) (w : World) (hs : s < 65536) :
    Calls Try.prog 27 #[.int .u16 s] w fun e w' => e = .returned (.int .i64 (Plain.ones s 16 : Nat)) ∧ ∃ m, w' = w.drewN m := by
  have h1 : (0 : Int) ≤ (s : Int) / 256 := by omega
  have h2 : (s : Int) / 256 < 256 := by omega
  have h3 : bits .and .u16 (s : Int) 255 = (s : Int) % 256 := by
    rw [show (255 : Int) = ((255 : Nat) : Int) from rfl, u16_and_nat s 255 hs (by omega), nat_mask8]; rfl
  have h4 : (0 : Int) ≤ (s : Int) % 256 := by omega
  have h5 : (s : Int) % 256 < 256 := by omega
  go_enter Try.func27, Try.ntmps27
  go_wp2
  generalize hT : ByteArray.mk (List.toArray (List.append _ _)) = tab
  have hz : tab.size = 256 := by rw [← hT]; decide +kernel
  have hv : ∀ i : Fin 256, (tab.data[i.val]!).toNat = Plain.ones i.val 8 := by rw [← hT]; decide +kernel
  clear hT
  have HV := Lib.hid hv
  clear hv
  go_quiet (fail)
  go_wp2
  go_ret
  have key : ∀ (i : Nat) (hi : i < 256) (h : i < tab.size), (tab[i]'h).toNat = Plain.ones i 8 := by
    intro i hi h
    have := HV.out ⟨i, hi⟩
    rw [getElem!_pos tab.data i h] at this
    exact this
  refine ⟨ret_int ?_, _, rfl⟩
  have hb := Plain.ones_le s 16
  rw [Plain.ones_split] at hb ⊢
  show (((tab[s / 256]'_).toNat : Int) + ((tab[s % 256]'_).toNat : Int)) % 256 = _
  rw [key (s / 256) (by omega), key (s % 256) (by omega)]
  omega

end Go.Proofs.Ythnboggjlppopaa
