/- Handles: Slot, of the program and of the reference. -/
import Derived.Test.YtpaecmpiokkdnaaDoorHPlainC
namespace Go.Proofs.YtpaecmpiokkdnaaDoor
open Go.RowKit Go.Sort Go.Joins
attribute [local go_sem] cell_grow frozen_grow size_grow

def slotI (h : Int) : Int := if h < 65536 ∨ 4294967296 ≤ h then -1 else h % 65536
def numI (h : Int) : Int := if h < 65536 ∨ 4294967296 ≤ h then 0 else h / 65536
theorem and_65535 (h : Int) (h0 : 0 ≤ h) (h1 : h < 4294967296) : bits BinOp.and IntKind.i64 h 65535 = h % 65536 :=
  bits_mask .i64 63 (by decide) (fun n h0 h1 => IntWalk.i64_in n (by omega)) 16 (by decide) h h0 (by omega)

theorem slot_ok (h : Int) (w : World) :
    Calls Tryd.prog 11 #[.int .i64 h] w fun e w' => e = .returned (.tuple #[.int .i64 (slotI h), .int .i64 (numI h)]) ∧ w = w' := by
  by_cases h1 : h < 65536
  · have R1 := Lib.hid (show slotI h = -1 from if_pos (.inl h1))
    have R2 := Lib.hid (show numI h = 0 from if_pos (.inl h1))
    go_enter Tryd.func11, Tryd.ntmps11
    go_wp2
    go_ret2
    exact ⟨ret_two R1.out.symm R2.out.symm, rfl⟩
  by_cases h2 : 4294967296 ≤ h
  · have R1 := Lib.hid (show slotI h = -1 from if_pos (.inr h2))
    have R2 := Lib.hid (show numI h = 0 from if_pos (.inr h2))
    go_enter Tryd.func11, Tryd.ntmps11
    go_wp2
    go_ret2
    exact ⟨ret_two R1.out.symm R2.out.symm, rfl⟩
  · have R1 := Lib.hid (show slotI h = h % 65536 from if_neg (by omega))
    have R2 := Lib.hid (show numI h = h / 65536 from if_neg (by omega))
    have hb := Lib.hid (and_65535 h (by omega) (by omega))
    have g1 : 65536 ≤ h := by omega
    have g2 : h < 4294967296 := by omega
    clear h1 h2
    go_enter Tryd.func11, Tryd.ntmps11
    go_wp2
    go_ret2
    exact ⟨ret_two (hb.out.trans R1.out.symm) R2.out.symm, rfl⟩

theorem rslot_ok (h : Int) (w : World) :
    Calls Tryd.prog 12 #[.int .i64 h] w fun e w' => e = .returned (.tuple #[.int .i64 (slotI h), .int .i64 (numI h)]) ∧ w = w' := by
  by_cases h1 : h < 65536
  · have R1 := Lib.hid (show slotI h = -1 from if_pos (.inl h1))
    have R2 := Lib.hid (show numI h = 0 from if_pos (.inl h1))
    go_enter Tryd.func12, Tryd.ntmps12
    go_wp2
    go_ret2
    exact ⟨ret_two R1.out.symm R2.out.symm, rfl⟩
  by_cases h2 : 4294967296 ≤ h
  · have R1 := Lib.hid (show slotI h = -1 from if_pos (.inr h2))
    have R2 := Lib.hid (show numI h = 0 from if_pos (.inr h2))
    go_enter Tryd.func12, Tryd.ntmps12
    go_wp2
    go_ret2
    exact ⟨ret_two R1.out.symm R2.out.symm, rfl⟩
  · have R1 := Lib.hid (show slotI h = h % 65536 from if_neg (by omega))
    have R2 := Lib.hid (show numI h = h / 65536 from if_neg (by omega))
    have g1 : 65536 ≤ h := by omega
    have g2 : h < 4294967296 := by omega
    clear h1 h2
    go_enter Tryd.func12, Tryd.ntmps12
    go_wp2
    go_ret2
    exact ⟨ret_two R1.out.symm R2.out.symm, rfl⟩
end Go.Proofs.YtpaecmpiokkdnaaDoor
