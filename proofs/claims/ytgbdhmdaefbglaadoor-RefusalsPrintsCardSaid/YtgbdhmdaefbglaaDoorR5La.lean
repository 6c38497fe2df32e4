/- Refusals: the kind with a name. -/
import Derived.Test.YtgbdhmdaefbglaaDoorR5Px
import Derived.Test.YtgbdhmdaefbglaaDoorWLn
import Derived.Test.YtgbdhmdaefbglaaDoorWIntB
namespace Go.Proofs.YtgbdhmdaefbglaaDoor
open Go.RowKit Go.Sort Go.Joins Go.Shelf
attribute [local go_sem] cell_grow frozen_grow size_grow

abbrev namesV : Value := .agg #[.string ⟨#[114, 101, 115, 101, 114, 118, 101]⟩, .string ⟨#[114, 101, 108, 101, 97, 115, 101]⟩, .string ⟨#[99, 111, 109, 109, 105, 116]⟩, .string ⟨#[100, 101, 99, 111, 109, 109, 105, 116]⟩, .string ⟨#[112, 114, 111, 116, 101, 99, 116]⟩, .string ⟨#[106, 111, 105, 110]⟩, .string ⟨#[115, 112, 108, 105, 116]⟩]
theorem name_0 (W : World) : (Instr.index 50 namesV (.int .i64 0)).run Tryd.prog W = .ok (.string ⟨#[114, 101, 115, 101, 114, 118, 101]⟩) W := by kernel_rfl
theorem name_1 (W : World) : (Instr.index 50 namesV (.int .i64 1)).run Tryd.prog W = .ok (.string ⟨#[114, 101, 108, 101, 97, 115, 101]⟩) W := by kernel_rfl
theorem name_2 (W : World) : (Instr.index 50 namesV (.int .i64 2)).run Tryd.prog W = .ok (.string ⟨#[99, 111, 109, 109, 105, 116]⟩) W := by kernel_rfl
theorem name_3 (W : World) : (Instr.index 50 namesV (.int .i64 3)).run Tryd.prog W = .ok (.string ⟨#[100, 101, 99, 111, 109, 109, 105, 116]⟩) W := by kernel_rfl
theorem name_4 (W : World) : (Instr.index 50 namesV (.int .i64 4)).run Tryd.prog W = .ok (.string ⟨#[112, 114, 111, 116, 101, 99, 116]⟩) W := by kernel_rfl
theorem name_5 (W : World) : (Instr.index 50 namesV (.int .i64 5)).run Tryd.prog W = .ok (.string ⟨#[106, 111, 105, 110]⟩) W := by kernel_rfl
theorem name_6 (W : World) : (Instr.index 50 namesV (.int .i64 6)).run Tryd.prog W = .ok (.string ⟨#[115, 112, 108, 105, 116]⟩) W := by kernel_rfl
theorem name_at (W : World) (k : Nat) (h : k < 7) : (Instr.index 50 namesV (.int .i64 (k : Int))).run Tryd.prog W = .ok (.string ⟨(kname k).toArray⟩) W := by
  match k, h with
  | 0, _ => exact name_0 W
  | 1, _ => exact name_1 W
  | 2, _ => exact name_2 W
  | 3, _ => exact name_3 W
  | 4, _ => exact name_4 W
  | 5, _ => exact name_5 W
  | 6, _ => exact name_6 W
set_option maxRecDepth 100000 in
set_option maxHeartbeats 1600000 in
theorem kind_ok (s : ByteArray) (L : List UInt8) (hL : s.data.toList = L) (w : World) (hT : T5 w) : Calls Tryd.prog 26 #[.string s] w fun e w' => e = .returned (.int .i64 (knI L)) ∧ w = w' := by
  have c0 : w.cell? ⟨0, 0, none⟩ = some (.string ⟨#[114, 101, 115, 101, 114, 118, 101]⟩) := hT.nm 0 (by decide)
  have c1 : w.cell? ⟨0, 1, none⟩ = some (.string ⟨#[114, 101, 108, 101, 97, 115, 101]⟩) := hT.nm 1 (by decide)
  have c2 : w.cell? ⟨0, 2, none⟩ = some (.string ⟨#[99, 111, 109, 109, 105, 116]⟩) := hT.nm 2 (by decide)
  have c3 : w.cell? ⟨0, 3, none⟩ = some (.string ⟨#[100, 101, 99, 111, 109, 109, 105, 116]⟩) := hT.nm 3 (by decide)
  have c4 : w.cell? ⟨0, 4, none⟩ = some (.string ⟨#[112, 114, 111, 116, 101, 99, 116]⟩) := hT.nm 4 (by decide)
  have c5 : w.cell? ⟨0, 5, none⟩ = some (.string ⟨#[106, 111, 105, 110]⟩) := hT.nm 5 (by decide)
  have c6 : w.cell? ⟨0, 6, none⟩ = some (.string ⟨#[115, 112, 108, 105, 116]⟩) := hT.nm 6 (by decide)
  have hl := hT.lt
  have HL := Lib.hid hL
  clear hT hL
  go_enter Tryd.func26, Tryd.ntmps26
  go_wp2_with fail
  clear c0 c1 c2 c3 c4 c5 c6 hl
  go_loop [3, 4, 6] (fun _ _ i => ∃ k : Nat, i = .int .i64 (k : Int) ∧ k ≤ 7 ∧ Hid (∀ j, j < k → kname j ≠ L)) (fun _ _ i => 7 - (intOf i).toNat)
  case atStart => exact ⟨0, rfl, Nat.zero_le _, Lib.hid (fun j hj => by omega)⟩
  case round =>
    obtain ⟨k, rfl, hk, HA⟩ := hrel
    by_cases hlt : k < 7
    · have hix : ∀ W : World, (Instr.index 50 namesV (.int .i64 (k : Int))).run Tryd.prog W = .ok (.string ⟨(kname k).toArray⟩) W := fun W => name_at W k hlt
      have hh := knI_hit hlt
      obtain ⟨nm, hnm⟩ : ∃ x, kname k = x := ⟨_, rfl⟩
      rw [hnm] at hix hh
      have hcmp : (nm == s.toList) = decide (nm = L) := by rw [Lib.toList_data, HL.out, Bool.eq_iff_iff]; simp
      have hcmp2 : nm = s.toList ↔ nm = L := by rw [Lib.toList_data, HL.out]
      by_cases he : nm = L
      · rw [decide_eq_true he] at hcmp
        have hc2 := hcmp2.2 he
        have HH := Lib.hid (by rw [he] at hh; exact hh : knI L = k)
        clear hcmp2 hh he hnm
        go_wp2_with fail
        go_ret
        exact ⟨ret_i64 HH.out.symm, rfl⟩
      · rw [decide_eq_false he] at hcmp
        have hc2 : ¬ nm = s.toList := fun e => he (hcmp2.1 e)
        have HN := Lib.hid (And.intro hnm he)
        clear hcmp2 hh he hnm
        go_wp2_with fail
        go_round
        case rel => exact ⟨k + 1, by go_num, by omega, Lib.hid (fun j hj => by
          by_cases ej : j = k
          · rw [ej, HN.out.1]; exact HN.out.2
          · exact HA.out j (by omega))⟩
        case measure => simp [intOf]; omega
    · obtain rfl : k = 7 := by omega
      have HK := Lib.hid (knI_none HA.out)
      go_wp2_with fail
      go_ret
      exact ⟨ret_i64 HK.out.symm, rfl⟩
end Go.Proofs.YtgbdhmdaefbglaaDoor
