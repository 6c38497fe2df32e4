/- Refusals: the example, and what is shown of it. -/
import Derived.Test.YtgbdhmdaefbglaaDoorR5I
namespace Go.Proofs.YtgbdhmdaefbglaaDoor
open Go.RowKit Go.Sort Go.Joins Go.Shelf
attribute [local go_sem] cell_grow frozen_grow size_grow

def exL : List Rl := [(2, 3, 2, 0), (2, 4, 0, 1), (0, 1, 3, 2)]
def exR (j : Nat) : Rl := exL.getD j rl0
theorem ex_pE : pE 3 exR = 0 := by decide +kernel
theorem ex_text : textB exR 3 = [99, 111, 109, 109, 105, 116, 32, 51, 32, 101, 118, 101, 114, 121, 32, 50, 10, 99, 111, 109, 109, 105, 116, 32, 52, 10, 114, 101, 115, 101, 114, 118, 101, 32, 49, 32, 101, 118, 101, 114, 121, 32, 51, 32, 116, 105, 109, 101, 115, 32, 50, 10] := by decide +kernel
theorem ex_after : afV 3 exR 2 5 = 7 ∧ afE 3 exR 2 5 = 0 := by decide +kernel
theorem ex_hits : htV 3 exR 0 10 = 2 ∧ askE 3 exR 0 10 0 = 0 := by decide +kernel
theorem ex_refused : rfdV 3 exR 2 4 = true ∧ askE 3 exR 2 4 1 = 0 := by decide +kernel
set_option maxRecDepth 100000 in
theorem example_ok (w : World) : Calls Tryd.prog 12 #[] w fun e w' => ∃ b, e = .returned (pV (some ⟨b, 0, none⟩) 3 3) ∧ SlR w' (some ⟨b, 0, none⟩) 3 exR ∧ Below w.heap.size w w' := by
  go_enter Tryd.func12, Tryd.ntmps12
  go_wp2
  refine bodyPost_ret (v := pV (some ⟨w.heap.size + 1, 0, none⟩) 3 3) (by simp [results, Tryd.results12, go_sem]) rfl ⟨_, rfl, .inr ⟨_, _, rfl, fun j hj => ?_⟩, ((Below.refl _ w).alloc (Nat.le_refl _) _).alloc (by simp) _⟩
  match j, hj with
  | 0, _ => refine ⟨?_, ?_, ?_, ?_⟩ <;> simp [go_sem, exR, exL]
  | 1, _ => refine ⟨?_, ?_, ?_, ?_⟩ <;> simp [go_sem, exR, exL]
  | 2, _ => refine ⟨?_, ?_, ?_, ?_⟩ <;> simp [go_sem, exR, exL]
/-- the text of the example -/
def exT : ByteArray := ⟨[99, 111, 109, 109, 105, 116, 32, 51, 32, 101, 118, 101, 114, 121, 32, 50, 10, 99, 111, 109, 109, 105, 116, 32, 52, 10, 114, 101, 115, 101, 114, 118, 101, 32, 49, 32, 101, 118, 101, 114, 121, 32, 51, 32, 116, 105, 109, 101, 115, 32, 50, 10].toArray⟩
set_option maxRecDepth 100000 in
set_option maxHeartbeats 1600000 in
theorem shown_ok (w : World) (hT : T5 w) : Calls Tryd.prog 6 #[] w fun e w' => e = .returned (.bool true) ∧ Below w.heap.size w w' := by
  have HT := Lib.hid hT
  clear hT
  have HX : Hid (textB exR 3 = _) := Lib.hid ex_text
  go_enter Tryd.func6, Tryd.ntmps6
  go_wp2_with fail
  refine (example_ok _).mono ?_
  rintro e w1 ⟨g1, rfl, s1, b1⟩
  have HB1 := Lib.hid b1
  have HS1 := Lib.hid s1
  clear s1 b1
  go_wp2_with fail
  refine (print_ok HS1.out (by decide) ex_pE (HT.out.below HB1.out)).mono ?_
  rintro e w2 ⟨rfl, b2⟩
  rw [HX.out]
  have HB2 := Lib.hid (below_tr HB1.out b2)
  clear b2
  go_wp2_with fail
  refine (example_ok _).mono ?_
  rintro e w3 ⟨g3, rfl, s3, b3⟩
  have HB3 := Lib.hid (below_tr HB2.out b3)
  have HS3 := Lib.hid s3
  clear s3 b3
  go_wp2_with fail
  refine (After_ok HS3.out (by decide) 2 5).mono ?_
  rintro e w4 ⟨rfl, b4⟩
  rw [ex_after.1, ex_after.2]
  have HB4 := Lib.hid (below_tr HB3.out b4)
  clear b4
  go_wp2_with fail
  refine (example_ok _).mono ?_
  rintro e w5 ⟨g5, rfl, s5, b5⟩
  have HB5 := Lib.hid (below_tr HB4.out b5)
  have HS5 := Lib.hid s5
  clear s5 b5
  go_wp2_with fail
  refine (Hits_ok HS5.out (by decide) 0 10).mono ?_
  rintro e w6 ⟨rfl, b6⟩
  rw [ex_hits.1, ex_hits.2]
  have HB6 := Lib.hid (below_tr HB5.out b6)
  clear b6
  go_wp2_with fail
  refine (example_ok _).mono ?_
  rintro e w7 ⟨g7, rfl, s7, b7⟩
  have HB7 := Lib.hid (below_tr HB6.out b7)
  have HS7 := Lib.hid s7
  clear s7 b7
  go_wp2_with fail
  refine (Refused_ok HS7.out (by decide) 2 4).mono ?_
  rintro e w8 ⟨rfl, b8⟩
  rw [ex_refused.1, ex_refused.2]
  have HB8 := Lib.hid (below_tr HB7.out b8)
  clear b8
  go_wp2
  go_ret
  exact ⟨rfl, HB8.out⟩
end Go.Proofs.YtgbdhmdaefbglaaDoor
