/- The radix map: Pack and Unpack, of the program and of the reference. -/
import Derived.Test.YtfmclbacoffdaaaDoorR7Calls
import Derived.Test.YtfmclbacoffdaaaDoorR7PkB
import Derived.Test.YtfmclbacoffdaaaDoorHPlain
import Derived.Deep.RegionWith
namespace Go.Proofs.YtfmclbacoffdaaaDoor
open Go.RowKit Go.Sort Go.Joins
attribute [local go_sem] cell_grow frozen_grow size_grow
theorem pk_ways (o s t : Int) :
    (Hid (pkE o s t = 2) ∧ decide (o < 0) = true) ∨
    (Hid (pkE o s t = 2) ∧ decide (o < 0) = false ∧ decide (4095 < o) = true) ∨
    (Hid (pkE o s t = 2) ∧ decide (o < 0) = false ∧ decide (4095 < o) = false ∧ decide (s < 0) = true) ∨
    (Hid (pkE o s t = 2) ∧ decide (o < 0) = false ∧ decide (4095 < o) = false ∧ decide (s < 0) = false ∧ decide (15 < s) = true) ∨
    (Hid (pkE o s t = 2) ∧ decide (o < 0) = false ∧ decide (4095 < o) = false ∧ decide (s < 0) = false ∧ decide (15 < s) = false ∧ decide (t < 0) = true) ∨
    (Hid (pkE o s t = 2) ∧ decide (o < 0) = false ∧ decide (4095 < o) = false ∧ decide (s < 0) = false ∧ decide (15 < s) = false ∧ decide (t < 0) = false ∧ decide (1000000000000 < t) = true) ∨
    Hid (pkE o s t = 0) := by
  by_cases h1 : o < 0
  · exact .inl ⟨Lib.hid (if_pos (by omega)), decide_eq_true h1⟩
  · by_cases h2 : 4095 < o
    · exact .inr (.inl ⟨Lib.hid (if_pos (by omega)), decide_eq_false h1, decide_eq_true h2⟩)
    · by_cases h3 : s < 0
      · exact .inr (.inr (.inl ⟨Lib.hid (if_pos (by omega)), decide_eq_false h1, decide_eq_false h2, decide_eq_true h3⟩))
      · by_cases h4 : 15 < s
        · exact .inr (.inr (.inr (.inl ⟨Lib.hid (if_pos (by omega)), decide_eq_false h1, decide_eq_false h2, decide_eq_false h3, decide_eq_true h4⟩)))
        · by_cases h5 : t < 0
          · exact .inr (.inr (.inr (.inr (.inl ⟨Lib.hid (if_pos (by omega)), decide_eq_false h1, decide_eq_false h2, decide_eq_false h3, decide_eq_false h4, decide_eq_true h5⟩))))
          · by_cases h6 : 1000000000000 < t
            · exact .inr (.inr (.inr (.inr (.inr (.inl ⟨Lib.hid (if_pos (by omega)), decide_eq_false h1, decide_eq_false h2, decide_eq_false h3, decide_eq_false h4, decide_eq_false h5, decide_eq_true h6⟩)))))
            · exact .inr (.inr (.inr (.inr (.inr (.inr (Lib.hid (if_neg (by omega))))))))
theorem pkV_bad {o s t : Int} {g : Bool} (h : pkE o s t = 2) : pkV o s t g = 0 := by unfold pkV; rw [if_neg (by rw [h]; decide)]
theorem pkV_ok {o s t : Int} {g : Bool} (h : pkE o s t = 0) : pkV o s t g = pkW o s t g := by unfold pkV; rw [if_pos h]
abbrev dsV (o s t : Int) (g : Bool) : Value := .agg #[.int .i64 o, .int .i64 s, .int .i64 t, .bool g]
set_option maxRecDepth 100000 in
set_option maxHeartbeats 1600000 in
theorem pack_ok (o s t : Int) (g : Bool) (w : World) :
    Calls Tryd.prog 13 #[dsV o s t g] w fun e w' => e = .returned (.tuple #[.int .u64 (pkV o s t g), .int .i64 (pkE o s t)]) ∧ Below w.heap.size w w' := by
  have HB := Lib.hid (below_box0 w (.cells #[.int .i64 o, .int .i64 s, .int .i64 t, .bool g] 23))
  rcases pk_ways o s t with ⟨HE, d1⟩ | ⟨HE, d1, d2⟩ | ⟨HE, d1, d2, d3⟩ | ⟨HE, d1, d2, d3, d4⟩ | ⟨HE, d1, d2, d3, d4, d5⟩ | ⟨HE, d1, d2, d3, d4, d5, d6⟩ | HE
  case' inr.inr.inr.inr.inr.inr =>
    obtain ⟨h0, h1, h2, h3, h4, h5⟩ := pkE_zero HE.out
    have d1 : decide (o < 0) = false := decide_eq_false (by omega)
    have d2 : decide (4095 < o) = false := decide_eq_false (by omega)
    have d3 : decide (s < 0) = false := decide_eq_false (by omega)
    have d4 : decide (15 < s) = false := decide_eq_false (by omega)
    have d5 : decide (t < 0) = false := decide_eq_false (by omega)
    have d6 : decide (1000000000000 < t) = false := decide_eq_false (by omega)
    obtain ⟨hb1, hb2⟩ := pk_bits h0 h1 h2 h3 h4 h5
    have HB1 := Lib.hid hb1
    have HB2 := Lib.hid hb2
    have w1 : IntKind.u64.wrap o = o := IntWalk.u64_in _ (by omega)
    have w2 : IntKind.u64.wrap s = s := IntWalk.u64_in _ (by omega)
    have w3 : IntKind.u64.wrap t = t := IntWalk.u64_in _ (by omega)
    have w4 : IntKind.u64.wrap (o * 2) = o * 2 := IntWalk.u64_in _ (by omega)
    have w5 : IntKind.u64.wrap (s * 8192) = s * 8192 := IntWalk.u64_in _ (by omega)
    have w6 : IntKind.u64.wrap (t * 131072) = t * 131072 := IntWalk.u64_in _ (by omega)
    clear h0 h1 h2 h3 h4 h5 hb2
    cases g
  all_goals
    go_enter Tryd.func13, Tryd.ntmps13
    go_wp2
    try go_quiet (fail)
    try go_wp2
    go_ret2
    first
      | exact ⟨by rw [pkV_bad HE.out, HE.out]; rfl, HB.out⟩
      | exact ⟨by rw [pkV_ok HE.out, HE.out, ← HB1.out]; rfl, HB.out⟩
      | exact ⟨by rw [pkV_ok HE.out, HE.out, ← HB2.out, ← HB1.out]; rfl, HB.out⟩
end Go.Proofs.YtfmclbacoffdaaaDoor
