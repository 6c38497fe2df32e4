/- The argument of type Part, as a row hands it. -/
import Derived.Test.YtikdgnfcckenmaaDoorOpenBits
namespace Go.Proofs.YtikdgnfcckenmaaDoor
open Go.ChangeShapes Go.WideShapes Go.ChangeAt Go.RowKit Go.Joins

theorem open_part {H : Type} {enc : TypeId × Value → H} {W : World} {base : Nat} {v : Value} {d : DataW H} {p : List MemPlace} (hv : Value.okWide Tryd.prog W .any base 45 v) (h : DataW.Trod enc Tryd.prog W 0 (fun _ => true) true 45 v d p) :
    ∃ (f t : Int) (on : Bool), v = .agg #[.int .i64 f, .int .i64 t, .bool on] ∧ (-9223372036854775808 ≤ f ∧ f ≤ 9223372036854775807) ∧ (-9223372036854775808 ≤ t ∧ t ≤ 9223372036854775807) := by
  obtain ⟨v0, v1, v2, y0, y1, y2, n, rfl, _, _, t0, t1, t2⟩ := open_agg3 Tryd.underlying45 (by kernel_rfl) (by kernel_rfl) hv h
  obtain ⟨f, hf, _, wf⟩ := DataW.trod_int Tryd.underlying3 t0
  obtain ⟨t, ht, _, wt⟩ := DataW.trod_int Tryd.underlying3 t1
  obtain ⟨o, ho, _⟩ := DataW.trod_bool Tryd.underlying4 t2
  cases hf; cases ht; cases ho
  exact ⟨f, t, o, rfl, bounds_i64 wf, bounds_i64 wt⟩
end Go.Proofs.YtikdgnfcckenmaaDoor
