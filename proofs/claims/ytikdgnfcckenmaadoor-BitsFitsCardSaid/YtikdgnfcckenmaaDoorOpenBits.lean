/- The argument of type BtBits, as a row hands it: a number and a slice of words. -/
import Derived.Test.YtikdgnfcckenmaaDoorFrame
import Derived.Lib.SmallJoins
namespace Go.Proofs.YtikdgnfcckenmaaDoor
open Go.ChangeShapes Go.WideShapes Go.ChangeAt Go.RowKit Go.Joins

theorem cellsU64 : Tryd.prog.cellsOf 58 = 1 := by kernel_rfl
theorem open_bits {H : Type} {enc : TypeId × Value → H} {W : World} {base : Nat} {v : Value} {d : DataW H} {p : List MemPlace} (hv : Value.okWide Tryd.prog W .any base 24 v) (h : DataW.Trod enc Tryd.prog W 0 (fun _ => true) true 24 v d p) :
    ∃ (N : Int) (a : Option Addr) (len cap : Nat) (ws : List Nat), v = .agg #[.int .i64 N, .slice a len cap] ∧ SlK .u64 W a len ws ∧ (∀ x ∈ ws, x < 18446744073709551616) ∧ len ≤ 9223372036854775807 := by
  obtain ⟨v0, v1, y0, y1, n, rfl, _, _, t0, t1⟩ := open_agg2 Tryd.underlying24 (by kernel_rfl) (by kernel_rfl) hv h
  obtain ⟨N, hN, _, _⟩ := DataW.trod_int Tryd.underlying3 t0
  cases hN
  rcases open_ints Tryd.underlying22 Tryd.underlying58 cellsU64 t1 with ⟨h, _⟩ | ⟨A, len, cap, zs, h, _, hl, hm, hz, _, hc, hwf⟩
  · cases h
    exact ⟨N, none, 0, 0, [], rfl, ⟨rfl, .inl rfl⟩, by simp, by decide⟩
  · cases h
    have hz' : zs.length = cap := by simpa using hz
    have hb : ∀ z ∈ zs, 0 ≤ z ∧ z ≤ 18446744073709551615 := fun z hz => bounds_u64 (hwf z hz)
    have hml : maxLen ≤ 9223372036854775807 := by decide
    refine ⟨N, some A, len, cap, (zs.take len).map Int.toNat, rfl, ⟨by simp; omega, ?_⟩, ?_, by omega⟩
    · by_cases h0 : len = 0
      · exact .inl h0
      · obtain ⟨b, off, rfl, hc'⟩ := ints_at hc (by omega)
        refine .inr ⟨b, off, rfl, fun j hj => ?_⟩
        rw [hc' j (by omega)]
        have hj2 : j < zs.length := by omega
        have hm' : zs[j] ∈ zs := List.getElem_mem _
        have := (hb _ hm').1
        simp [List.getD_eq_getElem?_getD, hj, hj2]
        omega
    · intro x hx
      obtain ⟨z, hz1, rfl⟩ := List.mem_map.1 hx
      have := hb z (List.mem_of_mem_take hz1)
      omega
end Go.Proofs.YtikdgnfcckenmaaDoor
