/- The arguments of types HnState[int] and []bool, as a row hands them. -/
import Derived.Test.YtpaecmpiokkdnaaDoorFrame
import Derived.Test.YtpaecmpiokkdnaaDoorHState
import Derived.Lib.SmallJoins
import Derived.Deep.Grids
namespace Go.Proofs.YtpaecmpiokkdnaaDoor
open Go.ChangeShapes Go.WideShapes Go.ChangeAt Go.RowKit Go.Joins

/-- the bounds of an int -/
def I64 (x : Int) : Prop := -9223372036854775808 ≤ x ∧ x ≤ 9223372036854775807
theorem I64.zero : I64 0 := ⟨by decide, by decide⟩
theorem cellsInt : Tryd.prog.cellsOf 3 = 1 := by kernel_rfl
theorem cellsBool : Tryd.prog.cellsOf 4 = 1 := by kernel_rfl
section
variable {H : Type} {enc : TypeId × Value → H} {W : World} {base : Nat}
theorem open_intsF {fuel : Nat} {v : Value} {x : DataW H × List MemPlace} (h : DataW.trod enc Tryd.prog W base (fun _ => true) true fuel 32 [v] = some x) :
    ∃ (a : Option Addr) (len cap : Nat) (G : Nat → Int), v = .slice a len cap ∧ SlF W a len (zI G) ∧ len ≤ 9223372036854775807 ∧ (∀ j, I64 (G j)) := by
  rcases open_ints Tryd.underlying32 Tryd.underlying3 cellsInt h with ⟨h, _⟩ | ⟨A, len, cap, zs, h, _, hl, hm, hz, _, hc, hwf⟩
  · cases h
    exact ⟨none, 0, 0, fun _ => 0, rfl, .inl rfl, by decide, fun _ => I64.zero⟩
  · cases h
    have hz' : zs.length = cap := by simpa using hz
    have hml : maxLen ≤ 9223372036854775807 := by decide
    refine ⟨some A, len, cap, fun j => zs.getD j 0, rfl, ?_, by omega, fun j => ?_⟩
    · by_cases h0 : len = 0
      · exact .inl h0
      · obtain ⟨b, off, rfl, hc'⟩ := ints_at hc (by omega)
        exact .inr ⟨b, off, rfl, fun j hj => hc' j (by omega)⟩
    · by_cases hj : j < zs.length
      · have := bounds_i64 (hwf zs[j] (List.getElem_mem _))
        have e : zs.getD j 0 = zs[j] := by simp [List.getD_eq_getElem?_getD, hj]
        dsimp only
        rw [e]; exact this
      · have e : zs.getD j 0 = 0 := by simp [List.getD_eq_getElem?_getD, hj]
        dsimp only
        rw [e]; exact I64.zero
theorem bools_at {a : Addr} {n : Nat} {B : Nat → Bool} (h : ∀ i, i < n → W.cell? (a.add i) = some (.bool (B i))) (hp : 0 < n) : ∃ b off, a = ⟨b, off, none⟩ ∧ ∀ j, j < n → W.cell? ⟨b, off + j, none⟩ = some (.bool (B j)) := by
  obtain ⟨b, off, spot⟩ := a
  have hspot : spot = none := by simpa [Addr.add] using World.cell?_spot (h 0 hp)
  subst hspot
  exact ⟨b, off, rfl, fun j hj => by rw [← Go.WideShapes.add_plain]; exact h j hj⟩
theorem open_boolsF {fuel : Nat} {v : Value} {x : DataW H × List MemPlace} (h : DataW.trod enc Tryd.prog W base (fun _ => true) true fuel 33 [v] = some x) :
    ∃ (a : Option Addr) (len cap : Nat) (B : Nat → Bool), v = .slice a len cap ∧ SlF W a len (zB B) ∧ len ≤ 9223372036854775807 := by
  rcases Go.Deep.open_bools Tryd.underlying33 Tryd.underlying4 cellsBool h with ⟨h, _⟩ | ⟨A, len, cap, B, h, _, hl, hm, _, hc⟩
  · cases h
    exact ⟨none, 0, 0, fun _ => false, rfl, .inl rfl, by decide⟩
  · cases h
    have hml : maxLen ≤ 9223372036854775807 := by decide
    refine ⟨some A, len, cap, B, rfl, ?_, by omega⟩
    by_cases h0 : len = 0
    · exact .inl h0
    · obtain ⟨b, off, rfl, hc'⟩ := bools_at hc (by omega)
      exact .inr ⟨b, off, rfl, fun j hj => hc' j (by omega)⟩
set_option maxRecDepth 100000 in
theorem open_boolsT {v : Value} {d : DataW H} {p : List MemPlace} (hv : Value.okWide Tryd.prog W .any base 33 v) (h : DataW.Trod enc Tryd.prog W 0 (fun _ => true) true 33 v d p) :
    ∃ (a : Option Addr) (len cap : Nat) (B : Nat → Bool), v = .slice a len cap ∧ SlF W a len (zB B) ∧ len ≤ 9223372036854775807 := by
  obtain ⟨a, l, c, rfl⟩ := okWide_slice Tryd.underlying33 hv
  obtain ⟨fuel, hf⟩ := h
  exact open_boolsF hf
set_option maxRecDepth 100000 in
theorem open_state {v : Value} {d : DataW H} {p : List MemPlace} (hv : Value.okWide Tryd.prog W .any base 35 v) (h : DataW.Trod enc Tryd.prog W 0 (fun _ => true) true 35 v d p) :
    ∃ (ga aa va : Option Addr) (n na nv gc ac vc : Nat) (G : Nat → Int) (A : Nat → Bool) (V : Nat → Int), v = .agg #[.slice ga n gc, .slice aa na ac, .slice va nv vc] ∧ SlF W ga n (zI G) ∧ SlF W aa na (zB A) ∧ SlF W va nv (zI V) ∧
      n ≤ 9223372036854775807 ∧ na ≤ 9223372036854775807 ∧ nv ≤ 9223372036854775807 ∧ (∀ j, I64 (G j)) ∧ (∀ j, I64 (V j)) := by
  obtain ⟨v0, v1, v2, y0, y1, y2, m, rfl, _, _, t0, t1, t2⟩ := open_agg3 Tryd.underlying35 (by kernel_rfl) (by kernel_rfl) hv h
  obtain ⟨ga, n, gc, G, rfl, h0, l0, b0⟩ := open_intsF t0
  obtain ⟨aa, na, ac, A, rfl, h1, l1⟩ := open_boolsF t1
  obtain ⟨va, nv, vc, V, rfl, h2, l2, b2⟩ := open_intsF t2
  exact ⟨ga, aa, va, n, na, nv, gc, ac, vc, G, A, V, rfl, h0, h1, h2, l0, l1, l2, b0, b2⟩
end
end Go.Proofs.YtpaecmpiokkdnaaDoor
