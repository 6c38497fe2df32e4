/- Slices of integers of any kind, as a row hands them. -/
import Derived.Test.YtmgpdaljminipaaDoorProg
import Derived.WalkKit
import Derived.OpenShut
import Derived.Lib.SmallJoins
import Derived.Deep.Grids
import Derived.ChangeSame
namespace Go.Proofs.YtmgpdaljminipaaDoor
open Go.ChangeShapes Go.WideShapes Go.ChangeAt Go.RowKit Go.Joins
/-- a slice that reads as integers -/
def SlZ (k : IntKind) (w : World) (a : Option Addr) (n : Nat) (G : Nat → Int) : Prop := n = 0 ∨ ∃ b o, a = some ⟨b, o, none⟩ ∧ ∀ j, j < n → w.cell? ⟨b, o + j, none⟩ = some (.int k (G j))
theorem SlZ.below {k : IntKind} {w w' : World} {a : Option Addr} {n : Nat} {G : Nat → Int} (h : SlZ k w a n G) (hb : Below w.heap.size w w') : SlZ k w' a n G := by
  rcases h with h | ⟨b, o, ha, hc⟩
  · exact .inl h
  · refine .inr ⟨b, o, ha, fun j hj => ?_⟩
    have h0 := hc j hj
    have hl := World.block_lt_of_cell? _ _ h0
    dsimp only at hl
    exact (hb.cell (p := ⟨b, o + j, none⟩) hl).trans h0
theorem SlZ.at_ {k : IntKind} {w : World} {a : Option Addr} {n : Nat} {G : Nat → Int} (h : SlZ k w a n G) {j : Nat} (hj : j < n) : ∃ b o, a = some ⟨b, o, none⟩ ∧ w.cell? ⟨b, o + j, none⟩ = some (.int k (G j)) := by
  obtain ⟨b, o, ha, hc⟩ := h.resolve_left (by omega)
  exact ⟨b, o, ha, hc j hj⟩
section
variable {H : Type} {enc : TypeId × Value → H} {W : World} {base : Nat}
set_option maxRecDepth 100000 in
theorem open_zs {t e : TypeId} {k : IntKind} (ht : Tryd.prog.underlying t = some (.slice e)) (he : Tryd.prog.underlying e = some (.int k)) (hc : Tryd.prog.cellsOf e = 1)
    {v : Value} {d : DataW H} {p : List MemPlace} (hv : Value.okWide Tryd.prog W .any base t v) (h : DataW.Trod enc Tryd.prog W 0 (fun _ => true) true t v d p) :
    ∃ (a : Option Addr) (n cap : Nat) (G : Nat → Int), v = .slice a n cap ∧ SlZ k W a n G ∧ n ≤ 9223372036854775807 ∧ ∀ j, j < n → (Lit.int k (G j)).wf = true := by
  obtain ⟨a, l, c, rfl⟩ := okWide_slice ht hv
  obtain ⟨fuel, hf⟩ := h
  rcases open_ints ht he hc hf with ⟨h, _⟩ | ⟨A, len, cap, zs, h, _, hl, hm, hz, _, hcl, hwf⟩
  · cases h
    exact ⟨none, 0, 0, fun _ => 0, rfl, .inl rfl, by decide, fun j hj => by omega⟩
  · cases h
    have hz' : zs.length = c := by simpa using hz
    have hml : maxLen ≤ 9223372036854775807 := by decide
    refine ⟨some A, l, c, fun j => zs.getD j 0, rfl, ?_, by omega, fun j hj => ?_⟩
    · by_cases h0 : l = 0
      · exact .inl h0
      · obtain ⟨b, off, rfl, hc'⟩ := ints_at hcl (by omega)
        exact .inr ⟨b, off, rfl, fun j hj => hc' j (by omega)⟩
    · have hjl : j < zs.length := by omega
      have := hwf zs[j] (List.getElem_mem _)
      have e : zs.getD j 0 = zs[j] := by simp [List.getD, hjl]
      show (Lit.int k (zs.getD j 0)).wf = true
      rw [e]
      exact this
end
end Go.Proofs.YtmgpdaljminipaaDoor
