/- The arguments of types RfPlan and RfState, as a row hands them. -/
import Derived.Test.YtgbdhmdaefbglaaDoorR5Mem
import Derived.Test.YtgbdhmdaefbglaaDoorFrameC
namespace Go.Proofs.YtgbdhmdaefbglaaDoor
open Go.ChangeShapes Go.WideShapes Go.ChangeAt Go.RowKit Go.Joins Go.Deep
section
variable {H : Type} {enc : TypeId × Value → H} {W : World} {base : Nat}
theorem one_of {cs : List Value} {y : DataW H × List MemPlace} {fuel : Nat} {t : TypeId} (h1 : cs.length = 1) (h : DataW.trod enc Tryd.prog W base (fun _ => true) true fuel t ((cs.drop 0).take 1) = some y) : ∃ v, cs = [v] ∧ DataW.trod enc Tryd.prog W base (fun _ => true) true fuel t [v] = some y := by
  match cs, h1 with
  | [v], _ => exact ⟨v, rfl, h⟩
set_option maxRecDepth 100000 in
theorem open_planF {fuel : Nat} {cs : List Value} {x : DataW H × List MemPlace} (hl : cs.length = 1) (h : DataW.trod enc Tryd.prog W base (fun _ => true) true fuel 24 cs = some x) :
    ∃ (a : Option Addr) (n cap : Nat) (R : Nat → Rl), cs = [.slice a n cap] ∧ SlR W a n R ∧ n ≤ 9223372036854775807 ∧ ∀ j, j < n → RlB (R j) := by
  obtain ⟨ys, n', _, _, _, hyl, hf⟩ := DataW.trod_struct Tryd.underlying24 h
  have h0 : DataW.trod enc Tryd.prog W base (fun _ => true) true n' 22 ((cs.drop 0).take (Tryd.prog.cellsOf 22)) = ys[0]? := hf 0 _ rfl
  have hk : Tryd.prog.cellsOf 22 = 1 := by kernel_rfl
  rw [hk] at h0
  match cs, hl with
  | [v], _ =>
    have hys : ys[0]? = some (ys[0]'(by rw [hyl]; decide)) := List.getElem?_eq_getElem _
    obtain ⟨a, n, cap, R, hv, h2, h3, h4⟩ := open_rules (show DataW.trod enc Tryd.prog W base (fun _ => true) true n' 22 [v] = some _ from h0.trans hys)
    exact ⟨a, n, cap, R, by rw [hv], h2, h3, h4⟩
set_option maxRecDepth 100000 in
theorem open_plan {v : Value} {d : DataW H} {p : List MemPlace} (hv : Value.okWide Tryd.prog W .any base 24 v) (h : DataW.Trod enc Tryd.prog W 0 (fun _ => true) true 24 v d p) :
    ∃ (a : Option Addr) (n cap : Nat) (R : Nat → Rl), v = .agg #[.slice a n cap] ∧ SlR W a n R ∧ n ≤ 9223372036854775807 ∧ ∀ j, j < n → RlB (R j) := by
  obtain ⟨cs, rfl, hsz⟩ := okWide_struct Tryd.underlying24 hv
  have hC : Tryd.prog.cellsOf 24 = 1 := by kernel_rfl
  obtain ⟨fuel, hf⟩ := h
  obtain ⟨a, n, cap, R, h1, h2⟩ := open_planF (cs := cs.toList) (by simpa using hsz.trans hC) hf
  exact ⟨a, n, cap, R, by cases cs; simp_all, h2⟩
end
end Go.Proofs.YtgbdhmdaefbglaaDoor
