/- The arguments of types CkPlan and CkClock, as a row hands them. -/
import Derived.Test.YtjceahbikdncmaaDoorC9Mem
import Derived.Test.YtjceahbikdncmaaDoorSlZ
import Derived.Test.YtjceahbikdncmaaDoorFrameC
namespace Go.Proofs.YtjceahbikdncmaaDoor
open Go.ChangeShapes Go.WideShapes Go.ChangeAt Go.RowKit Go.Joins Go.Deep
section
variable {H : Type} {enc : TypeId × Value → H} {W : World} {base : Nat}
set_option maxRecDepth 100000 in
theorem open_ckplanF {fuel : Nat} {cs : List Value} {x : DataW H × List MemPlace} (hl : cs.length = 1) (h : DataW.trod enc Tryd.prog W base (fun _ => true) true fuel 24 cs = some x) :
    ∃ (a : Option Addr) (n cap : Nat) (R : Nat → Al), cs = [.slice a n cap] ∧ SlA W a n R ∧ n ≤ 9223372036854775807 ∧ ∀ j, j < n → AlB (R j) := by
  obtain ⟨ys, n', _, _, _, hyl, hf⟩ := DataW.trod_struct Tryd.underlying24 h
  have h0 : DataW.trod enc Tryd.prog W base (fun _ => true) true n' 22 ((cs.drop 0).take (Tryd.prog.cellsOf 22)) = ys[0]? := hf 0 _ rfl
  have hk : Tryd.prog.cellsOf 22 = 1 := by kernel_rfl
  rw [hk] at h0
  match cs, hl with
  | [v], _ =>
    have hys : ys[0]? = some (ys[0]'(by rw [hyl]; decide)) := List.getElem?_eq_getElem _
    obtain ⟨a, n, cap, R, hv, h2, h3, h4⟩ := open_alarms (show DataW.trod enc Tryd.prog W base (fun _ => true) true n' 22 [v] = some _ from h0.trans hys)
    exact ⟨a, n, cap, R, by rw [hv], h2, h3, h4⟩
set_option maxRecDepth 100000 in
theorem open_ckplan {v : Value} {d : DataW H} {p : List MemPlace} (hv : Value.okWide Tryd.prog W .any base 24 v) (h : DataW.Trod enc Tryd.prog W 0 (fun _ => true) true 24 v d p) :
    ∃ (a : Option Addr) (n cap : Nat) (R : Nat → Al), v = .agg #[.slice a n cap] ∧ SlA W a n R ∧ n ≤ 9223372036854775807 ∧ ∀ j, j < n → AlB (R j) := by
  obtain ⟨cs, rfl, hsz⟩ := okWide_struct Tryd.underlying24 hv
  have hC : Tryd.prog.cellsOf 24 = 1 := by kernel_rfl
  obtain ⟨fuel, hf⟩ := h
  obtain ⟨a, n, cap, R, h1, h2⟩ := open_ckplanF (cs := cs.toList) (by simpa using hsz.trans hC) hf
  exact ⟨a, n, cap, R, by cases cs; simp_all, h2⟩
set_option maxRecDepth 100000 in
theorem open_clock {v : Value} {d : DataW H} {p : List MemPlace} (hv : Value.okWide Tryd.prog W .any base 38 v) (h : DataW.Trod enc Tryd.prog W 0 (fun _ => true) true 38 v d p) :
    ∃ x : Int, v = .agg #[.int .i64 x] ∧ I64r x := by
  obtain ⟨cs, rfl, hsz⟩ := okWide_struct Tryd.underlying38 hv
  have hC : Tryd.prog.cellsOf 38 = 1 := by kernel_rfl
  have hk : Tryd.prog.cellsOf 2 = 1 := by kernel_rfl
  obtain ⟨fuel, hf⟩ := h
  obtain ⟨ys, n', _, _, _, hyl, hg⟩ := DataW.trod_struct Tryd.underlying38 hf
  have h0 : DataW.trod enc Tryd.prog W 0 (fun _ => true) true n' 2 ((cs.toList.drop 0).take (Tryd.prog.cellsOf 2)) = ys[0]? := hg 0 _ rfl
  rw [hk] at h0
  have hl : cs.toList.length = 1 := by simpa using hsz.trans hC
  have hys : ys[0]? = some (ys[0]'(by rw [hyl]; decide)) := List.getElem?_eq_getElem _
  match hcs : cs.toList, hl with
  | [v], _ =>
    rw [hcs] at h0
    obtain ⟨x, e, _, wf⟩ := DataW.trod_int Tryd.underlying2 (show DataW.trod enc Tryd.prog W 0 (fun _ => true) true n' 2 [v] = some _ from h0.trans hys)
    cases e
    exact ⟨x, by cases cs; simp_all, bounds_i64 wf⟩
end
end Go.Proofs.YtjceahbikdncmaaDoor
