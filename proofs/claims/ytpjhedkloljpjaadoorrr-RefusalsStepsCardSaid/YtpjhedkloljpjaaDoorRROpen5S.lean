/- The arguments of type RfState, as a row hands them. -/
import Derived.Test.YtpjhedkloljpjaaDoorRROpen5
import Derived.Test.YtpjhedkloljpjaaDoorRRR5M
import Derived.OpenShut
namespace Go.Proofs.YtpjhedkloljpjaaDoorRR
open Go.ChangeShapes Go.WideShapes Go.ChangeAt Go.RowKit Go.Joins Go.Deep
section
variable {H : Type} {enc : TypeId × Value → H} {W : World} {base : Nat}
set_option maxRecDepth 100000 in
theorem open_ints7F {fuel : Nat} {cs : List Value} {x : DataW H × List MemPlace} (hl : cs.length = 7) (h : DataW.trod enc Tryd.prog W base (fun _ => true) true fuel 36 cs = some x) :
    ∃ C : Nat → Int, cs = [.int .i64 (C 0), .int .i64 (C 1), .int .i64 (C 2), .int .i64 (C 3), .int .i64 (C 4), .int .i64 (C 5), .int .i64 (C 6)] ∧ ∀ k, k < 7 → I64r (C k) := by
  obtain ⟨ys, m, _, _, _, hyl, hf⟩ := DataW.trod_array Tryd.underlying36 h
  have hk : Tryd.prog.cellsOf 3 = 1 := by kernel_rfl
  rw [hk] at hf
  match cs, hl with
  | [v0, v1, v2, v3, v4, v5, v6], _ =>
    have key : ∀ i (hi : i < 7) v, (([v0, v1, v2, v3, v4, v5, v6].drop (i * 1)).take 1) = [v] → ∃ n : Int, v = .int .i64 n ∧ I64r n := fun i hi v hv => by
      have hys : ys[i]? = some (ys[i]'(by omega)) := List.getElem?_eq_getElem _
      have t := (hf i hi).trans hys
      rw [hv] at t
      obtain ⟨n, e, _, wf⟩ := DataW.trod_int Tryd.underlying3 t
      cases e
      exact ⟨n, rfl, bounds_i64 wf⟩
    obtain ⟨n0, rfl, b0⟩ := key 0 (by omega) _ rfl
    obtain ⟨n1, rfl, b1⟩ := key 1 (by omega) _ rfl
    obtain ⟨n2, rfl, b2⟩ := key 2 (by omega) _ rfl
    obtain ⟨n3, rfl, b3⟩ := key 3 (by omega) _ rfl
    obtain ⟨n4, rfl, b4⟩ := key 4 (by omega) _ rfl
    obtain ⟨n5, rfl, b5⟩ := key 5 (by omega) _ rfl
    obtain ⟨n6, rfl, b6⟩ := key 6 (by omega) _ rfl
    refine ⟨fun k => if k = 0 then n0 else if k = 1 then n1 else if k = 2 then n2 else if k = 3 then n3 else if k = 4 then n4 else if k = 5 then n5 else n6, by simp, fun k hk => ?_⟩
    dsimp only
    split
    · exact b0
    split
    · exact b1
    split
    · exact b2
    split
    · exact b3
    split
    · exact b4
    split
    · exact b5
    · exact b6
set_option maxRecDepth 100000 in
theorem open_rfstate {v : Value} {d : DataW H} {p : List MemPlace} (hv : Value.okWide Tryd.prog W .any base 38 v) (h : DataW.Trod enc Tryd.prog W 0 (fun _ => true) true 38 v d p) :
    ∃ (a : Option Addr) (n cap : Nat) (R : Nat → Rl) (C H' : Nat → Int), v = sV a n cap C H' ∧ SlR W a n R ∧ n ≤ 9223372036854775807 ∧ (∀ k, k < 7 → I64r (C k)) ∧ (∀ k, k < 7 → I64r (H' k)) := by
  obtain ⟨cs, rfl, hsz⟩ := okWide_struct Tryd.underlying38 hv
  have hC : Tryd.prog.cellsOf 38 = 15 := by kernel_rfl
  have hlen : cs.toList.length = 15 := by simpa using hsz.trans hC
  obtain ⟨fuel, hf⟩ := h
  obtain ⟨ys, n', _, _, _, hyl, hf⟩ := DataW.trod_struct Tryd.underlying38 hf
  have hy3 : ys.length = 3 := hyl
  have h0 : DataW.trod enc Tryd.prog W 0 (fun _ => true) true n' 24 ((cs.toList.drop 0).take (Tryd.prog.cellsOf 24)) = ys[0]? := hf 0 _ rfl
  have h1 : DataW.trod enc Tryd.prog W 0 (fun _ => true) true n' 36 ((cs.toList.drop 1).take (Tryd.prog.cellsOf 36)) = ys[1]? := hf 1 _ rfl
  have h2 : DataW.trod enc Tryd.prog W 0 (fun _ => true) true n' 36 ((cs.toList.drop 8).take (Tryd.prog.cellsOf 36)) = ys[2]? := hf 2 _ rfl
  rw [show Tryd.prog.cellsOf 24 = 1 by kernel_rfl, List.getElem?_eq_getElem (by omega)] at h0
  rw [show Tryd.prog.cellsOf 36 = 7 by kernel_rfl, List.getElem?_eq_getElem (by omega)] at h1 h2
  obtain ⟨a, n, cap, R, e0, hS, hn, _⟩ := open_planF (by rw [List.length_take, List.length_drop]; omega) h0
  obtain ⟨C, e1, hC1⟩ := open_ints7F (by rw [List.length_take, List.length_drop]; omega) h1
  obtain ⟨J, e2, hC2⟩ := open_ints7F (by rw [List.length_take, List.length_drop]; omega) h2
  refine ⟨a, n, cap, R, C, J, ?_, hS, hn, hC1, hC2⟩
  have hl : cs.toList = (cs.toList.drop 0).take 1 ++ ((cs.toList.drop 1).take 7 ++ (cs.toList.drop 8).take 7) := by
    generalize cs.toList = l at hlen
    match l, hlen with
    | [_, _, _, _, _, _, _, _, _, _, _, _, _, _, _], _ => rfl
  rw [e0, e1, e2] at hl
  cases cs
  simp only [List.cons_append, List.nil_append] at hl
  rw [show (_ : List Value) = _ from hl]
end
end Go.Proofs.YtpjhedkloljpjaaDoorRR
