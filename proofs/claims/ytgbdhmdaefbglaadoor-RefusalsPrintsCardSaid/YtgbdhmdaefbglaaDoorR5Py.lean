/- Refusals: what Parse answers. No program. -/
import Derived.Test.YtgbdhmdaefbglaaDoorR5Px
namespace Go.Proofs.YtgbdhmdaefbglaaDoor

/-- the first line that is no rule -/
def badAt (LL : List (List UInt8)) : Nat := LL.findIdx (fun l => (lnP l).isNone)
/-- the rules of the first lines -/
def rlsL (LL : List (List UInt8)) (k : Nat) : List Rl := (LL.take k).filterMap lnP
theorem rls_step {LL : List (List UInt8)} {k : Nat} {x : Rl} (h : k < LL.length) (hx : lnP (LL.getD k []) = some x) : rlsL LL (k + 1) = rlsL LL k ++ [x] := by
  unfold rlsL
  rw [List.take_add_one, List.filterMap_append]
  congr 1
  rw [List.getD_eq_getElem?_getD, List.getElem?_eq_getElem h] at hx
  rw [List.getElem?_eq_getElem h]
  show List.filterMap lnP [LL[k]] = [x]
  rw [List.filterMap_cons, show lnP LL[k] = some x from hx]
  rfl
theorem bad_at {LL : List (List UInt8)} {k : Nat} (h : k < LL.length) (hp : ∀ j, j < k → lnP (LL.getD j []) ≠ none) (hb : lnP (LL.getD k []) = none) : badAt LL = k := by
  unfold badAt
  rw [List.findIdx_eq h]
  have e : ∀ j (hj : j < LL.length), LL.getD j [] = LL[j] := fun j hj => by rw [List.getD_eq_getElem?_getD, List.getElem?_eq_getElem hj]; rfl
  refine ⟨by rw [← e k h, hb]; rfl, fun j hj => ?_⟩
  have := hp j hj
  rw [e j (by omega)] at this
  cases hl : lnP LL[j] with
  | none => exact absurd hl this
  | some x => rfl
theorem bad_none {LL : List (List UInt8)} (hp : ∀ j, j < LL.length → lnP (LL.getD j []) ≠ none) : badAt LL = LL.length := by
  unfold badAt
  rw [List.findIdx_eq_length]
  intro x hx
  obtain ⟨j, hj⟩ := List.mem_iff_getElem?.1 hx
  have hlt : j < LL.length := by
    rcases Nat.lt_or_ge j LL.length with h' | h'
    · exact h'
    · rw [List.getElem?_eq_none h'] at hj; cases hj
  have := hp j hlt
  rw [List.getD_eq_getElem?_getD, hj] at this
  cases hl : lnP x with
  | none => exact absurd hl this
  | some y => rfl
/-- what Parse answers: rules, line, error -/
def ps5 (t : List UInt8) : List Rl × Int × Int :=
  if lnsE t ≠ 0 then ([], 0, lnsE t)
  else if badAt (lnsL t) < (lnsL t).length then ([], (badAt (lnsL t) : Int) + 1, 6)
  else if 50 < (rlsL (lnsL t) (lnsL t).length).length then ([], 0, 3)
  else if pE (rlsL (lnsL t) (lnsL t).length).length (fun j => (rlsL (lnsL t) (lnsL t).length).getD j rl0) ≠ 0 then ([], pI (rlsL (lnsL t) (lnsL t).length).length (fun j => (rlsL (lnsL t) (lnsL t).length).getD j rl0) + 1, pE (rlsL (lnsL t) (lnsL t).length).length (fun j => (rlsL (lnsL t) (lnsL t).length).getD j rl0))
  else (rlsL (lnsL t) (lnsL t).length, 0, 0)
section
variable {t : List UInt8}
theorem ps5_lines (h : lnsE t ≠ 0) : ps5 t = ([], 0, lnsE t) := by unfold ps5; rw [if_pos h]
theorem ps5_bad (h : lnsE t = 0) {k : Nat} (hk : k < (lnsL t).length) (hp : ∀ j, j < k → lnP ((lnsL t).getD j []) ≠ none) (hb : lnP ((lnsL t).getD k []) = none) : ps5 t = ([], (k : Int) + 1, 6) := by
  have := bad_at hk hp hb
  unfold ps5
  rw [if_neg (by simp [h]), this, if_pos hk]
theorem ps5_good (h : lnsE t = 0) (hp : ∀ j, j < (lnsL t).length → lnP ((lnsL t).getD j []) ≠ none) {Q : List Rl} (hQ : Q = rlsL (lnsL t) (lnsL t).length) :
    ps5 t = if 50 < Q.length then ([], 0, 3) else if pE Q.length (fun j => Q.getD j rl0) ≠ 0 then ([], pI Q.length (fun j => Q.getD j rl0) + 1, pE Q.length (fun j => Q.getD j rl0)) else (Q, 0, 0) := by
  unfold ps5
  rw [if_neg (by simp [h]), bad_none hp, if_neg (Nat.lt_irrefl _), ← hQ]
end
/-- the stages of a line -/
theorem wd_ways {P : List (List UInt8)} (hk : 0 ≤ knI (P.getD 0 [])) (hl : P.length = 2 ∨ P.length = 4 ∨ P.length = 6) :
    (numE (P.getD 1 []) ≠ 0 → wdP P = none) ∧
    (P.length = 2 → numE (P.getD 1 []) = 0 → wdP P = some (knI (P.getD 0 []), numV (P.getD 1 []), 0, 1)) ∧
    (2 < P.length → numE (P.getD 3 []) ≠ 0 ∨ numV (P.getD 3 []) = 0 ∨ P.getD 2 [] ≠ everyL → wdP P = none) ∧
    (P.length = 4 → numE (P.getD 1 []) = 0 → numE (P.getD 3 []) = 0 → numV (P.getD 3 []) ≠ 0 → P.getD 2 [] = everyL → wdP P = some (knI (P.getD 0 []), numV (P.getD 1 []), numV (P.getD 3 []), 0)) ∧
    (4 < P.length → numE (P.getD 5 []) ≠ 0 ∨ numV (P.getD 5 []) = 0 ∨ P.getD 4 [] ≠ timesL → wdP P = none) ∧
    (P.length = 6 → numE (P.getD 1 []) = 0 → numE (P.getD 3 []) = 0 → numV (P.getD 3 []) ≠ 0 → P.getD 2 [] = everyL → numE (P.getD 5 []) = 0 → numV (P.getD 5 []) ≠ 0 → P.getD 4 [] = timesL → wdP P = some (knI (P.getD 0 []), numV (P.getD 1 []), numV (P.getD 3 []), numV (P.getD 5 []))) := by
  rcases hl with hl | hl | hl
  · match P, hl with
    | [a, b], _ =>
      have h0 : 0 ≤ knI a := hk
      refine ⟨fun h => ?_, fun _ h => ?_, fun h => absurd h (by simp), fun h => absurd h (by simp), fun h => absurd h (by simp), fun h => absurd h (by simp)⟩
      · rw [wdP_2, if_neg (fun k => h k.2)]
      · rw [wdP_2, if_pos ⟨h0, h⟩]; rfl
  · match P, hl with
    | [a, b, c, d], _ =>
      have h0 : 0 ≤ knI a := hk
      refine ⟨fun h => ?_, fun h => absurd h (by simp), fun _ h => ?_, fun _ h1 h2 h3 h4 => ?_, fun h => absurd h (by simp), fun h => absurd h (by simp)⟩
      · rw [wdP_4, if_neg (fun k => h k.2.1)]
      · rw [wdP_4, if_neg]
        rintro ⟨_, _, h3, h4, h5⟩
        rcases h with h | h | h
        · exact h h3
        · exact h4 h
        · exact h h5
      · rw [wdP_4, if_pos ⟨h0, h1, h2, h3, h4⟩]; rfl
  · match P, hl with
    | [a, b, c, d, e, f], _ =>
      have h0 : 0 ≤ knI a := hk
      refine ⟨fun h => ?_, fun h => absurd h (by simp), fun _ h => ?_, fun h => absurd h (by simp), fun _ h => ?_, fun _ h1 h2 h3 h4 h5 h6 h7 => ?_⟩
      · rw [wdP_6, if_neg (fun k => h k.2.1)]
      · rw [wdP_6, if_neg]
        rintro ⟨_, _, h3, h4, h5, _⟩
        rcases h with h | h | h
        · exact h h3
        · exact h4 h
        · exact h h5
      · rw [wdP_6, if_neg]
        rintro ⟨_, _, _, _, _, h3, h4, h5⟩
        rcases h with h | h | h
        · exact h h3
        · exact h4 h
        · exact h h5
      · rw [wdP_6, if_pos ⟨h0, h1, h2, h3, h4, h5, h6, h7⟩]; rfl
end Go.Proofs.YtgbdhmdaefbglaaDoor
