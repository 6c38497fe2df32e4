/- The radix map, plain: pages get a word; how many nodes are needed. -/
import Derived.Test.YtfmclbacoffdaaaDoorR7InvC
namespace Go.Proofs.YtfmclbacoffdaaaDoor
theorem setM_cons (x : Nat) (X : RM) (p : Nat) : ∀ n, setM x (n + 1) X p = setM x n (putM X x p) (p + 1)
  | 0 => rfl
  | n + 1 => by
    have ih := setM_cons x X p n
    show putM (setM x (n + 1) X p) x (p + (n + 1)) = putM (setM x n (putM X x p) (p + 1)) x (p + 1 + n)
    rw [ih, show p + (n + 1) = p + 1 + n by omega]
theorem setOk_cons {x : Nat} {X : RM} {p n : Nat} (h1 : putOk X p = true) (h2 : setOk x n (putM X x p) (p + 1) = true) : setOk x (n + 1) X p = true := by
  refine List.all_eq_true.2 fun j hj => ?_
  have hj' := List.mem_range.1 hj
  match j with
  | 0 => exact h1
  | j + 1 =>
    have := setOk_at h2 (show j < n by omega)
    rw [← setM_cons, show p + 1 + j = p + (j + 1) by omega] at this
    exact this
theorem ite_congr' {a b : Prop} [Decidable a] [Decidable b] (h : a ↔ b) : (if a then (1 : Nat) else 0) = if b then 1 else 0 := by
  by_cases c : a
  · rw [if_pos c, if_pos (h.1 c)]
  · rw [if_neg c, if_neg (fun e => c (h.2 e))]
theorem need_put {X Y : RM} {x p : Nat} (hS : PutS X x p Y) : ∀ n q, p < q → q + n ≤ 1024 → needF Y.st n q (((q - 1) / 64 : Nat) : Int) (((q - 1) / 8 : Nat) : Int) = needF X.st n q (((q - 1) / 64 : Nat) : Int) (((q - 1) / 8 : Nat) : Int)
  | 0, _, _, _ => rfl
  | n + 1, q, hq, hn => by
    have ih := need_put hS n (q + 1) (by omega) (by omega)
    rw [show q + 1 - 1 = q by omega] at ih
    simp only [needF]
    rw [ih]
    have e1 := hS.md q (by omega)
    have e2 := hS.lf q (by omega)
    rw [ite_congr' (a := mdI Y.st q = 0 ∧ ((q / 64 : Nat) : Int) ≠ (((q - 1) / 64 : Nat) : Int)) (b := mdI X.st q = 0 ∧ ((q / 64 : Nat) : Int) ≠ (((q - 1) / 64 : Nat) : Int)) (by rw [e1]; constructor <;> intro h <;> omega),
      ite_congr' (a := lfI Y.st q = 0 ∧ ((q / 8 : Nat) : Int) ≠ (((q - 1) / 8 : Nat) : Int)) (b := lfI X.st q = 0 ∧ ((q / 8 : Nat) : Int) ≠ (((q - 1) / 8 : Nat) : Int)) (by rw [e2]; constructor <;> intro h <;> omega)]
/-- Set: pages get a word -/
theorem RInv.set (x : Nat) : ∀ (n : Nat) {X : RM} {p : Nat} {b s : Int}, RInv X → p + n ≤ 1024 → (((p / 64 : Nat) : Int) = b → mdI X.st p ≠ 0) → (((p / 8 : Nat) : Int) = s → lfI X.st p ≠ 0) → X.m + needF X.st n p b s ≤ X.st.length →
    RInv (setM x n X p) ∧ setOk x n X p = true ∧ (setM x n X p).m = X.m + needF X.st n p b s ∧ ∀ q, q < 1024 → wdI (setM x n X p).st q = if p ≤ q ∧ q < p + n then x else wdI X.st q
  | 0, X, p, b, s, h, _, _, _, _ => ⟨h, rfl, rfl, fun q _ => by rw [if_neg (by omega)]; rfl⟩
  | n + 1, X, p, b, s, h, hn, hb, hs, hr => by
    have t1 : (if mdI X.st p = 0 ∧ ((p / 64 : Nat) : Int) ≠ b then (1 : Nat) else 0) = if mdI X.st p = 0 then 1 else 0 := ite_congr' ⟨fun h => h.1, fun h => ⟨h, fun e => hb e h⟩⟩
    have t2 : (if lfI X.st p = 0 ∧ ((p / 8 : Nat) : Int) ≠ s then (1 : Nat) else 0) = if lfI X.st p = 0 then 1 else 0 := ite_congr' ⟨fun h => h.1, fun h => ⟨h, fun e => hs e h⟩⟩
    simp only [needF] at hr ⊢
    rw [t1, t2] at hr ⊢
    obtain ⟨hS, hok⟩ := h.put (x := x) (p := p) (by omega) (by omega)
    have hne := need_put hS n (p + 1) (by omega) (by omega)
    rw [show p + 1 - 1 = p by omega] at hne
    obtain ⟨g1, g2, g3, g4⟩ := RInv.set x n (X := putM X x p) (p := p + 1) (b := ((p / 64 : Nat) : Int)) (s := ((p / 8 : Nat) : Int)) hS.inv (by omega)
      (fun e h0 => by have := (hS.md (p + 1) (by omega)).1 h0; omega) (fun e h0 => by have := (hS.lf (p + 1) (by omega)).1 h0; omega) (by rw [hS.m, hS.len, hne]; omega)
    rw [setM_cons]
    refine ⟨g1, setOk_cons hok g2, by rw [g3, hS.m, hne]; omega, fun q hq => ?_⟩
    rw [g4 q hq, hS.w q hq]
    by_cases c1 : q = p
    · rw [if_neg (by omega), if_pos c1, if_pos (by omega)]
    · by_cases c2 : p + 1 ≤ q ∧ q < p + 1 + n
      · rw [if_pos c2, if_pos (by omega)]
      · rw [if_neg c2, if_neg c1, if_neg (by omega)]
end Go.Proofs.YtfmclbacoffdaaaDoor
