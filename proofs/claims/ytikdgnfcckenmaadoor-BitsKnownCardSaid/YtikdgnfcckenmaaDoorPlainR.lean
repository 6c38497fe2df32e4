/- Plain facts: the runs of a set of numbers. No program. -/
import Derived.Test.YtikdgnfcckenmaaDoorPlainD
namespace Go.Proofs.YtikdgnfcckenmaaDoor

/-- the runs of p from a on, below n (at most m of them) -/
def runsG (p : Nat → Bool) (n : Nat) : Nat → Nat → List (Nat × Nat)
  | 0, _ => []
  | m + 1, a => if nxt p a n < n then (nxt p a n, nxt (fun i => !p i) (nxt p a n) n) :: runsG p n m (nxt (fun i => !p i) (nxt p a n) n) else []
def runsL (p : Nat → Bool) (n : Nat) : List (Nat × Nat) := runsG p n (n + 1) 0

theorem nxt_not_gt {p : Nat → Bool} {f n : Nat} (h : f < n) (hp : p f = true) : f < nxt (fun i => !p i) f n := by
  obtain ⟨h1, h2, h3, h4⟩ := nxt_spec (p := fun i => !p i) (a := f) (n := n) (by omega)
  rcases Nat.lt_or_ge f (nxt (fun i => !p i) f n) with h' | h'
  · exact h'
  · have e : nxt (fun i => !p i) f n = f := by omega
    have := h4 (by omega)
    rw [e] at this
    simp [hp] at this
theorem runsG_length (p : Nat → Bool) (n : Nat) : ∀ m a, (runsG p n m a).length ≤ m
  | 0, _ => Nat.le_refl _
  | m + 1, a => by
    simp only [runsG]
    split
    · have := runsG_length p n m (nxt (fun i => !p i) (nxt p a n) n); simp only [List.length_cons]; omega
    · simp
/-- enough rounds are enough -/
theorem runsG_more (p : Nat → Bool) (n : Nat) : ∀ m a k, a ≤ n → n - a < m → runsG p n (m + k) a = runsG p n m a
  | 0, _, _, _, h => by omega
  | m + 1, a, k, ha, h => by
    rw [show m + 1 + k = (m + k) + 1 by omega]
    simp only [runsG]
    by_cases hf : nxt p a n < n
    · obtain ⟨h1, h2, h3, h4⟩ := nxt_spec (p := p) ha
      have g := nxt_not_gt hf (h4 hf)
      obtain ⟨_, g2, _, _⟩ := nxt_spec (p := fun i => !p i) (a := nxt p a n) (n := n) h2
      rw [if_pos hf, if_pos hf, runsG_more p n m _ k g2 (by omega)]
    · rw [if_neg hf, if_neg hf]
theorem runsG_step (p : Nat → Bool) (n m a : Nat) (ha : a ≤ n) (hm : n - a < m) (hf : nxt p a n < n) :
    runsG p n m a = (nxt p a n, nxt (fun i => !p i) (nxt p a n) n) :: runsG p n m (nxt (fun i => !p i) (nxt p a n) n) := by
  obtain ⟨h1, h2, h3, h4⟩ := nxt_spec (p := p) ha
  have g := nxt_not_gt hf (h4 hf)
  obtain ⟨_, g2, _, _⟩ := nxt_spec (p := fun i => !p i) (a := nxt p a n) (n := n) h2
  obtain ⟨m', rfl⟩ : ∃ m', m = m' + 1 := ⟨m - 1, by omega⟩
  conv => lhs; simp only [runsG]
  rw [if_pos hf, runsG_more p n m' _ 1 g2 (by omega)]
theorem runsG_stop (p : Nat → Bool) (n m a : Nat) (hf : ¬ nxt p a n < n) : runsG p n m a = [] := by
  cases m with
  | zero => rfl
  | succ m => simp only [runsG]; rw [if_neg hf]
theorem runsL_length (p : Nat → Bool) (n : Nat) : (runsL p n).length ≤ n + 1 := runsG_length _ _ _ _
theorem look_not (ws : List Nat) (on : Bool) : look ws (!on) = fun i => !look ws on i := by
  funext i
  unfold look
  cases bat ws i <;> cases on <;> rfl
end Go.Proofs.YtikdgnfcckenmaaDoor
