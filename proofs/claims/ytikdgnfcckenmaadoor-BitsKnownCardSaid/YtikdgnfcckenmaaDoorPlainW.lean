/- Plain facts: the runs of a set, found bit by bit; runs of set and of clear bits, in turn. No program. -/
import Derived.Test.YtikdgnfcckenmaaDoorPlainT
import Derived.Test.YtikdgnfcckenmaaDoorPlainV
namespace Go.Proofs.YtikdgnfcckenmaaDoor

/-- one bit more -/
def ext (p : Nat → Bool) (L : List (Nat × Nat)) (n : Nat) : List (Nat × Nat) :=
  if p n = true then (match L.getLast? with | some r => if r.2 = n then L.dropLast ++ [(r.1, n + 1)] else L ++ [(n, n + 1)] | none => [(n, n + 1)]) else L
theorem ext_no {p : Nat → Bool} {L : List (Nat × Nat)} {n : Nat} (h : p n = false) : ext p L n = L := by unfold ext; simp [h]
theorem ext_nil {p : Nat → Bool} {n : Nat} (h : p n = true) : ext p [] n = [(n, n + 1)] := by unfold ext; simp [h]
theorem ext_one {p : Nat → Bool} {n f g : Nat} (h : p n = true) : ext p [(f, g)] n = if g = n then [(f, n + 1)] else [(f, g), (n, n + 1)] := by unfold ext; simp [h]
theorem ext_cons {p : Nat → Bool} {n : Nat} {r : Nat × Nat} {T : List (Nat × Nat)} (h : r.2 ≠ n) : ext p (r :: T) n = r :: ext p T n := by
  by_cases hp : p n = true
  · cases T with
    | nil => obtain ⟨f, g⟩ := r; rw [ext_one hp, ext_nil hp, if_neg h]
    | cons s T =>
      unfold ext
      rw [if_pos hp, if_pos hp, List.getLast?_cons_cons]
      cases hq : (s :: T).getLast? with
      | none => simp at hq
      | some q =>
        dsimp only
        split
        · rw [List.dropLast_cons_of_ne_nil (by simp)]; rfl
        · rfl
  · have hf : p n = false := by simpa using hp
    rw [ext_no hf, ext_no hf]
theorem nxt_succ {p : Nat → Bool} {a n : Nat} (h : a ≤ n) : nxt p a (n + 1) = if nxt p a n < n then nxt p a n else if p n = true then n else n + 1 := by
  obtain ⟨h1, h2, h3, h4⟩ := nxt_spec (p := p) h
  split
  · rename_i hlt
    exact nxt_eq (by omega) h1 (by omega) h3 (fun _ => h4 hlt)
  · have e : nxt p a n = n := by omega
    rw [e] at h3
    split
    · rename_i hp
      exact nxt_eq (by omega) h (by omega) h3 (fun _ => hp)
    · rename_i hp
      refine nxt_eq (by omega) (by omega) (by omega) (fun i hi hj => ?_) (fun h => by omega)
      by_cases hin : i = n
      · rw [hin]; simpa using hp
      · exact h3 i hi (by omega)
theorem nxt_self (p : Nat → Bool) (n : Nat) : nxt p n n = n := nxt_eq (Nat.le_refl _) (Nat.le_refl _) (Nat.le_refl _) (fun i h1 h2 => by omega) (fun h => by omega)
theorem runsG_self (p : Nat → Bool) (n m : Nat) : runsG p n m n = [] := runsG_stop p n m n (by rw [nxt_self]; omega)
theorem runsG_succ (p : Nat → Bool) (n : Nat) : ∀ m a, a ≤ n → n - a < m → runsG p (n + 1) (m + 1) a = ext p (runsG p n m a) n
  | 0, _, _, h => by omega
  | m + 1, a, ha, hm => by
    obtain ⟨h1, h2, h3, h4⟩ := nxt_spec (p := p) ha
    have e1 := nxt_succ (p := p) ha
    by_cases hf : nxt p a n < n
    · rw [if_pos hf] at e1
      obtain ⟨f, hfd⟩ : ∃ f, nxt p a n = f := ⟨_, rfl⟩
      rw [hfd] at e1 hf h1 h4
      have g0 := nxt_not_gt hf (h4 hf)
      obtain ⟨g1, g2, g3, g4⟩ := nxt_spec (p := fun i => !p i) (a := f) (n := n) (by omega)
      have e2 := nxt_succ (p := fun i => !p i) (a := f) (n := n) (by omega)
      conv => lhs; rw [runsG]
      conv => rhs; rw [runsG]
      rw [e1, hfd, if_pos (by omega), if_pos hf]
      obtain ⟨g, hgd⟩ : ∃ g, nxt (fun i => !p i) f n = g := ⟨_, rfl⟩
      rw [hgd] at e2 g0 g1 g2 g4 ⊢
      by_cases hg : g < n
      · rw [if_pos hg] at e2
        rw [e2, ext_cons (by dsimp only; omega), runsG_succ p n m g g2 (by omega)]
      · have hgn : g = n := by omega
        subst hgn
        rw [if_neg (Nat.lt_irrefl _)] at e2
        rw [runsG_self]
        by_cases hp : p g = true
        · rw [if_neg (by simp [hp])] at e2
          rw [e2, ext_one hp, if_pos rfl, runsG_self]
        · have hpf : p g = false := by simpa using hp
          rw [if_pos (by simp [hpf])] at e2
          rw [e2, ext_no hpf, runsG_stop]
          rw [nxt_succ (Nat.le_refl _), nxt_self, if_neg (Nat.lt_irrefl _), if_neg hp]; omega
    · rw [if_neg hf] at e1
      rw [runsG_stop p n (m + 1) a hf]
      by_cases hp : p n = true
      · rw [if_pos hp] at e1
        rw [ext_nil hp]
        conv => lhs; rw [runsG]
        rw [e1, if_pos (by omega), nxt_succ (Nat.le_refl _), nxt_self, if_neg (Nat.lt_irrefl _), if_neg (by simp [hp]), runsG_self]
      · rw [if_neg hp] at e1
        rw [ext_no (by simpa using hp), runsG_stop]
        rw [e1]; omega
theorem runsL_succ (p : Nat → Bool) (n : Nat) : runsL p (n + 1) = ext p (runsL p n) n := runsG_succ p n (n + 1) 0 (Nat.zero_le _) (by omega)
theorem runsL_zero (p : Nat → Bool) : runsL p 0 = [] := runsG_self p 0 1

/-- runs of set and of clear bits, in turn -/
def rR (p : Nat → Bool) (n a : Nat) : List (Nat × Nat) := runsG p n (n + 1) a
theorem rR_end (p : Nat → Bool) (n : Nat) : rR p n n = [] := runsG_self _ _ _
theorem rR_here {p : Nat → Bool} {n a : Nat} (ha : a < n) (hp : p a = true) : rR p n a = (a, nxt (fun i => !p i) a n) :: rR p n (nxt (fun i => !p i) a n) := by
  have e : nxt p a n = a := nxt_eq (by omega) (Nat.le_refl _) (by omega) (fun i h1 h2 => by omega) (fun _ => hp)
  have := runsG_step p n (n + 1) a (by omega) (by omega) (by omega)
  rw [e] at this
  exact this
theorem rR_other {p : Nat → Bool} {n a : Nat} (ha : a < n) (hp : p a = true) : rR (fun i => !p i) n a = rR (fun i => !p i) n (nxt (fun i => !p i) a n) := by
  obtain ⟨h1, h2, h3, h4⟩ := nxt_spec (p := fun i => !p i) (a := a) (n := n) (by omega)
  obtain ⟨b, hb⟩ : ∃ b, nxt (fun i => !p i) a n = b := ⟨_, rfl⟩
  rw [hb] at h1 h2 h4 ⊢
  by_cases hbn : b < n
  · have e : nxt (fun i => !p i) b n = b := nxt_eq (by omega) (Nat.le_refl _) (by omega) (fun i h1 h2 => by omega) (fun _ => h4 hbn)
    unfold rR
    rw [runsG_step _ n (n + 1) a (by omega) (by omega) (by omega), runsG_step _ n (n + 1) b (by omega) (by omega) (by omega), hb, e]
  · have hbe : b = n := by omega
    subst hbe
    unfold rR
    rw [runsG_self, runsG_stop]
    omega
theorem cnt_run {p : Nat → Bool} {a b : Nat} (hab : a ≤ b) (h : ∀ i, a ≤ i → i < b → p i = true) : cnt p 0 b = cnt p 0 a + (b - a) := by
  obtain ⟨d, rfl⟩ := Nat.exists_eq_add_of_le hab
  clear hab
  induction d with
  | zero => simp
  | succ d ih =>
    have := ih fun i h1 h2 => h i h1 (by omega)
    rw [show a + (d + 1) = (a + d) + 1 by omega, cnt_step, this, if_pos (h _ (by omega) (by omega))]; omega
theorem cnt_nrun {p : Nat → Bool} {a b : Nat} (hab : a ≤ b) (h : ∀ i, a ≤ i → i < b → p i = false) : cnt p 0 b = cnt p 0 a := by
  obtain ⟨d, rfl⟩ := Nat.exists_eq_add_of_le hab
  clear hab
  induction d with
  | zero => rfl
  | succ d ih =>
    have := ih fun i h1 h2 => h i h1 (by omega)
    rw [show a + (d + 1) = (a + d) + 1 by omega, cnt_step, this, if_neg (by simp [h (a + d) (by omega) (by omega)])]; rfl

/-- where the loop of BitsTurns stands -/
structure TurnAt (p : Nat → Bool) (n at_ i k : Nat) : Prop where
  le : at_ ≤ n
  l : (runsL p n).drop i = rR p n at_
  m : (runsL (fun j => !p j) n).drop k = rR (fun j => !p j) n at_
  il : i ≤ (runsL p n).length
  kl : k ≤ (runsL (fun j => !p j) n).length
  tip : (at_ = 0 ∧ i = 0 ∧ k = 0) ∨ (0 < at_ ∧ 0 < i ∧ ((runsL p n).getD (i - 1) (0, 0)).2 = at_ ∧ (at_ < n → p at_ = false)) ∨
    (0 < at_ ∧ 0 < k ∧ ((runsL (fun j => !p j) n).getD (k - 1) (0, 0)).2 = at_ ∧ (at_ < n → p at_ = true))
theorem TurnAt.start (p : Nat → Bool) (n : Nat) : TurnAt p n 0 0 0 := ⟨Nat.zero_le _, rfl, rfl, Nat.zero_le _, Nat.zero_le _, .inl ⟨rfl, rfl, rfl⟩⟩
theorem drop_cons_get {α : Type} {L : List α} {i : Nat} {x : α} {T : List α} (d : α) (h : L.drop i = x :: T) : i < L.length ∧ L.getD i d = x ∧ L.drop (i + 1) = T := by
  have hi : i < L.length := by
    rcases Nat.lt_or_ge i L.length with h1 | h1
    · exact h1
    · rw [List.drop_eq_nil_of_le h1] at h; cases h
  rw [List.drop_eq_getElem_cons hi] at h
  injection h with h1 h2
  exact ⟨hi, by rw [List.getD_eq_getElem?_getD, List.getElem?_eq_getElem hi]; exact h1, h2⟩
theorem TurnAt.stop {p : Nat → Bool} {n at_ i k : Nat} (h : TurnAt p n at_ i k) : (at_ = n ↔ ¬ (i < (runsL p n).length ∨ k < (runsL (fun j => !p j) n).length)) := by
  constructor
  · rintro rfl
    have h1 := h.l
    have h2 := h.m
    rw [rR_end] at h1 h2
    have a1 := List.drop_eq_nil_iff.1 h1
    have a2 := List.drop_eq_nil_iff.1 h2
    omega
  · intro hn
    have hle := h.le
    rcases Nat.lt_or_ge at_ n with hlt | hge
    · exfalso
      by_cases hp : p at_ = true
      · have := h.l
        rw [rR_here hlt hp] at this
        exact hn (.inl (drop_cons_get (0, 0) this).1)
      · have := h.m
        rw [rR_here hlt (by simpa using hp)] at this
        exact hn (.inr (drop_cons_get (0, 0) this).1)
    · omega
/-- a set run is next -/
theorem TurnAt.set {p : Nat → Bool} {n at_ i k : Nat} (h : TurnAt p n at_ i k) (hlt : at_ < n) (hp : p at_ = true) :
    ∃ b, at_ < b ∧ b ≤ n ∧ i < (runsL p n).length ∧ (runsL p n).getD i (0, 0) = (at_, b) ∧ TurnAt p n b (i + 1) k ∧ cnt p 0 b = cnt p 0 at_ + (b - at_) ∧
      (k = 0 → at_ = 0) ∧ (0 < k → ((runsL (fun j => !p j) n).getD (k - 1) (0, 0)).2 = at_) := by
  have h1 := h.l
  rw [rR_here hlt hp] at h1
  obtain ⟨b, hb⟩ : ∃ b, nxt (fun i => !p i) at_ n = b := ⟨_, rfl⟩
  obtain ⟨g1, g2, g3, g4⟩ := nxt_spec (p := fun i => !p i) (a := at_) (n := n) (by omega)
  have g0 := nxt_not_gt hlt hp
  have h2 := rR_other hlt hp
  rw [hb] at h1 h2 g0 g1 g2 g3 g4
  obtain ⟨q1, q2, q3⟩ := drop_cons_get (0, 0) h1
  refine ⟨b, g0, g2, q1, q2, ⟨g2, q3, h.m.trans h2, q1, h.kl, .inr (.inl ⟨by omega, by omega, by rw [Nat.add_sub_cancel, q2], fun hb => by simpa using g4 hb⟩)⟩, cnt_run g1 fun i hi hj => by simpa using g3 i hi hj, ?_, ?_⟩
  · intro hk
    rcases h.tip with t | t | t
    · exact t.1
    · have := t.2.2.2 hlt; rw [hp] at this; cases this
    · omega
  · intro hk
    rcases h.tip with t | t | t
    · omega
    · have := t.2.2.2 hlt; rw [hp] at this; cases this
    · exact t.2.2.1
theorem not_not_fun (p : Nat → Bool) : (fun j => !(fun i => !p i) j) = p := by funext j; simp
theorem TurnAt.clear {p : Nat → Bool} {n at_ i k : Nat} (h : TurnAt p n at_ i k) (hlt : at_ < n) (hp : p at_ = false) :
    ∃ b, at_ < b ∧ b ≤ n ∧ k < (runsL (fun j => !p j) n).length ∧ (runsL (fun j => !p j) n).getD k (0, 0) = (at_, b) ∧ TurnAt p n b i (k + 1) ∧ cnt p 0 b = cnt p 0 at_ ∧
      (i = 0 → at_ = 0) ∧ (0 < i → ((runsL p n).getD (i - 1) (0, 0)).2 = at_) ∧ (i < (runsL p n).length → ((runsL p n).getD i (0, 0)).1 ≠ at_) := by
  have hp' : (fun i => !p i) at_ = true := by simp [hp]
  have h1 := h.m
  rw [rR_here hlt hp', not_not_fun] at h1
  obtain ⟨b, hb⟩ : ∃ b, nxt p at_ n = b := ⟨_, rfl⟩
  obtain ⟨g1, g2, g3, g4⟩ := nxt_spec (p := p) (a := at_) (n := n) (by omega)
  have g0 := nxt_not_gt (p := fun i => !p i) hlt hp'
  have h2 := rR_other (p := fun i => !p i) hlt hp'
  rw [not_not_fun] at g0 h2
  rw [hb] at h1 h2 g0 g1 g2 g3 g4
  obtain ⟨q1, q2, q3⟩ := drop_cons_get (0, 0) h1
  refine ⟨b, g0, g2, q1, q2, ⟨g2, h.l.trans h2, q3, h.il, q1, .inr (.inr ⟨by omega, by omega, by rw [Nat.add_sub_cancel, q2], fun hb => g4 hb⟩)⟩, cnt_nrun g1 g3, ?_, ?_, ?_⟩
  · intro hk
    rcases h.tip with t | t | t
    · exact t.1
    · omega
    · have := t.2.2.2 hlt; rw [hp] at this; cases this
  · intro hk
    rcases h.tip with t | t | t
    · omega
    · exact t.2.2.1
    · have := t.2.2.2 hlt; rw [hp] at this; cases this
  · intro hi he
    have hm : (runsL p n).getD i (0, 0) ∈ runsL p n := by
      rw [List.getD_eq_getElem?_getD, List.getElem?_eq_getElem hi]; exact List.getElem_mem hi
    obtain ⟨m1, m2, m3⟩ := runsL_mem hm
    have := m3 at_ (by omega) (by omega)
    rw [hp] at this; cases this
end Go.Proofs.YtikdgnfcckenmaaDoor
