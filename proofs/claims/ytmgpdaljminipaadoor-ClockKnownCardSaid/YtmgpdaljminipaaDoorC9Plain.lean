/- Clocks: the rings of alarms, as numbers. No program. -/
import Derived.PlainAid
namespace Go.Proofs.YtmgpdaljminipaaDoor

/-- the greatest time -/
def MT : Int := 1000000000000
/-- when an alarm (at, every) rings for the c-th time, from 0 on; -1: it does not -/
def pos (a : Int × Int) (c : Nat) : Int := if a.2 = 0 then (if c = 0 then a.1 else -1) else if a.1 + (c : Int) * a.2 ≤ MT then a.1 + (c : Int) * a.2 else -1
structure AlOk (a : Int × Int) : Prop where
  a0 : 0 ≤ a.1
  a1 : a.1 ≤ MT
  e0 : 0 ≤ a.2
  e1 : a.2 ≤ MT
theorem pos_zero {a : Int × Int} (h : AlOk a) : pos a 0 = a.1 := by
  unfold pos
  have := h.a1
  split
  · simp
  · simp; omega
theorem pos_nonneg {a : Int × Int} (h : AlOk a) {c : Nat} (hp : 0 ≤ pos a c) : pos a c = a.1 + (c : Int) * a.2 ∧ pos a c ≤ MT ∧ (a.2 = 0 → c = 0) := by
  have := h.a1
  unfold pos at hp ⊢
  by_cases h1 : a.2 = 0
  · rw [if_pos h1] at hp ⊢
    by_cases h2 : c = 0
    · rw [if_pos h2]; subst h2; exact ⟨by simp, this, fun _ => rfl⟩
    · rw [if_neg h2] at hp; omega
  · rw [if_neg h1] at hp ⊢
    by_cases h2 : a.1 + (c : Int) * a.2 ≤ MT
    · rw [if_pos h2]; exact ⟨rfl, h2, fun e => absurd e h1⟩
    · rw [if_neg h2] at hp; omega
/-- what the program does behind a ring -/
theorem pos_succ {a : Int × Int} (h : AlOk a) {c : Nat} (hp : 0 ≤ pos a c) : pos a (c + 1) = if a.2 = 0 ∨ MT < pos a c + a.2 then -1 else pos a c + a.2 := by
  obtain ⟨e, _, hz⟩ := pos_nonneg h hp
  rw [e]
  have e1 : ((c + 1 : Nat) : Int) * a.2 = (c : Int) * a.2 + a.2 := by rw [show ((c + 1 : Nat) : Int) = (c : Int) + 1 by omega, Int.add_mul, Int.one_mul]
  unfold pos
  by_cases h1 : a.2 = 0
  · rw [if_pos h1, if_neg (by omega), if_pos (.inl h1)]
  · rw [if_neg h1, e1]
    by_cases h2 : MT < a.1 + (c : Int) * a.2 + a.2
    · rw [if_neg (by omega), if_pos (.inr h2)]
    · rw [if_pos (by omega), if_neg (by omega)]; omega
theorem pos_lt {a : Int × Int} (h : AlOk a) {c d : Nat} (hcd : c < d) (hc : 0 ≤ pos a c) (hd : 0 ≤ pos a d) : pos a c < pos a d := by
  obtain ⟨e1, _, _⟩ := pos_nonneg h hc
  obtain ⟨e2, _, z2⟩ := pos_nonneg h hd
  have e0 := h.e0
  have hE : 0 < a.2 := by
    by_cases hz : a.2 = 0
    · have := z2 hz; omega
    · omega
  have := Int.mul_le_mul_of_nonneg_right (show (c : Int) + 1 ≤ (d : Int) by omega) e0
  rw [Int.add_mul, Int.one_mul] at this
  omega
theorem pos_gone {a : Int × Int} (h : AlOk a) {c d : Nat} (hcd : c ≤ d) (hd : 0 ≤ pos a d) : 0 ≤ pos a c := by
  obtain ⟨e2, m2, z2⟩ := pos_nonneg h hd
  have e0 := h.e0
  have a0 := h.a0
  have a1 := h.a1
  have hm := Int.mul_le_mul_of_nonneg_right (show (c : Int) ≤ (d : Int) by omega) e0
  have hn := Int.mul_nonneg (show (0 : Int) ≤ (c : Int) by omega) e0
  unfold pos
  by_cases h1 : a.2 = 0
  · rw [if_pos h1, if_pos (by have := z2 h1; omega)]; exact a0
  · rw [if_neg h1, if_pos (by omega)]; omega

/-- the first one with the least time; -1: there is none -/
def bst (A : Nat → Int) : Nat → Int
  | 0 => -1
  | m + 1 => if 0 ≤ A m ∧ (bst A m < 0 ∨ A m < A (bst A m).toNat) then m else bst A m
theorem bst_spec (A : Nat → Int) : ∀ m, (bst A m = -1 ∧ ∀ i, i < m → A i < 0) ∨ ∃ b : Nat, bst A m = b ∧ b < m ∧ 0 ≤ A b ∧ ∀ i, i < m → 0 ≤ A i → A b < A i ∨ (A b = A i ∧ b ≤ i)
  | 0 => .inl ⟨rfl, fun i hi => by omega⟩
  | m + 1 => by
    simp only [bst]
    rcases bst_spec A m with ⟨e, h⟩ | ⟨b, e, hb, h0, h⟩
    · by_cases hm : 0 ≤ A m
      · rw [if_pos ⟨hm, .inl (by omega)⟩]
        refine .inr ⟨m, rfl, by omega, hm, fun i hi h0 => ?_⟩
        by_cases him : i = m
        · subst him; exact .inr ⟨rfl, Nat.le_refl _⟩
        · have := h i (by omega); omega
      · rw [if_neg (fun hh => hm hh.1)]
        refine .inl ⟨e, fun i hi => ?_⟩
        by_cases him : i = m
        · subst him; omega
        · exact h i (by omega)
    · rw [e, Int.toNat_natCast]
      by_cases hm : 0 ≤ A m ∧ A m < A b
      · rw [if_pos ⟨hm.1, .inr hm.2⟩]
        refine .inr ⟨m, rfl, by omega, hm.1, fun i hi h1 => ?_⟩
        by_cases him : i = m
        · subst him; exact .inr ⟨rfl, Nat.le_refl _⟩
        · have := h i (by omega) h1; omega
      · rw [if_neg (by rintro ⟨h1, h2 | h2⟩; omega; exact hm ⟨h1, h2⟩)]
        refine .inr ⟨b, rfl, by omega, h0, fun i hi h1 => ?_⟩
        by_cases him : i = m
        · subst him
          have : ¬ A i < A b := fun hlt => hm ⟨h1, hlt⟩
          omega
        · exact h i (by omega) h1

/-- rings: time and alarm -/
def rlt (x y : Int × Nat) : Prop := x.1 < y.1 ∨ (x.1 = y.1 ∧ x.2 < y.2)
theorem rlt_irr (x : Int × Nat) : ¬ rlt x x := by unfold rlt; omega
theorem rlt_tr {x y z : Int × Nat} (h : rlt x y) (k : rlt y z) : rlt x z := by unfold rlt at *; omega
theorem sorted_eq : ∀ {L M : List (Int × Nat)}, L.Pairwise rlt → M.Pairwise rlt → (∀ x, x ∈ L ↔ x ∈ M) → L = M
  | [], [], _, _, _ => rfl
  | [], y :: M, _, _, h => by have := (h y).2 (by simp); cases this
  | x :: L, [], _, _, h => by have := (h x).1 (by simp); cases this
  | x :: L, y :: M, h1, h2, h => by
    rw [List.pairwise_cons] at h1 h2
    have e : x = y := by
      rcases List.mem_cons.1 ((h x).1 (by simp)) with e | e
      · exact e
      · rcases List.mem_cons.1 ((h y).2 (by simp)) with e' | e'
        · exact e'.symm
        · exact absurd (rlt_tr (h1.1 y e') (h2.1 x e)) (rlt_irr x)
    subst e
    congr 1
    refine sorted_eq h1.2 h2.2 fun z => ?_
    constructor
    · intro hz
      rcases List.mem_cons.1 ((h z).1 (by simp [hz])) with e | e
      · subst e; exact absurd (h1.1 z hz) (rlt_irr z)
      · exact e
    · intro hz
      rcases List.mem_cons.1 ((h z).2 (by simp [hz])) with e | e
      · subst e; exact absurd (h2.1 z hz) (rlt_irr z)
      · exact e
/-- how many rings in all -/
def sumC (c : Nat → Nat) : Nat → Nat
  | 0 => 0
  | n + 1 => sumC c n + c n
theorem sumC_bump (c : Nat → Nat) (b : Nat) : ∀ n, b < n → sumC (fun i => if i = b then c i + 1 else c i) n = sumC c n + 1
  | 0, h => by omega
  | n + 1, h => by
    simp only [sumC]
    by_cases e : b = n
    · subst e
      have : ∀ m, m ≤ b → sumC (fun i => if i = b then c i + 1 else c i) m = sumC c m := by
        intro m
        induction m with
        | zero => intro _; rfl
        | succ m ih => intro hm; simp only [sumC]; rw [ih (by omega), if_neg (by omega)]
      rw [this b (Nat.le_refl _), if_pos rfl]; omega
    · rw [sumC_bump c b n (by omega), if_neg (fun e' => e e'.symm)]; omega
theorem sumC_zero : ∀ n, sumC (fun _ => 0) n = 0
  | 0 => rfl
  | n + 1 => by simp only [sumC, sumC_zero n]
theorem sumC_congr {c d : Nat → Nat} : ∀ {n}, (∀ i, i < n → c i = d i) → sumC c n = sumC d n
  | 0, _ => rfl
  | n + 1, h => by simp only [sumC]; rw [sumC_congr (fun i hi => h i (by omega)), h n (by omega)]
/-- the rings so far: alarm i has rung c i times -/
structure RgAt (n : Nat) (al : Nat → Int × Int) (u : Int) (c : Nat → Nat) (L : List (Int × Nat)) : Prop where
  sorted : L.Pairwise rlt
  mem : ∀ x : Int × Nat, x ∈ L ↔ x.2 < n ∧ ∃ j, j < c x.2 ∧ x.1 = pos (al x.2) j
  good : ∀ i, i < n → ∀ j, j < c i → 0 ≤ pos (al i) j
  le : ∀ x ∈ L, x.1 ≤ u
  last : ∀ x ∈ L, ∀ i, i < n → 0 ≤ pos (al i) (c i) → rlt x (pos (al i) (c i), i)
  len : L.length = sumC c n
theorem RgAt.start (n : Nat) (al : Nat → Int × Int) (u : Int) : RgAt n al u (fun _ => 0) [] :=
  ⟨List.Pairwise.nil, fun x => ⟨fun h => by (cases h), fun ⟨_, j, hj, _⟩ => by omega⟩, fun i _ j hj => by omega, fun x h => by (cases h), fun x h => by (cases h), (sumC_zero n).symm⟩
theorem RgAt.step {n : Nat} {al : Nat → Int × Int} {u : Int} {c : Nat → Nat} {L : List (Int × Nat)} (h : RgAt n al u c L) (hal : ∀ i, i < n → AlOk (al i)) {b : Nat} (hb : bst (fun i => pos (al i) (c i)) n = b) (hu : pos (al b) (c b) ≤ u) :
    RgAt n al u (fun i => if i = b then c i + 1 else c i) (L ++ [(pos (al b) (c b), b)]) := by
  rcases bst_spec (fun i => pos (al i) (c i)) n with ⟨e, _⟩ | ⟨b', e, hbn, h0, hmin⟩
  · rw [e] at hb; omega
  · obtain rfl : b' = b := by omega
    try dsimp only at h0 hmin
    have hnew : ∀ i, i < n → 0 ≤ pos (al i) (if i = b' then c i + 1 else c i) → rlt (pos (al b') (c b'), b') (pos (al i) (if i = b' then c i + 1 else c i), i) := by
      intro i hi hp
      by_cases e : i = b'
      · subst e
        rw [if_pos rfl] at hp ⊢
        exact .inl (pos_lt (hal i hi) (Nat.lt_succ_self _) h0 hp)
      · rw [if_neg e] at hp ⊢
        rcases hmin i hi hp with h1 | ⟨h1, h2⟩
        · exact .inl h1
        · exact .inr ⟨h1, by dsimp only; omega⟩
    refine ⟨?_, fun x => ?_, fun i hi j hj => ?_, fun x hx => ?_, fun x hx i hi hp => ?_, ?_⟩
    · rw [List.pairwise_append]
      refine ⟨h.sorted, List.pairwise_singleton _ _, fun x hx y hy => ?_⟩
      rw [List.mem_singleton] at hy
      subst hy
      exact h.last x hx b' hbn h0
    · rw [List.mem_append, List.mem_singleton, h.mem]
      constructor
      · rintro (⟨h1, j, h2, h3⟩ | rfl)
        · exact ⟨h1, j, by by_cases e : x.2 = b' <;> simp [e] <;> (try rw [e] at h2) <;> omega, h3⟩
        · exact ⟨hbn, c b', by simp, rfl⟩
      · rintro ⟨h1, j, h2, h3⟩
        by_cases e : x.2 = b'
        · rw [if_pos e] at h2
          by_cases hj : j = c x.2
          · right
            subst hj
            rw [e] at h3
            exact Prod.ext h3 e
          · exact .inl ⟨h1, j, by omega, h3⟩
        · rw [if_neg e] at h2
          exact .inl ⟨h1, j, h2, h3⟩
    · by_cases e : i = b'
      · rw [if_pos e] at hj
        subst e
        by_cases hj2 : j = c i
        · subst hj2; exact h0
        · exact h.good i hi j (by omega)
      · rw [if_neg e] at hj
        exact h.good i hi j hj
    · rw [List.mem_append, List.mem_singleton] at hx
      rcases hx with hx | rfl
      · exact h.le x hx
      · exact hu
    · rw [List.mem_append, List.mem_singleton] at hx
      rcases hx with hx | rfl
      · exact rlt_tr (h.last x hx b' hbn h0) (hnew i hi hp)
      · exact hnew i hi hp
    · rw [List.length_append, h.len, sumC_bump c b' n hbn]; rfl
/-- all rings of a plan up to a time -/
def Rg (n : Nat) (al : Nat → Int × Int) (u : Int) (x : Int × Nat) : Prop := x.2 < n ∧ ∃ j, x.1 = pos (al x.2) j ∧ 0 ≤ x.1 ∧ x.1 ≤ u
theorem RgAt.stop {n : Nat} {al : Nat → Int × Int} {u : Int} {c : Nat → Nat} {L : List (Int × Nat)} (h : RgAt n al u c L) (hal : ∀ i, i < n → AlOk (al i)) (hs : bst (fun i => pos (al i) (c i)) n = -1 ∨ ∃ b : Nat, bst (fun i => pos (al i) (c i)) n = b ∧ u < pos (al b) (c b)) :
    (∀ x, x ∈ L ↔ Rg n al u x) ∧ ∀ i, i < n → pos (al i) (c i) < 0 ∨ u < pos (al i) (c i) := by
  have hst : ∀ i, i < n → pos (al i) (c i) < 0 ∨ u < pos (al i) (c i) := by
    intro i hi
    rcases bst_spec (fun i => pos (al i) (c i)) n with ⟨e, hm⟩ | ⟨b', e, hbn, h0, hmin⟩
    · exact .inl (hm i hi)
    · rcases hs with hs | ⟨b, hs, hu⟩
      · rw [hs] at e; omega
      · obtain rfl : b' = b := by omega
        try dsimp only at h0 hmin
        by_cases hp : 0 ≤ pos (al i) (c i)
        · have := hmin i hi hp; right; omega
        · left; omega
  refine ⟨fun x => ?_, hst⟩
  rw [h.mem]
  constructor
  · rintro ⟨h1, j, h2, h3⟩
    have := h.good x.2 h1 j h2
    exact ⟨h1, j, h3, by omega, h.le x ((h.mem x).2 ⟨h1, j, h2, h3⟩)⟩
  · rintro ⟨h1, j, h2, h3, h4⟩
    refine ⟨h1, j, ?_, h2⟩
    by_cases hj : j < c x.2
    · exact hj
    · exfalso
      have hp := pos_gone (hal x.2 h1) (show c x.2 ≤ j by omega) (by rw [← h2]; exact h3)
      rcases hst x.2 h1 with h5 | h5
      · omega
      · by_cases e : c x.2 = j
        · rw [e] at h5; omega
        · have := pos_lt (hal x.2 h1) (show c x.2 < j by omega) hp (by rw [← h2]; exact h3)
          omega
/-- how often an alarm rings up to a time -/
def cntA (a : Int × Int) (u : Int) : Int := if u < a.1 then 0 else if a.2 = 0 then 1 else (u - a.1) / a.2 + 1
theorem RgAt.count {n : Nat} {al : Nat → Int × Int} {u : Int} {c : Nat → Nat} {L : List (Int × Nat)} (h : RgAt n al u c L) (hal : ∀ i, i < n → AlOk (al i)) (hu : u ≤ MT) {i : Nat} (hi : i < n) (hst : pos (al i) (c i) < 0 ∨ u < pos (al i) (c i)) : (c i : Int) = cntA (al i) u := by
  have ha := hal i hi
  have a0 := ha.a0
  have a1 := ha.a1
  have e0 := ha.e0
  have hle : ∀ j, j < c i → pos (al i) j ≤ u ∧ 0 ≤ pos (al i) j := fun j hj => ⟨h.le (pos (al i) j, i) ((h.mem _).2 ⟨hi, j, hj, rfl⟩), h.good i hi j hj⟩
  unfold cntA
  by_cases h1 : u < (al i).1
  · rw [if_pos h1]
    by_cases hc : 0 < c i
    · have := (hle 0 hc).1
      rw [pos_zero ha] at this; omega
    · omega
  · rw [if_neg h1]
    have hc0 : 0 < c i := by
      by_cases hc : 0 < c i
      · exact hc
      · have : c i = 0 := by omega
        rw [this, pos_zero ha] at hst; omega
    by_cases h2 : (al i).2 = 0
    · rw [if_pos h2]
      by_cases hc : 1 < c i
      · have := pos_nonneg ha (hle 1 hc).2
        have := this.2.2 h2
        omega
      · omega
    · rw [if_neg h2]
      have hE : 0 < (al i).2 := by omega
      obtain ⟨p1, p2⟩ := hle (c i - 1) (by omega)
      obtain ⟨e1, _, _⟩ := pos_nonneg ha p2
      have hd := Int.mul_ediv_add_emod (u - (al i).1) (al i).2
      have hm0 := Int.emod_nonneg (u - (al i).1) h2
      have hm1 := Int.emod_lt_of_pos (u - (al i).1) hE
      rw [Int.mul_comm] at hd
      have hl : ((c i - 1 : Nat) : Int) ≤ (u - (al i).1) / (al i).2 := (Int.le_ediv_iff_mul_le hE).2 (by omega)
      have hg : (u - (al i).1) / (al i).2 < (c i : Int) := by
        apply Int.ediv_lt_of_lt_mul hE
        have hnn := Int.mul_nonneg (show (0 : Int) ≤ (c i : Int) by omega) e0
        rcases hst with h5 | h5
        · unfold pos at h5
          rw [if_neg h2] at h5
          by_cases h6 : (al i).1 + (c i : Int) * (al i).2 ≤ MT
          · rw [if_pos h6] at h5; omega
          · omega
        · unfold pos at h5
          rw [if_neg h2] at h5
          by_cases h6 : (al i).1 + (c i : Int) * (al i).2 ≤ MT
          · rw [if_pos h6] at h5; omega
          · omega
      omega
end Go.Proofs.YtmgpdaljminipaaDoor
