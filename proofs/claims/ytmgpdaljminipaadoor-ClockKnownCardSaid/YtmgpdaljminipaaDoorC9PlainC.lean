/- Clocks: a run in two parts; the rings of one alarm. No program. -/
import Derived.Test.YtmgpdaljminipaaDoorC9PlainB
namespace Go.Proofs.YtmgpdaljminipaaDoor

abbrev alm0 : Alm := (⟨#[]⟩, 0, 0)
/-- the periods of a plan -/
def alP (R : Nat → Alm) (i : Nat) : Int × Int := (R i).2
/-- the rings of a plan up to a time -/
structure RunOk (n : Nat) (R : Nat → Alm) (u : Int) (L : List (Int × Nat)) : Prop where
  sorted : L.Pairwise rlt
  mem : ∀ x, x ∈ L ↔ Rg n (alP R) u x
  len : (L.length : Int) = sumA R u n
theorem RunOk.eq {n : Nat} {R : Nat → Alm} {u : Int} {L M : List (Int × Nat)} (h : RunOk n R u L) (k : RunOk n R u M) : L = M :=
  sorted_eq h.sorted k.sorted fun x => (h.mem x).trans (k.mem x).symm
theorem RgAt.run {n : Nat} {R : Nat → Alm} {u : Int} {c : Nat → Nat} {L : List (Int × Nat)} (h : RgAt n (alP R) u c L) (hal : ∀ i, i < n → AlOk (alP R i)) (hu : u ≤ MT)
    (hs : bst (fun i => pos (alP R i) (c i)) n = -1 ∨ ∃ b : Nat, bst (fun i => pos (alP R i) (c i)) n = b ∧ u < pos (alP R b) (c b)) : RunOk n R u L := by
  obtain ⟨h1, h2⟩ := h.stop hal hs
  exact ⟨h.sorted, h1, by rw [h.len]; exact sumA_sumC fun i hi => h.count hal hu hi (h2 i hi)⟩
/-- what one alarm does in two parts -/
theorem two_parts {a : Int × Int} (h : AlOk a) {f u : Int} (h0 : 0 ≤ f) (h1 : f ≤ u) (h2 : u ≤ MT) :
    (nxA a f < 0 ∧ nxA a f = -1 ∧ cntA a u = cntA a f ∧ nxA a u = -1) ∨
    (f < nxA a f ∧ nxA a f ≤ MT ∧ cntA a u = cntA a f + cntA (nxA a f, a.2) u ∧ nxA (nxA a f, a.2) u = nxA a u) := by
  have a0 := h.a0
  have a1 := h.a1
  have e0 := h.e0
  by_cases k1 : a.1 ≤ f
  · by_cases k2 : a.2 = 0
    · left
      have : nxA a f = -1 := by unfold nxA; rw [if_pos k1, if_pos k2]
      refine ⟨by omega, this, ?_, ?_⟩
      · have e1 : cntA a u = 1 := by unfold cntA; rw [if_neg (by omega), if_pos k2]
        have e2 : cntA a f = 1 := by unfold cntA; rw [if_neg (by omega), if_pos k2]
        rw [e1, e2]
      · unfold nxA; rw [if_pos (by omega), if_pos k2]
    · have hE : 0 < a.2 := by omega
      obtain ⟨q, hq⟩ : ∃ q, (f - a.1) / a.2 = q := ⟨_, rfl⟩
      have d1 := Int.mul_ediv_add_emod (f - a.1) a.2
      have d2 := Int.emod_nonneg (f - a.1) k2
      have d3 := Int.emod_lt_of_pos (f - a.1) hE
      rw [hq, Int.mul_comm] at d1
      have hq0 : 0 ≤ q := by rw [← hq]; exact Int.ediv_nonneg (by omega) (by omega)
      have hm : (q + 1) * a.2 = q * a.2 + a.2 := by rw [Int.add_mul, Int.one_mul]
      have hcf : cntA a f = q + 1 := by unfold cntA; rw [if_neg (by omega), if_neg k2, hq]
      by_cases k3 : a.1 + (q + 1) * a.2 ≤ MT
      · right
        have hn : nxA a f = a.1 + (q + 1) * a.2 := by unfold nxA; rw [if_pos k1, if_neg k2, hq, if_pos k3]
        have hcu : cntA a u = (u - a.1) / a.2 + 1 := by unfold cntA; rw [if_neg (by omega), if_neg k2]
        have hsplit : (u - a.1) / a.2 = (u - (a.1 + (q + 1) * a.2)) / a.2 + (q + 1) := by
          rw [← Int.add_mul_ediv_right _ _ k2]; congr 1; omega
        refine ⟨by omega, by omega, ?_, ?_⟩
        · rw [hcf, hcu, hn]
          unfold cntA
          dsimp only
          by_cases k4 : u < a.1 + (q + 1) * a.2
          · rw [if_pos k4]
            have : (u - a.1) / a.2 = q := by
              have l1 : q ≤ (u - a.1) / a.2 := (Int.le_ediv_iff_mul_le hE).2 (by omega)
              have l2 : (u - a.1) / a.2 < q + 1 := Int.ediv_lt_of_lt_mul hE (by omega)
              omega
            omega
          · rw [if_neg k4, if_neg k2, hsplit]; omega
        · rw [hn]
          unfold nxA
          dsimp only
          rw [if_pos (show a.1 ≤ u by omega), if_neg k2]
          by_cases k4 : a.1 + (q + 1) * a.2 ≤ u
          · rw [if_pos k4, if_neg k2, hsplit]
            have : a.1 + (q + 1) * a.2 + ((u - (a.1 + (q + 1) * a.2)) / a.2 + 1) * a.2 = a.1 + ((u - (a.1 + (q + 1) * a.2)) / a.2 + (q + 1) + 1) * a.2 := by
              rw [show (u - (a.1 + (q + 1) * a.2)) / a.2 + (q + 1) + 1 = ((u - (a.1 + (q + 1) * a.2)) / a.2 + 1) + (q + 1) by omega, Int.add_mul ((u - (a.1 + (q + 1) * a.2)) / a.2 + 1) (q + 1)]; omega
            rw [this]
          · rw [if_neg k4]
            have : (u - a.1) / a.2 = q := by
              have l1 : q ≤ (u - a.1) / a.2 := (Int.le_ediv_iff_mul_le hE).2 (by omega)
              have l2 : (u - a.1) / a.2 < q + 1 := Int.ediv_lt_of_lt_mul hE (by omega)
              omega
            rw [if_neg k2, this, if_pos k3]
      · left
        have hn : nxA a f = -1 := by unfold nxA; rw [if_pos k1, if_neg k2, hq, if_neg k3]
        have hq2 : (u - a.1) / a.2 = q := by
          have l1 : q ≤ (u - a.1) / a.2 := (Int.le_ediv_iff_mul_le hE).2 (by omega)
          have l2 : (u - a.1) / a.2 < q + 1 := Int.ediv_lt_of_lt_mul hE (by omega)
          omega
        refine ⟨by omega, hn, ?_, ?_⟩
        · rw [hcf]; unfold cntA; rw [if_neg (by omega), if_neg k2, hq2]
        · unfold nxA; rw [if_pos (by omega), if_neg k2, hq2, if_neg k3]
  · right
    have hn : nxA a f = a.1 := by unfold nxA; rw [if_neg k1]
    have hc : cntA a f = 0 := by unfold cntA; rw [if_pos (by omega)]
    rw [hn]
    exact ⟨by omega, a1, by rw [hc, Int.zero_add], rfl⟩
/-- when it rings in the second part -/
theorem two_pos {a : Int × Int} (h : AlOk a) {f : Int} (h0 : 0 ≤ f) (h2 : f ≤ MT) {c : Nat} (hc : (c : Int) = cntA a f) (hn : f < nxA a f) (j : Nat) : pos (nxA a f, a.2) j = pos a (c + j) := by
  have e := nxA_pos h hc
  have hp : ¬ pos a c < 0 := by intro hh; rw [if_pos hh] at e; omega
  rw [if_neg hp] at e
  obtain ⟨p1, p2, p3⟩ := pos_nonneg h (c := c) (by omega)
  rw [e]
  unfold pos at p1 ⊢
  dsimp only
  by_cases k : a.2 = 0
  · have hc0 := p3 k
    subst hc0
    rw [if_pos k, if_pos k, if_pos k, if_pos rfl, Nat.zero_add]
  · rw [if_neg k] at p1
    rw [if_neg k, if_neg k]
    have e2 : a.1 + (c : Int) * a.2 ≤ MT := by
      by_cases hh : a.1 + (c : Int) * a.2 ≤ MT
      · exact hh
      · rw [if_neg hh] at p1; have := h.a0; have := Int.mul_nonneg (show (0 : Int) ≤ (c : Int) by omega) h.e0; omega
    rw [if_neg k, if_pos e2]
    have : a.1 + ((c + j : Nat) : Int) * a.2 = a.1 + (c : Int) * a.2 + (j : Int) * a.2 := by rw [Int.natCast_add, Int.add_mul]; omega
    rw [this]

/-- which alarms are left -/
def ixA (R : Nat → Alm) (u : Int) : Nat → List Nat
  | 0 => []
  | m + 1 => if 0 ≤ nxA (R m).2 u then ixA R u m ++ [m] else ixA R u m
def nextA (R : Nat → Alm) (u : Int) (i : Nat) : Alm := ((R i).1, nxA (R i).2 u, (R i).2.2)
theorem rstA_ix (R : Nat → Alm) (u : Int) : ∀ m, rstA R u m = (ixA R u m).map (nextA R u)
  | 0 => rfl
  | m + 1 => by
    simp only [rstA, ixA]
    split
    · rw [rstA_ix R u m]; simp [nextA]
    · exact rstA_ix R u m
theorem ixA_len (R : Nat → Alm) (u : Int) (m : Nat) : (ixA R u m).length = (rstA R u m).length := by rw [rstA_ix]; simp
theorem ixA_mem (R : Nat → Alm) (u : Int) : ∀ {m i : Nat}, i ∈ ixA R u m ↔ i < m ∧ 0 ≤ nxA (R i).2 u
  | 0, i => by simp [ixA]
  | m + 1, i => by
    simp only [ixA]
    by_cases h : 0 ≤ nxA (R m).2 u
    · rw [if_pos h, List.mem_append, List.mem_singleton, ixA_mem R u]
      constructor
      · rintro (⟨h1, h2⟩ | rfl)
        · exact ⟨by omega, h2⟩
        · exact ⟨by omega, h⟩
      · rintro ⟨h1, h2⟩
        by_cases e : i = m
        · exact .inr e
        · exact .inl ⟨by omega, h2⟩
    · rw [if_neg h, ixA_mem R u]
      constructor
      · rintro ⟨h1, h2⟩; exact ⟨by omega, h2⟩
      · rintro ⟨h1, h2⟩
        by_cases e : i = m
        · subst e; exact absurd h2 h
        · exact ⟨by omega, h2⟩
theorem ixA_up (R : Nat → Alm) (u : Int) : ∀ m, (ixA R u m).Pairwise (· < ·)
  | 0 => List.Pairwise.nil
  | m + 1 => by
    simp only [ixA]
    split
    · rw [List.pairwise_append]
      refine ⟨ixA_up R u m, List.pairwise_singleton _ _, fun x hx y hy => ?_⟩
      rw [List.mem_singleton] at hy
      subst hy
      exact ((ixA_mem R u).1 hx).1
    · exact ixA_up R u m
def ixOf (R : Nat → Alm) (u : Int) (m j : Nat) : Nat := (ixA R u m).getD j 0
theorem getD_of_lt {α : Type} {l : List α} {j : Nat} {d : α} (h : j < l.length) : l.getD j d = l[j] := by simp [List.getD, h]
section
variable {n : Nat} {R : Nat → Alm} {f u : Int}
theorem ixOf_mem {j : Nat} (hj : j < (rstA R f n).length) : ixOf R f n j < n ∧ 0 ≤ nxA (R (ixOf R f n j)).2 f := by
  rw [← ixA_len] at hj
  unfold ixOf
  rw [getD_of_lt hj]
  exact (ixA_mem R f).1 (List.getElem_mem hj)
theorem ixOf_up {i j : Nat} (hij : i < j) (hj : j < (rstA R f n).length) : ixOf R f n i < ixOf R f n j := by
  rw [← ixA_len] at hj
  unfold ixOf
  rw [getD_of_lt hj, getD_of_lt (by omega)]
  exact List.pairwise_iff_getElem.1 (ixA_up R f n) i j (by omega) hj hij
theorem ixOf_of {i : Nat} (hi : i < n) (h : 0 ≤ nxA (R i).2 f) : ∃ j, j < (rstA R f n).length ∧ ixOf R f n j = i := by
  obtain ⟨j, hj, e⟩ := List.getElem_of_mem ((ixA_mem R f).2 ⟨hi, h⟩)
  refine ⟨j, by rw [← ixA_len]; exact hj, ?_⟩
  unfold ixOf
  rw [getD_of_lt hj, e]
theorem rst_at {j : Nat} (hj : j < (rstA R f n).length) : (rstA R f n).getD j alm0 = nextA R f (ixOf R f n j) := by
  rw [getD_of_lt hj]
  have hj' := hj
  rw [← ixA_len] at hj'
  unfold ixOf
  rw [getD_of_lt hj']
  simp only [rstA_ix, List.getElem_map]
/-- what is left is a valid plan -/
theorem rst_ok (h : PlOk n R) (h0 : 0 ≤ f) (h1 : f ≤ MT) : PlOk (rstA R f n).length (fun j => (rstA R f n).getD j alm0) := by
  refine ⟨Nat.le_trans (rstA_len R f n) h.n50, fun j hj => ?_, fun j hj => ?_, fun i j hij hj => ?_⟩
  · try dsimp only
    rw [rst_at hj]
    obtain ⟨h2, h3⟩ := ixOf_mem hj
    have ha := h.ok _ h2
    rcases two_parts ha h0 (Int.le_refl f) h1 with ⟨k, _⟩ | ⟨k1, k2, _⟩
    · omega
    · exact ⟨h3, k2, ha.e0, ha.e1⟩
  · try dsimp only
    rw [rst_at hj]
    exact h.nm _ (ixOf_mem hj).1
  · try dsimp only
    rw [rst_at hj, rst_at (by omega)]
    exact h.up _ _ (ixOf_up hij hj) (ixOf_mem hj).1
theorem sum_rst (hu : f ≤ u) (h0 : 0 ≤ f) (h2 : u ≤ MT) : ∀ {m : Nat}, (∀ i, i < m → AlOk (R i).2) → sumA R u m = sumA R f m + ((rstA R f m).map (fun x => cntA x.2 u)).sum
  | 0, _ => rfl
  | m + 1, h => by
    have ih := sum_rst hu h0 h2 (m := m) fun i hi => h i (by omega)
    simp only [sumA, rstA]
    rcases two_parts (h m (by omega)) h0 hu h2 with ⟨k, _, k2, _⟩ | ⟨k1, _, k2, _⟩
    · rw [if_neg (by omega), ih, k2]; omega
    · rw [if_pos (by omega), List.map_append, List.sum_append, ih, k2]; simp; omega
theorem sumA_list (L : List Alm) : sumA (fun j => L.getD j alm0) u L.length = (L.map (fun x => cntA x.2 u)).sum := by
  have key : ∀ m, m ≤ L.length → sumA (fun j => L.getD j alm0) u m = ((L.take m).map (fun x => cntA x.2 u)).sum := by
    intro m
    induction m with
    | zero => intro _; simp [sumA]
    | succ m ih =>
      intro hm
      simp only [sumA]
      rw [ih (by omega), List.take_succ_eq_append_getElem (by omega), List.map_append, List.sum_append, getD_of_lt (by omega)]
      simp
  have := key L.length (Nat.le_refl _)
  rwa [List.take_length] at this
/-- the plan of the whole run -/
theorem rst_rst (hu : f ≤ u) (h0 : 0 ≤ f) (h2 : u ≤ MT) : ∀ {m : Nat}, (∀ i, i < m → AlOk (R i).2) → rstA (fun j => (rstA R f m).getD j alm0) u (rstA R f m).length = rstA R u m := by
  have snoc : ∀ (L : List Alm) (x : Alm), rstA (fun j => (L ++ [x]).getD j alm0) u (L ++ [x]).length = (if 0 ≤ nxA x.2 u then rstA (fun j => L.getD j alm0) u L.length ++ [(x.1, nxA x.2 u, x.2.2)] else rstA (fun j => L.getD j alm0) u L.length) := by
    intro L x
    have hc : ∀ m, m ≤ L.length → rstA (fun j => (L ++ [x]).getD j alm0) u m = rstA (fun j => L.getD j alm0) u m := by
      intro m
      induction m with
      | zero => intro _; rfl
      | succ m ih =>
        intro hm
        have e : (L ++ [x]).getD m alm0 = L.getD m alm0 := by
          rw [getD_of_lt (by simp; omega), getD_of_lt (by omega), List.getElem_append_left]
        simp only [rstA]
        rw [ih (by omega), e]
    have e : (L ++ [x]).getD L.length alm0 = x := by simp [List.getD]
    rw [List.length_append, List.length_singleton]
    simp only [rstA]
    rw [hc _ (Nat.le_refl _), e]
  intro m
  induction m with
  | zero => intro _; rfl
  | succ m ih =>
    intro h
    have ih := ih fun i hi => h i (by omega)
    have e1 : rstA R u (m + 1) = if 0 ≤ nxA (R m).2 u then rstA R u m ++ [((R m).1, nxA (R m).2 u, (R m).2.2)] else rstA R u m := rfl
    have e2 : rstA R f (m + 1) = if 0 ≤ nxA (R m).2 f then rstA R f m ++ [((R m).1, nxA (R m).2 f, (R m).2.2)] else rstA R f m := rfl
    rcases two_parts (h m (by omega)) h0 hu h2 with ⟨k, _, _, k3⟩ | ⟨k1, _, _, k3⟩
    · rw [e2, if_neg (by omega), ih, e1, if_neg (by omega)]
    · rw [e2, if_pos (by omega), snoc]
      dsimp only
      rw [k3, ih, e1]
/-- the rings of the whole run -/
theorem run_two (h : PlOk n R) (hu : f ≤ u) (h0 : 0 ≤ f) (h2 : u ≤ MT) {L M : List (Int × Nat)} (hL : RunOk n R f L) (hM : RunOk (rstA R f n).length (fun j => (rstA R f n).getD j alm0) u M) :
    RunOk n R u (L ++ M.map (fun x => (x.1, ixOf R f n x.2))) := by
  have hfM : f ≤ MT := by omega
  have hcn : ∀ i, i < n → ((cntA (R i).2 f).toNat : Int) = cntA (R i).2 f := fun i hi => by have := cntA_ge (h.ok i hi) hfM; omega
  have hpos : ∀ j, j < (rstA R f n).length → f < nxA (R (ixOf R f n j)).2 f ∧ ∀ k, pos (alP (fun j => (rstA R f n).getD j alm0) j) k = pos (alP R (ixOf R f n j)) ((cntA (R (ixOf R f n j)).2 f).toNat + k) := by
    intro j hj
    obtain ⟨m1, m2⟩ := ixOf_mem hj
    have hlt : f < nxA (R (ixOf R f n j)).2 f := by
      rcases two_parts (h.ok _ m1) h0 (Int.le_refl f) hfM with ⟨k, _⟩ | ⟨k1, _⟩
      · omega
      · exact k1
    refine ⟨hlt, fun k => ?_⟩
    unfold alP
    dsimp only
    rw [rst_at hj]
    exact two_pos (h.ok _ m1) h0 hfM (hcn _ m1) hlt k
  have hMt : ∀ y ∈ M, y.2 < (rstA R f n).length ∧ f < y.1 ∧ y.1 ≤ u := by
    intro y hy
    obtain ⟨y1, j, y2, y3, y4⟩ := (hM.mem y).1 hy
    refine ⟨y1, ?_, y4⟩
    have hok := (rst_ok h h0 hfM).ok _ y1
    obtain ⟨p1, _⟩ := hpos _ y1
    have p := pos_nonneg hok (c := j) (by unfold alP at y2; dsimp only at y2; rw [← y2]; exact y3)
    have e : y.1 = ((rstA R f n).getD y.2 alm0).2.1 + (j : Int) * ((rstA R f n).getD y.2 alm0).2.2 := y2.trans p.1
    rw [rst_at y1] at e
    have := Int.mul_nonneg (show (0 : Int) ≤ (j : Int) by omega) (h.ok _ (ixOf_mem y1).1).e0
    unfold nextA at e
    dsimp only at e
    omega
  refine ⟨?_, fun x => ?_, ?_⟩
  · rw [List.pairwise_append]
    refine ⟨hL.sorted, ?_, ?_⟩
    · rw [List.pairwise_map]
      refine (List.Pairwise.and_mem.1 hM.sorted).imp ?_
      rintro x y ⟨hx, hy, hxy⟩
      rcases hxy with g | ⟨g1, g2⟩
      · exact .inl g
      · exact .inr ⟨g1, ixOf_up g2 (hMt y hy).1⟩
    · intro x hx y hy
      obtain ⟨z, hz, rfl⟩ := List.mem_map.1 hy
      obtain ⟨_, j, _, _, x4⟩ := (hL.mem x).1 hx
      have := (hMt z hz).2.1
      exact .inl (by dsimp only; omega)
  · rw [List.mem_append, hL.mem, List.mem_map]
    constructor
    · rintro (⟨x1, j, x2, x3, x4⟩ | ⟨y, hy, rfl⟩)
      · exact ⟨x1, j, x2, x3, by omega⟩
      · obtain ⟨y1, j, y2, y3, y4⟩ := (hM.mem y).1 hy
        refine ⟨(ixOf_mem y1).1, (cntA (R (ixOf R f n y.2)).2 f).toNat + j, ?_, y3, y4⟩
        dsimp only
        rw [y2, (hpos _ y1).2]
    · rintro ⟨x1, j, x2, x3, x4⟩
      by_cases hx : x.1 ≤ f
      · exact .inl ⟨x1, j, x2, x3, hx⟩
      · right
        have hok := h.ok _ x1
        have hpj : 0 ≤ pos (R x.2).2 j := by unfold alP at x2; rw [← x2]; exact x3
        -- the alarm is left
        have hjc : (cntA (R x.2).2 f).toNat ≤ j := by
          by_cases hlt : j < (cntA (R x.2).2 f).toNat
          · exfalso
            obtain ⟨q1, q2, q3⟩ := pos_nonneg hok hpj
            have hc := hcn _ x1
            have e0 := hok.e0
            unfold alP at x2
            unfold cntA at hc hlt
            by_cases g1 : f < (R x.2).2.1
            · rw [if_pos g1] at hlt; simp at hlt
            · rw [if_neg g1] at hlt hc
              by_cases g2 : (R x.2).2.2 = 0
              · have := q3 g2; subst this; rw [g2] at q1; simp at q1; omega
              · rw [if_neg g2] at hlt hc
                have hE : 0 < (R x.2).2.2 := by omega
                have : (j : Int) ≤ (f - (R x.2).2.1) / (R x.2).2.2 := by omega
                have := (Int.le_ediv_iff_mul_le hE).1 this
                omega
          · omega
        have hn0 : 0 ≤ nxA (R x.2).2 f := by
          rw [nxA_pos hok (hcn _ x1)]
          have := pos_gone hok hjc hpj
          rw [if_neg (by omega)]; exact this
        obtain ⟨i, hi, ei⟩ := ixOf_of x1 hn0
        refine ⟨(x.1, i), (hM.mem _).2 ⟨hi, j - (cntA (R x.2).2 f).toNat, ?_, x3, x4⟩, ?_⟩
        · dsimp only
          rw [(hpos i hi).2, ei, x2]
          congr 1
          omega
        · dsimp only; rw [ei]
  · rw [List.length_append, List.length_map, Int.natCast_add, hL.len, hM.len, sumA_list, sum_rst hu h0 h2 h.ok]
/-- the rings of one alarm -/
theorem run_one (h : PlOk n R) (h2 : u ≤ MT) {L : List (Int × Nat)} (hL : RunOk n R u L) {k : Nat} (hk : k < n) : L.filter (fun x => decide (x.2 = k)) = (List.range (cntA (R k).2 u).toNat).map (fun j => (pos (R k).2 j, k)) := by
  have hok := h.ok k hk
  have hcn : ((cntA (R k).2 u).toNat : Int) = cntA (R k).2 u := by have := cntA_ge hok h2; omega
  have hin : ∀ j, j < (cntA (R k).2 u).toNat ↔ 0 ≤ pos (R k).2 j ∧ pos (R k).2 j ≤ u := by
    intro j
    have e0 := hok.e0
    have a0 := hok.a0
    constructor
    · intro hj
      unfold cntA at hcn
      by_cases g1 : u < (R k).2.1
      · rw [if_pos g1] at hcn; unfold cntA at hj; rw [if_pos g1] at hj; simp at hj
      · have hj' : (j : Int) < cntA (R k).2 u := by omega
        unfold cntA at hj'
        rw [if_neg g1] at hj'
        by_cases g2 : (R k).2.2 = 0
        · rw [if_pos g2] at hj'
          obtain rfl : j = 0 := by omega
          rw [pos_zero hok]; omega
        · rw [if_neg g2] at hj'
          have hE : 0 < (R k).2.2 := by omega
          have := (Int.le_ediv_iff_mul_le hE).1 (show (j : Int) ≤ (u - (R k).2.1) / (R k).2.2 by omega)
          have hnn := Int.mul_nonneg (show (0 : Int) ≤ (j : Int) by omega) e0
          unfold pos
          rw [if_neg g2, if_pos (by omega)]
          omega
    · rintro ⟨g3, g4⟩
      obtain ⟨q1, q2, q3⟩ := pos_nonneg hok g3
      have : (j : Int) < cntA (R k).2 u := by
        have hnn := Int.mul_nonneg (show (0 : Int) ≤ (j : Int) by omega) e0
        unfold cntA
        rw [if_neg (by omega)]
        by_cases g2 : (R k).2.2 = 0
        · rw [if_pos g2, q3 g2]; decide
        · rw [if_neg g2]
          have hE : 0 < (R k).2.2 := by omega
          have := (Int.le_ediv_iff_mul_le hE).2 (show (j : Int) * (R k).2.2 ≤ u - (R k).2.1 by omega)
          omega
      omega
  refine sorted_eq (hL.sorted.filter _) ?_ fun x => ?_
  · rw [List.pairwise_map]
    refine (List.Pairwise.and_mem.1 List.pairwise_lt_range).imp ?_
    rintro i j ⟨hi, hj, hij⟩
    exact .inl (pos_lt hok hij ((hin i).1 (List.mem_range.1 hi)).1 ((hin j).1 (List.mem_range.1 hj)).1)
  · rw [List.mem_filter, hL.mem, List.mem_map]
    simp only [decide_eq_true_eq]
    constructor
    · rintro ⟨⟨x1, j, x2, x3, x4⟩, e⟩
      refine ⟨j, List.mem_range.2 ((hin j).2 ?_), ?_⟩
      · rw [e] at x2; unfold alP at x2; omega
      · rw [e] at x2; exact Prod.ext x2.symm e.symm
    · rintro ⟨j, hj, rfl⟩
      have := (hin j).1 (List.mem_range.1 hj)
      exact ⟨⟨hk, j, rfl, this.1, this.2⟩, rfl⟩
end
end Go.Proofs.YtmgpdaljminipaaDoor
