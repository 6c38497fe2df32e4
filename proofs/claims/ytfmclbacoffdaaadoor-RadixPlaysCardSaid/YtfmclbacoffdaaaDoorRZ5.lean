/- The radix map, plain: a page gets a word. | The radix map, plain: pages get a word; how many nodes are needed. | The radix map, plain: how many kids and words a node has. | The radix map, plain: a node is given back. -/
import Derived.Test.YtfmclbacoffdaaaDoorRZ4
namespace Go.Proofs.YtfmclbacoffdaaaDoor
section
variable {X : RM}
theorem RInv.leaf (h : RInv X) {p : Nat} (hp : p < 1024) (hl : lfI X.st p ≠ 0) : mdI X.st p ≠ 0 ∧ mdI X.st p < X.st.length ∧ (X.N (mdI X.st p)).lv = 1 ∧ lfI X.st p = (X.N (mdI X.st p)).kd (p / 8 % 8) ∧ lfI X.st p < X.st.length ∧ (X.N (lfI X.st p)).lv = 2 := by
  have hm : mdI X.st p ≠ 0 := fun e => hl (by unfold lfI; rw [if_pos e])
  have e : lfI X.st p = (X.N (mdI X.st p)).kd (p / 8 % 8) := by unfold lfI; rw [if_neg hm]
  obtain ⟨h1, h2⟩ := h.k0 (p / 64) (by omega) hm
  obtain ⟨h3, h4⟩ := h.k1 _ h1 h2 (p / 8 % 8) (by omega) (by rw [e] at hl; exact hl)
  exact ⟨hm, h1, h2, e, by rw [e]; exact h3, by rw [e]; exact h4⟩
theorem RInv.leaf_inj (h : RInv X) {p q : Nat} (hp : p < 1024) (hq : q < 1024) (hl : lfI X.st p ≠ 0) (he : lfI X.st q = lfI X.st p) : q / 8 = p / 8 := by
  obtain ⟨a1, a2, a3, a4, a5, a6⟩ := h.leaf hp hl
  obtain ⟨b1, b2, b3, b4, b5, b6⟩ := h.leaf hq (by rw [he]; exact hl)
  obtain ⟨c1, c2⟩ := h.i1 _ _ _ _ a2 b2 a3 b3 (show p / 8 % 8 < 8 by omega) (show q / 8 % 8 < 8 by omega) (by rw [← a4]; exact hl) (by rw [← a4, ← b4, he])
  have c3 := h.i0 (p / 64) (q / 64) (by omega) (by omega) a1 c1
  omega
/-- a middle node is made: what is read -/
theorem RInv.grow0_rd (h : RInv X) (hf : frI X < X.st.length) {k : Nat} (hk : k < 16) (h0 : (X.N 0).kd k = 0) (q : Nat) (hq : q < 1024) :
    mdI (growM X 0 k).st q = (if q / 64 = k then frI X else mdI X.st q) ∧ lfI (growM X 0 k).st q = lfI X.st q ∧ wdI (growM X 0 k).st q = wdI X.st q := by
  obtain ⟨hlf, hf0⟩ := h.fr hf
  have hN := growM_N (k := k) h.n1 hf hf0
  have e1 : mdI (growM X 0 k).st q = if q / 64 = k then frI X else mdI X.st q := by
    show ((growM X 0 k).N 0).kd (q / 64) = _
    rw [hN 0, if_pos rfl]; rfl
  have e2 : lfI (growM X 0 k).st q = lfI X.st q := by
    unfold lfI
    rw [e1]
    by_cases e : q / 64 = k
    · have hz : mdI X.st q = 0 := by unfold mdI; rw [e]; exact h0
      rw [if_pos e, if_neg hf0, if_pos hz]
      show ((growM X 0 k).N (frI X)).kd _ = 0
      rw [hN _, if_neg hf0, if_pos rfl]; rfl
    · rw [if_neg e]
      by_cases hz : mdI X.st q = 0
      · rw [if_pos hz, if_pos hz]
      · rw [if_neg hz, if_neg hz]
        have h1 := (h.k0 (q / 64) (by omega) hz).2
        show ((growM X 0 k).N (mdI X.st q)).kd _ = _
        have hne : mdI X.st q ≠ frI X := fun e3 => by
          have h2 : (X.N (mdI X.st q)).lv = 1 := h1
          rw [e3] at h2; omega
        rw [hN _, if_neg hz, if_neg hne]
  refine ⟨e1, e2, ?_⟩
  unfold wdI
  rw [e2]
  by_cases hz : lfI X.st q = 0
  · rw [if_pos hz, if_pos hz]
  · rw [if_neg hz, if_neg hz]
    obtain ⟨_, _, _, _, _, h6⟩ := h.leaf hq hz
    show ((growM X 0 k).N (lfI X.st q)).wd _ = _
    have hne : lfI X.st q ≠ frI X := fun e3 => by rw [e3] at h6; omega
    rw [hN _, if_neg hz, if_neg hne]
/-- a leaf is made: what is read -/
theorem RInv.grow1_rd (h : RInv X) (hf : frI X < X.st.length) {i a k : Nat} (ha : a < 16) (hai : (X.N 0).kd a = i) (hi0 : i ≠ 0) (h0 : (X.N i).kd k = 0) (q : Nat) (hq : q < 1024) :
    mdI (growM X i k).st q = mdI X.st q ∧ lfI (growM X i k).st q = (if q / 64 = a ∧ q / 8 % 8 = k then frI X else lfI X.st q) ∧ wdI (growM X i k).st q = wdI X.st q := by
  obtain ⟨hlf, hf0⟩ := h.fr hf
  obtain ⟨hi, hli⟩ := h.k0 a ha (by rw [hai]; exact hi0)
  rw [hai] at hi hli
  have hfi : frI X ≠ i := fun e => by rw [e] at hlf; omega
  have hN := growM_N (k := k) hi hf hfi
  have e1 : mdI (growM X i k).st q = mdI X.st q := by
    show ((growM X i k).N 0).kd (q / 64) = _
    rw [hN 0, if_neg (fun e => hi0 e.symm), if_neg (fun e => hf0 e.symm)]
    rfl
  have e2 : lfI (growM X i k).st q = if q / 64 = a ∧ q / 8 % 8 = k then frI X else lfI X.st q := by
    unfold lfI
    rw [e1]
    by_cases hz : mdI X.st q = 0
    · rw [if_pos hz, if_pos hz, if_neg]
      rintro ⟨e, _⟩
      apply hi0
      rw [← hai, ← e]; exact hz
    · rw [if_neg hz, if_neg hz]
      have h1 : (X.N (mdI X.st q)).lv = 1 := (h.k0 (q / 64) (by omega) hz).2
      have hne : mdI X.st q ≠ frI X := fun e3 => by rw [e3] at h1; omega
      show ((growM X i k).N (mdI X.st q)).kd _ = _
      rw [hN _]
      by_cases e : mdI X.st q = i
      · have hqa : q / 64 = a := h.i0 (q / 64) a (by omega) ha hz (by rw [hai]; exact e)
        rw [if_pos e]
        show upd (X.N i).kd k (frI X) (q / 8 % 8) = _
        unfold upd
        by_cases e4 : q / 8 % 8 = k
        · rw [if_pos e4, if_pos ⟨hqa, e4⟩]
        · rw [if_neg e4, if_neg (fun h => e4 h.2), e]
      · rw [if_neg e, if_neg hne, if_neg]
        rintro ⟨e4, _⟩
        apply e
        rw [← hai, ← e4]; rfl
  refine ⟨e1, e2, ?_⟩
  unfold wdI
  rw [e2]
  by_cases e : q / 64 = a ∧ q / 8 % 8 = k
  · have hz : lfI X.st q = 0 := by
      have hm : mdI X.st q = i := by unfold mdI; rw [e.1]; exact hai
      unfold lfI
      rw [hm, if_neg hi0, e.2]; exact h0
    rw [if_pos e, if_neg hf0, if_pos hz]
    show ((growM X i k).N (frI X)).wd _ = 0
    rw [hN _, if_neg hfi, if_pos rfl]; rfl
  · rw [if_neg e]
    by_cases hz : lfI X.st q = 0
    · rw [if_pos hz, if_pos hz]
    · rw [if_neg hz, if_neg hz]
      obtain ⟨_, _, _, _, _, h6⟩ := h.leaf hq hz
      show ((growM X i k).N (lfI X.st q)).wd _ = _
      have hne : lfI X.st q ≠ frI X := fun e3 => by rw [e3] at h6; omega
      have hne2 : lfI X.st q ≠ i := fun e3 => by rw [e3] at h6; omega
      rw [hN _, if_neg hne2, if_neg hne]
/-- a page has got a word -/
structure PutS (X : RM) (x p : Nat) (Y : RM) : Prop where
  inv : RInv Y
  len : Y.st.length = X.st.length
  m : Y.m = X.m + (if mdI X.st p = 0 then 1 else 0) + (if lfI X.st p = 0 then 1 else 0)
  w : ∀ q, q < 1024 → wdI Y.st q = if q = p then x else wdI X.st q
  md : ∀ q, q < 1024 → (mdI Y.st q = 0 ↔ mdI X.st q = 0 ∧ q / 64 ≠ p / 64)
  lf : ∀ q, q < 1024 → (lfI Y.st q = 0 ↔ lfI X.st q = 0 ∧ q / 8 ≠ p / 8)
theorem RInv.put (h : RInv X) {x p : Nat} (hp : p < 1024) (hr : X.m + (if mdI X.st p = 0 then 1 else 0) + (if lfI X.st p = 0 then 1 else 0) ≤ X.st.length) : PutS X x p (putM X x p) ∧ putOk X p = true := by
  -- the middle node
  have hA : RInv (putA X p) ∧ (putA X p).m = X.m + (if mdI X.st p = 0 then 1 else 0) ∧ putAI X p ≠ 0 ∧ (mdI X.st p = 0 → frI X < X.st.length) ∧
      (∀ q, q < 1024 → mdI (putA X p).st q = (if q / 64 = p / 64 then putAI X p else mdI X.st q) ∧ lfI (putA X p).st q = lfI X.st q ∧ wdI (putA X p).st q = wdI X.st q) := by
    unfold putA putAI
    by_cases e : mdI X.st p = 0
    · rw [if_pos e] at hr
      rw [if_pos e, if_pos e, if_pos e]
      have hf := h.room (by omega)
      exact ⟨h.grow0 hf (by omega) e, rfl, (h.fr hf).2, fun _ => hf, fun q hq => h.grow0_rd hf (by omega) e q hq⟩
    · rw [if_neg e, if_neg e, if_neg e]
      refine ⟨h, rfl, e, fun h => absurd h e, fun q hq => ⟨?_, rfl, rfl⟩⟩
      split
      · rename_i e2; unfold mdI; rw [e2]
      · rfl
  obtain ⟨hAi, hAm, hA0, hAf, hAq⟩ := hA
  have hAl := putA_len X p
  obtain ⟨p1, p2, p3⟩ := hAq p hp
  rw [if_pos rfl] at p1
  have hAk : ((putA X p).N 0).kd (p / 64) = putAI X p := p1
  have hAlt := hAi.k0 (p / 64) (by omega) (by rw [hAk]; exact hA0)
  rw [hAk, hAl] at hAlt
  have hAkk : ((putA X p).N (putAI X p)).kd (p / 8 % 8) = lfI X.st p := by
    rw [← p2]
    unfold lfI
    rw [p1, if_neg hA0]
  -- the leaf
  have hB : RInv (putB X p) ∧ (putB X p).m = X.m + (if mdI X.st p = 0 then 1 else 0) + (if lfI X.st p = 0 then 1 else 0) ∧ putBI X p ≠ 0 ∧ (lfI X.st p = 0 → frI (putA X p) < X.st.length) ∧
      (∀ q, q < 1024 → mdI (putB X p).st q = mdI (putA X p).st q ∧ lfI (putB X p).st q = (if q / 8 = p / 8 then putBI X p else lfI X.st q) ∧ wdI (putB X p).st q = wdI X.st q) := by
    unfold putB putBI
    by_cases e : lfI X.st p = 0
    · rw [if_pos e] at hr
      rw [if_pos e, if_pos e, if_pos e]
      have hf := hAi.room (by omega)
      refine ⟨hAi.grow1 hf (show p / 64 < 16 by omega) hAk hA0 (by omega) (by rw [hAkk]; exact e), by show (putA X p).m + 1 = _; rw [hAm], (hAi.fr hf).2, fun _ => by rw [← hAl]; exact hf, fun q hq => ?_⟩
      obtain ⟨g1, g2, g3⟩ := hAi.grow1_rd hf (show p / 64 < 16 by omega) hAk hA0 (k := p / 8 % 8) (by rw [hAkk]; exact e) q hq
      refine ⟨g1, ?_, g3.trans (hAq q hq).2.2⟩
      rw [g2, (hAq q hq).2.1]
      by_cases c : q / 8 = p / 8
      · rw [if_pos c, if_pos (by omega)]
      · rw [if_neg c, if_neg (by omega)]
    · rw [if_neg e, if_neg e, if_neg e]
      refine ⟨hAi, hAm, e, fun h => absurd h e, fun q hq => ⟨rfl, ?_, (hAq q hq).2.2⟩⟩
      rw [(hAq q hq).2.1]
      split
      · rename_i e2
        unfold lfI mdI
        rw [show q / 64 = p / 64 by omega, e2]
      · rfl
  obtain ⟨hBi, hBm, hB0, hBf, hBq⟩ := hB
  have hBl := putB_len X p
  obtain ⟨b1, b2, b3⟩ := hBq p hp
  rw [if_pos rfl] at b2
  obtain ⟨c1, c2, c3, c4, c5, c6⟩ := hBi.leaf hp (by rw [b2]; exact hB0)
  rw [b2, hBl] at c5
  have hMl := putM_len X x p
  have hN : ∀ j, (putM X x p).N j = if j = putBI X p then wordN ((putB X p).N (putBI X p)) (p % 8) x else (putB X p).N j := fun j => N_set (by rw [hBl]; exact c5)
  have hMkd : ∀ j, ((putM X x p).N j).kd = ((putB X p).N j).kd := fun j => by
    rw [hN]; split
    · rename_i e; rw [e]; rfl
    · rfl
  have hMmd : ∀ q, mdI (putM X x p).st q = mdI (putB X p).st q := fun q => by
    show ((putM X x p).N 0).kd _ = _
    rw [hMkd]; rfl
  have hMlf : ∀ q, lfI (putM X x p).st q = lfI (putB X p).st q := fun q => by
    unfold lfI
    rw [hMmd]
    split
    · rfl
    · show ((putM X x p).N _).kd _ = _
      rw [hMkd]
  refine ⟨⟨hBi.word (by rw [hBl]; exact c5), hMl, hBm, fun q hq => ?_, fun q hq => ?_, fun q hq => ?_⟩, ?_⟩
  · obtain ⟨g1, g2, g3⟩ := hBq q hq
    have hw : wdI (putM X x p).st q = if lfI (putB X p).st q = 0 then 0 else ((putM X x p).N (lfI (putB X p).st q)).wd (q % 8) := by
      unfold wdI; rw [hMlf]
    rw [hw]
    by_cases e : q = p
    · subst e
      rw [if_pos rfl, b2, if_neg hB0, hN, if_pos rfl]
      show upd _ _ _ _ = _
      unfold upd
      rw [if_pos rfl]
    · rw [if_neg e, ← g3]
      unfold wdI
      by_cases hz : lfI (putB X p).st q = 0
      · rw [if_pos hz, if_pos hz]
      · rw [if_neg hz, if_neg hz, hN]
        split
        · rename_i e2
          have := hBi.leaf_inj hp hq (by rw [b2]; exact hB0) (by rw [b2]; exact e2)
          show upd _ _ _ _ = _
          unfold upd
          rw [if_neg (by omega), e2]
        · rfl
  · rw [hMmd, (hBq q hq).1, (hAq q hq).1]
    by_cases e : q / 64 = p / 64
    · rw [if_pos e]; exact ⟨fun h => absurd h hA0, fun h => absurd e h.2⟩
    · rw [if_neg e]; exact ⟨fun h => ⟨h, e⟩, fun h => h.1⟩
  · rw [hMlf, (hBq q hq).2.1]
    by_cases e : q / 8 = p / 8
    · rw [if_pos e]; exact ⟨fun h => absurd h hB0, fun h => absurd e h.2⟩
    · rw [if_neg e]; exact ⟨fun h => ⟨h, e⟩, fun h => h.1⟩
  · unfold putOk
    have hmlt : mdI X.st p < X.st.length := by
      by_cases e : mdI X.st p = 0
      · rw [e]; exact h.n1
      · exact (h.k0 (p / 64) (by omega) e).1
    have hllt : lfI X.st p < X.st.length := by
      by_cases e : lfI X.st p = 0
      · rw [e]; exact h.n1
      · exact (h.leaf hp e).2.2.2.2.1
    simp only [Bool.and_eq_true, Bool.or_eq_true, decide_eq_true_eq]
    refine ⟨⟨⟨⟨⟨hmlt, ?_⟩, hAlt.1⟩, hllt⟩, ?_⟩, c5⟩
    · by_cases e : mdI X.st p = 0
      · exact .inr (hAf e)
      · exact .inl e
    · by_cases e : lfI X.st p = 0
      · exact .inr (hBf e)
      · exact .inl e
end
end Go.Proofs.YtfmclbacoffdaaaDoor

namespace Go.Proofs.YtfmclbacoffdaaaDoor
theorem setM_cons (x : Nat) (X : RM) (p : Nat) : ∀ n, setM x (n + 1) X p = setM x n (putM X x p) (p + 1)
  | 0 => rfl
  | n + 1 => by
    have ih := setM_cons x X p n
    show putM (setM x (n + 1) X p) x (p + (n + 1)) = putM (setM x n (putM X x p) (p + 1)) x (p + 1 + n)
    rw [ih, show p + (n + 1) = p + 1 + n by omega]
theorem setOk_cons {x : Nat} {X : RM} {p n : Nat} (h1 : putOk X p = true) (h2 : setOk x n (putM X x p) (p + 1) = true) : setOk x (n + 1) X p = true := by
  refine List.all_eq_true.2 fun j hj => ?_
  have hj' := List.mem_range.1 hj
  match j with
  | 0 => exact h1
  | j + 1 =>
    have := setOk_at h2 (show j < n by omega)
    rw [← setM_cons, show p + 1 + j = p + (j + 1) by omega] at this
    exact this
theorem ite_congr' {a b : Prop} [Decidable a] [Decidable b] (h : a ↔ b) : (if a then (1 : Nat) else 0) = if b then 1 else 0 := by
  by_cases c : a
  · rw [if_pos c, if_pos (h.1 c)]
  · rw [if_neg c, if_neg (fun e => c (h.2 e))]
theorem need_put {X Y : RM} {x p : Nat} (hS : PutS X x p Y) : ∀ n q, p < q → q + n ≤ 1024 → needF Y.st n q (((q - 1) / 64 : Nat) : Int) (((q - 1) / 8 : Nat) : Int) = needF X.st n q (((q - 1) / 64 : Nat) : Int) (((q - 1) / 8 : Nat) : Int)
  | 0, _, _, _ => rfl
  | n + 1, q, hq, hn => by
    have ih := need_put hS n (q + 1) (by omega) (by omega)
    rw [show q + 1 - 1 = q by omega] at ih
    simp only [needF]
    rw [ih]
    have e1 := hS.md q (by omega)
    have e2 := hS.lf q (by omega)
    rw [ite_congr' (a := mdI Y.st q = 0 ∧ ((q / 64 : Nat) : Int) ≠ (((q - 1) / 64 : Nat) : Int)) (b := mdI X.st q = 0 ∧ ((q / 64 : Nat) : Int) ≠ (((q - 1) / 64 : Nat) : Int)) (by rw [e1]; constructor <;> intro h <;> omega),
      ite_congr' (a := lfI Y.st q = 0 ∧ ((q / 8 : Nat) : Int) ≠ (((q - 1) / 8 : Nat) : Int)) (b := lfI X.st q = 0 ∧ ((q / 8 : Nat) : Int) ≠ (((q - 1) / 8 : Nat) : Int)) (by rw [e2]; constructor <;> intro h <;> omega)]
/-- Set: pages get a word -/
theorem RInv.set (x : Nat) : ∀ (n : Nat) {X : RM} {p : Nat} {b s : Int}, RInv X → p + n ≤ 1024 → (((p / 64 : Nat) : Int) = b → mdI X.st p ≠ 0) → (((p / 8 : Nat) : Int) = s → lfI X.st p ≠ 0) → X.m + needF X.st n p b s ≤ X.st.length →
    RInv (setM x n X p) ∧ setOk x n X p = true ∧ (setM x n X p).m = X.m + needF X.st n p b s ∧ ∀ q, q < 1024 → wdI (setM x n X p).st q = if p ≤ q ∧ q < p + n then x else wdI X.st q
  | 0, X, p, b, s, h, _, _, _, _ => ⟨h, rfl, rfl, fun q _ => by rw [if_neg (by omega)]; rfl⟩
  | n + 1, X, p, b, s, h, hn, hb, hs, hr => by
    have t1 : (if mdI X.st p = 0 ∧ ((p / 64 : Nat) : Int) ≠ b then (1 : Nat) else 0) = if mdI X.st p = 0 then 1 else 0 := ite_congr' ⟨fun h => h.1, fun h => ⟨h, fun e => hb e h⟩⟩
    have t2 : (if lfI X.st p = 0 ∧ ((p / 8 : Nat) : Int) ≠ s then (1 : Nat) else 0) = if lfI X.st p = 0 then 1 else 0 := ite_congr' ⟨fun h => h.1, fun h => ⟨h, fun e => hs e h⟩⟩
    simp only [needF] at hr ⊢
    rw [t1, t2] at hr ⊢
    obtain ⟨hS, hok⟩ := h.put (x := x) (p := p) (by omega) (by omega)
    have hne := need_put hS n (p + 1) (by omega) (by omega)
    rw [show p + 1 - 1 = p by omega] at hne
    obtain ⟨g1, g2, g3, g4⟩ := RInv.set x n (X := putM X x p) (p := p + 1) (b := ((p / 64 : Nat) : Int)) (s := ((p / 8 : Nat) : Int)) hS.inv (by omega)
      (fun e h0 => by have := (hS.md (p + 1) (by omega)).1 h0; omega) (fun e h0 => by have := (hS.lf (p + 1) (by omega)).1 h0; omega) (by rw [hS.m, hS.len, hne]; omega)
    rw [setM_cons]
    refine ⟨g1, setOk_cons hok g2, by rw [g3, hS.m, hne]; omega, fun q hq => ?_⟩
    rw [g4 q hq, hS.w q hq]
    by_cases c1 : q = p
    · rw [if_neg (by omega), if_pos c1, if_pos (by omega)]
    · by_cases c2 : p + 1 ≤ q ∧ q < p + 1 + n
      · rw [if_pos c2, if_pos (by omega)]
      · rw [if_neg c2, if_neg c1, if_neg (by omega)]
end Go.Proofs.YtfmclbacoffdaaaDoor

namespace Go.Proofs.YtfmclbacoffdaaaDoor
def wordC (n : Nd) : Nat := sumN (fun j => if n.wd j = 0 then 0 else 1) 8
def rootC (n : Nd) : Nat := sumN (fun j => if n.kd j = 0 then 0 else 1) 16
/-- each node knows how many kids or words it has -/
structure RMn (X : RM) : Prop where
  m2 : ∀ i, i < X.st.length → (X.N i).lv = 2 → (X.N i).mn = wordC (X.N i)
  m1 : ∀ i, i < X.st.length → (X.N i).lv = 1 → (X.N i).mn = kidC (X.N i)
  m0 : (X.N 0).mn = rootC (X.N 0)
theorem sum_up {f : Nat → Nat} {k v : Nat} (hv : v ≠ 0) : ∀ {n : Nat}, k < n → sumN (fun j => if upd f k v j = 0 then 0 else 1) n = sumN (fun j => if f j = 0 then 0 else 1) n + (if f k = 0 then 1 else 0) := fun {n} hk => by
  have := sumN_at (f := fun j => if f j = 0 then 0 else 1) (g := fun j => if upd f k v j = 0 then 0 else 1) n hk (fun j _ hne => by unfold upd; rw [if_neg hne])
  unfold upd at this ⊢
  rw [if_pos rfl, if_neg hv] at this
  by_cases e : f k = 0
  · rw [if_pos e] at this ⊢; omega
  · rw [if_neg e] at this ⊢; omega
theorem sum_down {f : Nat → Nat} {k : Nat} : ∀ {n : Nat}, k < n → f k ≠ 0 → sumN (fun j => if upd f k 0 j = 0 then 0 else 1) n + 1 = sumN (fun j => if f j = 0 then 0 else 1) n := fun {n} hk hf => by
  have := sumN_at (f := fun j => if f j = 0 then 0 else 1) (g := fun j => if upd f k 0 j = 0 then 0 else 1) n hk (fun j _ hne => by unfold upd; rw [if_neg hne])
  unfold upd at this ⊢
  rw [if_pos rfl, if_pos rfl, if_neg hf] at this
  omega
theorem sum_some {f : Nat → Nat} : ∀ {n : Nat}, sumN (fun j => if f j = 0 then 0 else 1) n ≠ 0 → ∃ j, j < n ∧ f j ≠ 0
  | 0, h => absurd rfl h
  | n + 1, h => by
    by_cases e : f n = 0
    · simp only [sumN] at h
      rw [if_pos e] at h
      obtain ⟨j, hj, h2⟩ := sum_some (f := f) (n := n) h
      exact ⟨j, by omega, h2⟩
    · exact ⟨n, by omega, e⟩
theorem sum_none {f : Nat → Nat} {n : Nat} (h : sumN (fun j => if f j = 0 then 0 else 1) n = 0) {j : Nat} (hj : j < n) : f j = 0 := by
  by_cases e : f j = 0
  · exact e
  · exfalso
    have := sum_down (f := f) hj e
    omega
section
variable {X : RM}
theorem RMn.grow0 (hm : RMn X) (h : RInv X) (hf : frI X < X.st.length) {k : Nat} (hk : k < 16) (h0 : (X.N 0).kd k = 0) : RMn (growM X 0 k) := by
  obtain ⟨hlf, hf0⟩ := h.fr hf
  have hN := growM_N (k := k) h.n1 hf hf0
  have hl : (growM X 0 k).st.length = X.st.length := growM_len X 0 k
  refine ⟨fun i hi h2 => ?_, fun i hi h1 => ?_, ?_⟩
  · rw [hl] at hi
    rw [hN i] at h2 ⊢
    by_cases e : i = 0
    · rw [if_pos e] at h2
      have : (kidN (X.N 0) k (frI X)).lv = (X.N 0).lv := rfl
      rw [this, h.root] at h2; omega
    · rw [if_neg e] at h2 ⊢
      by_cases e2 : i = frI X
      · rw [if_pos e2] at h2
        have : (nd0 ((X.N 0).lv + 1)).lv = (X.N 0).lv + 1 := rfl
        rw [this, h.root] at h2; omega
      · rw [if_neg e2] at h2 ⊢; exact hm.m2 i hi h2
  · rw [hl] at hi
    rw [hN i] at h1 ⊢
    by_cases e : i = 0
    · rw [if_pos e] at h1
      have : (kidN (X.N 0) k (frI X)).lv = (X.N 0).lv := rfl
      rw [this, h.root] at h1; omega
    · rw [if_neg e] at h1 ⊢
      by_cases e2 : i = frI X
      · rw [if_pos e2]
        exact (sumN_zero 8 fun j _ => rfl).symm
      · rw [if_neg e2] at h1 ⊢; exact hm.m1 i hi h1
  · rw [hN 0, if_pos rfl]
    have := sum_up (f := (X.N 0).kd) (k := k) (v := frI X) hf0 hk
    rw [if_pos h0] at this
    show (X.N 0).mn + 1 = sumN (fun j => if upd (X.N 0).kd k (frI X) j = 0 then 0 else 1) 16
    rw [this, hm.m0]; rfl
theorem RMn.grow1 (hm : RMn X) (h : RInv X) (hf : frI X < X.st.length) {i a k : Nat} (ha : a < 16) (hai : (X.N 0).kd a = i) (hi0 : i ≠ 0) (hk : k < 8) (h0 : (X.N i).kd k = 0) : RMn (growM X i k) := by
  obtain ⟨hlf, hf0⟩ := h.fr hf
  obtain ⟨hi, hli⟩ := h.k0 a ha (by rw [hai]; exact hi0)
  rw [hai] at hi hli
  have hfi : frI X ≠ i := fun e => by rw [e] at hlf; omega
  have hN := growM_N (k := k) hi hf hfi
  have hl : (growM X i k).st.length = X.st.length := growM_len X i k
  refine ⟨fun j hj h2 => ?_, fun j hj h1 => ?_, ?_⟩
  · rw [hl] at hj
    rw [hN j] at h2 ⊢
    by_cases e : j = i
    · rw [if_pos e] at h2
      have : (kidN (X.N i) k (frI X)).lv = (X.N i).lv := rfl
      rw [this, hli] at h2; omega
    · rw [if_neg e] at h2 ⊢
      by_cases e2 : j = frI X
      · rw [if_pos e2]
        exact (sumN_zero 8 fun j _ => rfl).symm
      · rw [if_neg e2] at h2 ⊢; exact hm.m2 j hj h2
  · rw [hl] at hj
    rw [hN j] at h1 ⊢
    by_cases e : j = i
    · rw [if_pos e]
      have := sum_up (f := (X.N i).kd) (k := k) (v := frI X) hf0 hk
      rw [if_pos h0] at this
      show (X.N i).mn + 1 = sumN (fun j => if upd (X.N i).kd k (frI X) j = 0 then 0 else 1) 8
      rw [this, hm.m1 i hi hli]; rfl
    · rw [if_neg e] at h1 ⊢
      by_cases e2 : j = frI X
      · rw [if_pos e2] at h1
        have : (nd0 ((X.N i).lv + 1)).lv = (X.N i).lv + 1 := rfl
        rw [this, hli] at h1; omega
      · rw [if_neg e2] at h1 ⊢; exact hm.m1 j hj h1
  · rw [hN 0, if_neg (fun e => hi0 e.symm), if_neg (fun e => hf0 e.symm)]
    exact hm.m0
theorem RMn.word (hm : RMn X) (h : RInv X) {l k x : Nat} (hl : l < X.st.length) (hl2 : (X.N l).lv = 2) (hk : k < 8) (hx : x ≠ 0) : RMn { X with st := X.st.set l (wordN (X.N l) k x) } := by
  have hN : ∀ j, ({ X with st := X.st.set l (wordN (X.N l) k x) } : RM).N j = if j = l then wordN (X.N l) k x else X.N j := fun j => N_set hl
  have hl0 : l ≠ 0 := fun e => by rw [e, h.root] at hl2; omega
  refine ⟨fun j hj h2 => ?_, fun j hj h1 => ?_, ?_⟩
  · simp only [List.length_set] at hj
    rw [hN j] at h2 ⊢
    by_cases e : j = l
    · rw [if_pos e]
      have := sum_up (f := (X.N l).wd) (k := k) (v := x) hx hk
      show (X.N l).mn + (if (X.N l).wd k = 0 then 1 else 0) = sumN (fun j => if upd (X.N l).wd k x j = 0 then 0 else 1) 8
      rw [this, hm.m2 l hl hl2]; rfl
    · rw [if_neg e] at h2 ⊢; exact hm.m2 j hj h2
  · simp only [List.length_set] at hj
    rw [hN j] at h1 ⊢
    by_cases e : j = l
    · rw [if_pos e] at h1
      have : (wordN (X.N l) k x).lv = (X.N l).lv := rfl
      rw [this, hl2] at h1; omega
    · rw [if_neg e] at h1 ⊢; exact hm.m1 j hj h1
  · rw [hN 0, if_neg (fun e => hl0 e.symm)]; exact hm.m0
theorem RMn.put (hm : RMn X) (h : RInv X) {x p : Nat} (hp : p < 1024) (hx : x ≠ 0) (hr : X.m + (if mdI X.st p = 0 then 1 else 0) + (if lfI X.st p = 0 then 1 else 0) ≤ X.st.length) : RMn (putM X x p) := by
  have hA : RInv (putA X p) ∧ RMn (putA X p) ∧ (putA X p).m = X.m + (if mdI X.st p = 0 then 1 else 0) ∧ putAI X p ≠ 0 ∧ ((putA X p).N 0).kd (p / 64) = putAI X p ∧ lfI (putA X p).st p = lfI X.st p := by
    unfold putA putAI
    by_cases e : mdI X.st p = 0
    · rw [if_pos e] at hr
      rw [if_pos e, if_pos e, if_pos e]
      have hf := h.room (by omega)
      obtain ⟨g1, g2, _⟩ := h.grow0_rd hf (show p / 64 < 16 by omega) e p hp
      rw [if_pos rfl] at g1
      exact ⟨h.grow0 hf (by omega) e, hm.grow0 h hf (by omega) e, rfl, (h.fr hf).2, g1, g2⟩
    · rw [if_neg e, if_neg e, if_neg e]
      exact ⟨h, hm, rfl, e, rfl, rfl⟩
  obtain ⟨hAi, hAn, hAm, hA0, hAk, hAl2⟩ := hA
  have hAl := putA_len X p
  have hAkk : ((putA X p).N (putAI X p)).kd (p / 8 % 8) = lfI X.st p := by
    rw [← hAl2]
    unfold lfI
    have p1 : mdI (putA X p).st p = putAI X p := hAk
    rw [p1, if_neg hA0]
  have hB : RInv (putB X p) ∧ RMn (putB X p) ∧ putBI X p ≠ 0 ∧ lfI (putB X p).st p = putBI X p := by
    unfold putB putBI
    by_cases e : lfI X.st p = 0
    · rw [if_pos e] at hr
      rw [if_pos e, if_pos e]
      have hf := hAi.room (by omega)
      obtain ⟨_, g2, _⟩ := hAi.grow1_rd hf (show p / 64 < 16 by omega) hAk hA0 (k := p / 8 % 8) (by rw [hAkk]; exact e) p hp
      rw [if_pos ⟨rfl, rfl⟩] at g2
      exact ⟨hAi.grow1 hf (show p / 64 < 16 by omega) hAk hA0 (by omega) (by rw [hAkk]; exact e), hAn.grow1 hAi hf (show p / 64 < 16 by omega) hAk hA0 (by omega) (by rw [hAkk]; exact e), (hAi.fr hf).2, g2⟩
    · rw [if_neg e, if_neg e]
      exact ⟨hAi, hAn, e, hAl2⟩
  obtain ⟨hBi, hBn, hB0, hB2⟩ := hB
  obtain ⟨c1, c2, c3, c4, c5, c6⟩ := hBi.leaf hp (by rw [hB2]; exact hB0)
  rw [hB2] at c5 c6
  exact hBn.word hBi c5 c6 (by omega) hx
theorem RMn.set (x : Nat) (hx : x ≠ 0) : ∀ (n : Nat) {X : RM} {p : Nat} {b s : Int}, RMn X → RInv X → p + n ≤ 1024 → (((p / 64 : Nat) : Int) = b → mdI X.st p ≠ 0) → (((p / 8 : Nat) : Int) = s → lfI X.st p ≠ 0) → X.m + needF X.st n p b s ≤ X.st.length → RMn (setM x n X p)
  | 0, _, _, _, _, hm, _, _, _, _, _ => hm
  | n + 1, X, p, b, s, hm, h, hn, hb, hs, hr => by
    have t1 : (if mdI X.st p = 0 ∧ ((p / 64 : Nat) : Int) ≠ b then (1 : Nat) else 0) = if mdI X.st p = 0 then 1 else 0 := ite_congr' ⟨fun h => h.1, fun h => ⟨h, fun e => hb e h⟩⟩
    have t2 : (if lfI X.st p = 0 ∧ ((p / 8 : Nat) : Int) ≠ s then (1 : Nat) else 0) = if lfI X.st p = 0 then 1 else 0 := ite_congr' ⟨fun h => h.1, fun h => ⟨h, fun e => hs e h⟩⟩
    simp only [needF] at hr
    rw [t1, t2] at hr
    obtain ⟨hS, _⟩ := h.put (x := x) (p := p) (by omega) (by omega)
    have hne := need_put hS n (p + 1) (by omega) (by omega)
    rw [show p + 1 - 1 = p by omega] at hne
    rw [setM_cons]
    exact RMn.set x hx n (b := ((p / 64 : Nat) : Int)) (s := ((p / 8 : Nat) : Int)) (hm.put h (by omega) hx (by omega)) hS.inv (by omega)
      (fun e h0 => by have := (hS.md (p + 1) (by omega)).1 h0; omega) (fun e h0 => by have := (hS.lf (p + 1) (by omega)).1 h0; omega) (by rw [hS.m, hS.len, hne]; omega)
end
end Go.Proofs.YtfmclbacoffdaaaDoor

namespace Go.Proofs.YtfmclbacoffdaaaDoor
/-- a leaf with a word less; a node with a kid less -/
def wordZ (n : Nd) (k : Nat) : Nd := { n with wd := upd n.wd k 0, mn := n.mn - 1 }
def kidZ (n : Nd) (k : Nat) : Nd := { n with kd := upd n.kd k 0, mn := n.mn - 1 }
def giveM (X : RM) (i k : Nat) : RM :=
  ⟨(X.st.set ((X.N i).kd k) (nd0 (-1))).set i (kidZ ((X.st.set ((X.N i).kd k) (nd0 (-1))).getD i ndZ) k), X.m - 1, filled X.r ((X.N i).kd k) ((X.N i).kd k + 1) false⟩
theorem giveM_len (X : RM) (i k : Nat) : (giveM X i k).st.length = X.st.length := by simp [giveM]
theorem cnt_unfill {r : Nat → Bool} {f : Nat} (hf : r f = true) : ∀ n, cnt (filled r f (f + 1) false) 0 n + (if f < n then 1 else 0) = cnt r 0 n
  | 0 => by simp [cnt]
  | n + 1 => by
    have ih := cnt_unfill hf n
    have e1 : cnt (filled r f (f + 1) false) 0 (n + 1) = cnt (filled r f (f + 1) false) 0 n + if filled r f (f + 1) false n = true then 1 else 0 := by simp [cnt]
    have e2 : cnt r 0 (n + 1) = cnt r 0 n + if r n = true then 1 else 0 := by simp [cnt]
    rw [e1, e2, ← ih]
    by_cases e : n = f
    · subst e
      have : filled r n (n + 1) false n = false := by unfold filled; rw [if_pos (by omega)]
      rw [this, hf, if_neg (by decide), if_pos (show n < n + 1 by omega), if_neg (show ¬ n < n by omega), if_pos rfl]
    · have : filled r f (f + 1) false n = r n := by unfold filled; rw [if_neg (by omega)]
      rw [this]
      by_cases h : f < n
      · rw [if_pos h, if_pos (show f < n + 1 by omega)]; omega
      · rw [if_neg h, if_neg (show ¬ f < n + 1 by omega)]; omega
section
variable {X : RM}
theorem giveM_N {i k : Nat} (hi : i < X.st.length) (hl : (X.N i).kd k < X.st.length) (hne : (X.N i).kd k ≠ i) (j : Nat) :
    (giveM X i k).N j = if j = i then kidZ (X.N i) k else if j = (X.N i).kd k then nd0 (-1) else X.N j := by
  show ((X.st.set ((X.N i).kd k) (nd0 (-1))).set i (kidZ ((X.st.set ((X.N i).kd k) (nd0 (-1))).getD i ndZ) k)).getD j ndZ = _
  rw [N_set (by rw [List.length_set]; exact hi)]
  by_cases e : j = i
  · rw [if_pos e, if_pos e, N_set hl, if_neg (fun h => hne h.symm)]
  · rw [if_neg e, if_neg e, N_set hl]
/-- a middle node without kids is given back -/
theorem RInv.give0 (h : RInv X) {k : Nat} (hk : k < 16) (h0 : (X.N 0).kd k ≠ 0) (he : ∀ j, j < 8 → (X.N ((X.N 0).kd k)).kd j = 0) : RInv (giveM X 0 k) := by
  obtain ⟨hl, hlv1⟩ := h.k0 k hk h0
  have hN := giveM_N (k := k) h.n1 hl h0
  have hlen : (giveM X 0 k).st.length = X.st.length := giveM_len X 0 k
  have hr : (giveM X 0 k).r = filled X.r ((X.N 0).kd k) ((X.N 0).kd k + 1) false := rfl
  have hm : (giveM X 0 k).m = X.m - 1 := rfl
  generalize hF : (X.N 0).kd k = f at *
  have hk0 : ((giveM X 0 k).N 0).kd = upd (X.N 0).kd k 0 := by rw [hN 0, if_pos rfl]; rfl
  have hlv : ∀ j, j ≠ f → ((giveM X 0 k).N j).lv = (X.N j).lv := fun j hj => by
    rw [hN j]
    by_cases e : j = 0
    · rw [if_pos e, e]; rfl
    · rw [if_neg e, if_neg hj]
  have hlvf : ((giveM X 0 k).N f).lv = -1 := by rw [hN f, if_neg h0, if_pos rfl]; rfl
  have hkd : ∀ j, j ≠ 0 → j ≠ f → ((giveM X 0 k).N j).kd = (X.N j).kd := fun j h1 h2 => by rw [hN j, if_neg h1, if_neg h2]
  have hrf : X.r f = true := by rw [h.rt f hl, hlv1]; rfl
  have hkne : ∀ j, j < 16 → j ≠ k → (X.N 0).kd j ≠ 0 → (X.N 0).kd j ≠ f := fun j hj hjk h1 e => hjk (h.i0 j k hj hk h1 (by rw [e, hF]))
  have hk1ne : ∀ i, i < X.st.length → (X.N i).lv = 1 → ∀ j, j < 8 → (X.N i).kd j ≠ 0 → (X.N i).kd j ≠ f := fun i hi h1 j hj h2 e => by
    have := (h.k1 i hi h1 j hj h2).2
    rw [e] at this; omega
  have h1ne : ∀ i, ((giveM X 0 k).N i).lv = 1 → i ≠ 0 ∧ i ≠ f ∧ (X.N i).lv = 1 := fun i hi => by
    by_cases e : i = f
    · rw [e, hlvf] at hi; omega
    · rw [hlv i e] at hi
      exact ⟨fun e2 => by rw [e2, h.root] at hi; omega, e, hi⟩
  refine ⟨by rw [hlen]; exact h.n1, by rw [hlv 0 (fun e => h0 e.symm)]; exact h.root, fun i hi => ?_, fun i hi => ?_, ?_, fun j hj hne => ?_, fun i hi h1 j hj hne => ?_, fun j j' hj hj' hne he' => ?_, fun i i' j j' hi hi' h1 h1' hj hj' hne he' => ?_, ?_⟩
  · rw [hr]
    unfold filled
    by_cases e : i = f
    · subst e; rw [if_pos (by omega), hlvf]; rfl
    · rw [if_neg (by omega), hlv i e]; exact h.rt i (by omega)
  · rw [hr]; unfold filled
    split
    · rfl
    · exact h.rb i (by omega)
  · have := cnt_unfill hrf X.st.length
    rw [if_pos hl] at this
    rw [hm, hr, hlen, h.cn]; omega
  · rw [hk0] at hne ⊢
    unfold upd at hne ⊢
    by_cases e : j = k
    · rw [if_pos e] at hne; exact absurd rfl hne
    · rw [if_neg e] at hne ⊢
      rw [hlen, hlv _ (hkne j hj e hne)]
      exact h.k0 j hj hne
  · rw [hlen] at hi ⊢
    obtain ⟨a1, a2, a3⟩ := h1ne i h1
    rw [hkd i a1 a2] at hne ⊢
    rw [hlv _ (hk1ne i hi a3 j hj hne)]
    exact h.k1 i hi a3 j hj hne
  · rw [hk0] at hne he'
    unfold upd at hne he'
    by_cases e : j = k
    · rw [if_pos e] at hne; exact absurd rfl hne
    · rw [if_neg e] at hne he'
      by_cases e' : j' = k
      · rw [if_pos e'] at he'; exact absurd he' hne
      · rw [if_neg e'] at he'; exact h.i0 j j' hj hj' hne he'
  · rw [hlen] at hi hi'
    obtain ⟨a1, a2, a3⟩ := h1ne i h1
    obtain ⟨b1, b2, b3⟩ := h1ne i' h1'
    rw [hkd i a1 a2] at hne he'
    rw [hkd i' b1 b2] at he'
    exact h.i1 i i' j j' hi hi' a3 b3 hj hj' hne he'
  · have ht := h.tree
    rw [hm, ht]
    unfold treeC
    rw [hk0]
    have := sumN_at (f := fun q => if (X.N 0).kd q = 0 then 0 else 1 + kidC (X.N ((X.N 0).kd q))) (g := fun q => if upd (X.N 0).kd k 0 q = 0 then 0 else 1 + kidC ((giveM X 0 k).N (upd (X.N 0).kd k 0 q))) 16 hk (fun j hj hne => by
      unfold upd
      rw [if_neg hne]
      by_cases e : (X.N 0).kd j = 0
      · rw [if_pos e, if_pos e]
      · rw [if_neg e, if_neg e]
        unfold kidC
        rw [hkd _ e (hkne j hj hne e)])
    unfold upd at this ⊢
    rw [hF, if_neg h0, if_pos rfl, if_pos rfl] at this
    have hz : kidC (X.N f) = 0 := by
      unfold kidC
      exact sumN_zero 8 (fun j hj => by rw [he j hj]; rfl)
    rw [hz] at this
    omega
/-- a leaf is given back -/
theorem RInv.give1 (h : RInv X) {i a k : Nat} (ha : a < 16) (hai : (X.N 0).kd a = i) (hi0 : i ≠ 0) (hk : k < 8) (h0 : (X.N i).kd k ≠ 0) : RInv (giveM X i k) := by
  obtain ⟨hi, hli⟩ := h.k0 a ha (by rw [hai]; exact hi0)
  rw [hai] at hi hli
  obtain ⟨hl, hlv2⟩ := h.k1 i hi hli k hk h0
  have hfi : (X.N i).kd k ≠ i := fun e => by rw [e] at hlv2; omega
  have hN := giveM_N (k := k) hi hl hfi
  have hlen : (giveM X i k).st.length = X.st.length := giveM_len X i k
  have hr : (giveM X i k).r = filled X.r ((X.N i).kd k) ((X.N i).kd k + 1) false := rfl
  have hm : (giveM X i k).m = X.m - 1 := rfl
  generalize hF : (X.N i).kd k = f at *
  have hki : ((giveM X i k).N i).kd = upd (X.N i).kd k 0 := by rw [hN i, if_pos rfl]; rfl
  have hlv : ∀ j, j ≠ f → ((giveM X i k).N j).lv = (X.N j).lv := fun j hj => by
    rw [hN j]
    by_cases e : j = i
    · rw [if_pos e, e]; rfl
    · rw [if_neg e, if_neg hj]
  have hlvf : ((giveM X i k).N f).lv = -1 := by rw [hN f, if_neg hfi, if_pos rfl]; rfl
  have hkd : ∀ j, j ≠ i → j ≠ f → ((giveM X i k).N j).kd = (X.N j).kd := fun j h1 h2 => by rw [hN j, if_neg h1, if_neg h2]
  have hf0 : f ≠ 0 := h0
  have hk00 : ((giveM X i k).N 0).kd = (X.N 0).kd := hkd 0 (fun e => hi0 e.symm) (fun e => hf0 e.symm)
  have hrf : X.r f = true := by rw [h.rt f hl, hlv2]; rfl
  have hkne : ∀ j, j < 16 → (X.N 0).kd j ≠ 0 → (X.N 0).kd j ≠ f := fun j hj h1 e => by
    have := (h.k0 j hj h1).2
    rw [e] at this; omega
  have hk1ne : ∀ b, b < X.st.length → (X.N b).lv = 1 → ∀ j, j < 8 → ¬ (b = i ∧ j = k) → (X.N b).kd j ≠ 0 → (X.N b).kd j ≠ f := fun b hb h1 j hj hn h2 e =>
    hn (h.i1 b i j k hb hi h1 hli hj hk h2 (by rw [e, hF]))
  have h1ne : ∀ b, ((giveM X i k).N b).lv = 1 → b ≠ f ∧ (X.N b).lv = 1 := fun b hb => by
    by_cases e : b = f
    · rw [e, hlvf] at hb; omega
    · rw [hlv b e] at hb; exact ⟨e, hb⟩
  have key : ∀ b, b ≠ f → ∀ j, ((giveM X i k).N b).kd j = if b = i ∧ j = k then 0 else (X.N b).kd j := fun b hb j => by
    by_cases eb : b = i
    · rw [eb, hki]
      unfold upd
      by_cases ej : j = k
      · rw [if_pos ej, if_pos ⟨rfl, ej⟩]
      · rw [if_neg ej, if_neg (fun h => ej h.2)]
    · rw [hkd b eb hb, if_neg (fun h => eb h.1)]
  refine ⟨by rw [hlen]; exact h.n1, by rw [hlv 0 (fun e => hf0 e.symm)]; exact h.root, fun j hj => ?_, fun j hj => ?_, ?_, fun j hj hne => ?_, fun j hj h1 q hq hne => ?_, fun j j' hj hj' hne he => ?_, fun j j' q q' hj hj' h1 h1' hq hq' hne he => ?_, ?_⟩
  · rw [hr]
    unfold filled
    by_cases e : j = f
    · subst e; rw [if_pos (by omega), hlvf]; rfl
    · rw [if_neg (by omega), hlv j e]; exact h.rt j (by omega)
  · rw [hr]; unfold filled
    split
    · rfl
    · exact h.rb j (by omega)
  · have := cnt_unfill hrf X.st.length
    rw [if_pos hl] at this
    rw [hm, hr, hlen, h.cn]; omega
  · rw [hk00] at hne ⊢
    rw [hlen, hlv _ (hkne j hj hne)]
    exact h.k0 j hj hne
  · rw [hlen] at hj ⊢
    obtain ⟨e, g1⟩ := h1ne j h1
    rw [key j e] at hne ⊢
    by_cases c : j = i ∧ q = k
    · rw [if_pos c] at hne; exact absurd rfl hne
    · rw [if_neg c] at hne ⊢
      rw [hlv _ (hk1ne j hj g1 q hq c hne)]
      exact h.k1 j hj g1 q hq hne
  · rw [hk00] at hne he
    exact h.i0 j j' hj hj' hne he
  · rw [hlen] at hj hj'
    obtain ⟨e, g1⟩ := h1ne j h1
    obtain ⟨e', g1'⟩ := h1ne j' h1'
    rw [key j e] at hne he
    rw [key j' e'] at he
    by_cases c : j = i ∧ q = k
    · rw [if_pos c] at hne; exact absurd rfl hne
    · rw [if_neg c] at hne he
      by_cases c' : j' = i ∧ q' = k
      · rw [if_pos c'] at he; exact absurd he hne
      · rw [if_neg c'] at he
        exact h.i1 j j' q q' hj hj' g1 g1' hq hq' hne he
  · have ht := h.tree
    rw [hm, ht]
    unfold treeC
    rw [hk00]
    have := sumN_at (f := fun q => if (X.N 0).kd q = 0 then 0 else 1 + kidC (X.N ((X.N 0).kd q))) (g := fun q => if (X.N 0).kd q = 0 then 0 else 1 + kidC ((giveM X i k).N ((X.N 0).kd q))) 16 ha (fun j hj hne => by
      by_cases e : (X.N 0).kd j = 0
      · rw [if_pos e, if_pos e]
      · rw [if_neg e, if_neg e]
        have e2 : (X.N 0).kd j ≠ i := fun e3 => hne (h.i0 j a hj ha e (by rw [e3, hai]))
        unfold kidC
        rw [hkd _ e2 (hkne j hj e)])
    rw [hai, if_neg hi0, if_neg hi0] at this
    have hz : kidC ((giveM X i k).N i) + 1 = kidC (X.N i) := by
      unfold kidC
      rw [hki]
      exact sum_down hk (by rw [hF]; exact h0)
    omega
end
end Go.Proofs.YtfmclbacoffdaaaDoor
