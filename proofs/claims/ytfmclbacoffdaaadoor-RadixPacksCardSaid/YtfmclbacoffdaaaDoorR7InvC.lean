/- The radix map, plain: a page gets a word. -/
import Derived.Test.YtfmclbacoffdaaaDoorR7InvB
namespace Go.Proofs.YtfmclbacoffdaaaDoor
section
variable {X : RM}
theorem RInv.leaf (h : RInv X) {p : Nat} (hp : p < 1024) (hl : lfI X.st p ≠ 0) : mdI X.st p ≠ 0 ∧ mdI X.st p < X.st.length ∧ (X.N (mdI X.st p)).lv = 1 ∧ lfI X.st p = (X.N (mdI X.st p)).kd (p / 8 % 8) ∧ lfI X.st p < X.st.length ∧ (X.N (lfI X.st p)).lv = 2 := by
  have hm : mdI X.st p ≠ 0 := fun e => hl (by unfold lfI; rw [if_pos e])
  have e : lfI X.st p = (X.N (mdI X.st p)).kd (p / 8 % 8) := by unfold lfI; rw [if_neg hm]
  obtain ⟨h1, h2⟩ := h.k0 (p / 64) (by omega) hm
  obtain ⟨h3, h4⟩ := h.k1 _ h1 h2 (p / 8 % 8) (by omega) (by rw [e] at hl; exact hl)
  exact ⟨hm, h1, h2, e, by rw [e]; exact h3, by rw [e]; exact h4⟩
theorem RInv.leaf_inj (h : RInv X) {p q : Nat} (hp : p < 1024) (hq : q < 1024) (hl : lfI X.st p ≠ 0) (he : lfI X.st q = lfI X.st p) : q / 8 = p / 8 := by
  obtain ⟨a1, a2, a3, a4, a5, a6⟩ := h.leaf hp hl
  obtain ⟨b1, b2, b3, b4, b5, b6⟩ := h.leaf hq (by rw [he]; exact hl)
  obtain ⟨c1, c2⟩ := h.i1 _ _ _ _ a2 b2 a3 b3 (show p / 8 % 8 < 8 by omega) (show q / 8 % 8 < 8 by omega) (by rw [← a4]; exact hl) (by rw [← a4, ← b4, he])
  have c3 := h.i0 (p / 64) (q / 64) (by omega) (by omega) a1 c1
  omega
/-- a middle node is made: what is read -/
theorem RInv.grow0_rd (h : RInv X) (hf : frI X < X.st.length) {k : Nat} (hk : k < 16) (h0 : (X.N 0).kd k = 0) (q : Nat) (hq : q < 1024) :
    mdI (growM X 0 k).st q = (if q / 64 = k then frI X else mdI X.st q) ∧ lfI (growM X 0 k).st q = lfI X.st q ∧ wdI (growM X 0 k).st q = wdI X.st q := by
  obtain ⟨hlf, hf0⟩ := h.fr hf
  have hN := growM_N (k := k) h.n1 hf hf0
  have e1 : mdI (growM X 0 k).st q = if q / 64 = k then frI X else mdI X.st q := by
    show ((growM X 0 k).N 0).kd (q / 64) = _
    rw [hN 0, if_pos rfl]; rfl
  have e2 : lfI (growM X 0 k).st q = lfI X.st q := by
    unfold lfI
    rw [e1]
    by_cases e : q / 64 = k
    · have hz : mdI X.st q = 0 := by unfold mdI; rw [e]; exact h0
      rw [if_pos e, if_neg hf0, if_pos hz]
      show ((growM X 0 k).N (frI X)).kd _ = 0
      rw [hN _, if_neg hf0, if_pos rfl]; rfl
    · rw [if_neg e]
      by_cases hz : mdI X.st q = 0
      · rw [if_pos hz, if_pos hz]
      · rw [if_neg hz, if_neg hz]
        have h1 := (h.k0 (q / 64) (by omega) hz).2
        show ((growM X 0 k).N (mdI X.st q)).kd _ = _
        have hne : mdI X.st q ≠ frI X := fun e3 => by
          have h2 : (X.N (mdI X.st q)).lv = 1 := h1
          rw [e3] at h2; omega
        rw [hN _, if_neg hz, if_neg hne]
  refine ⟨e1, e2, ?_⟩
  unfold wdI
  rw [e2]
  by_cases hz : lfI X.st q = 0
  · rw [if_pos hz, if_pos hz]
  · rw [if_neg hz, if_neg hz]
    obtain ⟨_, _, _, _, _, h6⟩ := h.leaf hq hz
    show ((growM X 0 k).N (lfI X.st q)).wd _ = _
    have hne : lfI X.st q ≠ frI X := fun e3 => by rw [e3] at h6; omega
    rw [hN _, if_neg hz, if_neg hne]
/-- a leaf is made: what is read -/
theorem RInv.grow1_rd (h : RInv X) (hf : frI X < X.st.length) {i a k : Nat} (ha : a < 16) (hai : (X.N 0).kd a = i) (hi0 : i ≠ 0) (h0 : (X.N i).kd k = 0) (q : Nat) (hq : q < 1024) :
    mdI (growM X i k).st q = mdI X.st q ∧ lfI (growM X i k).st q = (if q / 64 = a ∧ q / 8 % 8 = k then frI X else lfI X.st q) ∧ wdI (growM X i k).st q = wdI X.st q := by
  obtain ⟨hlf, hf0⟩ := h.fr hf
  obtain ⟨hi, hli⟩ := h.k0 a ha (by rw [hai]; exact hi0)
  rw [hai] at hi hli
  have hfi : frI X ≠ i := fun e => by rw [e] at hlf; omega
  have hN := growM_N (k := k) hi hf hfi
  have e1 : mdI (growM X i k).st q = mdI X.st q := by
    show ((growM X i k).N 0).kd (q / 64) = _
    rw [hN 0, if_neg (fun e => hi0 e.symm), if_neg (fun e => hf0 e.symm)]
    rfl
  have e2 : lfI (growM X i k).st q = if q / 64 = a ∧ q / 8 % 8 = k then frI X else lfI X.st q := by
    unfold lfI
    rw [e1]
    by_cases hz : mdI X.st q = 0
    · rw [if_pos hz, if_pos hz, if_neg]
      rintro ⟨e, _⟩
      apply hi0
      rw [← hai, ← e]; exact hz
    · rw [if_neg hz, if_neg hz]
      have h1 : (X.N (mdI X.st q)).lv = 1 := (h.k0 (q / 64) (by omega) hz).2
      have hne : mdI X.st q ≠ frI X := fun e3 => by rw [e3] at h1; omega
      show ((growM X i k).N (mdI X.st q)).kd _ = _
      rw [hN _]
      by_cases e : mdI X.st q = i
      · have hqa : q / 64 = a := h.i0 (q / 64) a (by omega) ha hz (by rw [hai]; exact e)
        rw [if_pos e]
        show upd (X.N i).kd k (frI X) (q / 8 % 8) = _
        unfold upd
        by_cases e4 : q / 8 % 8 = k
        · rw [if_pos e4, if_pos ⟨hqa, e4⟩]
        · rw [if_neg e4, if_neg (fun h => e4 h.2), e]
      · rw [if_neg e, if_neg hne, if_neg]
        rintro ⟨e4, _⟩
        apply e
        rw [← hai, ← e4]; rfl
  refine ⟨e1, e2, ?_⟩
  unfold wdI
  rw [e2]
  by_cases e : q / 64 = a ∧ q / 8 % 8 = k
  · have hz : lfI X.st q = 0 := by
      have hm : mdI X.st q = i := by unfold mdI; rw [e.1]; exact hai
      unfold lfI
      rw [hm, if_neg hi0, e.2]; exact h0
    rw [if_pos e, if_neg hf0, if_pos hz]
    show ((growM X i k).N (frI X)).wd _ = 0
    rw [hN _, if_neg hfi, if_pos rfl]; rfl
  · rw [if_neg e]
    by_cases hz : lfI X.st q = 0
    · rw [if_pos hz, if_pos hz]
    · rw [if_neg hz, if_neg hz]
      obtain ⟨_, _, _, _, _, h6⟩ := h.leaf hq hz
      show ((growM X i k).N (lfI X.st q)).wd _ = _
      have hne : lfI X.st q ≠ frI X := fun e3 => by rw [e3] at h6; omega
      have hne2 : lfI X.st q ≠ i := fun e3 => by rw [e3] at h6; omega
      rw [hN _, if_neg hne2, if_neg hne]
/-- a page has got a word -/
structure PutS (X : RM) (x p : Nat) (Y : RM) : Prop where
  inv : RInv Y
  len : Y.st.length = X.st.length
  m : Y.m = X.m + (if mdI X.st p = 0 then 1 else 0) + (if lfI X.st p = 0 then 1 else 0)
  w : ∀ q, q < 1024 → wdI Y.st q = if q = p then x else wdI X.st q
  md : ∀ q, q < 1024 → (mdI Y.st q = 0 ↔ mdI X.st q = 0 ∧ q / 64 ≠ p / 64)
  lf : ∀ q, q < 1024 → (lfI Y.st q = 0 ↔ lfI X.st q = 0 ∧ q / 8 ≠ p / 8)
theorem RInv.put (h : RInv X) {x p : Nat} (hp : p < 1024) (hr : X.m + (if mdI X.st p = 0 then 1 else 0) + (if lfI X.st p = 0 then 1 else 0) ≤ X.st.length) : PutS X x p (putM X x p) ∧ putOk X p = true := by
  -- the middle node
  have hA : RInv (putA X p) ∧ (putA X p).m = X.m + (if mdI X.st p = 0 then 1 else 0) ∧ putAI X p ≠ 0 ∧ (mdI X.st p = 0 → frI X < X.st.length) ∧
      (∀ q, q < 1024 → mdI (putA X p).st q = (if q / 64 = p / 64 then putAI X p else mdI X.st q) ∧ lfI (putA X p).st q = lfI X.st q ∧ wdI (putA X p).st q = wdI X.st q) := by
    unfold putA putAI
    by_cases e : mdI X.st p = 0
    · rw [if_pos e] at hr
      rw [if_pos e, if_pos e, if_pos e]
      have hf := h.room (by omega)
      exact ⟨h.grow0 hf (by omega) e, rfl, (h.fr hf).2, fun _ => hf, fun q hq => h.grow0_rd hf (by omega) e q hq⟩
    · rw [if_neg e, if_neg e, if_neg e]
      refine ⟨h, rfl, e, fun h => absurd h e, fun q hq => ⟨?_, rfl, rfl⟩⟩
      split
      · rename_i e2; unfold mdI; rw [e2]
      · rfl
  obtain ⟨hAi, hAm, hA0, hAf, hAq⟩ := hA
  have hAl := putA_len X p
  obtain ⟨p1, p2, p3⟩ := hAq p hp
  rw [if_pos rfl] at p1
  have hAk : ((putA X p).N 0).kd (p / 64) = putAI X p := p1
  have hAlt := hAi.k0 (p / 64) (by omega) (by rw [hAk]; exact hA0)
  rw [hAk, hAl] at hAlt
  have hAkk : ((putA X p).N (putAI X p)).kd (p / 8 % 8) = lfI X.st p := by
    rw [← p2]
    unfold lfI
    rw [p1, if_neg hA0]
  -- the leaf
  have hB : RInv (putB X p) ∧ (putB X p).m = X.m + (if mdI X.st p = 0 then 1 else 0) + (if lfI X.st p = 0 then 1 else 0) ∧ putBI X p ≠ 0 ∧ (lfI X.st p = 0 → frI (putA X p) < X.st.length) ∧
      (∀ q, q < 1024 → mdI (putB X p).st q = mdI (putA X p).st q ∧ lfI (putB X p).st q = (if q / 8 = p / 8 then putBI X p else lfI X.st q) ∧ wdI (putB X p).st q = wdI X.st q) := by
    unfold putB putBI
    by_cases e : lfI X.st p = 0
    · rw [if_pos e] at hr
      rw [if_pos e, if_pos e, if_pos e]
      have hf := hAi.room (by omega)
      refine ⟨hAi.grow1 hf (show p / 64 < 16 by omega) hAk hA0 (by omega) (by rw [hAkk]; exact e), by show (putA X p).m + 1 = _; rw [hAm], (hAi.fr hf).2, fun _ => by rw [← hAl]; exact hf, fun q hq => ?_⟩
      obtain ⟨g1, g2, g3⟩ := hAi.grow1_rd hf (show p / 64 < 16 by omega) hAk hA0 (k := p / 8 % 8) (by rw [hAkk]; exact e) q hq
      refine ⟨g1, ?_, g3.trans (hAq q hq).2.2⟩
      rw [g2, (hAq q hq).2.1]
      by_cases c : q / 8 = p / 8
      · rw [if_pos c, if_pos (by omega)]
      · rw [if_neg c, if_neg (by omega)]
    · rw [if_neg e, if_neg e, if_neg e]
      refine ⟨hAi, hAm, e, fun h => absurd h e, fun q hq => ⟨rfl, ?_, (hAq q hq).2.2⟩⟩
      rw [(hAq q hq).2.1]
      split
      · rename_i e2
        unfold lfI mdI
        rw [show q / 64 = p / 64 by omega, e2]
      · rfl
  obtain ⟨hBi, hBm, hB0, hBf, hBq⟩ := hB
  have hBl := putB_len X p
  obtain ⟨b1, b2, b3⟩ := hBq p hp
  rw [if_pos rfl] at b2
  obtain ⟨c1, c2, c3, c4, c5, c6⟩ := hBi.leaf hp (by rw [b2]; exact hB0)
  rw [b2, hBl] at c5
  have hMl := putM_len X x p
  have hN : ∀ j, (putM X x p).N j = if j = putBI X p then wordN ((putB X p).N (putBI X p)) (p % 8) x else (putB X p).N j := fun j => N_set (by rw [hBl]; exact c5)
  have hMkd : ∀ j, ((putM X x p).N j).kd = ((putB X p).N j).kd := fun j => by
    rw [hN]; split
    · rename_i e; rw [e]; rfl
    · rfl
  have hMmd : ∀ q, mdI (putM X x p).st q = mdI (putB X p).st q := fun q => by
    show ((putM X x p).N 0).kd _ = _
    rw [hMkd]; rfl
  have hMlf : ∀ q, lfI (putM X x p).st q = lfI (putB X p).st q := fun q => by
    unfold lfI
    rw [hMmd]
    split
    · rfl
    · show ((putM X x p).N _).kd _ = _
      rw [hMkd]
  refine ⟨⟨hBi.word (by rw [hBl]; exact c5), hMl, hBm, fun q hq => ?_, fun q hq => ?_, fun q hq => ?_⟩, ?_⟩
  · obtain ⟨g1, g2, g3⟩ := hBq q hq
    have hw : wdI (putM X x p).st q = if lfI (putB X p).st q = 0 then 0 else ((putM X x p).N (lfI (putB X p).st q)).wd (q % 8) := by
      unfold wdI; rw [hMlf]
    rw [hw]
    by_cases e : q = p
    · subst e
      rw [if_pos rfl, b2, if_neg hB0, hN, if_pos rfl]
      show upd _ _ _ _ = _
      unfold upd
      rw [if_pos rfl]
    · rw [if_neg e, ← g3]
      unfold wdI
      by_cases hz : lfI (putB X p).st q = 0
      · rw [if_pos hz, if_pos hz]
      · rw [if_neg hz, if_neg hz, hN]
        split
        · rename_i e2
          have := hBi.leaf_inj hp hq (by rw [b2]; exact hB0) (by rw [b2]; exact e2)
          show upd _ _ _ _ = _
          unfold upd
          rw [if_neg (by omega), e2]
        · rfl
  · rw [hMmd, (hBq q hq).1, (hAq q hq).1]
    by_cases e : q / 64 = p / 64
    · rw [if_pos e]; exact ⟨fun h => absurd h hA0, fun h => absurd e h.2⟩
    · rw [if_neg e]; exact ⟨fun h => ⟨h, e⟩, fun h => h.1⟩
  · rw [hMlf, (hBq q hq).2.1]
    by_cases e : q / 8 = p / 8
    · rw [if_pos e]; exact ⟨fun h => absurd h hB0, fun h => absurd e h.2⟩
    · rw [if_neg e]; exact ⟨fun h => ⟨h, e⟩, fun h => h.1⟩
  · unfold putOk
    have hmlt : mdI X.st p < X.st.length := by
      by_cases e : mdI X.st p = 0
      · rw [e]; exact h.n1
      · exact (h.k0 (p / 64) (by omega) e).1
    have hllt : lfI X.st p < X.st.length := by
      by_cases e : lfI X.st p = 0
      · rw [e]; exact h.n1
      · exact (h.leaf hp e).2.2.2.2.1
    simp only [Bool.and_eq_true, Bool.or_eq_true, decide_eq_true_eq]
    refine ⟨⟨⟨⟨⟨hmlt, ?_⟩, hAlt.1⟩, hllt⟩, ?_⟩, c5⟩
    · by_cases e : mdI X.st p = 0
      · exact .inr (hAf e)
      · exact .inl e
    · by_cases e : lfI X.st p = 0
      · exact .inr (hBf e)
      · exact .inl e
end
end Go.Proofs.YtfmclbacoffdaaaDoor
