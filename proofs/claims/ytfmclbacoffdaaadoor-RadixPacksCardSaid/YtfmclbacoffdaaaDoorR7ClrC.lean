/- The radix map, plain: Clear. -/
import Derived.Test.YtfmclbacoffdaaaDoorR7ClrB
namespace Go.Proofs.YtfmclbacoffdaaaDoor
/-- all that holds of a map -/
structure RAll (X : RM) : Prop where
  i : RInv X
  m : RMn X
  n : RNe X
section
variable {X : RM}
theorem clrW_all (h : RAll X) {p : Nat} (hp : p < 1024) (hw : wdI X.st p ≠ 0) :
    RInv (clrW X p) ∧ RMn (clrW X p) ∧ (∀ q, q < 1024 → mdI (clrW X p).st q = mdI X.st q ∧ lfI (clrW X p).st q = lfI X.st q ∧ wdI (clrW X p).st q = if q = p then 0 else wdI X.st q) := by
  have hl0 : lfI X.st p ≠ 0 := fun e => hw (by unfold wdI; rw [if_pos e])
  obtain ⟨a1, a2, a3, a4, a5, a6⟩ := h.i.leaf hp hl0
  have hN : ∀ j, (clrW X p).N j = if j = lfI X.st p then wordZ (X.N (lfI X.st p)) (p % 8) else X.N j := fun j => N_set a5
  have hlv : ∀ j, ((clrW X p).N j).lv = (X.N j).lv := fun j => by
    rw [hN]; split
    · rename_i e; rw [e]; rfl
    · rfl
  have hkd : ∀ j, ((clrW X p).N j).kd = (X.N j).kd := fun j => by
    rw [hN]; split
    · rename_i e; rw [e]; rfl
    · rfl
  have hmd : ∀ q, mdI (clrW X p).st q = mdI X.st q := fun q => by
    show ((clrW X p).N 0).kd _ = _
    rw [hkd]; rfl
  have hlf : ∀ q, lfI (clrW X p).st q = lfI X.st q := fun q => by
    unfold lfI
    rw [hmd]
    split
    · rfl
    · show ((clrW X p).N _).kd _ = _
      rw [hkd]
  have hwp : (X.N (lfI X.st p)).wd (p % 8) ≠ 0 := by
    unfold wdI at hw
    rw [if_neg hl0] at hw; exact hw
  refine ⟨h.i.same (by simp [clrW]) rfl rfl hlv hkd, ⟨fun j hj h2 => ?_, fun j hj h1 => ?_, ?_⟩, fun q hq => ⟨hmd q, hlf q, ?_⟩⟩
  · rw [hlv] at h2
    have hj' : j < X.st.length := by simpa [clrW] using hj
    rw [hN j]
    by_cases e : j = lfI X.st p
    · rw [if_pos e]
      have := sum_down (f := (X.N (lfI X.st p)).wd) (k := p % 8) (n := 8) (by omega) hwp
      have hr := h.m.m2 _ a5 a6
      unfold wordC at hr
      show (X.N (lfI X.st p)).mn - 1 = sumN (fun j => if upd (X.N (lfI X.st p)).wd (p % 8) 0 j = 0 then 0 else 1) 8
      omega
    · rw [if_neg e]; exact h.m.m2 j hj' h2
  · rw [hlv] at h1
    have hj' : j < X.st.length := by simpa [clrW] using hj
    rw [hN j]
    by_cases e : j = lfI X.st p
    · rw [e, a6] at h1; omega
    · rw [if_neg e]; exact h.m.m1 j hj' h1
  · rw [hN 0, if_neg (fun e => hl0 e.symm)]; exact h.m.m0
  · unfold wdI
    rw [hlf]
    by_cases hz : lfI X.st q = 0
    · rw [if_pos hz, if_pos hz]
      split <;> rfl
    · rw [if_neg hz, if_neg hz]
      show ((clrW X p).N (lfI X.st q)).wd _ = _
      rw [hN]
      by_cases e : q = p
      · subst e
        rw [if_pos rfl, if_pos rfl]
        show upd _ _ _ _ = _
        unfold upd
        rw [if_pos rfl]
      · rw [if_neg e]
        split
        · rename_i e2
          have := h.i.leaf_inj hp hq hl0 e2
          show upd _ _ _ _ = _
          unfold upd
          rw [if_neg (by omega), e2]
        · rfl
/-- Clear of a page -/
theorem RAll.clr (h : RAll X) {p : Nat} (hp : p < 1024) : RAll (clrM X p) ∧ (clrM X p).st.length = X.st.length ∧ ∀ q, q < 1024 → wdI (clrM X p).st q = if q = p then 0 else wdI X.st q := by
  unfold clrM
  by_cases hw : wdI X.st p = 0
  · rw [if_pos hw]
    refine ⟨h, rfl, fun q _ => ?_⟩
    split
    · rename_i e; rw [e]; exact hw
    · rfl
  · rw [if_neg hw]
    obtain ⟨i1, m1, r1⟩ := clrW_all h hp hw
    have len1 : (clrW X p).st.length = X.st.length := by simp [clrW]
    have hl0 : lfI X.st p ≠ 0 := fun e => hw (by unfold wdI; rw [if_pos e])
    obtain ⟨a1, a2, a3, a4, a5, a6⟩ := h.i.leaf hp hl0
    obtain ⟨b1, b2, b3⟩ := r1 p hp
    obtain ⟨c1, c2, c3, c4, c5, c6⟩ := i1.leaf hp (by rw [b2]; exact hl0)
    rw [b1] at c1 c2 c3
    rw [b2] at c5 c6
    by_cases hm1 : ((clrW X p).N (lfI X.st p)).mn ≠ 0
    · rw [if_pos hm1]
      have hs := m1.m2 _ c5 c6
      obtain ⟨j, hj, hjw⟩ := sum_some (f := ((clrW X p).N (lfI X.st p)).wd) (n := 8) (by
        have := hs
        unfold wordC at this
        rw [← this]; exact hm1)
      have hq0 : wdI (clrW X p).st (p / 8 * 8 + j) ≠ 0 := by
        have hlq : lfI (clrW X p).st (p / 8 * 8 + j) = lfI X.st p := by
          rw [(r1 _ (by omega)).2.1]
          unfold lfI mdI
          rw [show (p / 8 * 8 + j) / 64 = p / 64 by omega, show (p / 8 * 8 + j) / 8 = p / 8 by omega]
        unfold wdI
        rw [hlq, if_neg hl0, show (p / 8 * 8 + j) % 8 = j by omega]
        exact hjw
      refine ⟨⟨i1, m1, fun r hr => ?_⟩, len1, fun q hq => (r1 q hq).2.2⟩
      obtain ⟨g1, g2, _⟩ := r1 r hr
      have keep : ∀ q, q < 1024 → q ≠ p → wdI X.st q ≠ 0 → wdI (clrW X p).st q ≠ 0 := fun q hq e h0 => by rw [(r1 q hq).2.2, if_neg e]; exact h0
      refine ⟨fun hne => ?_, fun hne => ?_⟩
      · rw [g1] at hne
        obtain ⟨q, x1, x2, x3⟩ := (h.n r hr).1 hne
        by_cases e : q = p
        · exact ⟨p / 8 * 8 + j, by omega, by rw [← x2, e]; omega, hq0⟩
        · exact ⟨q, x1, x2, keep q x1 e x3⟩
      · rw [g2] at hne
        obtain ⟨q, x1, x2, x3⟩ := (h.n r hr).2 hne
        by_cases e : q = p
        · exact ⟨p / 8 * 8 + j, by omega, by rw [← x2, e]; omega, hq0⟩
        · exact ⟨q, x1, x2, keep q x1 e x3⟩
    · rw [if_neg hm1]
      have hm1' : ((clrW X p).N (lfI X.st p)).mn = 0 := by omega
      have hs := m1.m2 _ c5 c6
      rw [hm1'] at hs
      have hz : ∀ j, j < 8 → ((clrW X p).N (lfI X.st p)).wd j = 0 := fun j hj => sum_none (f := ((clrW X p).N (lfI X.st p)).wd) hs.symm hj
      have hak : ((clrW X p).N 0).kd (p / 64) = mdI X.st p := b1
      have hlk : ((clrW X p).N (mdI X.st p)).kd (p / 8 % 8) = lfI X.st p := by
        have := c4
        rw [b1, b2] at this
        exact this.symm
      have i2 : RInv (clrL X p) := i1.give1 (show p / 64 < 16 by omega) hak c1 (by omega) (by rw [hlk]; exact hl0)
      have m2 : RMn (clrL X p) := m1.give1 i1 (show p / 64 < 16 by omega) hak c1 (by omega) (by rw [hlk]; exact hl0)
      have r2 : ∀ q, q < 1024 → mdI (clrL X p).st q = mdI X.st q ∧ lfI (clrL X p).st q = (if q / 8 = p / 8 then 0 else lfI X.st q) ∧ wdI (clrL X p).st q = if q = p then 0 else wdI X.st q := fun q hq => by
        obtain ⟨g1, g2, g3⟩ := i1.give1_rd (show p / 64 < 16 by omega) hak c1 (show p / 8 % 8 < 8 by omega) (by rw [hlk]; exact hl0) (by rw [hlk]; exact hz) q hq
        obtain ⟨f1, f2, f3⟩ := r1 q hq
        refine ⟨g1.trans f1, ?_, g3.trans f3⟩
        refine g2.trans ?_
        rw [f2]
        by_cases e : q / 8 = p / 8
        · rw [if_pos e, if_pos (by omega)]
        · rw [if_neg e, if_neg (by omega)]
      have len2 : (clrL X p).st.length = X.st.length := by unfold clrL; rw [giveM_len, len1]
      -- what is left at other leaves
      have hne2 : ∀ r, r < 1024 → lfI (clrL X p).st r ≠ 0 → ∃ q, q < 1024 ∧ q / 8 = r / 8 ∧ wdI (clrL X p).st q ≠ 0 := fun r hr hne => by
        rw [(r2 r hr).2.1] at hne
        by_cases e : r / 8 = p / 8
        · rw [if_pos e] at hne; exact absurd rfl hne
        · rw [if_neg e] at hne
          obtain ⟨q, x1, x2, x3⟩ := (h.n r hr).2 hne
          refine ⟨q, x1, x2, ?_⟩
          rw [(r2 q x1).2.2, if_neg (fun e2 => e (by rw [← x2, e2]))]
          exact x3
      have hoth : ∀ r, r < 1024 → r / 64 ≠ p / 64 → mdI X.st r ≠ 0 → ∃ q, q < 1024 ∧ q / 64 = r / 64 ∧ wdI (clrL X p).st q ≠ 0 := fun r hr e hne => by
        obtain ⟨q, x1, x2, x3⟩ := (h.n r hr).1 hne
        refine ⟨q, x1, x2, ?_⟩
        rw [(r2 q x1).2.2, if_neg (fun e2 => e (by rw [← x2, e2]))]
        exact x3
      have hkp : ((clrL X p).N 0).kd (p / 64) = mdI X.st p := (r2 p hp).1
      have hc2 := i2.k0 (p / 64) (by omega) (by rw [hkp]; exact c1)
      rw [hkp] at hc2
      have hs2 := m2.m1 _ hc2.1 hc2.2
      by_cases hm2 : ((clrL X p).N (mdI X.st p)).mn ≠ 0
      · rw [if_pos hm2]
        obtain ⟨j, hj, hjk⟩ := sum_some (f := ((clrL X p).N (mdI X.st p)).kd) (n := 8) (by
          have := hs2
          unfold kidC at this
          rw [← this]; exact hm2)
        have hlr : lfI (clrL X p).st (p / 64 * 64 + j * 8) ≠ 0 := by
          have hmr : mdI (clrL X p).st (p / 64 * 64 + j * 8) = mdI X.st p := by
            rw [(r2 _ (by omega)).1]
            unfold mdI
            rw [show (p / 64 * 64 + j * 8) / 64 = p / 64 by omega]
          unfold lfI
          rw [hmr, if_neg c1, show (p / 64 * 64 + j * 8) / 8 % 8 = j by omega]
          exact hjk
        obtain ⟨q0, y1, y2, y3⟩ := hne2 _ (by omega) hlr
        refine ⟨⟨i2, m2, fun r hr => ⟨fun hne => ?_, fun hne => hne2 r hr hne⟩⟩, len2, fun q hq => (r2 q hq).2.2⟩
        rw [(r2 r hr).1] at hne
        by_cases e : r / 64 = p / 64
        · exact ⟨q0, y1, by omega, y3⟩
        · exact hoth r hr e hne
      · rw [if_neg hm2]
        have hm2' : ((clrL X p).N (mdI X.st p)).mn = 0 := by omega
        rw [hm2'] at hs2
        have hz2 : ∀ j, j < 8 → ((clrL X p).N (mdI X.st p)).kd j = 0 := fun j hj => sum_none (f := ((clrL X p).N (mdI X.st p)).kd) hs2.symm hj
        have i3 : RInv (giveM (clrL X p) 0 (p / 64)) := i2.give0 (by omega) (by rw [hkp]; exact c1) (by rw [hkp]; exact hz2)
        have m3 : RMn (giveM (clrL X p) 0 (p / 64)) := m2.give0 i2 (by omega) (by rw [hkp]; exact c1)
        have r3 := fun q hq => i2.give0_rd (show p / 64 < 16 by omega) (by rw [hkp]; exact c1) (by rw [hkp]; exact hz2) q hq
        refine ⟨⟨i3, m3, fun r hr => ⟨fun hne => ?_, fun hne => ?_⟩⟩, by rw [giveM_len, len2], fun q hq => (r3 q hq).2.2.trans (r2 q hq).2.2⟩
        · rw [(r3 r hr).1] at hne
          by_cases e : r / 64 = p / 64
          · rw [if_pos e] at hne; exact absurd rfl hne
          · rw [if_neg e, (r2 r hr).1] at hne
            obtain ⟨q, x1, x2, x3⟩ := hoth r hr e hne
            exact ⟨q, x1, x2, by rw [(r3 q x1).2.2]; exact x3⟩
        · rw [(r3 r hr).2.1] at hne
          obtain ⟨q, x1, x2, x3⟩ := hne2 r hr hne
          exact ⟨q, x1, x2, by rw [(r3 q x1).2.2]; exact x3⟩
/-- n pages from p on lose their words -/
def clrN : Nat → RM → Nat → RM
  | 0, X, _ => X
  | n + 1, X, p => clrM (clrN n X p) (p + n)
theorem RAll.clrs (p : Nat) (h : RAll X) : ∀ n, p + n ≤ 1024 → RAll (clrN n X p) ∧ (clrN n X p).st.length = X.st.length ∧ ∀ q, q < 1024 → wdI (clrN n X p).st q = if p ≤ q ∧ q < p + n then 0 else wdI X.st q
  | 0, _ => ⟨h, rfl, fun q _ => by rw [if_neg (by omega)]; rfl⟩
  | n + 1, hn => by
    obtain ⟨g1, g2, g3⟩ := RAll.clrs p h n (by omega)
    obtain ⟨f1, f2, f3⟩ := g1.clr (p := p + n) (by omega)
    refine ⟨f1, f2.trans g2, fun q hq => ?_⟩
    show wdI (clrM (clrN n X p) (p + n)).st q = _
    rw [f3 q hq, g3 q hq]
    by_cases c1 : q = p + n
    · rw [if_pos c1, if_pos (by omega)]
    · rw [if_neg c1]
      by_cases c2 : p ≤ q ∧ q < p + n
      · rw [if_pos c2, if_pos (by omega)]
      · rw [if_neg c2, if_neg (by omega)]
theorem RNe.set (x : Nat) (hx : x ≠ 0) : ∀ (n : Nat) {X : RM} {p : Nat} {b s : Int}, RNe X → RInv X → p + n ≤ 1024 → (((p / 64 : Nat) : Int) = b → mdI X.st p ≠ 0) → (((p / 8 : Nat) : Int) = s → lfI X.st p ≠ 0) → X.m + needF X.st n p b s ≤ X.st.length → RNe (setM x n X p)
  | 0, _, _, _, _, hm, _, _, _, _, _ => hm
  | n + 1, X, p, b, s, hm, h, hn, hb, hs, hr => by
    have t1 : (if mdI X.st p = 0 ∧ ((p / 64 : Nat) : Int) ≠ b then (1 : Nat) else 0) = if mdI X.st p = 0 then 1 else 0 := ite_congr' ⟨fun h => h.1, fun h => ⟨h, fun e => hb e h⟩⟩
    have t2 : (if lfI X.st p = 0 ∧ ((p / 8 : Nat) : Int) ≠ s then (1 : Nat) else 0) = if lfI X.st p = 0 then 1 else 0 := ite_congr' ⟨fun h => h.1, fun h => ⟨h, fun e => hs e h⟩⟩
    simp only [needF] at hr
    rw [t1, t2] at hr
    obtain ⟨hS, _⟩ := h.put (x := x) (p := p) (by omega) (by omega)
    have hne := need_put hS n (p + 1) (by omega) (by omega)
    rw [show p + 1 - 1 = p by omega] at hne
    rw [setM_cons]
    exact RNe.set x hx n (b := ((p / 64 : Nat) : Int)) (s := ((p / 8 : Nat) : Int)) (hm.put (by omega) hx hS) hS.inv (by omega)
      (fun e h0 => by have := (hS.md (p + 1) (by omega)).1 h0; omega) (fun e h0 => by have := (hS.lf (p + 1) (by omega)).1 h0; omega) (by rw [hS.m, hS.len, hne]; omega)
/-- Set of pages -/
theorem RAll.sets (h : RAll X) {x n p : Nat} (hx : x ≠ 0) (hn : p + n ≤ 1024) (hr : X.m + needF X.st n p (-1) (-1) ≤ X.st.length) :
    RAll (setM x n X p) ∧ setOk x n X p = true ∧ ∀ q, q < 1024 → wdI (setM x n X p).st q = if p ≤ q ∧ q < p + n then x else wdI X.st q := by
  have e1 : ((p / 64 : Nat) : Int) = -1 → mdI X.st p ≠ 0 := fun e => by omega
  have e2 : ((p / 8 : Nat) : Int) = -1 → lfI X.st p ≠ 0 := fun e => by omega
  obtain ⟨g1, g2, _, g4⟩ := RInv.set x n h.i hn e1 e2 hr
  exact ⟨⟨g1, RMn.set x hx n h.m h.i hn e1 e2 hr, RNe.set x hx n h.n h.i hn e1 e2 hr⟩, g2, g4⟩
end
end Go.Proofs.YtfmclbacoffdaaaDoor
