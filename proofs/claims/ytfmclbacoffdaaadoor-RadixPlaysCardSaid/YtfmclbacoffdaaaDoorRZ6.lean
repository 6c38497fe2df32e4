/- The radix map, plain: a page loses its word. | The radix map, plain: Clear. | The radix map, plain: a new map; as many nodes as sets of pages with a word, and one more. | The radix map, plain: packed descriptions. | The radix map, plain: what Set, Clear and Get answer. | The radix map: made, part, leaf, Nodes. -/
import Derived.Test.YtfmclbacoffdaaaDoorRZ5
import Derived.Test.YtfmclbacoffdaaaDoorRZ1
import Derived.Test.YtfmclbacoffdaaaDoorRZ4
namespace Go.Proofs.YtfmclbacoffdaaaDoor
section
variable {X : RM}
theorem RInv.give0_rd (h : RInv X) {k : Nat} (hk : k < 16) (h0 : (X.N 0).kd k ≠ 0) (he : ∀ j, j < 8 → (X.N ((X.N 0).kd k)).kd j = 0) (q : Nat) (hq : q < 1024) :
    mdI (giveM X 0 k).st q = (if q / 64 = k then 0 else mdI X.st q) ∧ lfI (giveM X 0 k).st q = lfI X.st q ∧ wdI (giveM X 0 k).st q = wdI X.st q := by
  obtain ⟨hl, hlv1⟩ := h.k0 k hk h0
  have hN := giveM_N (k := k) h.n1 hl h0
  have e1 : mdI (giveM X 0 k).st q = if q / 64 = k then 0 else mdI X.st q := by
    show ((giveM X 0 k).N 0).kd (q / 64) = _
    rw [hN 0, if_pos rfl]; rfl
  have e2 : lfI (giveM X 0 k).st q = lfI X.st q := by
    unfold lfI
    rw [e1]
    by_cases e : q / 64 = k
    · rw [if_pos e, if_pos rfl]
      split
      · rfl
      · have := he (q / 8 % 8) (by omega)
        have em : mdI X.st q = (X.N 0).kd k := by unfold mdI; rw [e]
        rw [em]; exact this.symm
    · rw [if_neg e]
      by_cases hz : mdI X.st q = 0
      · rw [if_pos hz, if_pos hz]
      · rw [if_neg hz, if_neg hz]
        show ((giveM X 0 k).N (mdI X.st q)).kd _ = _
        have hne : mdI X.st q ≠ (X.N 0).kd k := fun e3 => e (h.i0 (q / 64) k (by omega) hk hz e3)
        rw [hN _, if_neg hz, if_neg hne]
  refine ⟨e1, e2, ?_⟩
  unfold wdI
  rw [e2]
  by_cases hz : lfI X.st q = 0
  · rw [if_pos hz, if_pos hz]
  · rw [if_neg hz, if_neg hz]
    obtain ⟨_, _, _, _, _, h6⟩ := h.leaf hq hz
    show ((giveM X 0 k).N (lfI X.st q)).wd _ = _
    have hne : lfI X.st q ≠ (X.N 0).kd k := fun e3 => by rw [e3] at h6; omega
    rw [hN _, if_neg hz, if_neg hne]
theorem RInv.give1_rd (h : RInv X) {i a k : Nat} (ha : a < 16) (hai : (X.N 0).kd a = i) (hi0 : i ≠ 0) (hk : k < 8) (h0 : (X.N i).kd k ≠ 0) (hw : ∀ j, j < 8 → (X.N ((X.N i).kd k)).wd j = 0) (q : Nat) (hq : q < 1024) :
    mdI (giveM X i k).st q = mdI X.st q ∧ lfI (giveM X i k).st q = (if q / 64 = a ∧ q / 8 % 8 = k then 0 else lfI X.st q) ∧ wdI (giveM X i k).st q = wdI X.st q := by
  obtain ⟨hi, hli⟩ := h.k0 a ha (by rw [hai]; exact hi0)
  rw [hai] at hi hli
  obtain ⟨hl, hlv2⟩ := h.k1 i hi hli k hk h0
  have hfi : (X.N i).kd k ≠ i := fun e => by rw [e] at hlv2; omega
  have hN := giveM_N (k := k) hi hl hfi
  have e1 : mdI (giveM X i k).st q = mdI X.st q := by
    show ((giveM X i k).N 0).kd (q / 64) = _
    rw [hN 0, if_neg (fun e => hi0 e.symm), if_neg (fun e => h0 e.symm)]
    rfl
  have e2 : lfI (giveM X i k).st q = if q / 64 = a ∧ q / 8 % 8 = k then 0 else lfI X.st q := by
    unfold lfI
    rw [e1]
    by_cases hz : mdI X.st q = 0
    · rw [if_pos hz, if_pos hz]
      split <;> rfl
    · rw [if_neg hz, if_neg hz]
      have h1 : (X.N (mdI X.st q)).lv = 1 := (h.k0 (q / 64) (by omega) hz).2
      have hne : mdI X.st q ≠ (X.N i).kd k := fun e3 => by rw [e3] at h1; omega
      show ((giveM X i k).N (mdI X.st q)).kd _ = _
      rw [hN _]
      by_cases e : mdI X.st q = i
      · have hqa : q / 64 = a := h.i0 (q / 64) a (by omega) ha hz (by rw [hai]; exact e)
        rw [if_pos e]
        show upd (X.N i).kd k 0 (q / 8 % 8) = _
        unfold upd
        by_cases e4 : q / 8 % 8 = k
        · rw [if_pos e4, if_pos ⟨hqa, e4⟩]
        · rw [if_neg e4, if_neg (fun h => e4 h.2), e]
      · rw [if_neg e, if_neg hne, if_neg]
        rintro ⟨e4, _⟩
        apply e
        rw [← hai, ← e4]; rfl
  refine ⟨e1, e2, ?_⟩
  unfold wdI
  rw [e2]
  by_cases e : q / 64 = a ∧ q / 8 % 8 = k
  · rw [if_pos e, if_pos rfl]
    have hm : mdI X.st q = i := by unfold mdI; rw [e.1]; exact hai
    have hlf : lfI X.st q = (X.N i).kd k := by
      unfold lfI
      rw [hm, if_neg hi0, e.2]
    rw [hlf, if_neg h0]
    exact (hw (q % 8) (by omega)).symm
  · rw [if_neg e]
    by_cases hz : lfI X.st q = 0
    · rw [if_pos hz, if_pos hz]
    · rw [if_neg hz, if_neg hz]
      obtain ⟨g1, g2, g3, g4, g5, g6⟩ := h.leaf hq hz
      show ((giveM X i k).N (lfI X.st q)).wd _ = _
      have hne2 : lfI X.st q ≠ i := fun e3 => by rw [e3] at g6; omega
      have hne : lfI X.st q ≠ (X.N i).kd k := fun e3 => by
        obtain ⟨c1, c2⟩ := h.i1 (mdI X.st q) i (q / 8 % 8) k g2 hi g3 hli (by omega) hk (by rw [← g4]; exact hz) (by rw [← g4, e3])
        exact e ⟨h.i0 (q / 64) a (by omega) ha g1 (by rw [hai]; exact c1), c2⟩
      rw [hN _, if_neg hne2, if_neg hne]
theorem RMn.give0 (hm : RMn X) (h : RInv X) {k : Nat} (hk : k < 16) (h0 : (X.N 0).kd k ≠ 0) : RMn (giveM X 0 k) := by
  obtain ⟨hl, hlv1⟩ := h.k0 k hk h0
  have hN := giveM_N (k := k) h.n1 hl h0
  have hlen : (giveM X 0 k).st.length = X.st.length := giveM_len X 0 k
  refine ⟨fun i hi h2 => ?_, fun i hi h1 => ?_, ?_⟩
  · rw [hlen] at hi
    rw [hN i] at h2 ⊢
    by_cases e : i = 0
    · rw [if_pos e] at h2
      have : (kidZ (X.N 0) k).lv = (X.N 0).lv := rfl
      rw [this, h.root] at h2; omega
    · rw [if_neg e] at h2 ⊢
      by_cases e2 : i = (X.N 0).kd k
      · rw [if_pos e2] at h2
        have : (nd0 (-1)).lv = -1 := rfl
        rw [this] at h2; omega
      · rw [if_neg e2] at h2 ⊢; exact hm.m2 i hi h2
  · rw [hlen] at hi
    rw [hN i] at h1 ⊢
    by_cases e : i = 0
    · rw [if_pos e] at h1
      have : (kidZ (X.N 0) k).lv = (X.N 0).lv := rfl
      rw [this, h.root] at h1; omega
    · rw [if_neg e] at h1 ⊢
      by_cases e2 : i = (X.N 0).kd k
      · rw [if_pos e2] at h1
        have : (nd0 (-1)).lv = -1 := rfl
        rw [this] at h1; omega
      · rw [if_neg e2] at h1 ⊢; exact hm.m1 i hi h1
  · rw [hN 0, if_pos rfl]
    have := sum_down (f := (X.N 0).kd) hk h0
    have hr := hm.m0
    unfold rootC at hr
    show (X.N 0).mn - 1 = sumN (fun j => if upd (X.N 0).kd k 0 j = 0 then 0 else 1) 16
    omega
theorem RMn.give1 (hm : RMn X) (h : RInv X) {i a k : Nat} (ha : a < 16) (hai : (X.N 0).kd a = i) (hi0 : i ≠ 0) (hk : k < 8) (h0 : (X.N i).kd k ≠ 0) : RMn (giveM X i k) := by
  obtain ⟨hi, hli⟩ := h.k0 a ha (by rw [hai]; exact hi0)
  rw [hai] at hi hli
  obtain ⟨hl, hlv2⟩ := h.k1 i hi hli k hk h0
  have hfi : (X.N i).kd k ≠ i := fun e => by rw [e] at hlv2; omega
  have hN := giveM_N (k := k) hi hl hfi
  have hlen : (giveM X i k).st.length = X.st.length := giveM_len X i k
  refine ⟨fun j hj h2 => ?_, fun j hj h1 => ?_, ?_⟩
  · rw [hlen] at hj
    rw [hN j] at h2 ⊢
    by_cases e : j = i
    · rw [if_pos e] at h2
      have : (kidZ (X.N i) k).lv = (X.N i).lv := rfl
      rw [this, hli] at h2; omega
    · rw [if_neg e] at h2 ⊢
      by_cases e2 : j = (X.N i).kd k
      · rw [if_pos e2] at h2
        have : (nd0 (-1)).lv = -1 := rfl
        rw [this] at h2; omega
      · rw [if_neg e2] at h2 ⊢; exact hm.m2 j hj h2
  · rw [hlen] at hj
    rw [hN j] at h1 ⊢
    by_cases e : j = i
    · rw [if_pos e]
      have := sum_down (f := (X.N i).kd) hk h0
      have hr := hm.m1 i hi hli
      unfold kidC at hr
      show (X.N i).mn - 1 = sumN (fun j => if upd (X.N i).kd k 0 j = 0 then 0 else 1) 8
      omega
    · rw [if_neg e] at h1 ⊢
      by_cases e2 : j = (X.N i).kd k
      · rw [if_pos e2] at h1
        have : (nd0 (-1)).lv = -1 := rfl
        rw [this] at h1; omega
      · rw [if_neg e2] at h1 ⊢; exact hm.m1 j hj h1
  · rw [hN 0, if_neg (fun e => hi0 e.symm), if_neg (fun e => h0 e.symm)]
    exact hm.m0
/-- the word is taken -/
def clrW (X : RM) (p : Nat) : RM := { X with st := X.st.set (lfI X.st p) (wordZ (X.N (lfI X.st p)) (p % 8)) }
/-- .. and the leaf, if it is empty -/
def clrL (X : RM) (p : Nat) : RM := giveM (clrW X p) (mdI X.st p) (p / 8 % 8)
/-- a page loses its word -/
def clrM (X : RM) (p : Nat) : RM :=
  if wdI X.st p = 0 then X
  else if ((clrW X p).N (lfI X.st p)).mn ≠ 0 then clrW X p
  else if ((clrL X p).N (mdI X.st p)).mn ≠ 0 then clrL X p
  else giveM (clrL X p) 0 (p / 64)
/-- what hangs at the root holds words -/
def RNe (X : RM) : Prop := ∀ p, p < 1024 → (mdI X.st p ≠ 0 → ∃ q, q < 1024 ∧ q / 64 = p / 64 ∧ wdI X.st q ≠ 0) ∧ (lfI X.st p ≠ 0 → ∃ q, q < 1024 ∧ q / 8 = p / 8 ∧ wdI X.st q ≠ 0)
theorem RNe.put (hn : RNe X) {Y : RM} {x p : Nat} (hp : p < 1024) (hx : x ≠ 0) (hS : PutS X x p Y) : RNe Y := fun r hr => by
  have hpw : wdI Y.st p ≠ 0 := by rw [hS.w p hp, if_pos rfl]; exact hx
  have keep : ∀ q, q < 1024 → wdI X.st q ≠ 0 → wdI Y.st q ≠ 0 := fun q hq h => by
    rw [hS.w q hq]; split
    · exact hx
    · exact h
  refine ⟨fun h => ?_, fun h => ?_⟩
  · by_cases e : r / 64 = p / 64
    · exact ⟨p, hp, e.symm, hpw⟩
    · have : mdI X.st r ≠ 0 := fun h0 => h ((hS.md r hr).2 ⟨h0, e⟩)
      obtain ⟨q, a, b, c⟩ := (hn r hr).1 this
      exact ⟨q, a, b, keep q a c⟩
  · by_cases e : r / 8 = p / 8
    · exact ⟨p, hp, e.symm, hpw⟩
    · have : lfI X.st r ≠ 0 := fun h0 => h ((hS.lf r hr).2 ⟨h0, e⟩)
      obtain ⟨q, a, b, c⟩ := (hn r hr).2 this
      exact ⟨q, a, b, keep q a c⟩
end
end Go.Proofs.YtfmclbacoffdaaaDoor

namespace Go.Proofs.YtfmclbacoffdaaaDoor
/-- all that holds of a map -/
structure RAll (X : RM) : Prop where
  i : RInv X
  m : RMn X
  n : RNe X
section
variable {X : RM}
theorem clrW_all (h : RAll X) {p : Nat} (hp : p < 1024) (hw : wdI X.st p ≠ 0) :
    RInv (clrW X p) ∧ RMn (clrW X p) ∧ (∀ q, q < 1024 → mdI (clrW X p).st q = mdI X.st q ∧ lfI (clrW X p).st q = lfI X.st q ∧ wdI (clrW X p).st q = if q = p then 0 else wdI X.st q) := by
  have hl0 : lfI X.st p ≠ 0 := fun e => hw (by unfold wdI; rw [if_pos e])
  obtain ⟨a1, a2, a3, a4, a5, a6⟩ := h.i.leaf hp hl0
  have hN : ∀ j, (clrW X p).N j = if j = lfI X.st p then wordZ (X.N (lfI X.st p)) (p % 8) else X.N j := fun j => N_set a5
  have hlv : ∀ j, ((clrW X p).N j).lv = (X.N j).lv := fun j => by
    rw [hN]; split
    · rename_i e; rw [e]; rfl
    · rfl
  have hkd : ∀ j, ((clrW X p).N j).kd = (X.N j).kd := fun j => by
    rw [hN]; split
    · rename_i e; rw [e]; rfl
    · rfl
  have hmd : ∀ q, mdI (clrW X p).st q = mdI X.st q := fun q => by
    show ((clrW X p).N 0).kd _ = _
    rw [hkd]; rfl
  have hlf : ∀ q, lfI (clrW X p).st q = lfI X.st q := fun q => by
    unfold lfI
    rw [hmd]
    split
    · rfl
    · show ((clrW X p).N _).kd _ = _
      rw [hkd]
  have hwp : (X.N (lfI X.st p)).wd (p % 8) ≠ 0 := by
    unfold wdI at hw
    rw [if_neg hl0] at hw; exact hw
  refine ⟨h.i.same (by simp [clrW]) rfl rfl hlv hkd, ⟨fun j hj h2 => ?_, fun j hj h1 => ?_, ?_⟩, fun q hq => ⟨hmd q, hlf q, ?_⟩⟩
  · rw [hlv] at h2
    have hj' : j < X.st.length := by simpa [clrW] using hj
    rw [hN j]
    by_cases e : j = lfI X.st p
    · rw [if_pos e]
      have := sum_down (f := (X.N (lfI X.st p)).wd) (k := p % 8) (n := 8) (by omega) hwp
      have hr := h.m.m2 _ a5 a6
      unfold wordC at hr
      show (X.N (lfI X.st p)).mn - 1 = sumN (fun j => if upd (X.N (lfI X.st p)).wd (p % 8) 0 j = 0 then 0 else 1) 8
      omega
    · rw [if_neg e]; exact h.m.m2 j hj' h2
  · rw [hlv] at h1
    have hj' : j < X.st.length := by simpa [clrW] using hj
    rw [hN j]
    by_cases e : j = lfI X.st p
    · rw [e, a6] at h1; omega
    · rw [if_neg e]; exact h.m.m1 j hj' h1
  · rw [hN 0, if_neg (fun e => hl0 e.symm)]; exact h.m.m0
  · unfold wdI
    rw [hlf]
    by_cases hz : lfI X.st q = 0
    · rw [if_pos hz, if_pos hz]
      split <;> rfl
    · rw [if_neg hz, if_neg hz]
      show ((clrW X p).N (lfI X.st q)).wd _ = _
      rw [hN]
      by_cases e : q = p
      · subst e
        rw [if_pos rfl, if_pos rfl]
        show upd _ _ _ _ = _
        unfold upd
        rw [if_pos rfl]
      · rw [if_neg e]
        split
        · rename_i e2
          have := h.i.leaf_inj hp hq hl0 e2
          show upd _ _ _ _ = _
          unfold upd
          rw [if_neg (by omega), e2]
        · rfl
/-- Clear of a page -/
theorem RAll.clr (h : RAll X) {p : Nat} (hp : p < 1024) : RAll (clrM X p) ∧ (clrM X p).st.length = X.st.length ∧ ∀ q, q < 1024 → wdI (clrM X p).st q = if q = p then 0 else wdI X.st q := by
  unfold clrM
  by_cases hw : wdI X.st p = 0
  · rw [if_pos hw]
    refine ⟨h, rfl, fun q _ => ?_⟩
    split
    · rename_i e; rw [e]; exact hw
    · rfl
  · rw [if_neg hw]
    obtain ⟨i1, m1, r1⟩ := clrW_all h hp hw
    have len1 : (clrW X p).st.length = X.st.length := by simp [clrW]
    have hl0 : lfI X.st p ≠ 0 := fun e => hw (by unfold wdI; rw [if_pos e])
    obtain ⟨a1, a2, a3, a4, a5, a6⟩ := h.i.leaf hp hl0
    obtain ⟨b1, b2, b3⟩ := r1 p hp
    obtain ⟨c1, c2, c3, c4, c5, c6⟩ := i1.leaf hp (by rw [b2]; exact hl0)
    rw [b1] at c1 c2 c3
    rw [b2] at c5 c6
    by_cases hm1 : ((clrW X p).N (lfI X.st p)).mn ≠ 0
    · rw [if_pos hm1]
      have hs := m1.m2 _ c5 c6
      obtain ⟨j, hj, hjw⟩ := sum_some (f := ((clrW X p).N (lfI X.st p)).wd) (n := 8) (by
        have := hs
        unfold wordC at this
        rw [← this]; exact hm1)
      have hq0 : wdI (clrW X p).st (p / 8 * 8 + j) ≠ 0 := by
        have hlq : lfI (clrW X p).st (p / 8 * 8 + j) = lfI X.st p := by
          rw [(r1 _ (by omega)).2.1]
          unfold lfI mdI
          rw [show (p / 8 * 8 + j) / 64 = p / 64 by omega, show (p / 8 * 8 + j) / 8 = p / 8 by omega]
        unfold wdI
        rw [hlq, if_neg hl0, show (p / 8 * 8 + j) % 8 = j by omega]
        exact hjw
      refine ⟨⟨i1, m1, fun r hr => ?_⟩, len1, fun q hq => (r1 q hq).2.2⟩
      obtain ⟨g1, g2, _⟩ := r1 r hr
      have keep : ∀ q, q < 1024 → q ≠ p → wdI X.st q ≠ 0 → wdI (clrW X p).st q ≠ 0 := fun q hq e h0 => by rw [(r1 q hq).2.2, if_neg e]; exact h0
      refine ⟨fun hne => ?_, fun hne => ?_⟩
      · rw [g1] at hne
        obtain ⟨q, x1, x2, x3⟩ := (h.n r hr).1 hne
        by_cases e : q = p
        · exact ⟨p / 8 * 8 + j, by omega, by rw [← x2, e]; omega, hq0⟩
        · exact ⟨q, x1, x2, keep q x1 e x3⟩
      · rw [g2] at hne
        obtain ⟨q, x1, x2, x3⟩ := (h.n r hr).2 hne
        by_cases e : q = p
        · exact ⟨p / 8 * 8 + j, by omega, by rw [← x2, e]; omega, hq0⟩
        · exact ⟨q, x1, x2, keep q x1 e x3⟩
    · rw [if_neg hm1]
      have hm1' : ((clrW X p).N (lfI X.st p)).mn = 0 := by omega
      have hs := m1.m2 _ c5 c6
      rw [hm1'] at hs
      have hz : ∀ j, j < 8 → ((clrW X p).N (lfI X.st p)).wd j = 0 := fun j hj => sum_none (f := ((clrW X p).N (lfI X.st p)).wd) hs.symm hj
      have hak : ((clrW X p).N 0).kd (p / 64) = mdI X.st p := b1
      have hlk : ((clrW X p).N (mdI X.st p)).kd (p / 8 % 8) = lfI X.st p := by
        have := c4
        rw [b1, b2] at this
        exact this.symm
      have i2 : RInv (clrL X p) := i1.give1 (show p / 64 < 16 by omega) hak c1 (by omega) (by rw [hlk]; exact hl0)
      have m2 : RMn (clrL X p) := m1.give1 i1 (show p / 64 < 16 by omega) hak c1 (by omega) (by rw [hlk]; exact hl0)
      have r2 : ∀ q, q < 1024 → mdI (clrL X p).st q = mdI X.st q ∧ lfI (clrL X p).st q = (if q / 8 = p / 8 then 0 else lfI X.st q) ∧ wdI (clrL X p).st q = if q = p then 0 else wdI X.st q := fun q hq => by
        obtain ⟨g1, g2, g3⟩ := i1.give1_rd (show p / 64 < 16 by omega) hak c1 (show p / 8 % 8 < 8 by omega) (by rw [hlk]; exact hl0) (by rw [hlk]; exact hz) q hq
        obtain ⟨f1, f2, f3⟩ := r1 q hq
        refine ⟨g1.trans f1, ?_, g3.trans f3⟩
        refine g2.trans ?_
        rw [f2]
        by_cases e : q / 8 = p / 8
        · rw [if_pos e, if_pos (by omega)]
        · rw [if_neg e, if_neg (by omega)]
      have len2 : (clrL X p).st.length = X.st.length := by unfold clrL; rw [giveM_len, len1]
      -- what is left at other leaves
      have hne2 : ∀ r, r < 1024 → lfI (clrL X p).st r ≠ 0 → ∃ q, q < 1024 ∧ q / 8 = r / 8 ∧ wdI (clrL X p).st q ≠ 0 := fun r hr hne => by
        rw [(r2 r hr).2.1] at hne
        by_cases e : r / 8 = p / 8
        · rw [if_pos e] at hne; exact absurd rfl hne
        · rw [if_neg e] at hne
          obtain ⟨q, x1, x2, x3⟩ := (h.n r hr).2 hne
          refine ⟨q, x1, x2, ?_⟩
          rw [(r2 q x1).2.2, if_neg (fun e2 => e (by rw [← x2, e2]))]
          exact x3
      have hoth : ∀ r, r < 1024 → r / 64 ≠ p / 64 → mdI X.st r ≠ 0 → ∃ q, q < 1024 ∧ q / 64 = r / 64 ∧ wdI (clrL X p).st q ≠ 0 := fun r hr e hne => by
        obtain ⟨q, x1, x2, x3⟩ := (h.n r hr).1 hne
        refine ⟨q, x1, x2, ?_⟩
        rw [(r2 q x1).2.2, if_neg (fun e2 => e (by rw [← x2, e2]))]
        exact x3
      have hkp : ((clrL X p).N 0).kd (p / 64) = mdI X.st p := (r2 p hp).1
      have hc2 := i2.k0 (p / 64) (by omega) (by rw [hkp]; exact c1)
      rw [hkp] at hc2
      have hs2 := m2.m1 _ hc2.1 hc2.2
      by_cases hm2 : ((clrL X p).N (mdI X.st p)).mn ≠ 0
      · rw [if_pos hm2]
        obtain ⟨j, hj, hjk⟩ := sum_some (f := ((clrL X p).N (mdI X.st p)).kd) (n := 8) (by
          have := hs2
          unfold kidC at this
          rw [← this]; exact hm2)
        have hlr : lfI (clrL X p).st (p / 64 * 64 + j * 8) ≠ 0 := by
          have hmr : mdI (clrL X p).st (p / 64 * 64 + j * 8) = mdI X.st p := by
            rw [(r2 _ (by omega)).1]
            unfold mdI
            rw [show (p / 64 * 64 + j * 8) / 64 = p / 64 by omega]
          unfold lfI
          rw [hmr, if_neg c1, show (p / 64 * 64 + j * 8) / 8 % 8 = j by omega]
          exact hjk
        obtain ⟨q0, y1, y2, y3⟩ := hne2 _ (by omega) hlr
        refine ⟨⟨i2, m2, fun r hr => ⟨fun hne => ?_, fun hne => hne2 r hr hne⟩⟩, len2, fun q hq => (r2 q hq).2.2⟩
        rw [(r2 r hr).1] at hne
        by_cases e : r / 64 = p / 64
        · exact ⟨q0, y1, by omega, y3⟩
        · exact hoth r hr e hne
      · rw [if_neg hm2]
        have hm2' : ((clrL X p).N (mdI X.st p)).mn = 0 := by omega
        rw [hm2'] at hs2
        have hz2 : ∀ j, j < 8 → ((clrL X p).N (mdI X.st p)).kd j = 0 := fun j hj => sum_none (f := ((clrL X p).N (mdI X.st p)).kd) hs2.symm hj
        have i3 : RInv (giveM (clrL X p) 0 (p / 64)) := i2.give0 (by omega) (by rw [hkp]; exact c1) (by rw [hkp]; exact hz2)
        have m3 : RMn (giveM (clrL X p) 0 (p / 64)) := m2.give0 i2 (by omega) (by rw [hkp]; exact c1)
        have r3 := fun q hq => i2.give0_rd (show p / 64 < 16 by omega) (by rw [hkp]; exact c1) (by rw [hkp]; exact hz2) q hq
        refine ⟨⟨i3, m3, fun r hr => ⟨fun hne => ?_, fun hne => ?_⟩⟩, by rw [giveM_len, len2], fun q hq => (r3 q hq).2.2.trans (r2 q hq).2.2⟩
        · rw [(r3 r hr).1] at hne
          by_cases e : r / 64 = p / 64
          · rw [if_pos e] at hne; exact absurd rfl hne
          · rw [if_neg e, (r2 r hr).1] at hne
            obtain ⟨q, x1, x2, x3⟩ := hoth r hr e hne
            exact ⟨q, x1, x2, by rw [(r3 q x1).2.2]; exact x3⟩
        · rw [(r3 r hr).2.1] at hne
          obtain ⟨q, x1, x2, x3⟩ := hne2 r hr hne
          exact ⟨q, x1, x2, by rw [(r3 q x1).2.2]; exact x3⟩
/-- n pages from p on lose their words -/
def clrN : Nat → RM → Nat → RM
  | 0, X, _ => X
  | n + 1, X, p => clrM (clrN n X p) (p + n)
theorem RAll.clrs (p : Nat) (h : RAll X) : ∀ n, p + n ≤ 1024 → RAll (clrN n X p) ∧ (clrN n X p).st.length = X.st.length ∧ ∀ q, q < 1024 → wdI (clrN n X p).st q = if p ≤ q ∧ q < p + n then 0 else wdI X.st q
  | 0, _ => ⟨h, rfl, fun q _ => by rw [if_neg (by omega)]; rfl⟩
  | n + 1, hn => by
    obtain ⟨g1, g2, g3⟩ := RAll.clrs p h n (by omega)
    obtain ⟨f1, f2, f3⟩ := g1.clr (p := p + n) (by omega)
    refine ⟨f1, f2.trans g2, fun q hq => ?_⟩
    show wdI (clrM (clrN n X p) (p + n)).st q = _
    rw [f3 q hq, g3 q hq]
    by_cases c1 : q = p + n
    · rw [if_pos c1, if_pos (by omega)]
    · rw [if_neg c1]
      by_cases c2 : p ≤ q ∧ q < p + n
      · rw [if_pos c2, if_pos (by omega)]
      · rw [if_neg c2, if_neg (by omega)]
theorem RNe.set (x : Nat) (hx : x ≠ 0) : ∀ (n : Nat) {X : RM} {p : Nat} {b s : Int}, RNe X → RInv X → p + n ≤ 1024 → (((p / 64 : Nat) : Int) = b → mdI X.st p ≠ 0) → (((p / 8 : Nat) : Int) = s → lfI X.st p ≠ 0) → X.m + needF X.st n p b s ≤ X.st.length → RNe (setM x n X p)
  | 0, _, _, _, _, hm, _, _, _, _, _ => hm
  | n + 1, X, p, b, s, hm, h, hn, hb, hs, hr => by
    have t1 : (if mdI X.st p = 0 ∧ ((p / 64 : Nat) : Int) ≠ b then (1 : Nat) else 0) = if mdI X.st p = 0 then 1 else 0 := ite_congr' ⟨fun h => h.1, fun h => ⟨h, fun e => hb e h⟩⟩
    have t2 : (if lfI X.st p = 0 ∧ ((p / 8 : Nat) : Int) ≠ s then (1 : Nat) else 0) = if lfI X.st p = 0 then 1 else 0 := ite_congr' ⟨fun h => h.1, fun h => ⟨h, fun e => hs e h⟩⟩
    simp only [needF] at hr
    rw [t1, t2] at hr
    obtain ⟨hS, _⟩ := h.put (x := x) (p := p) (by omega) (by omega)
    have hne := need_put hS n (p + 1) (by omega) (by omega)
    rw [show p + 1 - 1 = p by omega] at hne
    rw [setM_cons]
    exact RNe.set x hx n (b := ((p / 64 : Nat) : Int)) (s := ((p / 8 : Nat) : Int)) (hm.put (by omega) hx hS) hS.inv (by omega)
      (fun e h0 => by have := (hS.md (p + 1) (by omega)).1 h0; omega) (fun e h0 => by have := (hS.lf (p + 1) (by omega)).1 h0; omega) (by rw [hS.m, hS.len, hne]; omega)
/-- Set of pages -/
theorem RAll.sets (h : RAll X) {x n p : Nat} (hx : x ≠ 0) (hn : p + n ≤ 1024) (hr : X.m + needF X.st n p (-1) (-1) ≤ X.st.length) :
    RAll (setM x n X p) ∧ setOk x n X p = true ∧ ∀ q, q < 1024 → wdI (setM x n X p).st q = if p ≤ q ∧ q < p + n then x else wdI X.st q := by
  have e1 : ((p / 64 : Nat) : Int) = -1 → mdI X.st p ≠ 0 := fun e => by omega
  have e2 : ((p / 8 : Nat) : Int) = -1 → lfI X.st p ≠ 0 := fun e => by omega
  obtain ⟨g1, g2, _, g4⟩ := RInv.set x n h.i hn e1 e2 hr
  exact ⟨⟨g1, RMn.set x hx n h.m h.i hn e1 e2 hr, RNe.set x hx n h.n h.i hn e1 e2 hr⟩, g2, g4⟩
end
end Go.Proofs.YtfmclbacoffdaaaDoor

namespace Go.Proofs.YtfmclbacoffdaaaDoor
theorem newM_N {n j : Nat} (hn : 1 ≤ n) (hj : j < n) : (newM n).N j = if j = 0 then nd0 0 else nd0 (-1) := by
  show ((List.replicate n (nd0 (-1))).set 0 (nd0 0)).getD j ndZ = _
  rw [N_set (by rw [List.length_replicate]; omega)]
  by_cases e : j = 0
  · rw [if_pos e, if_pos e]
  · rw [if_neg e, if_neg e]
    simp [List.getD, hj]
theorem newM_len (n : Nat) : (newM n).st.length = n := by simp [newM]
theorem newM_all {n : Nat} (hn : 1 ≤ n) : RAll (newM n) := by
  have h0 : (newM n).N 0 = nd0 0 := by rw [newM_N hn hn, if_pos rfl]
  have hk0 : ∀ k, ((newM n).N 0).kd k = 0 := fun k => by rw [h0]; rfl
  have hlv : ∀ i, i < n → ((newM n).N i).lv = if i = 0 then 0 else -1 := fun i hi => by
    rw [newM_N hn hi]; split <;> rfl
  have hr : (newM n).r = filled (fun _ => false) 0 (0 + 1) true := rfl
  refine ⟨⟨by rw [newM_len]; exact hn, by rw [h0]; rfl, fun i hi => ?_, fun i hi => ?_, ?_, fun k _ hne => absurd (hk0 k) hne, fun i hi h1 => ?_, fun k k' _ _ hne => absurd (hk0 k) hne, fun i i' k k' hi hi' h1 => ?_, ?_⟩, ⟨fun i hi h2 => ?_, fun i hi h1 => ?_, ?_⟩, fun p _ => ⟨fun h => absurd (hk0 _) h, fun h => ?_⟩⟩
  · rw [newM_len] at hi
    rw [hlv i hi, hr]
    unfold filled
    by_cases e : i = 0
    · rw [if_pos (by omega), if_pos e]; rfl
    · rw [if_neg (by omega), if_neg e]; rfl
  · rw [newM_len] at hi
    rw [hr]
    unfold filled
    rw [if_neg (by omega)]
  · rw [newM_len, hr, cnt_fill rfl, cnt_none n (fun _ _ _ => rfl), if_pos (show 0 < n by omega)]
    rfl
  · rw [newM_len] at hi; rw [hlv i hi] at h1; split at h1 <;> omega
  · rw [newM_len] at hi; rw [hlv i hi] at h1; split at h1 <;> omega
  · unfold treeC
    rw [sumN_zero 16 (fun j _ => by rw [hk0 j]; rfl)]
    rfl
  · rw [newM_len] at hi; rw [hlv i hi] at h2; split at h2 <;> omega
  · rw [newM_len] at hi; rw [hlv i hi] at h1; split at h1 <;> omega
  · rw [h0]; exact (sumN_zero 16 fun j _ => rfl).symm
  · exfalso
    apply h
    have hm : mdI (newM n).st p = 0 := hk0 _
    unfold lfI
    rw [if_pos hm]
theorem newM_wd {n : Nat} (hn : 1 ≤ n) (p : Nat) : wdI (newM n).st p = 0 := by
  have h0 : (newM n).N 0 = nd0 0 := by rw [newM_N hn hn, if_pos rfl]
  have hm : mdI (newM n).st p = 0 := by
    show ((newM n).N 0).kd _ = 0
    rw [h0]; rfl
  unfold wdI lfI
  rw [if_pos hm, if_pos rfl]
theorem sumN_add (f g : Nat → Nat) : ∀ n, sumN (fun j => f j + g j) n = sumN f n + sumN g n
  | 0 => rfl
  | n + 1 => by simp only [sumN]; rw [sumN_add f g n]; omega
theorem sumN_more (f : Nat → Nat) (a : Nat) : ∀ n, sumN f (a + n) = sumN f a + sumN (fun j => f (a + j)) n
  | 0 => rfl
  | n + 1 => by
    show sumN f (a + n) + f (a + n) = _
    rw [sumN_more f a n]
    simp only [sumN]
    omega
theorem sumN_eights (f : Nat → Nat) : ∀ n, sumN f (n * 8) = sumN (fun k => sumN (fun j => f (k * 8 + j)) 8) n
  | 0 => rfl
  | n + 1 => by
    rw [show (n + 1) * 8 = n * 8 + 8 by omega, sumN_more, sumN_eights f n]
    rfl
section
variable {X : RM}
theorem RInv.count (h : RInv X) : X.m = 1 + sumN (fun k => if mdI X.st (k * 64) = 0 then 0 else 1) 16 + sumN (fun s => if lfI X.st (s * 8) = 0 then 0 else 1) 128 := by
  rw [h.tree, show (128 : Nat) = 16 * 8 from rfl, sumN_eights, Nat.add_assoc, ← sumN_add]
  unfold treeC
  congr 1
  refine sumN_congr 16 fun k hk => ?_
  have em : mdI X.st (k * 64) = (X.N 0).kd k := by unfold mdI; rw [show k * 64 / 64 = k by omega]
  rw [em]
  by_cases e : (X.N 0).kd k = 0
  · rw [if_pos e, if_pos e, sumN_zero 8 fun j hj => ?_]
    have : lfI X.st ((k * 8 + j) * 8) = 0 := by
      unfold lfI mdI
      rw [show (k * 8 + j) * 8 / 64 = k by omega, if_pos e]
    rw [if_pos this]
  · rw [if_neg e, if_neg e]
    congr 1
    unfold kidC
    refine sumN_congr 8 fun j hj => ?_
    have : lfI X.st ((k * 8 + j) * 8) = (X.N ((X.N 0).kd k)).kd j := by
      unfold lfI mdI
      rw [show (k * 8 + j) * 8 / 64 = k by omega, if_neg e, show (k * 8 + j) * 8 / 8 % 8 = j by omega]
    rw [this]
theorem RAll.big (h : RAll X) {k : Nat} (hk : k < 16) : mdI X.st (k * 64) ≠ 0 ↔ ∃ q, q < 1024 ∧ q / 64 = k ∧ wdI X.st q ≠ 0 := by
  constructor
  · intro hne
    obtain ⟨q, a, b, c⟩ := (h.n (k * 64) (by omega)).1 hne
    exact ⟨q, a, by omega, c⟩
  · rintro ⟨q, a, b, c⟩ e
    apply c
    have : mdI X.st q = 0 := by
      unfold mdI at e ⊢
      rw [show k * 64 / 64 = q / 64 by omega] at e; exact e
    unfold wdI lfI
    rw [if_pos this, if_pos rfl]
theorem RAll.small (h : RAll X) {s : Nat} (hs : s < 128) : lfI X.st (s * 8) ≠ 0 ↔ ∃ q, q < 1024 ∧ q / 8 = s ∧ wdI X.st q ≠ 0 := by
  constructor
  · intro hne
    obtain ⟨q, a, b, c⟩ := (h.n (s * 8) (by omega)).2 hne
    exact ⟨q, a, by omega, c⟩
  · rintro ⟨q, a, b, c⟩ e
    apply c
    have : lfI X.st q = 0 := by
      unfold lfI mdI at e ⊢
      rw [show s * 8 / 64 = q / 64 by omega, show s * 8 / 8 = q / 8 by omega] at e; exact e
    unfold wdI
    rw [if_pos this]
/-- after all pages lose their words there is but the root -/
theorem RAll.empty (h : RAll X) (hz : ∀ q, q < 1024 → wdI X.st q = 0) : X.m = 1 ∧ (∀ k, k < 16 → (X.N 0).kd k = 0) := by
  have h1 : ∀ k, k < 16 → mdI X.st (k * 64) = 0 := fun k hk => by
    by_cases e : mdI X.st (k * 64) = 0
    · exact e
    · obtain ⟨q, a, _, c⟩ := (h.big hk).1 e
      exact absurd (hz q a) c
  have h2 : ∀ s, s < 128 → lfI X.st (s * 8) = 0 := fun s hs => by
    by_cases e : lfI X.st (s * 8) = 0
    · exact e
    · obtain ⟨q, a, _, c⟩ := (h.small hs).1 e
      exact absurd (hz q a) c
  refine ⟨?_, fun k hk => ?_⟩
  · rw [h.i.count, sumN_zero 16 (fun k hk => by rw [h1 k hk]; rfl), sumN_zero 128 (fun s hs => by rw [h2 s hs]; rfl)]
  · have := h1 k hk
    unfold mdI at this
    rwa [show k * 64 / 64 = k by omega] at this
end
end Go.Proofs.YtfmclbacoffdaaaDoor

namespace Go.Proofs.YtfmclbacoffdaaaDoor
def pkE (o s t : Int) : Int := if o < 0 ∨ 4095 < o ∨ s < 0 ∨ 15 < s ∨ t < 0 ∨ 1000000000000 < t then 2 else 0
def pkW (o s t : Int) (h : Bool) : Int := 1 + 2 * o + 8192 * s + 131072 * t + (if h = true then 144115188075855872 else 0)
def pkV (o s t : Int) (h : Bool) : Int := if pkE o s t = 0 then pkW o s t h else 0
def unO (x : Int) : Int := x / 2 % 4096
def unS (x : Int) : Int := x / 8192 % 16
def unT (x : Int) : Int := x / 131072 % 1099511627776
def unH (x : Int) : Bool := decide (x / 144115188075855872 % 2 = 1)
def unE (x : Int) : Int := if x % 2 = 1 ∧ x < 288230376151711744 ∧ unT x ≤ 1000000000000 then 0 else 6
theorem pkE_zero {o s t : Int} (h : pkE o s t = 0) : 0 ≤ o ∧ o ≤ 4095 ∧ 0 ≤ s ∧ s ≤ 15 ∧ 0 ≤ t ∧ t ≤ 1000000000000 := by
  unfold pkE at h
  split at h
  · cases h
  · omega
theorem pkE_ok {o s t : Int} (h : 0 ≤ o ∧ o ≤ 4095 ∧ 0 ≤ s ∧ s ≤ 15 ∧ 0 ≤ t ∧ t ≤ 1000000000000) : pkE o s t = 0 := by
  unfold pkE
  rw [if_neg (by omega)]
theorem pkW_bd {o s t : Int} {h : Bool} (hE : pkE o s t = 0) : 0 < pkW o s t h ∧ pkW o s t h < 288230376151711744 := by
  obtain ⟨h1, h2, h3, h4, h5, h6⟩ := pkE_zero hE
  unfold pkW
  cases h <;> simp <;> omega
theorem un_pk {o s t : Int} {h : Bool} (hE : pkE o s t = 0) : unO (pkW o s t h) = o ∧ unS (pkW o s t h) = s ∧ unT (pkW o s t h) = t ∧ unH (pkW o s t h) = h ∧ unE (pkW o s t h) = 0 := by
  obtain ⟨h1, h2, h3, h4, h5, h6⟩ := pkE_zero hE
  unfold unE unO unS unT unH pkW
  cases h
  · simp only [Bool.false_eq_true, if_false, Int.add_zero]
    refine ⟨by omega, by omega, by omega, decide_eq_false (by omega), ?_⟩
    rw [if_pos (by omega)]
  · simp only [if_true]
    refine ⟨by omega, by omega, by omega, decide_eq_true (by omega), ?_⟩
    rw [if_pos (by omega)]
theorem pk_un {x : Int} (h0 : 0 ≤ x) : unE x = 0 ↔ pkE (unO x) (unS x) (unT x) = 0 ∧ pkW (unO x) (unS x) (unT x) (unH x) = x := by
  have hH : unH x = true ∨ unH x = false := by cases unH x <;> simp
  constructor
  · intro h
    have h' : x % 2 = 1 ∧ x < 288230376151711744 ∧ unT x ≤ 1000000000000 := by
      unfold unE at h
      split at h
      · assumption
      · cases h
    obtain ⟨a, b, c⟩ := h'
    refine ⟨pkE_ok ?_, ?_⟩
    · unfold unO unS unT at *; omega
    · unfold pkW unO unS unT unH at *
      by_cases hb : x / 144115188075855872 % 2 = 1
      · rw [if_pos (decide_eq_true hb)]; omega
      · rw [if_neg (by rw [decide_eq_false hb]; decide)]; omega
  · rintro ⟨a, b⟩
    have c := pkW_bd (h := unH x) a
    rw [b] at c
    have d := pkE_zero a
    unfold unE
    rw [if_pos]
    refine ⟨?_, c.2, d.2.2.2.2.2⟩
    have e : pkW (unO x) (unS x) (unT x) (unH x) % 2 = 1 := by
      unfold pkW
      cases unH x <;> simp <;> omega
    rw [← b]; exact e
end Go.Proofs.YtfmclbacoffdaaaDoor

namespace Go.Proofs.YtfmclbacoffdaaaDoor
/-- the error of a part -/
def paE (f t : Int) : Int := if f < 0 ∨ t < f ∨ 1024 < t then 7 else 0
theorem paE_zero {f t : Int} (h : paE f t = 0) : 0 ≤ f ∧ f ≤ t ∧ t ≤ 1024 := by
  unfold paE at h
  split at h
  · cases h
  · omega
def setE (X : RM) (f t o s c : Int) : Int :=
  if paE f t ≠ 0 then 7 else if pkE o s c ≠ 0 then 2 else if X.st.length < X.m + needF X.st (t - f).toNat f.toNat (-1) (-1) then 5 else 0
def setX (X : RM) (f t o s c : Int) (h : Bool) : RM := if setE X f t o s c = 0 then setM (pkW o s c h).toNat (t - f).toNat X f.toNat else X
def clrX (X : RM) (f t : Int) : RM := if paE f t = 0 then clrN (t - f).toNat X f.toNat else X
/-- every word is packed -/
def RWk (X : RM) : Prop := ∀ q, q < 1024 → wdI X.st q ≠ 0 → unE (wdI X.st q : Int) = 0
section
variable {X : RM}
theorem setE_zero {f t o s c : Int} (h : setE X f t o s c = 0) : paE f t = 0 ∧ pkE o s c = 0 ∧ X.m + needF X.st (t - f).toNat f.toNat (-1) (-1) ≤ X.st.length := by
  unfold setE at h
  split at h
  · cases h
  · rename_i h1
    split at h
    · cases h
    · rename_i h2
      split at h
      · cases h
      · rename_i h3
        exact ⟨by simpa using h1, by simpa using h2, by omega⟩
theorem RAll.setX (h : RAll X) (hw : RWk X) (f t o s c : Int) (g : Bool) : RAll (setX X f t o s c g) ∧ RWk (Go.Proofs.YtfmclbacoffdaaaDoor.setX X f t o s c g) ∧ (Go.Proofs.YtfmclbacoffdaaaDoor.setX X f t o s c g).st.length = X.st.length := by
  unfold Go.Proofs.YtfmclbacoffdaaaDoor.setX
  by_cases e : setE X f t o s c = 0
  · rw [if_pos e]
    obtain ⟨h1, h2, h3⟩ := setE_zero e
    obtain ⟨p1, p2, p3⟩ := paE_zero h1
    have hb := pkW_bd (h := g) h2
    have hx : (pkW o s c g).toNat ≠ 0 := by omega
    obtain ⟨g1, g2, g3⟩ := h.sets hx (show f.toNat + (t - f).toNat ≤ 1024 by omega) h3
    refine ⟨g1, fun q hq hne => ?_, setM_len _ _ _ _⟩
    rw [g3 q hq] at hne ⊢
    split
    · rw [Int.toNat_of_nonneg (by omega)]
      exact (un_pk h2).2.2.2.2
    · rename_i hc
      rw [if_neg hc] at hne
      exact hw q hq hne
  · rw [if_neg e]; exact ⟨h, hw, rfl⟩
theorem RAll.clrX (h : RAll X) (hw : RWk X) (f t : Int) : RAll (clrX X f t) ∧ RWk (Go.Proofs.YtfmclbacoffdaaaDoor.clrX X f t) ∧ (Go.Proofs.YtfmclbacoffdaaaDoor.clrX X f t).st.length = X.st.length := by
  unfold Go.Proofs.YtfmclbacoffdaaaDoor.clrX
  by_cases e : paE f t = 0
  · rw [if_pos e]
    obtain ⟨p1, p2, p3⟩ := paE_zero e
    obtain ⟨g1, g2, g3⟩ := h.clrs f.toNat (t - f).toNat (by omega)
    refine ⟨g1, fun q hq hne => ?_, g2⟩
    rw [g3 q hq] at hne ⊢
    split at hne
    · exact absurd rfl hne
    · rename_i hc
      rw [if_neg hc]
      exact hw q hq hne
  · rw [if_neg e]; exact ⟨h, hw, rfl⟩
end
/-- what Get answers -/
def getE (X : RM) (p : Int) : Int := if p < 0 ∨ 1023 < p then 7 else if wdI X.st p.toNat = 0 then 4 else unE (wdI X.st p.toNat)
end Go.Proofs.YtfmclbacoffdaaaDoor

namespace Go.Proofs.YtfmclbacoffdaaaDoor
open Go.RowKit Go.Sort Go.Joins
attribute [local go_sem] cell_grow frozen_grow size_grow
theorem and7 : ∀ c : Nat, c < 1024 → bits BinOp.and IntKind.i64 (c : Int) 7 = ((c % 8 : Nat) : Int) := by decide +kernel
theorem and7s {pg : Nat} (h : pg < 1024) : bits BinOp.and IntKind.i64 ((pg : Int) / 8) 7 = ((pg / 8 % 8 : Nat) : Int) := by
  have := and7 (pg / 8) (by omega)
  rwa [show ((pg / 8 : Nat) : Int) = (pg : Int) / 8 by omega] at this
section
variable {w : World} {B p q : Nat} {st : List Nd} {m : Nat} {r : Nat → Bool}
theorem made_ok (h : TM w B p q st m r) : Calls Tryd.prog 41 #[.pointer (some ⟨p, 0, none⟩)] w fun e w' => e = .returned (.bool true) ∧ w = w' := by
  have c0 := h.c0
  have n1 := h.n1
  have d1 : decide (0 < st.length) = true := by simp; omega
  go_enter Tryd.func41, Tryd.ntmps41
  go_wp2
  go_ret
  exact ⟨rfl, rfl⟩
theorem nodes_ok (h : TM w B p q st m r) : Calls Tryd.prog 20 #[.pointer (some ⟨p, 0, none⟩)] w fun e w' => e = .returned (.int .i64 m) ∧ w = w' := by
  have c3 := h.c3
  have HM := Lib.hid (made_ok h)
  clear h
  go_enter Tryd.func20, Tryd.ntmps20
  go_wp2_with fail
  refine HM.out.mono ?_
  rintro e w1 ⟨rfl, rfl⟩
  go_wp2
  go_ret
  exact ⟨rfl, rfl⟩
theorem part_ok (h : TM w B p q st m r) (f t : Int) : Calls Tryd.prog 45 #[.pointer (some ⟨p, 0, none⟩), .int .i64 f, .int .i64 t] w fun e w' => e = .returned (.int .i64 (paE f t)) ∧ w = w' := by
  have HM := Lib.hid (made_ok h)
  have hw : (Hid (paE f t = 7) ∧ decide (f < 0) = true) ∨ (Hid (paE f t = 7) ∧ decide (f < 0) = false ∧ decide (t < f) = true) ∨ (Hid (paE f t = 7) ∧ decide (f < 0) = false ∧ decide (t < f) = false ∧ decide (1024 < t) = true) ∨ (Hid (paE f t = 0) ∧ decide (f < 0) = false ∧ decide (t < f) = false ∧ decide (1024 < t) = false) := by
    unfold paE
    by_cases h1 : f < 0
    · exact .inl ⟨Lib.hid (if_pos (.inl h1)), decide_eq_true h1⟩
    · by_cases h2 : t < f
      · exact .inr (.inl ⟨Lib.hid (if_pos (.inr (.inl h2))), decide_eq_false h1, decide_eq_true h2⟩)
      · by_cases h3 : 1024 < t
        · exact .inr (.inr (.inl ⟨Lib.hid (if_pos (.inr (.inr h3))), decide_eq_false h1, decide_eq_false h2, decide_eq_true h3⟩))
        · exact .inr (.inr (.inr ⟨Lib.hid (if_neg (by omega)), decide_eq_false h1, decide_eq_false h2, decide_eq_false h3⟩))
  clear h
  rcases hw with ⟨HE, d1⟩ | ⟨HE, d1, d2⟩ | ⟨HE, d1, d2, d3⟩ | ⟨HE, d1, d2, d3⟩
  all_goals
    go_enter Tryd.func45, Tryd.ntmps45
    go_wp2_with fail
    refine HM.out.mono ?_
    rintro e w1 ⟨rfl, rfl⟩
    go_wp2
    go_ret
    exact ⟨by rw [HE.out]; rfl, rfl⟩
set_option maxRecDepth 100000 in
set_option maxHeartbeats 1600000 in
theorem leaf_ok (h : TM w B p q st m r) (pg : Nat) (hp : pg < 1024) (hm : mdI st pg < st.length) : Calls Tryd.prog 42 #[.pointer (some ⟨p, 0, none⟩), .int .i64 pg] w fun e w' => e = .returned (.tuple #[.int .i64 (mdI st pg), .int .i64 (lfI st pg)]) ∧ ∃ n, w' = w.drewN n := by
  have c0 := h.c0
  have n1 := h.n1
  have n2 := h.n2
  have k0 := h.kd n1 (show pg / 64 < 16 by omega)
  have k1 := h.kd hm (show pg / 8 % 8 < 16 by omega)
  obtain ⟨md, hmd⟩ : ∃ x, mdI st pg = x := ⟨_, rfl⟩
  have e0 : (st.getD 0 ndZ).kd (pg / 64) = md := hmd
  rw [e0] at k0
  rw [hmd] at k1 hm ⊢
  have HL : Hid (lfI st pg = if md = 0 then 0 else (st.getD md ndZ).kd (pg / 8 % 8)) := Lib.hid (by unfold lfI; rw [hmd])
  obtain ⟨lf, hlf⟩ : ∃ x, (st.getD md ndZ).kd (pg / 8 % 8) = x := ⟨_, rfl⟩
  rw [hlf] at k1 HL
  have i0 : (0 : Int) ≤ (pg : Int) := by omega
  have i1 : (pg : Int) < 1024 := by omega
  have hb := and7s hp
  have j0 : (md : Int) < (st.length : Int) := by omega
  have j1 : (0 : Int) ≤ (md : Int) := by omega
  clear h hmd hlf e0
  by_cases hz : md = 0
  · have dz : ((md : Int) == 0) = true := by simp; omega
    have HZ := Lib.hid hz
    clear hz
    go_enter Tryd.func42, Tryd.ntmps42
    go_wp2
    go_ret2
    exact ⟨by rw [HL.out, if_pos HZ.out, HZ.out]; rfl, 0, rfl⟩
  · have dz : ((md : Int) == 0) = false := by simp; omega
    have HZ := Lib.hid hz
    clear hz
    go_enter Tryd.func42, Tryd.ntmps42
    go_wp2_with fail
    go_quiet (fail)
    go_wp2
    go_ret2
    exact ⟨by rw [HL.out, if_neg HZ.out]; rfl, _, rfl⟩
end
end Go.Proofs.YtfmclbacoffdaaaDoor
