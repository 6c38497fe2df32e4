/- The radix map, plain: a page loses its word. -/
import Derived.Test.YtfmclbacoffdaaaDoorR7Clr
namespace Go.Proofs.YtfmclbacoffdaaaDoor
section
variable {X : RM}
theorem RInv.give0_rd (h : RInv X) {k : Nat} (hk : k < 16) (h0 : (X.N 0).kd k ≠ 0) (he : ∀ j, j < 8 → (X.N ((X.N 0).kd k)).kd j = 0) (q : Nat) (hq : q < 1024) :
    mdI (giveM X 0 k).st q = (if q / 64 = k then 0 else mdI X.st q) ∧ lfI (giveM X 0 k).st q = lfI X.st q ∧ wdI (giveM X 0 k).st q = wdI X.st q := by
  obtain ⟨hl, hlv1⟩ := h.k0 k hk h0
  have hN := giveM_N (k := k) h.n1 hl h0
  have e1 : mdI (giveM X 0 k).st q = if q / 64 = k then 0 else mdI X.st q := by
    show ((giveM X 0 k).N 0).kd (q / 64) = _
    rw [hN 0, if_pos rfl]; rfl
  have e2 : lfI (giveM X 0 k).st q = lfI X.st q := by
    unfold lfI
    rw [e1]
    by_cases e : q / 64 = k
    · rw [if_pos e, if_pos rfl]
      split
      · rfl
      · have := he (q / 8 % 8) (by omega)
        have em : mdI X.st q = (X.N 0).kd k := by unfold mdI; rw [e]
        rw [em]; exact this.symm
    · rw [if_neg e]
      by_cases hz : mdI X.st q = 0
      · rw [if_pos hz, if_pos hz]
      · rw [if_neg hz, if_neg hz]
        show ((giveM X 0 k).N (mdI X.st q)).kd _ = _
        have hne : mdI X.st q ≠ (X.N 0).kd k := fun e3 => e (h.i0 (q / 64) k (by omega) hk hz e3)
        rw [hN _, if_neg hz, if_neg hne]
  refine ⟨e1, e2, ?_⟩
  unfold wdI
  rw [e2]
  by_cases hz : lfI X.st q = 0
  · rw [if_pos hz, if_pos hz]
  · rw [if_neg hz, if_neg hz]
    obtain ⟨_, _, _, _, _, h6⟩ := h.leaf hq hz
    show ((giveM X 0 k).N (lfI X.st q)).wd _ = _
    have hne : lfI X.st q ≠ (X.N 0).kd k := fun e3 => by rw [e3] at h6; omega
    rw [hN _, if_neg hz, if_neg hne]
theorem RInv.give1_rd (h : RInv X) {i a k : Nat} (ha : a < 16) (hai : (X.N 0).kd a = i) (hi0 : i ≠ 0) (hk : k < 8) (h0 : (X.N i).kd k ≠ 0) (hw : ∀ j, j < 8 → (X.N ((X.N i).kd k)).wd j = 0) (q : Nat) (hq : q < 1024) :
    mdI (giveM X i k).st q = mdI X.st q ∧ lfI (giveM X i k).st q = (if q / 64 = a ∧ q / 8 % 8 = k then 0 else lfI X.st q) ∧ wdI (giveM X i k).st q = wdI X.st q := by
  obtain ⟨hi, hli⟩ := h.k0 a ha (by rw [hai]; exact hi0)
  rw [hai] at hi hli
  obtain ⟨hl, hlv2⟩ := h.k1 i hi hli k hk h0
  have hfi : (X.N i).kd k ≠ i := fun e => by rw [e] at hlv2; omega
  have hN := giveM_N (k := k) hi hl hfi
  have e1 : mdI (giveM X i k).st q = mdI X.st q := by
    show ((giveM X i k).N 0).kd (q / 64) = _
    rw [hN 0, if_neg (fun e => hi0 e.symm), if_neg (fun e => h0 e.symm)]
    rfl
  have e2 : lfI (giveM X i k).st q = if q / 64 = a ∧ q / 8 % 8 = k then 0 else lfI X.st q := by
    unfold lfI
    rw [e1]
    by_cases hz : mdI X.st q = 0
    · rw [if_pos hz, if_pos hz]
      split <;> rfl
    · rw [if_neg hz, if_neg hz]
      have h1 : (X.N (mdI X.st q)).lv = 1 := (h.k0 (q / 64) (by omega) hz).2
      have hne : mdI X.st q ≠ (X.N i).kd k := fun e3 => by rw [e3] at h1; omega
      show ((giveM X i k).N (mdI X.st q)).kd _ = _
      rw [hN _]
      by_cases e : mdI X.st q = i
      · have hqa : q / 64 = a := h.i0 (q / 64) a (by omega) ha hz (by rw [hai]; exact e)
        rw [if_pos e]
        show upd (X.N i).kd k 0 (q / 8 % 8) = _
        unfold upd
        by_cases e4 : q / 8 % 8 = k
        · rw [if_pos e4, if_pos ⟨hqa, e4⟩]
        · rw [if_neg e4, if_neg (fun h => e4 h.2), e]
      · rw [if_neg e, if_neg hne, if_neg]
        rintro ⟨e4, _⟩
        apply e
        rw [← hai, ← e4]; rfl
  refine ⟨e1, e2, ?_⟩
  unfold wdI
  rw [e2]
  by_cases e : q / 64 = a ∧ q / 8 % 8 = k
  · rw [if_pos e, if_pos rfl]
    have hm : mdI X.st q = i := by unfold mdI; rw [e.1]; exact hai
    have hlf : lfI X.st q = (X.N i).kd k := by
      unfold lfI
      rw [hm, if_neg hi0, e.2]
    rw [hlf, if_neg h0]
    exact (hw (q % 8) (by omega)).symm
  · rw [if_neg e]
    by_cases hz : lfI X.st q = 0
    · rw [if_pos hz, if_pos hz]
    · rw [if_neg hz, if_neg hz]
      obtain ⟨g1, g2, g3, g4, g5, g6⟩ := h.leaf hq hz
      show ((giveM X i k).N (lfI X.st q)).wd _ = _
      have hne2 : lfI X.st q ≠ i := fun e3 => by rw [e3] at g6; omega
      have hne : lfI X.st q ≠ (X.N i).kd k := fun e3 => by
        obtain ⟨c1, c2⟩ := h.i1 (mdI X.st q) i (q / 8 % 8) k g2 hi g3 hli (by omega) hk (by rw [← g4]; exact hz) (by rw [← g4, e3])
        exact e ⟨h.i0 (q / 64) a (by omega) ha g1 (by rw [hai]; exact c1), c2⟩
      rw [hN _, if_neg hne2, if_neg hne]
theorem RMn.give0 (hm : RMn X) (h : RInv X) {k : Nat} (hk : k < 16) (h0 : (X.N 0).kd k ≠ 0) : RMn (giveM X 0 k) := by
  obtain ⟨hl, hlv1⟩ := h.k0 k hk h0
  have hN := giveM_N (k := k) h.n1 hl h0
  have hlen : (giveM X 0 k).st.length = X.st.length := giveM_len X 0 k
  refine ⟨fun i hi h2 => ?_, fun i hi h1 => ?_, ?_⟩
  · rw [hlen] at hi
    rw [hN i] at h2 ⊢
    by_cases e : i = 0
    · rw [if_pos e] at h2
      have : (kidZ (X.N 0) k).lv = (X.N 0).lv := rfl
      rw [this, h.root] at h2; omega
    · rw [if_neg e] at h2 ⊢
      by_cases e2 : i = (X.N 0).kd k
      · rw [if_pos e2] at h2
        have : (nd0 (-1)).lv = -1 := rfl
        rw [this] at h2; omega
      · rw [if_neg e2] at h2 ⊢; exact hm.m2 i hi h2
  · rw [hlen] at hi
    rw [hN i] at h1 ⊢
    by_cases e : i = 0
    · rw [if_pos e] at h1
      have : (kidZ (X.N 0) k).lv = (X.N 0).lv := rfl
      rw [this, h.root] at h1; omega
    · rw [if_neg e] at h1 ⊢
      by_cases e2 : i = (X.N 0).kd k
      · rw [if_pos e2] at h1
        have : (nd0 (-1)).lv = -1 := rfl
        rw [this] at h1; omega
      · rw [if_neg e2] at h1 ⊢; exact hm.m1 i hi h1
  · rw [hN 0, if_pos rfl]
    have := sum_down (f := (X.N 0).kd) hk h0
    have hr := hm.m0
    unfold rootC at hr
    show (X.N 0).mn - 1 = sumN (fun j => if upd (X.N 0).kd k 0 j = 0 then 0 else 1) 16
    omega
theorem RMn.give1 (hm : RMn X) (h : RInv X) {i a k : Nat} (ha : a < 16) (hai : (X.N 0).kd a = i) (hi0 : i ≠ 0) (hk : k < 8) (h0 : (X.N i).kd k ≠ 0) : RMn (giveM X i k) := by
  obtain ⟨hi, hli⟩ := h.k0 a ha (by rw [hai]; exact hi0)
  rw [hai] at hi hli
  obtain ⟨hl, hlv2⟩ := h.k1 i hi hli k hk h0
  have hfi : (X.N i).kd k ≠ i := fun e => by rw [e] at hlv2; omega
  have hN := giveM_N (k := k) hi hl hfi
  have hlen : (giveM X i k).st.length = X.st.length := giveM_len X i k
  refine ⟨fun j hj h2 => ?_, fun j hj h1 => ?_, ?_⟩
  · rw [hlen] at hj
    rw [hN j] at h2 ⊢
    by_cases e : j = i
    · rw [if_pos e] at h2
      have : (kidZ (X.N i) k).lv = (X.N i).lv := rfl
      rw [this, hli] at h2; omega
    · rw [if_neg e] at h2 ⊢
      by_cases e2 : j = (X.N i).kd k
      · rw [if_pos e2] at h2
        have : (nd0 (-1)).lv = -1 := rfl
        rw [this] at h2; omega
      · rw [if_neg e2] at h2 ⊢; exact hm.m2 j hj h2
  · rw [hlen] at hj
    rw [hN j] at h1 ⊢
    by_cases e : j = i
    · rw [if_pos e]
      have := sum_down (f := (X.N i).kd) hk h0
      have hr := hm.m1 i hi hli
      unfold kidC at hr
      show (X.N i).mn - 1 = sumN (fun j => if upd (X.N i).kd k 0 j = 0 then 0 else 1) 8
      omega
    · rw [if_neg e] at h1 ⊢
      by_cases e2 : j = (X.N i).kd k
      · rw [if_pos e2] at h1
        have : (nd0 (-1)).lv = -1 := rfl
        rw [this] at h1; omega
      · rw [if_neg e2] at h1 ⊢; exact hm.m1 j hj h1
  · rw [hN 0, if_neg (fun e => hi0 e.symm), if_neg (fun e => h0 e.symm)]
    exact hm.m0
/-- the word is taken -/
def clrW (X : RM) (p : Nat) : RM := { X with st := X.st.set (lfI X.st p) (wordZ (X.N (lfI X.st p)) (p % 8)) }
/-- .. and the leaf, if it is empty -/
def clrL (X : RM) (p : Nat) : RM := giveM (clrW X p) (mdI X.st p) (p / 8 % 8)
/-- a page loses its word -/
def clrM (X : RM) (p : Nat) : RM :=
  if wdI X.st p = 0 then X
  else if ((clrW X p).N (lfI X.st p)).mn ≠ 0 then clrW X p
  else if ((clrL X p).N (mdI X.st p)).mn ≠ 0 then clrL X p
  else giveM (clrL X p) 0 (p / 64)
/-- what hangs at the root holds words -/
def RNe (X : RM) : Prop := ∀ p, p < 1024 → (mdI X.st p ≠ 0 → ∃ q, q < 1024 ∧ q / 64 = p / 64 ∧ wdI X.st q ≠ 0) ∧ (lfI X.st p ≠ 0 → ∃ q, q < 1024 ∧ q / 8 = p / 8 ∧ wdI X.st q ≠ 0)
theorem RNe.put (hn : RNe X) {Y : RM} {x p : Nat} (hp : p < 1024) (hx : x ≠ 0) (hS : PutS X x p Y) : RNe Y := fun r hr => by
  have hpw : wdI Y.st p ≠ 0 := by rw [hS.w p hp, if_pos rfl]; exact hx
  have keep : ∀ q, q < 1024 → wdI X.st q ≠ 0 → wdI Y.st q ≠ 0 := fun q hq h => by
    rw [hS.w q hq]; split
    · exact hx
    · exact h
  refine ⟨fun h => ?_, fun h => ?_⟩
  · by_cases e : r / 64 = p / 64
    · exact ⟨p, hp, e.symm, hpw⟩
    · have : mdI X.st r ≠ 0 := fun h0 => h ((hS.md r hr).2 ⟨h0, e⟩)
      obtain ⟨q, a, b, c⟩ := (hn r hr).1 this
      exact ⟨q, a, b, keep q a c⟩
  · by_cases e : r / 8 = p / 8
    · exact ⟨p, hp, e.symm, hpw⟩
    · have : lfI X.st r ≠ 0 := fun h0 => h ((hS.lf r hr).2 ⟨h0, e⟩)
      obtain ⟨q, a, b, c⟩ := (hn r hr).2 this
      exact ⟨q, a, b, keep q a c⟩
end
end Go.Proofs.YtfmclbacoffdaaaDoor
