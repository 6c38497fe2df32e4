/- The radix map, plain: how many kids and words a node has. -/
import Derived.Test.YtfmclbacoffdaaaDoorR7InvD
namespace Go.Proofs.YtfmclbacoffdaaaDoor
def wordC (n : Nd) : Nat := sumN (fun j => if n.wd j = 0 then 0 else 1) 8
def rootC (n : Nd) : Nat := sumN (fun j => if n.kd j = 0 then 0 else 1) 16
/-- each node knows how many kids or words it has -/
structure RMn (X : RM) : Prop where
  m2 : ∀ i, i < X.st.length → (X.N i).lv = 2 → (X.N i).mn = wordC (X.N i)
  m1 : ∀ i, i < X.st.length → (X.N i).lv = 1 → (X.N i).mn = kidC (X.N i)
  m0 : (X.N 0).mn = rootC (X.N 0)
theorem sum_up {f : Nat → Nat} {k v : Nat} (hv : v ≠ 0) : ∀ {n : Nat}, k < n → sumN (fun j => if upd f k v j = 0 then 0 else 1) n = sumN (fun j => if f j = 0 then 0 else 1) n + (if f k = 0 then 1 else 0) := fun {n} hk => by
  have := sumN_at (f := fun j => if f j = 0 then 0 else 1) (g := fun j => if upd f k v j = 0 then 0 else 1) n hk (fun j _ hne => by unfold upd; rw [if_neg hne])
  unfold upd at this ⊢
  rw [if_pos rfl, if_neg hv] at this
  by_cases e : f k = 0
  · rw [if_pos e] at this ⊢; omega
  · rw [if_neg e] at this ⊢; omega
theorem sum_down {f : Nat → Nat} {k : Nat} : ∀ {n : Nat}, k < n → f k ≠ 0 → sumN (fun j => if upd f k 0 j = 0 then 0 else 1) n + 1 = sumN (fun j => if f j = 0 then 0 else 1) n := fun {n} hk hf => by
  have := sumN_at (f := fun j => if f j = 0 then 0 else 1) (g := fun j => if upd f k 0 j = 0 then 0 else 1) n hk (fun j _ hne => by unfold upd; rw [if_neg hne])
  unfold upd at this ⊢
  rw [if_pos rfl, if_pos rfl, if_neg hf] at this
  omega
theorem sum_some {f : Nat → Nat} : ∀ {n : Nat}, sumN (fun j => if f j = 0 then 0 else 1) n ≠ 0 → ∃ j, j < n ∧ f j ≠ 0
  | 0, h => absurd rfl h
  | n + 1, h => by
    by_cases e : f n = 0
    · simp only [sumN] at h
      rw [if_pos e] at h
      obtain ⟨j, hj, h2⟩ := sum_some (f := f) (n := n) h
      exact ⟨j, by omega, h2⟩
    · exact ⟨n, by omega, e⟩
theorem sum_none {f : Nat → Nat} {n : Nat} (h : sumN (fun j => if f j = 0 then 0 else 1) n = 0) {j : Nat} (hj : j < n) : f j = 0 := by
  by_cases e : f j = 0
  · exact e
  · exfalso
    have := sum_down (f := f) hj e
    omega
section
variable {X : RM}
theorem RMn.grow0 (hm : RMn X) (h : RInv X) (hf : frI X < X.st.length) {k : Nat} (hk : k < 16) (h0 : (X.N 0).kd k = 0) : RMn (growM X 0 k) := by
  obtain ⟨hlf, hf0⟩ := h.fr hf
  have hN := growM_N (k := k) h.n1 hf hf0
  have hl : (growM X 0 k).st.length = X.st.length := growM_len X 0 k
  refine ⟨fun i hi h2 => ?_, fun i hi h1 => ?_, ?_⟩
  · rw [hl] at hi
    rw [hN i] at h2 ⊢
    by_cases e : i = 0
    · rw [if_pos e] at h2
      have : (kidN (X.N 0) k (frI X)).lv = (X.N 0).lv := rfl
      rw [this, h.root] at h2; omega
    · rw [if_neg e] at h2 ⊢
      by_cases e2 : i = frI X
      · rw [if_pos e2] at h2
        have : (nd0 ((X.N 0).lv + 1)).lv = (X.N 0).lv + 1 := rfl
        rw [this, h.root] at h2; omega
      · rw [if_neg e2] at h2 ⊢; exact hm.m2 i hi h2
  · rw [hl] at hi
    rw [hN i] at h1 ⊢
    by_cases e : i = 0
    · rw [if_pos e] at h1
      have : (kidN (X.N 0) k (frI X)).lv = (X.N 0).lv := rfl
      rw [this, h.root] at h1; omega
    · rw [if_neg e] at h1 ⊢
      by_cases e2 : i = frI X
      · rw [if_pos e2]
        exact (sumN_zero 8 fun j _ => rfl).symm
      · rw [if_neg e2] at h1 ⊢; exact hm.m1 i hi h1
  · rw [hN 0, if_pos rfl]
    have := sum_up (f := (X.N 0).kd) (k := k) (v := frI X) hf0 hk
    rw [if_pos h0] at this
    show (X.N 0).mn + 1 = sumN (fun j => if upd (X.N 0).kd k (frI X) j = 0 then 0 else 1) 16
    rw [this, hm.m0]; rfl
theorem RMn.grow1 (hm : RMn X) (h : RInv X) (hf : frI X < X.st.length) {i a k : Nat} (ha : a < 16) (hai : (X.N 0).kd a = i) (hi0 : i ≠ 0) (hk : k < 8) (h0 : (X.N i).kd k = 0) : RMn (growM X i k) := by
  obtain ⟨hlf, hf0⟩ := h.fr hf
  obtain ⟨hi, hli⟩ := h.k0 a ha (by rw [hai]; exact hi0)
  rw [hai] at hi hli
  have hfi : frI X ≠ i := fun e => by rw [e] at hlf; omega
  have hN := growM_N (k := k) hi hf hfi
  have hl : (growM X i k).st.length = X.st.length := growM_len X i k
  refine ⟨fun j hj h2 => ?_, fun j hj h1 => ?_, ?_⟩
  · rw [hl] at hj
    rw [hN j] at h2 ⊢
    by_cases e : j = i
    · rw [if_pos e] at h2
      have : (kidN (X.N i) k (frI X)).lv = (X.N i).lv := rfl
      rw [this, hli] at h2; omega
    · rw [if_neg e] at h2 ⊢
      by_cases e2 : j = frI X
      · rw [if_pos e2]
        exact (sumN_zero 8 fun j _ => rfl).symm
      · rw [if_neg e2] at h2 ⊢; exact hm.m2 j hj h2
  · rw [hl] at hj
    rw [hN j] at h1 ⊢
    by_cases e : j = i
    · rw [if_pos e]
      have := sum_up (f := (X.N i).kd) (k := k) (v := frI X) hf0 hk
      rw [if_pos h0] at this
      show (X.N i).mn + 1 = sumN (fun j => if upd (X.N i).kd k (frI X) j = 0 then 0 else 1) 8
      rw [this, hm.m1 i hi hli]; rfl
    · rw [if_neg e] at h1 ⊢
      by_cases e2 : j = frI X
      · rw [if_pos e2] at h1
        have : (nd0 ((X.N i).lv + 1)).lv = (X.N i).lv + 1 := rfl
        rw [this, hli] at h1; omega
      · rw [if_neg e2] at h1 ⊢; exact hm.m1 j hj h1
  · rw [hN 0, if_neg (fun e => hi0 e.symm), if_neg (fun e => hf0 e.symm)]
    exact hm.m0
theorem RMn.word (hm : RMn X) (h : RInv X) {l k x : Nat} (hl : l < X.st.length) (hl2 : (X.N l).lv = 2) (hk : k < 8) (hx : x ≠ 0) : RMn { X with st := X.st.set l (wordN (X.N l) k x) } := by
  have hN : ∀ j, ({ X with st := X.st.set l (wordN (X.N l) k x) } : RM).N j = if j = l then wordN (X.N l) k x else X.N j := fun j => N_set hl
  have hl0 : l ≠ 0 := fun e => by rw [e, h.root] at hl2; omega
  refine ⟨fun j hj h2 => ?_, fun j hj h1 => ?_, ?_⟩
  · simp only [List.length_set] at hj
    rw [hN j] at h2 ⊢
    by_cases e : j = l
    · rw [if_pos e]
      have := sum_up (f := (X.N l).wd) (k := k) (v := x) hx hk
      show (X.N l).mn + (if (X.N l).wd k = 0 then 1 else 0) = sumN (fun j => if upd (X.N l).wd k x j = 0 then 0 else 1) 8
      rw [this, hm.m2 l hl hl2]; rfl
    · rw [if_neg e] at h2 ⊢; exact hm.m2 j hj h2
  · simp only [List.length_set] at hj
    rw [hN j] at h1 ⊢
    by_cases e : j = l
    · rw [if_pos e] at h1
      have : (wordN (X.N l) k x).lv = (X.N l).lv := rfl
      rw [this, hl2] at h1; omega
    · rw [if_neg e] at h1 ⊢; exact hm.m1 j hj h1
  · rw [hN 0, if_neg (fun e => hl0 e.symm)]; exact hm.m0
theorem RMn.put (hm : RMn X) (h : RInv X) {x p : Nat} (hp : p < 1024) (hx : x ≠ 0) (hr : X.m + (if mdI X.st p = 0 then 1 else 0) + (if lfI X.st p = 0 then 1 else 0) ≤ X.st.length) : RMn (putM X x p) := by
  have hA : RInv (putA X p) ∧ RMn (putA X p) ∧ (putA X p).m = X.m + (if mdI X.st p = 0 then 1 else 0) ∧ putAI X p ≠ 0 ∧ ((putA X p).N 0).kd (p / 64) = putAI X p ∧ lfI (putA X p).st p = lfI X.st p := by
    unfold putA putAI
    by_cases e : mdI X.st p = 0
    · rw [if_pos e] at hr
      rw [if_pos e, if_pos e, if_pos e]
      have hf := h.room (by omega)
      obtain ⟨g1, g2, _⟩ := h.grow0_rd hf (show p / 64 < 16 by omega) e p hp
      rw [if_pos rfl] at g1
      exact ⟨h.grow0 hf (by omega) e, hm.grow0 h hf (by omega) e, rfl, (h.fr hf).2, g1, g2⟩
    · rw [if_neg e, if_neg e, if_neg e]
      exact ⟨h, hm, rfl, e, rfl, rfl⟩
  obtain ⟨hAi, hAn, hAm, hA0, hAk, hAl2⟩ := hA
  have hAl := putA_len X p
  have hAkk : ((putA X p).N (putAI X p)).kd (p / 8 % 8) = lfI X.st p := by
    rw [← hAl2]
    unfold lfI
    have p1 : mdI (putA X p).st p = putAI X p := hAk
    rw [p1, if_neg hA0]
  have hB : RInv (putB X p) ∧ RMn (putB X p) ∧ putBI X p ≠ 0 ∧ lfI (putB X p).st p = putBI X p := by
    unfold putB putBI
    by_cases e : lfI X.st p = 0
    · rw [if_pos e] at hr
      rw [if_pos e, if_pos e]
      have hf := hAi.room (by omega)
      obtain ⟨_, g2, _⟩ := hAi.grow1_rd hf (show p / 64 < 16 by omega) hAk hA0 (k := p / 8 % 8) (by rw [hAkk]; exact e) p hp
      rw [if_pos ⟨rfl, rfl⟩] at g2
      exact ⟨hAi.grow1 hf (show p / 64 < 16 by omega) hAk hA0 (by omega) (by rw [hAkk]; exact e), hAn.grow1 hAi hf (show p / 64 < 16 by omega) hAk hA0 (by omega) (by rw [hAkk]; exact e), (hAi.fr hf).2, g2⟩
    · rw [if_neg e, if_neg e]
      exact ⟨hAi, hAn, e, hAl2⟩
  obtain ⟨hBi, hBn, hB0, hB2⟩ := hB
  obtain ⟨c1, c2, c3, c4, c5, c6⟩ := hBi.leaf hp (by rw [hB2]; exact hB0)
  rw [hB2] at c5 c6
  exact hBn.word hBi c5 c6 (by omega) hx
theorem RMn.set (x : Nat) (hx : x ≠ 0) : ∀ (n : Nat) {X : RM} {p : Nat} {b s : Int}, RMn X → RInv X → p + n ≤ 1024 → (((p / 64 : Nat) : Int) = b → mdI X.st p ≠ 0) → (((p / 8 : Nat) : Int) = s → lfI X.st p ≠ 0) → X.m + needF X.st n p b s ≤ X.st.length → RMn (setM x n X p)
  | 0, _, _, _, _, hm, _, _, _, _, _ => hm
  | n + 1, X, p, b, s, hm, h, hn, hb, hs, hr => by
    have t1 : (if mdI X.st p = 0 ∧ ((p / 64 : Nat) : Int) ≠ b then (1 : Nat) else 0) = if mdI X.st p = 0 then 1 else 0 := ite_congr' ⟨fun h => h.1, fun h => ⟨h, fun e => hb e h⟩⟩
    have t2 : (if lfI X.st p = 0 ∧ ((p / 8 : Nat) : Int) ≠ s then (1 : Nat) else 0) = if lfI X.st p = 0 then 1 else 0 := ite_congr' ⟨fun h => h.1, fun h => ⟨h, fun e => hs e h⟩⟩
    simp only [needF] at hr
    rw [t1, t2] at hr
    obtain ⟨hS, _⟩ := h.put (x := x) (p := p) (by omega) (by omega)
    have hne := need_put hS n (p + 1) (by omega) (by omega)
    rw [show p + 1 - 1 = p by omega] at hne
    rw [setM_cons]
    exact RMn.set x hx n (b := ((p / 64 : Nat) : Int)) (s := ((p / 8 : Nat) : Int)) (hm.put h (by omega) hx (by omega)) hS.inv (by omega)
      (fun e h0 => by have := (hS.md (p + 1) (by omega)).1 h0; omega) (fun e h0 => by have := (hS.lf (p + 1) (by omega)).1 h0; omega) (by rw [hS.m, hS.len, hne]; omega)
end
end Go.Proofs.YtfmclbacoffdaaaDoor
