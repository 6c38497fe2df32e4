/- The radix map, plain: what always holds of a map; a node is made. -/
import Derived.Test.YtfmclbacoffdaaaDoorR7Ops
namespace Go.Proofs.YtfmclbacoffdaaaDoor
abbrev RM.N (X : RM) (i : Nat) : Nd := X.st.getD i ndZ
def sumN (f : Nat → Nat) : Nat → Nat
  | 0 => 0
  | n + 1 => sumN f n + f n
theorem sumN_congr {f g : Nat → Nat} : ∀ n, (∀ j, j < n → f j = g j) → sumN f n = sumN g n
  | 0, _ => rfl
  | n + 1, h => by simp only [sumN]; rw [sumN_congr n fun j hj => h j (by omega), h n (by omega)]
theorem sumN_at {f g : Nat → Nat} {k : Nat} : ∀ n, k < n → (∀ j, j < n → j ≠ k → f j = g j) → sumN g n + f k = sumN f n + g k
  | 0, h, _ => by omega
  | n + 1, h, hne => by
    simp only [sumN]
    by_cases e : k = n
    · subst e
      rw [sumN_congr k fun j hj => hne j (by omega) (by omega)]
      omega
    · have := sumN_at n (by omega) fun j hj => hne j (by omega)
      rw [hne n (by omega) (fun h => e h.symm)]
      omega
theorem sumN_zero {f : Nat → Nat} : ∀ n, (∀ j, j < n → f j = 0) → sumN f n = 0
  | 0, _ => rfl
  | n + 1, h => by simp only [sumN]; rw [sumN_zero n fun j hj => h j (by omega), h n (by omega)]
/-- how many leaves a middle node has -/
def kidC (n : Nd) : Nat := sumN (fun j => if n.kd j = 0 then 0 else 1) 8
/-- how many nodes hang at the root, and it -/
def treeC (X : RM) : Nat := 1 + sumN (fun k => if (X.N 0).kd k = 0 then 0 else 1 + kidC (X.N ((X.N 0).kd k))) 16
/-- what always holds -/
structure RInv (X : RM) : Prop where
  n1 : 1 ≤ X.st.length
  root : (X.N 0).lv = 0
  rt : ∀ i, i < X.st.length → X.r i = decide (0 ≤ (X.N i).lv)
  rb : ∀ i, X.st.length ≤ i → X.r i = false
  cn : X.m = cnt X.r 0 X.st.length
  k0 : ∀ k, k < 16 → (X.N 0).kd k ≠ 0 → (X.N 0).kd k < X.st.length ∧ (X.N ((X.N 0).kd k)).lv = 1
  k1 : ∀ i, i < X.st.length → (X.N i).lv = 1 → ∀ k, k < 8 → (X.N i).kd k ≠ 0 → (X.N i).kd k < X.st.length ∧ (X.N ((X.N i).kd k)).lv = 2
  i0 : ∀ k k', k < 16 → k' < 16 → (X.N 0).kd k ≠ 0 → (X.N 0).kd k = (X.N 0).kd k' → k = k'
  i1 : ∀ i i' k k', i < X.st.length → i' < X.st.length → (X.N i).lv = 1 → (X.N i').lv = 1 → k < 8 → k' < 8 → (X.N i).kd k ≠ 0 → (X.N i).kd k = (X.N i').kd k' → i = i' ∧ k = k'
  tree : X.m = treeC X
theorem cnt_fill {r : Nat → Bool} {f : Nat} (hf : r f = false) : ∀ n, cnt (filled r f (f + 1) true) 0 n = cnt r 0 n + (if f < n then 1 else 0)
  | 0 => by simp [cnt]
  | n + 1 => by
    have ih := cnt_fill hf n
    have e1 : cnt (filled r f (f + 1) true) 0 (n + 1) = cnt (filled r f (f + 1) true) 0 n + if filled r f (f + 1) true n = true then 1 else 0 := by simp [cnt]
    have e2 : cnt r 0 (n + 1) = cnt r 0 n + if r n = true then 1 else 0 := by simp [cnt]
    rw [e1, e2, ih]
    by_cases e : n = f
    · subst e
      have : filled r n (n + 1) true n = true := by unfold filled; rw [if_pos (by omega)]
      rw [this, hf, if_pos rfl, if_neg (by omega), if_neg (by decide), if_pos (by omega)]
    · have : filled r f (f + 1) true n = r n := by unfold filled; rw [if_neg (by omega)]
      rw [this]
      by_cases h : f < n
      · rw [if_pos h, if_pos (show f < n + 1 by omega)]; omega
      · rw [if_neg h, if_neg (show ¬ f < n + 1 by omega)]; omega
section
variable {X : RM}
theorem N_set {st : List Nd} {i j : Nat} {y : Nd} (hi : i < st.length) : (st.set i y).getD j ndZ = if j = i then y else st.getD j ndZ := by
  simp only [List.getD, List.getElem?_set]
  by_cases e : i = j
  · subst e; simp [hi]
  · rw [if_neg e, if_neg (fun h => e h.symm)]
/-- a free number -/
theorem fr_spec (hf : frI X < X.st.length) : X.r (frI X) = false := by
  have h1 := (nxt_spec (p := fun i => !X.r i) (a := 0) (n := X.st.length) (Nat.zero_le _)).2.2.2 hf
  have h2 : (!X.r (frI X)) = true := h1
  simpa using h2
theorem RInv.fr (h : RInv X) (hf : frI X < X.st.length) : (X.N (frI X)).lv < 0 ∧ frI X ≠ 0 := by
  have h1 := fr_spec hf
  rw [h.rt _ hf] at h1
  have h2 : ¬ 0 ≤ (X.N (frI X)).lv := of_decide_eq_false h1
  refine ⟨by omega, fun e => ?_⟩
  rw [e, h.root] at h2
  omega
/-- the nodes after a node is made -/
theorem growM_N {i k : Nat} (hi : i < X.st.length) (hf : frI X < X.st.length) (hne : frI X ≠ i) (j : Nat) :
    (growM X i k).N j = if j = i then kidN (X.N i) k (frI X) else if j = frI X then nd0 ((X.N i).lv + 1) else X.N j := by
  show ((X.st.set (frI X) (nd0 ((X.st.getD i ndZ).lv + 1))).set i (kidN ((X.st.set (frI X) (nd0 ((X.st.getD i ndZ).lv + 1))).getD i ndZ) k (frI X))).getD j ndZ = _
  rw [N_set (by rw [List.length_set]; exact hi)]
  by_cases e : j = i
  · rw [if_pos e, if_pos e, N_set hf, if_neg (fun h => hne h.symm)]
  · rw [if_neg e, if_neg e, N_set hf]
/-- room for one more: a free number -/
theorem RInv.room (h : RInv X) (hm : X.m < X.st.length) : frI X < X.st.length := by
  obtain ⟨h1, h2, h3, h4⟩ := nxt_spec (p := fun i => !X.r i) (a := 0) (n := X.st.length) (Nat.zero_le _)
  rcases Nat.lt_or_ge (frI X) X.st.length with h5 | h5
  · exact h5
  · exfalso
    have hall : ∀ i, i < X.st.length → X.r i = true := fun i hi => by
      have := h3 i (Nat.zero_le _) (by unfold frI at h5; omega)
      simpa using this
    have hc : ∀ n, n ≤ X.st.length → cnt X.r 0 n = n := fun n => by
      induction n with
      | zero => intro _; simp [cnt]
      | succ n ih =>
        intro hn
        have e2 : cnt X.r 0 (n + 1) = cnt X.r 0 n + if X.r n = true then 1 else 0 := by simp [cnt]
        rw [e2, ih (by omega), hall n (by omega), if_pos rfl]
    have := h.cn
    rw [hc _ (Nat.le_refl _)] at this
    omega
/-- a middle node is made -/
theorem RInv.grow0 (h : RInv X) (hf : frI X < X.st.length) {k : Nat} (hk : k < 16) (h0 : (X.N 0).kd k = 0) : RInv (growM X 0 k) := by
  obtain ⟨hlf, hf0⟩ := h.fr hf
  have hN := growM_N (k := k) h.n1 hf hf0
  have hl : (growM X 0 k).st.length = X.st.length := growM_len X 0 k
  have hr : (growM X 0 k).r = filled X.r (frI X) (frI X + 1) true := rfl
  have hm : (growM X 0 k).m = X.m + 1 := rfl
  generalize hF : frI X = f at *
  have hk0 : ((growM X 0 k).N 0).kd = upd (X.N 0).kd k f := by rw [hN 0, if_pos rfl]; rfl
  have hlv : ∀ j, j ≠ f → ((growM X 0 k).N j).lv = (X.N j).lv := fun j hj => by
    rw [hN j]
    by_cases e : j = 0
    · rw [if_pos e, e]; rfl
    · rw [if_neg e, if_neg hj]
  have hlvf : ((growM X 0 k).N f).lv = 1 := by rw [hN f, if_neg hf0, if_pos rfl, h.root]; rfl
  have hkf : ((growM X 0 k).N f).kd = fun _ => 0 := by rw [hN f, if_neg hf0, if_pos rfl]; rfl
  have hkd : ∀ j, j ≠ 0 → j ≠ f → ((growM X 0 k).N j).kd = (X.N j).kd := fun j h1 h2 => by rw [hN j, if_neg h1, if_neg h2]
  have hkne : ∀ j, j < 16 → (X.N 0).kd j ≠ 0 → (X.N 0).kd j ≠ f := fun j hj h1 e => by
    have := (h.k0 j hj h1).2
    rw [e] at this; omega
  have h1ne : ∀ i, (X.N i).lv = 1 → i ≠ 0 ∧ i ≠ f := fun i hi => ⟨fun e => by rw [e, h.root] at hi; omega, fun e => by rw [e] at hi; omega⟩
  have hk1ne : ∀ i, i < X.st.length → (X.N i).lv = 1 → ∀ j, j < 8 → (X.N i).kd j ≠ 0 → (X.N i).kd j ≠ f := fun i hi h1 j hj h2 e => by
    have := (h.k1 i hi h1 j hj h2).2
    rw [e] at this; omega
  refine ⟨by rw [hl]; exact h.n1, by rw [hlv 0 (fun e => hf0 e.symm)]; exact h.root, fun i hi => ?_, fun i hi => ?_, ?_, fun j hj hne => ?_, fun i hi h1 j hj hne => ?_, fun j j' hj hj' hne he => ?_, fun i i' j j' hi hi' h1 h1' hj hj' hne he => ?_, ?_⟩
  · rw [hr]
    unfold filled
    by_cases e : i = f
    · subst e; rw [if_pos (by omega), hlvf]; rfl
    · rw [if_neg (by omega), hlv i e]; exact h.rt i (by omega)
  · rw [hr]; unfold filled; rw [if_neg (by omega)]; exact h.rb i (by omega)
  · rw [hm, hr, hl, cnt_fill (by rw [← hF]; exact fr_spec (by omega)), if_pos hf, h.cn]
  · rw [hk0] at hne ⊢
    unfold upd at hne ⊢
    by_cases e : j = k
    · rw [if_pos e, hl, hlvf]; exact ⟨hf, rfl⟩
    · rw [if_neg e] at hne ⊢
      rw [hl, hlv _ (hkne j hj hne)]
      exact h.k0 j hj hne
  · rw [hl] at hi ⊢
    by_cases e : i = f
    · subst e; rw [hkf] at hne; exact absurd rfl hne
    · rw [hlv i e] at h1
      rw [hkd i (h1ne i h1).1 e] at hne ⊢
      rw [hlv _ (hk1ne i hi h1 j hj hne)]
      exact h.k1 i hi h1 j hj hne
  · rw [hk0] at hne he
    unfold upd at hne he
    by_cases e : j = k
    · by_cases e' : j' = k
      · omega
      · rw [if_pos e, if_neg e'] at he
        rw [if_pos e] at hne
        exact absurd he.symm (hkne j' hj' (by omega))
    · rw [if_neg e] at he hne
      by_cases e' : j' = k
      · rw [if_pos e'] at he; exact absurd he (hkne j hj hne)
      · rw [if_neg e'] at he; exact h.i0 j j' hj hj' hne he
  · rw [hl] at hi hi'
    by_cases e : i = f
    · subst e; rw [hkf] at hne; exact absurd rfl hne
    · by_cases e' : i' = f
      · subst e'; rw [hkf] at he; exact absurd he hne
      · rw [hlv i e] at h1
        rw [hlv i' e'] at h1'
        rw [hkd i (h1ne i h1).1 e] at hne he
        rw [hkd i' (h1ne i' h1').1 e'] at he
        exact h.i1 i i' j j' hi hi' h1 h1' hj hj' hne he
  · rw [hm, h.tree]
    unfold treeC
    rw [hk0]
    have := sumN_at (f := fun q => if (X.N 0).kd q = 0 then 0 else 1 + kidC (X.N ((X.N 0).kd q))) (g := fun q => if upd (X.N 0).kd k f q = 0 then 0 else 1 + kidC ((growM X 0 k).N (upd (X.N 0).kd k f q))) 16 hk (fun j hj hne => by
      unfold upd
      rw [if_neg hne]
      by_cases e : (X.N 0).kd j = 0
      · rw [if_pos e, if_pos e]
      · rw [if_neg e, if_neg e]
        have h1 := (h.k0 j hj e).2
        unfold kidC
        rw [hkd _ (h1ne _ h1).1 (hkne j hj e)])
    unfold upd at this ⊢
    rw [if_pos h0, if_pos rfl, if_neg hf0] at this
    have hz : kidC ((growM X 0 k).N f) = 0 := by unfold kidC; rw [hkf]; exact sumN_zero 8 (fun j _ => by simp)
    rw [hz] at this
    omega
end
end Go.Proofs.YtfmclbacoffdaaaDoor
