/- The radix map, plain: a node is given back. -/
import Derived.Test.YtfmclbacoffdaaaDoorR7Mn
namespace Go.Proofs.YtfmclbacoffdaaaDoor
/-- a leaf with a word less; a node with a kid less -/
def wordZ (n : Nd) (k : Nat) : Nd := { n with wd := upd n.wd k 0, mn := n.mn - 1 }
def kidZ (n : Nd) (k : Nat) : Nd := { n with kd := upd n.kd k 0, mn := n.mn - 1 }
def giveM (X : RM) (i k : Nat) : RM :=
  ⟨(X.st.set ((X.N i).kd k) (nd0 (-1))).set i (kidZ ((X.st.set ((X.N i).kd k) (nd0 (-1))).getD i ndZ) k), X.m - 1, filled X.r ((X.N i).kd k) ((X.N i).kd k + 1) false⟩
theorem giveM_len (X : RM) (i k : Nat) : (giveM X i k).st.length = X.st.length := by simp [giveM]
theorem cnt_unfill {r : Nat → Bool} {f : Nat} (hf : r f = true) : ∀ n, cnt (filled r f (f + 1) false) 0 n + (if f < n then 1 else 0) = cnt r 0 n
  | 0 => by simp [cnt]
  | n + 1 => by
    have ih := cnt_unfill hf n
    have e1 : cnt (filled r f (f + 1) false) 0 (n + 1) = cnt (filled r f (f + 1) false) 0 n + if filled r f (f + 1) false n = true then 1 else 0 := by simp [cnt]
    have e2 : cnt r 0 (n + 1) = cnt r 0 n + if r n = true then 1 else 0 := by simp [cnt]
    rw [e1, e2, ← ih]
    by_cases e : n = f
    · subst e
      have : filled r n (n + 1) false n = false := by unfold filled; rw [if_pos (by omega)]
      rw [this, hf, if_neg (by decide), if_pos (show n < n + 1 by omega), if_neg (show ¬ n < n by omega), if_pos rfl]
    · have : filled r f (f + 1) false n = r n := by unfold filled; rw [if_neg (by omega)]
      rw [this]
      by_cases h : f < n
      · rw [if_pos h, if_pos (show f < n + 1 by omega)]; omega
      · rw [if_neg h, if_neg (show ¬ f < n + 1 by omega)]; omega
section
variable {X : RM}
theorem giveM_N {i k : Nat} (hi : i < X.st.length) (hl : (X.N i).kd k < X.st.length) (hne : (X.N i).kd k ≠ i) (j : Nat) :
    (giveM X i k).N j = if j = i then kidZ (X.N i) k else if j = (X.N i).kd k then nd0 (-1) else X.N j := by
  show ((X.st.set ((X.N i).kd k) (nd0 (-1))).set i (kidZ ((X.st.set ((X.N i).kd k) (nd0 (-1))).getD i ndZ) k)).getD j ndZ = _
  rw [N_set (by rw [List.length_set]; exact hi)]
  by_cases e : j = i
  · rw [if_pos e, if_pos e, N_set hl, if_neg (fun h => hne h.symm)]
  · rw [if_neg e, if_neg e, N_set hl]
/-- a middle node without kids is given back -/
theorem RInv.give0 (h : RInv X) {k : Nat} (hk : k < 16) (h0 : (X.N 0).kd k ≠ 0) (he : ∀ j, j < 8 → (X.N ((X.N 0).kd k)).kd j = 0) : RInv (giveM X 0 k) := by
  obtain ⟨hl, hlv1⟩ := h.k0 k hk h0
  have hN := giveM_N (k := k) h.n1 hl h0
  have hlen : (giveM X 0 k).st.length = X.st.length := giveM_len X 0 k
  have hr : (giveM X 0 k).r = filled X.r ((X.N 0).kd k) ((X.N 0).kd k + 1) false := rfl
  have hm : (giveM X 0 k).m = X.m - 1 := rfl
  generalize hF : (X.N 0).kd k = f at *
  have hk0 : ((giveM X 0 k).N 0).kd = upd (X.N 0).kd k 0 := by rw [hN 0, if_pos rfl]; rfl
  have hlv : ∀ j, j ≠ f → ((giveM X 0 k).N j).lv = (X.N j).lv := fun j hj => by
    rw [hN j]
    by_cases e : j = 0
    · rw [if_pos e, e]; rfl
    · rw [if_neg e, if_neg hj]
  have hlvf : ((giveM X 0 k).N f).lv = -1 := by rw [hN f, if_neg h0, if_pos rfl]; rfl
  have hkd : ∀ j, j ≠ 0 → j ≠ f → ((giveM X 0 k).N j).kd = (X.N j).kd := fun j h1 h2 => by rw [hN j, if_neg h1, if_neg h2]
  have hrf : X.r f = true := by rw [h.rt f hl, hlv1]; rfl
  have hkne : ∀ j, j < 16 → j ≠ k → (X.N 0).kd j ≠ 0 → (X.N 0).kd j ≠ f := fun j hj hjk h1 e => hjk (h.i0 j k hj hk h1 (by rw [e, hF]))
  have hk1ne : ∀ i, i < X.st.length → (X.N i).lv = 1 → ∀ j, j < 8 → (X.N i).kd j ≠ 0 → (X.N i).kd j ≠ f := fun i hi h1 j hj h2 e => by
    have := (h.k1 i hi h1 j hj h2).2
    rw [e] at this; omega
  have h1ne : ∀ i, ((giveM X 0 k).N i).lv = 1 → i ≠ 0 ∧ i ≠ f ∧ (X.N i).lv = 1 := fun i hi => by
    by_cases e : i = f
    · rw [e, hlvf] at hi; omega
    · rw [hlv i e] at hi
      exact ⟨fun e2 => by rw [e2, h.root] at hi; omega, e, hi⟩
  refine ⟨by rw [hlen]; exact h.n1, by rw [hlv 0 (fun e => h0 e.symm)]; exact h.root, fun i hi => ?_, fun i hi => ?_, ?_, fun j hj hne => ?_, fun i hi h1 j hj hne => ?_, fun j j' hj hj' hne he' => ?_, fun i i' j j' hi hi' h1 h1' hj hj' hne he' => ?_, ?_⟩
  · rw [hr]
    unfold filled
    by_cases e : i = f
    · subst e; rw [if_pos (by omega), hlvf]; rfl
    · rw [if_neg (by omega), hlv i e]; exact h.rt i (by omega)
  · rw [hr]; unfold filled
    split
    · rfl
    · exact h.rb i (by omega)
  · have := cnt_unfill hrf X.st.length
    rw [if_pos hl] at this
    rw [hm, hr, hlen, h.cn]; omega
  · rw [hk0] at hne ⊢
    unfold upd at hne ⊢
    by_cases e : j = k
    · rw [if_pos e] at hne; exact absurd rfl hne
    · rw [if_neg e] at hne ⊢
      rw [hlen, hlv _ (hkne j hj e hne)]
      exact h.k0 j hj hne
  · rw [hlen] at hi ⊢
    obtain ⟨a1, a2, a3⟩ := h1ne i h1
    rw [hkd i a1 a2] at hne ⊢
    rw [hlv _ (hk1ne i hi a3 j hj hne)]
    exact h.k1 i hi a3 j hj hne
  · rw [hk0] at hne he'
    unfold upd at hne he'
    by_cases e : j = k
    · rw [if_pos e] at hne; exact absurd rfl hne
    · rw [if_neg e] at hne he'
      by_cases e' : j' = k
      · rw [if_pos e'] at he'; exact absurd he' hne
      · rw [if_neg e'] at he'; exact h.i0 j j' hj hj' hne he'
  · rw [hlen] at hi hi'
    obtain ⟨a1, a2, a3⟩ := h1ne i h1
    obtain ⟨b1, b2, b3⟩ := h1ne i' h1'
    rw [hkd i a1 a2] at hne he'
    rw [hkd i' b1 b2] at he'
    exact h.i1 i i' j j' hi hi' a3 b3 hj hj' hne he'
  · have ht := h.tree
    rw [hm, ht]
    unfold treeC
    rw [hk0]
    have := sumN_at (f := fun q => if (X.N 0).kd q = 0 then 0 else 1 + kidC (X.N ((X.N 0).kd q))) (g := fun q => if upd (X.N 0).kd k 0 q = 0 then 0 else 1 + kidC ((giveM X 0 k).N (upd (X.N 0).kd k 0 q))) 16 hk (fun j hj hne => by
      unfold upd
      rw [if_neg hne]
      by_cases e : (X.N 0).kd j = 0
      · rw [if_pos e, if_pos e]
      · rw [if_neg e, if_neg e]
        unfold kidC
        rw [hkd _ e (hkne j hj hne e)])
    unfold upd at this ⊢
    rw [hF, if_neg h0, if_pos rfl, if_pos rfl] at this
    have hz : kidC (X.N f) = 0 := by
      unfold kidC
      exact sumN_zero 8 (fun j hj => by rw [he j hj]; rfl)
    rw [hz] at this
    omega
/-- a leaf is given back -/
theorem RInv.give1 (h : RInv X) {i a k : Nat} (ha : a < 16) (hai : (X.N 0).kd a = i) (hi0 : i ≠ 0) (hk : k < 8) (h0 : (X.N i).kd k ≠ 0) : RInv (giveM X i k) := by
  obtain ⟨hi, hli⟩ := h.k0 a ha (by rw [hai]; exact hi0)
  rw [hai] at hi hli
  obtain ⟨hl, hlv2⟩ := h.k1 i hi hli k hk h0
  have hfi : (X.N i).kd k ≠ i := fun e => by rw [e] at hlv2; omega
  have hN := giveM_N (k := k) hi hl hfi
  have hlen : (giveM X i k).st.length = X.st.length := giveM_len X i k
  have hr : (giveM X i k).r = filled X.r ((X.N i).kd k) ((X.N i).kd k + 1) false := rfl
  have hm : (giveM X i k).m = X.m - 1 := rfl
  generalize hF : (X.N i).kd k = f at *
  have hki : ((giveM X i k).N i).kd = upd (X.N i).kd k 0 := by rw [hN i, if_pos rfl]; rfl
  have hlv : ∀ j, j ≠ f → ((giveM X i k).N j).lv = (X.N j).lv := fun j hj => by
    rw [hN j]
    by_cases e : j = i
    · rw [if_pos e, e]; rfl
    · rw [if_neg e, if_neg hj]
  have hlvf : ((giveM X i k).N f).lv = -1 := by rw [hN f, if_neg hfi, if_pos rfl]; rfl
  have hkd : ∀ j, j ≠ i → j ≠ f → ((giveM X i k).N j).kd = (X.N j).kd := fun j h1 h2 => by rw [hN j, if_neg h1, if_neg h2]
  have hf0 : f ≠ 0 := h0
  have hk00 : ((giveM X i k).N 0).kd = (X.N 0).kd := hkd 0 (fun e => hi0 e.symm) (fun e => hf0 e.symm)
  have hrf : X.r f = true := by rw [h.rt f hl, hlv2]; rfl
  have hkne : ∀ j, j < 16 → (X.N 0).kd j ≠ 0 → (X.N 0).kd j ≠ f := fun j hj h1 e => by
    have := (h.k0 j hj h1).2
    rw [e] at this; omega
  have hk1ne : ∀ b, b < X.st.length → (X.N b).lv = 1 → ∀ j, j < 8 → ¬ (b = i ∧ j = k) → (X.N b).kd j ≠ 0 → (X.N b).kd j ≠ f := fun b hb h1 j hj hn h2 e =>
    hn (h.i1 b i j k hb hi h1 hli hj hk h2 (by rw [e, hF]))
  have h1ne : ∀ b, ((giveM X i k).N b).lv = 1 → b ≠ f ∧ (X.N b).lv = 1 := fun b hb => by
    by_cases e : b = f
    · rw [e, hlvf] at hb; omega
    · rw [hlv b e] at hb; exact ⟨e, hb⟩
  have key : ∀ b, b ≠ f → ∀ j, ((giveM X i k).N b).kd j = if b = i ∧ j = k then 0 else (X.N b).kd j := fun b hb j => by
    by_cases eb : b = i
    · rw [eb, hki]
      unfold upd
      by_cases ej : j = k
      · rw [if_pos ej, if_pos ⟨rfl, ej⟩]
      · rw [if_neg ej, if_neg (fun h => ej h.2)]
    · rw [hkd b eb hb, if_neg (fun h => eb h.1)]
  refine ⟨by rw [hlen]; exact h.n1, by rw [hlv 0 (fun e => hf0 e.symm)]; exact h.root, fun j hj => ?_, fun j hj => ?_, ?_, fun j hj hne => ?_, fun j hj h1 q hq hne => ?_, fun j j' hj hj' hne he => ?_, fun j j' q q' hj hj' h1 h1' hq hq' hne he => ?_, ?_⟩
  · rw [hr]
    unfold filled
    by_cases e : j = f
    · subst e; rw [if_pos (by omega), hlvf]; rfl
    · rw [if_neg (by omega), hlv j e]; exact h.rt j (by omega)
  · rw [hr]; unfold filled
    split
    · rfl
    · exact h.rb j (by omega)
  · have := cnt_unfill hrf X.st.length
    rw [if_pos hl] at this
    rw [hm, hr, hlen, h.cn]; omega
  · rw [hk00] at hne ⊢
    rw [hlen, hlv _ (hkne j hj hne)]
    exact h.k0 j hj hne
  · rw [hlen] at hj ⊢
    obtain ⟨e, g1⟩ := h1ne j h1
    rw [key j e] at hne ⊢
    by_cases c : j = i ∧ q = k
    · rw [if_pos c] at hne; exact absurd rfl hne
    · rw [if_neg c] at hne ⊢
      rw [hlv _ (hk1ne j hj g1 q hq c hne)]
      exact h.k1 j hj g1 q hq hne
  · rw [hk00] at hne he
    exact h.i0 j j' hj hj' hne he
  · rw [hlen] at hj hj'
    obtain ⟨e, g1⟩ := h1ne j h1
    obtain ⟨e', g1'⟩ := h1ne j' h1'
    rw [key j e] at hne he
    rw [key j' e'] at he
    by_cases c : j = i ∧ q = k
    · rw [if_pos c] at hne; exact absurd rfl hne
    · rw [if_neg c] at hne he
      by_cases c' : j' = i ∧ q' = k
      · rw [if_pos c'] at he; exact absurd he hne
      · rw [if_neg c'] at he
        exact h.i1 j j' q q' hj hj' g1 g1' hq hq' hne he
  · have ht := h.tree
    rw [hm, ht]
    unfold treeC
    rw [hk00]
    have := sumN_at (f := fun q => if (X.N 0).kd q = 0 then 0 else 1 + kidC (X.N ((X.N 0).kd q))) (g := fun q => if (X.N 0).kd q = 0 then 0 else 1 + kidC ((giveM X i k).N ((X.N 0).kd q))) 16 ha (fun j hj hne => by
      by_cases e : (X.N 0).kd j = 0
      · rw [if_pos e, if_pos e]
      · rw [if_neg e, if_neg e]
        have e2 : (X.N 0).kd j ≠ i := fun e3 => hne (h.i0 j a hj ha e (by rw [e3, hai]))
        unfold kidC
        rw [hkd _ e2 (hkne j hj e)])
    rw [hai, if_neg hi0, if_neg hi0] at this
    have hz : kidC ((giveM X i k).N i) + 1 = kidC (X.N i) := by
      unfold kidC
      rw [hki]
      exact sum_down hk (by rw [hF]; exact h0)
    omega
end
end Go.Proofs.YtfmclbacoffdaaaDoor
