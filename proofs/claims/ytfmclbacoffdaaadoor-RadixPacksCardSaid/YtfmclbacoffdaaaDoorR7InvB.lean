/- The radix map, plain: a leaf is made; a word is given. -/
import Derived.Test.YtfmclbacoffdaaaDoorR7Inv
namespace Go.Proofs.YtfmclbacoffdaaaDoor
section
variable {X : RM}
/-- a leaf is made -/
theorem RInv.grow1 (h : RInv X) (hf : frI X < X.st.length) {i a k : Nat} (ha : a < 16) (hai : (X.N 0).kd a = i) (hi0 : i ≠ 0) (hk : k < 8) (h0 : (X.N i).kd k = 0) : RInv (growM X i k) := by
  obtain ⟨hlf, hf0⟩ := h.fr hf
  obtain ⟨hi, hli⟩ := h.k0 a ha (by rw [hai]; exact hi0)
  rw [hai] at hi hli
  have hfi : frI X ≠ i := fun e => by rw [e] at hlf; omega
  have hN := growM_N (k := k) hi hf hfi
  have hl : (growM X i k).st.length = X.st.length := growM_len X i k
  have hr : (growM X i k).r = filled X.r (frI X) (frI X + 1) true := rfl
  have hm : (growM X i k).m = X.m + 1 := rfl
  generalize hF : frI X = f at *
  have hki : ((growM X i k).N i).kd = upd (X.N i).kd k f := by rw [hN i, if_pos rfl]; rfl
  have hlv : ∀ j, j ≠ f → ((growM X i k).N j).lv = (X.N j).lv := fun j hj => by
    rw [hN j]
    by_cases e : j = i
    · rw [if_pos e, e]; rfl
    · rw [if_neg e, if_neg hj]
  have hlvf : ((growM X i k).N f).lv = 2 := by rw [hN f, if_neg hfi, if_pos rfl, hli]; rfl
  have hkf : ((growM X i k).N f).kd = fun _ => 0 := by rw [hN f, if_neg hfi, if_pos rfl]; rfl
  have hkd : ∀ j, j ≠ i → j ≠ f → ((growM X i k).N j).kd = (X.N j).kd := fun j h1 h2 => by rw [hN j, if_neg h1, if_neg h2]
  have hk00 : ((growM X i k).N 0).kd = (X.N 0).kd := hkd 0 (fun e => hi0 e.symm) (fun e => hf0 e.symm)
  have hkne : ∀ j, j < 16 → (X.N 0).kd j ≠ 0 → (X.N 0).kd j ≠ f := fun j hj h1 e => by
    have := (h.k0 j hj h1).2
    rw [e] at this; omega
  have h1ne : ∀ i, (X.N i).lv = 1 → i ≠ 0 ∧ i ≠ f := fun i hi => ⟨fun e => by rw [e, h.root] at hi; omega, fun e => by rw [e] at hi; omega⟩
  have hk1ne : ∀ i, i < X.st.length → (X.N i).lv = 1 → ∀ j, j < 8 → (X.N i).kd j ≠ 0 → (X.N i).kd j ≠ f := fun i hi h1 j hj h2 e => by
    have := (h.k1 i hi h1 j hj h2).2
    rw [e] at this; omega
  have hlv1 : ∀ j, ((growM X i k).N j).lv = 1 → j ≠ f ∧ (X.N j).lv = 1 := fun j hj => by
    by_cases e : j = f
    · rw [e, hlvf] at hj; omega
    · rw [hlv j e] at hj; exact ⟨e, hj⟩
  refine ⟨by rw [hl]; exact h.n1, by rw [hlv 0 (fun e => hf0 e.symm)]; exact h.root, fun j hj => ?_, fun j hj => ?_, ?_, fun j hj hne => ?_, fun j hj h1 q hq hne => ?_, fun j j' hj hj' hne he => ?_, fun j j' q q' hj hj' h1 h1' hq hq' hne he => ?_, ?_⟩
  · rw [hr]
    unfold filled
    by_cases e : j = f
    · subst e; rw [if_pos (by omega), hlvf]; rfl
    · rw [if_neg (by omega), hlv j e]; exact h.rt j (by omega)
  · rw [hr]; unfold filled; rw [if_neg (by omega)]; exact h.rb j (by omega)
  · rw [hm, hr, hl, cnt_fill (by rw [← hF]; exact fr_spec (by omega)), if_pos hf, h.cn]
  · rw [hk00] at hne ⊢
    rw [hl, hlv _ (hkne j hj hne)]
    exact h.k0 j hj hne
  · rw [hl] at hj ⊢
    obtain ⟨e, h1'⟩ := hlv1 j h1
    by_cases ei : j = i
    · subst ei
      rw [hki] at hne ⊢
      unfold upd at hne ⊢
      by_cases ek : q = k
      · rw [if_pos ek, hlvf]; exact ⟨hf, rfl⟩
      · rw [if_neg ek] at hne ⊢
        rw [hlv _ (hk1ne j hj h1' q hq hne)]
        exact h.k1 j hj h1' q hq hne
    · rw [hkd j ei e] at hne ⊢
      rw [hlv _ (hk1ne j hj h1' q hq hne)]
      exact h.k1 j hj h1' q hq hne
  · rw [hk00] at hne he
    exact h.i0 j j' hj hj' hne he
  · rw [hl] at hj hj'
    obtain ⟨e, g1⟩ := hlv1 j h1
    obtain ⟨e', g1'⟩ := hlv1 j' h1'
    have key : ∀ b, b ≠ f → ((growM X i k).N b).kd = if b = i then upd (X.N i).kd k f else (X.N b).kd := fun b hb => by
      by_cases eb : b = i
      · rw [if_pos eb, eb, hki]
      · rw [if_neg eb, hkd b eb hb]
    rw [key j e] at hne he
    rw [key j' e'] at he
    by_cases ej : j = i
    · by_cases ej' : j' = i
      · rw [if_pos ej] at hne he
        rw [if_pos ej'] at he
        unfold upd at hne he
        by_cases eq : q = k
        · by_cases eq' : q' = k
          · omega
          · rw [if_pos eq, if_neg eq'] at he
            rw [if_pos eq] at hne
            exact absurd he.symm (hk1ne i hi hli q' hq' (by omega))
        · rw [if_neg eq] at he hne
          by_cases eq' : q' = k
          · rw [if_pos eq'] at he; exact absurd he (hk1ne i hi hli q hq hne)
          · rw [if_neg eq'] at he
            have := h.i1 i i q q' hi hi hli hli hq hq' hne he
            omega
      · rw [if_pos ej] at hne he
        rw [if_neg ej'] at he
        unfold upd at hne he
        by_cases eq : q = k
        · rw [if_pos eq] at he hne
          exact absurd he.symm (hk1ne j' hj' g1' q' hq' (by omega))
        · rw [if_neg eq] at he hne
          have := h.i1 i j' q q' hi hj' hli g1' hq hq' hne he
          omega
    · rw [if_neg ej] at hne he
      by_cases ej' : j' = i
      · rw [if_pos ej'] at he
        unfold upd at he
        by_cases eq' : q' = k
        · rw [if_pos eq'] at he
          exact absurd he (hk1ne j hj g1 q hq hne)
        · rw [if_neg eq'] at he
          have := h.i1 j i q q' hj hi g1 hli hq hq' hne he
          omega
      · rw [if_neg ej'] at he
        exact h.i1 j j' q q' hj hj' g1 g1' hq hq' hne he
  · rw [hm, h.tree]
    unfold treeC
    rw [hk00]
    have := sumN_at (f := fun q => if (X.N 0).kd q = 0 then 0 else 1 + kidC (X.N ((X.N 0).kd q))) (g := fun q => if (X.N 0).kd q = 0 then 0 else 1 + kidC ((growM X i k).N ((X.N 0).kd q))) 16 ha (fun j hj hne => by
      by_cases e : (X.N 0).kd j = 0
      · rw [if_pos e, if_pos e]
      · rw [if_neg e, if_neg e]
        have e2 : (X.N 0).kd j ≠ i := fun e3 => hne (h.i0 j a hj ha e (by rw [e3, hai]))
        unfold kidC
        rw [hkd _ e2 (hkne j hj e)])
    rw [hai, if_neg hi0, if_neg hi0] at this
    have hz : kidC ((growM X i k).N i) = kidC (X.N i) + 1 := by
      unfold kidC
      rw [hki]
      have := sumN_at (f := fun j => if (X.N i).kd j = 0 then 0 else 1) (g := fun j => if upd (X.N i).kd k f j = 0 then 0 else 1) 8 hk (fun j hj hne => by
        unfold upd
        rw [if_neg hne])
      unfold upd at this ⊢
      rw [if_pos h0, if_pos rfl, if_neg hf0] at this
      omega
    rw [hz] at this
    omega
/-- a word is given: kids and levels stay -/
theorem RInv.same (h : RInv X) {Y : RM} (hl : Y.st.length = X.st.length) (hr : Y.r = X.r) (hm : Y.m = X.m) (hlv : ∀ j, (Y.N j).lv = (X.N j).lv) (hkd : ∀ j, (Y.N j).kd = (X.N j).kd) : RInv Y := by
  refine ⟨by rw [hl]; exact h.n1, by rw [hlv]; exact h.root, fun i hi => ?_, fun i hi => ?_, ?_, fun j hj hne => ?_, fun i hi h1 j hj hne => ?_, fun j j' hj hj' hne he => ?_, fun i i' j j' hi hi' h1 h1' hj hj' hne he => ?_, ?_⟩
  · rw [hr, hlv]; exact h.rt i (by omega)
  · rw [hr]; exact h.rb i (by omega)
  · rw [hm, hr, hl]; exact h.cn
  · rw [hkd] at hne ⊢; rw [hl, hlv]; exact h.k0 j hj hne
  · rw [hl] at hi; rw [hlv] at h1; rw [hkd] at hne ⊢; rw [hl, hlv]; exact h.k1 i hi h1 j hj hne
  · rw [hkd] at hne he; exact h.i0 j j' hj hj' hne he
  · rw [hl] at hi hi'; rw [hlv] at h1 h1'; rw [hkd] at hne he; rw [hkd] at he; exact h.i1 i i' j j' hi hi' h1 h1' hj hj' hne he
  · rw [hm, h.tree]
    unfold treeC kidC
    simp only [hkd]
theorem RInv.word (h : RInv X) {l k x : Nat} (hl : l < X.st.length) : RInv { X with st := X.st.set l (wordN (X.N l) k x) } := by
  have hN : ∀ j, ({ X with st := X.st.set l (wordN (X.N l) k x) } : RM).N j = if j = l then wordN (X.N l) k x else X.N j := fun j => N_set hl
  refine h.same (by simp) rfl rfl (fun j => ?_) (fun j => ?_)
  · rw [hN]; split
    · rename_i e; rw [e]; rfl
    · rfl
  · rw [hN]; split
    · rename_i e; rw [e]; rfl
    · rfl
end
end Go.Proofs.YtfmclbacoffdaaaDoor
