/- The radix map, plain: a new map; as many nodes as sets of pages with a word, and one more. -/
import Derived.Test.YtfmclbacoffdaaaDoorR7ClrC
namespace Go.Proofs.YtfmclbacoffdaaaDoor
theorem newM_N {n j : Nat} (hn : 1 ≤ n) (hj : j < n) : (newM n).N j = if j = 0 then nd0 0 else nd0 (-1) := by
  show ((List.replicate n (nd0 (-1))).set 0 (nd0 0)).getD j ndZ = _
  rw [N_set (by rw [List.length_replicate]; omega)]
  by_cases e : j = 0
  · rw [if_pos e, if_pos e]
  · rw [if_neg e, if_neg e]
    simp [List.getD, hj]
theorem newM_len (n : Nat) : (newM n).st.length = n := by simp [newM]
theorem newM_all {n : Nat} (hn : 1 ≤ n) : RAll (newM n) := by
  have h0 : (newM n).N 0 = nd0 0 := by rw [newM_N hn hn, if_pos rfl]
  have hk0 : ∀ k, ((newM n).N 0).kd k = 0 := fun k => by rw [h0]; rfl
  have hlv : ∀ i, i < n → ((newM n).N i).lv = if i = 0 then 0 else -1 := fun i hi => by
    rw [newM_N hn hi]; split <;> rfl
  have hr : (newM n).r = filled (fun _ => false) 0 (0 + 1) true := rfl
  refine ⟨⟨by rw [newM_len]; exact hn, by rw [h0]; rfl, fun i hi => ?_, fun i hi => ?_, ?_, fun k _ hne => absurd (hk0 k) hne, fun i hi h1 => ?_, fun k k' _ _ hne => absurd (hk0 k) hne, fun i i' k k' hi hi' h1 => ?_, ?_⟩, ⟨fun i hi h2 => ?_, fun i hi h1 => ?_, ?_⟩, fun p _ => ⟨fun h => absurd (hk0 _) h, fun h => ?_⟩⟩
  · rw [newM_len] at hi
    rw [hlv i hi, hr]
    unfold filled
    by_cases e : i = 0
    · rw [if_pos (by omega), if_pos e]; rfl
    · rw [if_neg (by omega), if_neg e]; rfl
  · rw [newM_len] at hi
    rw [hr]
    unfold filled
    rw [if_neg (by omega)]
  · rw [newM_len, hr, cnt_fill rfl, cnt_none n (fun _ _ _ => rfl), if_pos (show 0 < n by omega)]
    rfl
  · rw [newM_len] at hi; rw [hlv i hi] at h1; split at h1 <;> omega
  · rw [newM_len] at hi; rw [hlv i hi] at h1; split at h1 <;> omega
  · unfold treeC
    rw [sumN_zero 16 (fun j _ => by rw [hk0 j]; rfl)]
    rfl
  · rw [newM_len] at hi; rw [hlv i hi] at h2; split at h2 <;> omega
  · rw [newM_len] at hi; rw [hlv i hi] at h1; split at h1 <;> omega
  · rw [h0]; exact (sumN_zero 16 fun j _ => rfl).symm
  · exfalso
    apply h
    have hm : mdI (newM n).st p = 0 := hk0 _
    unfold lfI
    rw [if_pos hm]
theorem newM_wd {n : Nat} (hn : 1 ≤ n) (p : Nat) : wdI (newM n).st p = 0 := by
  have h0 : (newM n).N 0 = nd0 0 := by rw [newM_N hn hn, if_pos rfl]
  have hm : mdI (newM n).st p = 0 := by
    show ((newM n).N 0).kd _ = 0
    rw [h0]; rfl
  unfold wdI lfI
  rw [if_pos hm, if_pos rfl]
theorem sumN_add (f g : Nat → Nat) : ∀ n, sumN (fun j => f j + g j) n = sumN f n + sumN g n
  | 0 => rfl
  | n + 1 => by simp only [sumN]; rw [sumN_add f g n]; omega
theorem sumN_more (f : Nat → Nat) (a : Nat) : ∀ n, sumN f (a + n) = sumN f a + sumN (fun j => f (a + j)) n
  | 0 => rfl
  | n + 1 => by
    show sumN f (a + n) + f (a + n) = _
    rw [sumN_more f a n]
    simp only [sumN]
    omega
theorem sumN_eights (f : Nat → Nat) : ∀ n, sumN f (n * 8) = sumN (fun k => sumN (fun j => f (k * 8 + j)) 8) n
  | 0 => rfl
  | n + 1 => by
    rw [show (n + 1) * 8 = n * 8 + 8 by omega, sumN_more, sumN_eights f n]
    rfl
section
variable {X : RM}
theorem RInv.count (h : RInv X) : X.m = 1 + sumN (fun k => if mdI X.st (k * 64) = 0 then 0 else 1) 16 + sumN (fun s => if lfI X.st (s * 8) = 0 then 0 else 1) 128 := by
  rw [h.tree, show (128 : Nat) = 16 * 8 from rfl, sumN_eights, Nat.add_assoc, ← sumN_add]
  unfold treeC
  congr 1
  refine sumN_congr 16 fun k hk => ?_
  have em : mdI X.st (k * 64) = (X.N 0).kd k := by unfold mdI; rw [show k * 64 / 64 = k by omega]
  rw [em]
  by_cases e : (X.N 0).kd k = 0
  · rw [if_pos e, if_pos e, sumN_zero 8 fun j hj => ?_]
    have : lfI X.st ((k * 8 + j) * 8) = 0 := by
      unfold lfI mdI
      rw [show (k * 8 + j) * 8 / 64 = k by omega, if_pos e]
    rw [if_pos this]
  · rw [if_neg e, if_neg e]
    congr 1
    unfold kidC
    refine sumN_congr 8 fun j hj => ?_
    have : lfI X.st ((k * 8 + j) * 8) = (X.N ((X.N 0).kd k)).kd j := by
      unfold lfI mdI
      rw [show (k * 8 + j) * 8 / 64 = k by omega, if_neg e, show (k * 8 + j) * 8 / 8 % 8 = j by omega]
    rw [this]
theorem RAll.big (h : RAll X) {k : Nat} (hk : k < 16) : mdI X.st (k * 64) ≠ 0 ↔ ∃ q, q < 1024 ∧ q / 64 = k ∧ wdI X.st q ≠ 0 := by
  constructor
  · intro hne
    obtain ⟨q, a, b, c⟩ := (h.n (k * 64) (by omega)).1 hne
    exact ⟨q, a, by omega, c⟩
  · rintro ⟨q, a, b, c⟩ e
    apply c
    have : mdI X.st q = 0 := by
      unfold mdI at e ⊢
      rw [show k * 64 / 64 = q / 64 by omega] at e; exact e
    unfold wdI lfI
    rw [if_pos this, if_pos rfl]
theorem RAll.small (h : RAll X) {s : Nat} (hs : s < 128) : lfI X.st (s * 8) ≠ 0 ↔ ∃ q, q < 1024 ∧ q / 8 = s ∧ wdI X.st q ≠ 0 := by
  constructor
  · intro hne
    obtain ⟨q, a, b, c⟩ := (h.n (s * 8) (by omega)).2 hne
    exact ⟨q, a, by omega, c⟩
  · rintro ⟨q, a, b, c⟩ e
    apply c
    have : lfI X.st q = 0 := by
      unfold lfI mdI at e ⊢
      rw [show s * 8 / 64 = q / 64 by omega, show s * 8 / 8 = q / 8 by omega] at e; exact e
    unfold wdI
    rw [if_pos this]
/-- after all pages lose their words there is but the root -/
theorem RAll.empty (h : RAll X) (hz : ∀ q, q < 1024 → wdI X.st q = 0) : X.m = 1 ∧ (∀ k, k < 16 → (X.N 0).kd k = 0) := by
  have h1 : ∀ k, k < 16 → mdI X.st (k * 64) = 0 := fun k hk => by
    by_cases e : mdI X.st (k * 64) = 0
    · exact e
    · obtain ⟨q, a, _, c⟩ := (h.big hk).1 e
      exact absurd (hz q a) c
  have h2 : ∀ s, s < 128 → lfI X.st (s * 8) = 0 := fun s hs => by
    by_cases e : lfI X.st (s * 8) = 0
    · exact e
    · obtain ⟨q, a, _, c⟩ := (h.small hs).1 e
      exact absurd (hz q a) c
  refine ⟨?_, fun k hk => ?_⟩
  · rw [h.i.count, sumN_zero 16 (fun k hk => by rw [h1 k hk]; rfl), sumN_zero 128 (fun s hs => by rw [h2 s hs]; rfl)]
  · have := h1 k hk
    unfold mdI at this
    rwa [show k * 64 / 64 = k by omega] at this
end
end Go.Proofs.YtfmclbacoffdaaaDoor
