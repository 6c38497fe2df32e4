/- Clocks: Next of any plan; the reference's Next. -/
import Derived.Test.YtmgpdaljminipaaDoorC9N
import Derived.BigRegion
namespace Go.Proofs.YtmgpdaljminipaaDoor
open Go.RowKit Go.Sort Go.Joins Go.Shelf
attribute [local go_sem] cell_grow frozen_grow size_grow Oper.semAt_some
/-- what Next answers -/
def nextV (n : Nat) (R : Nat → Al) : Rn := if cE n R ≠ 0 then rn0 else if bst (tmsA R) n < 0 then rn0 else ((R (bst (tmsA R) n).toNat).1, (R (bst (tmsA R) n).toNat).2.1)
def nextE (n : Nat) (R : Nat → Al) : Int := if cE n R ≠ 0 then cE n R else if bst (tmsA R) n < 0 then 4 else 0
theorem nbst_congr {A B : Nat → Int} : ∀ {n : Nat}, (∀ i, i < n → A i = B i) → bst A n = bst B n
  | 0, _ => rfl
  | m + 1, h => by
    have ih := nbst_congr (n := m) fun i hi => h i (by omega)
    simp only [bst]
    rw [← ih, ← h m (by omega)]
    rcases bst_spec A m with ⟨e, _⟩ | ⟨b, e, hb, _⟩
    · rw [e]; simp
    · rw [e]
      have ht : ((b : Nat) : Int).toNat = b := Int.toNat_natCast b
      rw [ht, ← h b (by omega)]
theorem bst_now {n : Nat} {R : Nat → Al} {c : Nat → Nat} {u : Int} (hP : PlOk n R) (h : RgAt n (alP R) u c []) : bst (fun i => pos (alP R i) (c i)) n = bst (tmsA R) n := by
  refine nbst_congr fun i hi => ?_
  have hc : c i = 0 := by
    by_cases hz : c i = 0
    · exact hz
    · have : (pos (alP R i) 0, i) ∈ ([] : List (Int × Nat)) := (h.mem _).2 ⟨hi, 0, by dsimp only; omega, rfl⟩
      cases this
  rw [hc]
  exact pos_zero (hP.ok i hi)
section
variable {w : World} {a : Option Addr} {n c : Nat} {R : Nat → Al}
set_option maxRecDepth 100000 in
set_option maxHeartbeats 1600000 in
theorem nextF_ok (hS : SlA w a n R) (hn : n ≤ 9223372036854775807) (hR : ∀ j, j < n → AlB (R j)) :
    Calls Tryd.prog 13 #[pV a n c] w fun e w' => e = .returned (.tuple #[gV (nextV n R), .int .i64 (nextE n R)]) ∧ Below w.heap.size w w' := by
  by_cases hE : cE n R = 0
  · have hP := cE_zero hE
    refine (next_all hS hn hR hP).mono ?_
    rintro e w' ⟨v, f, rfl, ⟨rfl, x, rfl, k, h1, h2, h3⟩ | ⟨rfl, rfl, k, h1, h2⟩, h4⟩
    · rw [bst_now hP h1] at h2
      have hk : k x.2 = 0 ∧ x.2 < n := by
        rcases bst_spec (tmsA R) n with ⟨e, _⟩ | ⟨b, e, hb, _⟩
        · rw [e] at h2; omega
        · have hbx : b = x.2 := by rw [e] at h2; omega
          subst hbx
          refine ⟨?_, hb⟩
          by_cases hz : k x.2 = 0
          · exact hz
          · have : (pos (alP R x.2) 0, x.2) ∈ ([] : List (Int × Nat)) := (h1.mem _).2 ⟨hb, 0, by dsimp only; omega, rfl⟩
            cases this
      rw [hk.1] at h3
      have h3' : x.1 = (R x.2).2.1 := h3.trans (pos_zero (hP.ok _ hk.2))
      have hv : nextV n R = rgN R x := by
        unfold nextV rgN
        rw [if_neg (by simpa using hE), h2, if_neg (by omega), Int.toNat_natCast, h3']
      have he : nextE n R = 0 := by
        unfold nextE
        rw [if_neg (by simpa using hE), h2, if_neg (by omega)]
      rw [hv, he]
      exact ⟨rfl, h4⟩
    · rw [bst_now hP h1] at h2
      have hv : nextV n R = rn0 := by unfold nextV; rw [if_neg (by simpa using hE), h2, if_pos (by decide)]
      have he : nextE n R = 4 := by unfold nextE; rw [if_neg (by simpa using hE), h2, if_pos (by decide)]
      rw [hv, he]
      exact ⟨rfl, h4⟩
  · have hv : nextV n R = rn0 := if_pos hE
    have he : nextE n R = cE n R := if_pos hE
    rw [hv, he]
    have b1 : Below w.heap.size w (((w.alloc (.cells #[.slice a n c] 44)).alloc (.cells #[.string ⟨#[]⟩, .int .i64 0] 39)).alloc (.cells #[.int .i64 0] 23)) := (((Below.refl _ w).alloc (Nat.le_refl _) _).alloc (by simp) _).alloc (by simp; omega) _
    have HC := Lib.hid (check_ok (c := c) (hS.below b1) hn hR)
    have hk2 : (((w.alloc (.cells #[.slice a n c] 44)).alloc (.cells #[.string ⟨#[]⟩, .int .i64 0] 39)).alloc (.cells #[.int .i64 0] 23)).heap[w.heap.size + 1]? = some (.cells #[.string ⟨#[]⟩, .int .i64 0] 39 (0, 0)) := by
      have := heap_alloc_new (w.alloc (.cells #[.slice a n c] 44)) (.cells #[.string ⟨#[]⟩, .int .i64 0] 39)
      rw [World.size_alloc] at this
      exact (Below.heap_alloc _ _ _ (by simp)).trans this
    have hk3 : (((w.alloc (.cells #[.slice a n c] 44)).alloc (.cells #[.string ⟨#[]⟩, .int .i64 0] 39)).alloc (.cells #[.int .i64 0] 23)).heap[w.heap.size + 1 + 1]? = some (.cells #[.int .i64 0] 23 (0, 0)) := by
      have := heap_alloc_new ((w.alloc (.cells #[.slice a n c] 44)).alloc (.cells #[.string ⟨#[]⟩, .int .i64 0] 39)) (.cells #[.int .i64 0] 23)
      rw [World.size_alloc, World.size_alloc] at this
      exact this
    have HK2 := Lib.hid hk2
    have HK3 := Lib.hid hk3
    have HB0 := Lib.hid b1
    obtain ⟨p, hp⟩ : ∃ p, cE n R = p := ⟨_, rfl⟩
    rw [hp] at HC hE ⊢
    have d0 := bne0_true hE
    clear hS hR b1 hk2 hk3 hE hv he hp
    go_enter Tryd.func13, Tryd.ntmps13
    go_wp2_with fail
    refine HC.out.mono ?_
    rintro e w1 ⟨rfl, b1⟩
    have h2 := (b1.block _ (blk_lt HK2.out)).trans HK2.out
    have h3 := (b1.block _ (blk_lt HK3.out)).trans HK3.out
    have k2 : w1.cell? ⟨w.heap.size + 1, 0, none⟩ = some (.string ⟨#[]⟩) := by rw [cell_of_block h2]; rfl
    have k3 : w1.cell? ⟨w.heap.size + 1, 1, none⟩ = some (.int .i64 0) := by rw [cell_of_block h2]; rfl
    have k4 : w1.cell? ⟨w.heap.size + 1 + 1, 0, none⟩ = some (.int .i64 0) := by rw [cell_of_block h3]; rfl
    have f2 := unfrozen_of_block h2
    have f3 := unfrozen_of_block h3
    have HB1 := Lib.hid (below_tr HB0.out b1)
    clear b1 h2 h3
    go_wp2
    refine bodyPost_ret (v := .tuple #[gV rn0, .int .i64 p]) (by simp [results, Tryd.results13, go_sem, k2, k3, k4, f2, f3, rn0]) rfl ⟨rfl, ?_⟩
    exact ((HB1.out.setCell (p := ⟨w.heap.size + 1, 0, none⟩) (by dsimp only; omega) _).setCell (p := ⟨w.heap.size + 1, 1, none⟩) (by dsimp only; omega) _).setCell (p := ⟨w.heap.size + 1 + 1, 0, none⟩) (by dsimp only; omega) _
end
end Go.Proofs.YtmgpdaljminipaaDoor
