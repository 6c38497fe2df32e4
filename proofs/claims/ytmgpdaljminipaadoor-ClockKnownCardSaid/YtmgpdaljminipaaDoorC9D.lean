/- Clocks: the iterator of the rings: its memory, and the alarm that rings first. -/
import Derived.Test.YtmgpdaljminipaaDoorC9C
import Derived.Test.YtmgpdaljminipaaDoorIterK
import Derived.Deep.OwnRows
import Derived.Shelf.Abstract
import Derived.Shelf.RegionOpen
import Derived.OwnWalkIn
import Derived.TacticsInMore
import Derived.LoopNIn
import Derived.LoopIn
namespace Go.Proofs.YtmgpdaljminipaaDoor
open Go.RowKit Go.Sort Go.Joins Go.Shelf
attribute [local go_sem] cell_grow frozen_grow size_grow

/-- blocks that are the iterator's alone -/
def Ty9 (o : Obj) : Prop := ∃ cs T fz, o = .cells cs T fz ∧ (T = 2 ∨ T = 37 ∨ T = 50)
/-- what the loop's body leaves alone -/
def Kp9 (W W' : World) : Prop := ∀ (k : Nat) (o : Obj), W.heap[k]? = some o → Ty9 o → W'.heap[k]? = some o
/-- what the iterator writes -/
def Ow9 (B : Nat) (W W' : World) : Prop := Below B W W' ∧ ∀ (k : Nat) (o : Obj), W.heap[k]? = some o → ¬ Ty9 o → W'.heap[k]? = some o
theorem not_ty9 {o : Obj} (h : o.isCells = false) : ¬ Ty9 o := by
  rintro ⟨cs, T, fz, rfl, _⟩; cases h
theorem Kp9.trans {A B C : World} (h : Kp9 A B) (k : Kp9 B C) : Kp9 A C := fun i o hi ho => k i o (h i o hi ho) ho
theorem Kp9.refl (W : World) : Kp9 W W := fun _ _ h _ => h
theorem Kp9.putObj (W : World) (l : Nat) (o o' : Obj) (hl : W.heap[l]? = some o) (ho : o.isCells = false) : Kp9 W (W.putObj l o') := by
  intro k x hk hx
  by_cases e : k = l
  · subst e; rw [hl] at hk; cases hk; exact absurd hx (not_ty9 ho)
  · exact (World.putObj_heap_other e).trans hk
theorem Kp9.alloc (W : World) (o : Obj) : Kp9 W (W.alloc o) := fun k _ hk _ => (Below.heap_alloc W o k (Array.getElem?_eq_some_iff.1 hk).1).trans hk
theorem Kp9.below {W W' : World} (h : Below W.heap.size W W') : Kp9 W W' := fun k _ hk _ => (h.block k (Array.getElem?_eq_some_iff.1 hk).1).trans hk
theorem Kp9.setCell {W : World} {g i : Nat} {o : Obj} (hg : W.heap[g]? = some o) (ht : ¬ Ty9 o) (v : Value) : Kp9 W (W.setCell ⟨g, i, none⟩ v) := by
  intro k x hk hx
  by_cases e : k = g
  · subst e; rw [hg] at hk; cases hk; exact absurd hx ht
  · exact (Below.heap_setCell _ _ _ _ e).trans hk
theorem Kp9.grown {W W' : World} {row : Option Nat} (hg : W.grownBy W' row) (ht : ∀ r o, row = some r → W.heap[r]? = some o → ¬ Ty9 o) : Kp9 W W' := by
  intro k x hk hx
  exact (hg.block k (Array.getElem?_eq_some_iff.1 hk).1 (fun e => ht k x e.symm hk hx)).trans hk
theorem Ow9.keeps {B : Nat} {X Y : World} {k : Nat} {o : Obj} (h : Ow9 B X Y) (hk : X.heap[k]? = some o) (ho : o.isCells = false) : Y.heap[k]? = some o := h.2 k o hk (not_ty9 ho)
theorem Ow9.mono {B B' : Nat} {X Y : World} (hB : B ≤ B') (h : Ow9 B' X Y) : Ow9 B X Y := ⟨⟨h.1.os, h.1.tape, h.1.output, h.1.size, fun k hk => h.1.block k (by omega)⟩, h.2⟩
theorem Ow9.refl (B : Nat) (W : World) : Ow9 B W W := ⟨Below.refl _ _, fun _ _ h _ => h⟩
theorem Ow9.trans {B : Nat} {X Y Z : World} (h : Ow9 B X Y) (k : Ow9 B Y Z) : Ow9 B X Z := ⟨h.1.trans k.1, fun i o hi ho => k.2 i o (h.2 i o hi ho) ho⟩
theorem Ow9.alloc {B : Nat} {W : World} (hB : B ≤ W.heap.size) (o : Obj) : Ow9 B W (W.alloc o) := ⟨(Below.refl B W).alloc hB o, fun k _ hk _ => (Below.heap_alloc W o k (Array.getElem?_eq_some_iff.1 hk).1).trans hk⟩
theorem Ow9.drew {B : Nat} (W : World) : Ow9 B W W.drew := ⟨(Below.refl B W).drew, fun _ _ h _ => h⟩
theorem Ow9.setCell {B : Nat} {W : World} {g i : Nat} {o : Obj} (hB : B ≤ g) (hg : W.heap[g]? = some o) (ht : Ty9 o) (v : Value) : Ow9 B W (W.setCell ⟨g, i, none⟩ v) :=
  ⟨(Below.refl B W).setCell (p := ⟨g, i, none⟩) hB v, fun k x hk hx => by
    by_cases e : k = g
    · subst e; rw [hg] at hk; cases hk; exact absurd ht hx
    · exact (Below.heap_setCell _ _ _ _ e).trans hk⟩
/-- the times of the next rings, in memory -/
def At9 (W : World) (g n : Nat) (A : Nat → Int) : Prop := ∃ cs : Array Value, W.heap[g]? = some (.cells cs 2 (0, 0)) ∧ cs.size = n ∧ ∀ j, j < n → cs[j]? = some (.int .i64 (A j))
section
variable {W W' : World} {g n : Nat} {A : Nat → Int}
theorem At9.cell (h : At9 W g n A) {j : Nat} (hj : j < n) : W.cell? ⟨g, j, none⟩ = some (.int .i64 (A j)) := by
  obtain ⟨cs, h1, h2, h3⟩ := h
  rw [cell_of_block h1]; exact h3 j hj
theorem At9.fz (h : At9 W g n A) (j : Nat) : W.frozen? ⟨g, j, none⟩ = false := by
  obtain ⟨cs, h1, _, _⟩ := h
  exact unfrozen_of_block h1 j
theorem At9.lt (h : At9 W g n A) : g < W.heap.size := by obtain ⟨cs, h1, _, _⟩ := h; exact blk_lt h1
theorem At9.kept (h : At9 W g n A) (k : Kp9 W W') : At9 W' g n A := by
  obtain ⟨cs, h1, h2, h3⟩ := h
  exact ⟨cs, k g _ h1 ⟨_, _, _, rfl, .inl rfl⟩, h2, h3⟩
theorem At9.below (h : At9 W g n A) (hb : Below W.heap.size W W') : At9 W' g n A := h.kept (Kp9.below hb)
theorem At9.other (h : At9 W g n A) {b : Nat} (hne : g ≠ b) (j : Nat) (v : Value) : At9 (W.setCell ⟨b, j, none⟩ v) g n A := by
  obtain ⟨cs, h1, h2, h3⟩ := h
  exact ⟨cs, (Below.heap_setCell _ _ _ _ hne).trans h1, h2, h3⟩
theorem At9.set (h : At9 W g n A) {A' : Nat → Int} {i : Nat} {v : Int} (hi : i < n) (hA : ∀ j, j < n → A' j = if j = i then v else A j) : At9 (W.setCell ⟨g, i, none⟩ (.int .i64 v)) g n A' := by
  obtain ⟨cs, h1, h2, h3⟩ := h
  refine ⟨_, setCell_block h1 _, by simp [h2], fun j hj => ?_⟩
  rw [hA j hj]
  by_cases e : j = i
  · subst e; simp [h2, hj]
  · rw [Array.getElem?_setIfInBounds_ne (fun h => e h.symm), if_neg e]; exact h3 j hj
theorem At9.congr {A' : Nat → Int} (h : At9 W g n A) (hA : ∀ j, j < n → A j = A' j) : At9 W g n A' := by
  obtain ⟨cs, h1, h2, h3⟩ := h
  exact ⟨cs, h1, h2, fun j hj => by rw [← hA j hj]; exact h3 j hj⟩
theorem At9.ow (h : At9 W g n A) {B : Nat} (hB : B ≤ g) (i : Nat) (v : Value) : Ow9 B W (W.setCell ⟨g, i, none⟩ v) := by
  obtain ⟨cs, h1, _, _⟩ := h
  exact Ow9.setCell hB h1 ⟨_, _, _, rfl, .inl rfl⟩ v
end
theorem At9.new (W : World) (n : Nat) : At9 (W.alloc (.cells (madeCells #[.int .i64 0] n) 2)) W.heap.size n (fun _ => 0) := by
  refine ⟨_, heap_alloc_new W _, ?_, fun j hj => ?_⟩
  · unfold madeCells; simp
  · unfold madeCells; simp [hj, Nat.mod_one]
theorem info_i64 : (Tryd.prog.info? 2).map (fun i => (i.zero, i.size, i.bytes)) = some (some (.int .i64 0), 1, 8) := by kernel_rfl
/-- the box of a slice -/
abbrev BoxI (W : World) (b g n : Nat) : Prop := W.heap[b]? = some (.cells #[.slice (some ⟨g, 0, none⟩) n n] 37 (0, 0))
/-- the ways in which the search goes on -/
theorem bst_ways (A : Nat → Int) (k : Nat) : ∃ b : Int, bst A k = b ∧ -1 ≤ b ∧ b < k ∧
    ((decide (0 ≤ A k) = false ∧ bst A (k + 1) = b) ∨
     (decide (0 ≤ A k) = true ∧ decide (b < 0) = true ∧ bst A (k + 1) = k) ∨
     (∃ c : Nat, b = c ∧ c < k ∧ decide (0 ≤ A k) = true ∧ decide (b < 0) = false ∧ decide (A k < A c) = true ∧ bst A (k + 1) = k) ∨
     (∃ c : Nat, b = c ∧ c < k ∧ decide (0 ≤ A k) = true ∧ decide (b < 0) = false ∧ decide (A k < A c) = false ∧ bst A (k + 1) = b)) := by
  refine ⟨bst A k, rfl, ?_⟩
  simp only [bst]
  by_cases h0 : 0 ≤ A k
  · rcases bst_spec A k with ⟨e, _⟩ | ⟨c, e, hc, hp, _⟩
    · rw [e]
      refine ⟨by omega, by omega, .inr (.inl ⟨by simpa using h0, by simp, ?_⟩)⟩
      rw [if_pos ⟨h0, .inl (by decide)⟩]
    · rw [e]
      refine ⟨by omega, by omega, .inr (.inr ?_)⟩
      by_cases hl : A k < A c
      · left
        refine ⟨c, rfl, hc, by simpa using h0, by simp, by simpa using hl, ?_⟩
        rw [if_pos ⟨h0, .inr (by rw [Int.toNat_natCast]; exact hl)⟩]
      · right
        refine ⟨c, rfl, hc, by simpa using h0, by simp, by simpa using hl, ?_⟩
        rw [if_neg]
        rintro ⟨_, h1 | h1⟩
        · omega
        · rw [Int.toNat_natCast] at h1; exact hl h1
  · rcases bst_spec A k with ⟨e, _⟩ | ⟨c, e, hc, hp, _⟩
    all_goals
      rw [e]
      refine ⟨by omega, by omega, .inl ⟨by simpa using h0, ?_⟩⟩
      rw [if_neg (fun h => h0 h.1)]
set_option maxRecDepth 100000 in
set_option maxHeartbeats 1600000 in
theorem first_ok {W : World} {b g n : Nat} {A : Nat → Int} (hb : BoxI W b g n) (hA : At9 W g n A) (hn : n ≤ 50) :
    Calls Tryd.prog 54 #[.pointer (some ⟨b, 0, none⟩)] W fun e w' => e = .returned (.int .i64 (bst A n)) ∧ W = w' := by
  have c0 : W.cell? ⟨b, 0, none⟩ = some (.slice (some ⟨g, 0, none⟩) n n) := by rw [cell_of_block hb]; rfl
  have HA := Lib.hid hA
  clear hb hA
  go_enter Tryd.func54, Tryd.ntmps54
  go_wp2
  go_loop [2, 7] (fun s i => ∃ k : Nat, i = .int .i64 k ∧ k ≤ n ∧ s = .int .i64 (bst A k)) (fun _ i => n - (intOf i).toNat)
  case atStart => exact ⟨0, rfl, Nat.zero_le _, rfl⟩
  case round =>
    obtain ⟨k, rfl, hk, rfl⟩ := hrel
    by_cases hlt : k < n
    · obtain ⟨y, hy, y0, y1, hw⟩ := bst_ways A k
      rw [hy]
      have ck := HA.out.cell hlt
      obtain ⟨x, hx⟩ : ∃ x, A k = x := ⟨_, rfl⟩
      rw [hx] at ck hw
      clear hy hx
      rcases hw with ⟨d1, hv⟩ | ⟨d1, d2, hv⟩ | ⟨d, rfl, hd, d1, d2, d3, hv⟩ | ⟨d, rfl, hd, d1, d2, d3, hv⟩
      all_goals
        have HV := Lib.hid hv
        clear hv
        first
          | (have cd := HA.out.cell (show d < n by omega)
             have hdi : (d : Int) < (n : Int) := by omega
             have hd0 : (0 : Int) ≤ (d : Int) := by omega)
          | skip
        go_wp2
        go_round
        case rel => exact ⟨k + 1, by go_num, by omega, by rw [HV.out]⟩
        case measure => simp [intOf]; omega
    · obtain rfl : k = n := by omega
      go_wp2
      go_ret
      exact ⟨rfl, rfl⟩
/-- rings (the function that makes the iterator) -/
theorem rings_ok (a : Option Addr) (n c : Nat) (w : World) : Calls Tryd.prog 37 #[pV a n c] w fun e w' => e = .returned (.func (.func 53) #[] #[.pointer (some ⟨w.heap.size, 0, none⟩)]) ∧ w.alloc (.cells #[.slice a n c] 44) = w' := by
  go_enter Tryd.func37, Tryd.ntmps37
  go_wp2
  go_ret
  exact ⟨rfl, rfl⟩
end Go.Proofs.YtmgpdaljminipaaDoor
