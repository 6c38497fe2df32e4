/- Clocks: Run: what is left of the plan. -/
import Derived.Test.YtmgpdaljminipaaDoorC9G
import Derived.StillTailTactics
import Derived.BigRegion
import Derived.Deep.Cut
namespace Go.Proofs.YtmgpdaljminipaaDoor
open Go.RowKit Go.Sort Go.Joins Go.Shelf
attribute [local go_sem] cell_grow frozen_grow size_grow

/-- the ways in which an alarm is left -/
theorem nx_ways {a : Int × Int} (h : AlOk a) {u : Int} (h0 : 0 ≤ u) (h1 : u ≤ 1000000000000) :
    (decide (a.1 ≤ u) = false ∧ decide (a.1 ≤ 1000000000000) = true ∧ nxA a u = a.1) ∨
    (decide (a.1 ≤ u) = true ∧ (a.2 == 0) = true ∧ nxA a u = -1) ∨
    (∃ q : Int, decide (a.1 ≤ u) = true ∧ (a.2 == 0) = false ∧ (u - a.1) / a.2 = q ∧ 1 ≤ a.2 ∧ a.2 ≤ 1000000000000 ∧ a.1 ≤ u ∧ 0 ≤ q ∧ q ≤ 1000000000000 ∧ 0 ≤ (q + 1) * a.2 ∧ (q + 1) * a.2 ≤ 2000000000000 ∧
      ((decide (a.1 + (q + 1) * a.2 ≤ 1000000000000) = true ∧ nxA a u = a.1 + (q + 1) * a.2) ∨ (decide (a.1 + (q + 1) * a.2 ≤ 1000000000000) = false ∧ nxA a u = -1))) := by
  have a0 := h.a0
  have a1 := h.a1
  have e0 := h.e0
  have e1 := h.e1
  unfold nxA
  rw [MT_eq] at *
  by_cases g1 : a.1 ≤ u
  · rw [if_pos g1]
    by_cases g2 : a.2 = 0
    · exact .inr (.inl ⟨by simpa using g1, by simpa using g2, if_pos g2⟩)
    rw [if_neg g2]
    have k1 : 0 ≤ (u - a.1) / a.2 := Int.ediv_nonneg (by omega) (by omega)
    have k2 : (u - a.1) / a.2 * a.2 ≤ u - a.1 := Int.ediv_mul_le _ g2
    have k4 : (u - a.1) / a.2 * 1 ≤ (u - a.1) / a.2 * a.2 := Int.mul_le_mul_of_nonneg_left (by omega) k1
    have em : ((u - a.1) / a.2 + 1) * a.2 = (u - a.1) / a.2 * a.2 + a.2 := by rw [Int.add_mul, Int.one_mul]
    refine .inr (.inr ⟨_, by simpa using g1, by simpa using g2, rfl, by omega, by omega, g1, k1, by omega, by omega, by omega, ?_⟩)
    by_cases g3 : a.1 + ((u - a.1) / a.2 + 1) * a.2 ≤ 1000000000000
    · exact .inl ⟨by simpa using g3, if_pos g3⟩
    · exact .inr ⟨by simpa using g3, if_neg g3⟩
  · rw [if_neg g1]
    exact .inl ⟨by simpa using g1, by simp; omega, rfl⟩
/-- what the loop over the alarms keeps -/
structure RM (w : World) (a : Option Addr) (n c : Nat) (R : Nat → Al) (u : Int) (z : Nat) (L : List (Int × Nat)) (D zz : Nat) (k : Nat) (W : World) : Prop where
  i : RI w a n c R u z L W
  d : W.heap[D]? = some (.deferred (some []))
  q : ∃ v, W.heap[zz]? = some (.cells #[v] 44 (0, 0)) ∧ W.ownsRow (zz + 1) 50 3 v (rstA R u k).length (alc (rstA R u k))
section
variable {w : World} {a : Option Addr} {n c : Nat} {R : Nat → Al} {u : Int} {z : Nat} {L : List (Int × Nat)} {D zz k : Nat} {W W' : World}
theorem RM.below (h : RM w a n c R u z L D zz k W) (hb : Below W.heap.size W W') : RM w a n c R u z L D zz k W' := by
  obtain ⟨v, h1, h2⟩ := h.q
  exact ⟨h.i.below hb, (hb.block _ (Array.getElem?_eq_some_iff.1 h.d).1).trans h.d, ⟨v, (hb.block _ (blk_lt h1)).trans h1, own_below h2 hb⟩⟩
end
section
variable {w : World} {a : Option Addr} {n c : Nat} {R : Nat → Al} {u : Int} {z : Nat} {L : List (Int × Nat)} {D zz k : Nat} {W W' : World}
theorem RI.grownT {row : Option Nat} (h : RI w a n c R u z L W) (hg : W.grownBy W' row) (ht : ∀ r o, row = some r → W.heap[r]? = some o → ∃ cs, o = .cells cs 50 (0, 0)) (hge : ∀ r, row = some r → w.heap.size ≤ r) : RI w a n c R u z L W' := by
  have key : ∀ {g : Nat} {cs : Array Value} {T : TypeId}, T ≠ 50 → W.heap[g]? = some (.cells cs T (0, 0)) → W'.heap[g]? = some (.cells cs T (0, 0)) := fun hT hgk =>
    (hg.block _ (blk_lt hgk) (fun e => by obtain ⟨cs', e'⟩ := ht _ _ e.symm hgk; cases e'; exact hT rfl)).trans hgk
  obtain ⟨v, h1, h2⟩ := h.box
  exact ⟨⟨h.b.k.grown hg h.b.k.size hge, key (by decide) h.b.b2, key (by decide) h.b.b3, key (by decide) h.b.b5⟩, key (by decide) h.p, ⟨v, key (by decide) h1, own_same h2 fun g cur hgk => key (by decide) hgk⟩, h.le, h.z3⟩
theorem RI.setT {j : Nat} {v : Value} {cs : Array Value} (h : RI w a n c R u z L W) (hzz : z + 2 ≤ zz) (hb : W.heap[zz]? = some (.cells cs 44 (0, 0))) : RI w a n c R u z L (W.setCell ⟨zz, j, none⟩ v) := by
  obtain ⟨v', h1, h2⟩ := h.box
  have := h.z3
  exact ⟨h.b.set (by omega), (Below.heap_setCell _ _ _ _ (show z + 1 ≠ zz by omega)).trans h.p, ⟨v', (Below.heap_setCell _ _ _ _ (show z ≠ zz by omega)).trans h1, own_same h2 fun g cur hgk => (Below.heap_setCell _ _ _ _ (fun e => by subst e; rw [hb] at hgk; cases hgk)).trans hgk⟩, h.le, h.z3⟩
theorem RM.snoc {v v' : Value} {o : Obj} {w3 : World} {x : Al} {m : Nat} (h : RM w a n c R u z L D zz k W) (hzz : z + 2 ≤ zz) (hb : W.heap[zz]? = some (.cells #[v] 44 (0, 0))) (ho : W.ownsRow (zz + 1) 50 3 v (rstA R u k).length (alc (rstA R u k)))
    (hg : (W.alloc o).grownBy w3 v.ownBlock) (hown : w3.ownsRow (zz + 1) 50 3 v' m (alc (rstA R u k) ++ [.string x.1, .int .i64 x.2.1, .int .i64 x.2.2])) (hm : m = (rstA R u k).length + 1) (hr : rstA R u (k + 1) = rstA R u k ++ [x]) :
    RM w a n c R u z L D zz (k + 1) (w3.setCell ⟨zz, 0, none⟩ v') := by
  subst hm
  have bA := below_box0 W o
  have hA := h.below bA
  have hrow : ∀ r o', v.ownBlock = some r → (W.alloc o).heap[r]? = some o' → ∃ cs, o' = .cells cs 50 (0, 0) := fun r o' hr' ho' => own_cells (ho.alloc _) r o' hr' ho'
  have hge : ∀ r, v.ownBlock = some r → zz + 1 ≤ r := fun r e => (ho.lt _ e).1
  have hz3 := h.i.z3
  have hi3 := hA.i.grownT hg hrow (fun r e => by have := hge r e; omega)
  have hb3 : w3.heap[zz]? = some (.cells #[v] 44 (0, 0)) := (hg.block _ (by have := blk_lt hb; simp; omega) (fun e => by have := hge _ e.symm; omega)).trans ((bA.block _ (blk_lt hb)).trans hb)
  have hd3 : w3.heap[D]? = some (.deferred (some [])) := (hg.block _ (Array.getElem?_eq_some_iff.1 hA.d).1 (fun e => by obtain ⟨cs, e'⟩ := hrow _ _ e.symm hA.d; cases e')).trans hA.d
  have hne' : v'.ownBlock ≠ some (⟨zz, 0, none⟩ : Addr).block := fun e => by have := (hown.lt _ e).1; dsimp only at this; omega
  refine ⟨hi3.setT hzz hb3, (Below.heap_setCell _ _ _ _ (fun e => by subst e; rw [hb3] at hd3; cases hd3)).trans hd3, ⟨v', (setCell_block hb3 _).trans (by simp), ?_⟩⟩
  rw [hr, alc_snoc, List.length_append, List.length_singleton]
  exact ownsRow_setCell_other hown hne' v'
theorem RM.same (h : RM w a n c R u z L D zz k W) (hr : rstA R u (k + 1) = rstA R u k) : RM w a n c R u z L D zz (k + 1) W := by
  obtain ⟨v, h1, h2⟩ := h.q
  exact ⟨h.i, h.d, ⟨v, h1, by rw [hr]; exact h2⟩⟩
end
set_option maxRecDepth 100000 in
set_option maxHeartbeats 6400000 in
theorem runB {a : Option Addr} {n c : Nat} {R : Nat → Al} {u : Int} {w : World} (W : World) (D z : Nat) (cv : Int) (L : List (Int × Nat)) (hA : RunAt w W a n c R u z L D) (hS : SlA w a n R) (hn : n ≤ 9223372036854775807) (hE : rnE n R u = 0) :
    (runA a n c R u w).1 W D z cv := by
  obtain ⟨i0, hi0, hz0, hz1, hz2'⟩ := info_parts info_alarm
  obtain ⟨hct, hsum⟩ := rnE_zero hE
  obtain ⟨hce, hu0, hu1⟩ := ctE_zero hct
  have HP := Lib.hid (cE_zero hce)
  have hn50 := HP.out.n50
  have HS := Lib.hid hS
  have bz := below_box0 W (.cells #[.slice none 0 0] 44)
  have hrm : RM w a n c R u z L D W.heap.size 0 (W.alloc (.cells #[.slice none 0 0] 44)) := ⟨hA.i.below bz, (bz.block _ (Array.getElem?_eq_some_iff.1 hA.d).1).trans hA.d, ⟨_, heap_alloc_new W _, World.ownsRow_nil _ _ _ _⟩⟩
  have HRM := Lib.hid hrm
  have hzl := blk_lt hA.i.p
  have HSUM : Hid (L.length ≤ 1000) := Lib.hid (by have := hA.ok.len; omega)
  have HA := Lib.hid hA
  have k2 : W.cell? ⟨w.heap.size, 0, none⟩ = some (.slice a n c) := by rw [cell_of_block hA.i.b.b2]; rfl
  have kl2 := blk_lt hA.i.b.b2
  clear hrm hA bz hS hE hct hce hsum
  unfold runA
  dsimp only
  go_wp2
  clear k2 kl2
  obtain ⟨zz, hzz⟩ : ∃ z, W.heap.size = z := ⟨_, rfl⟩
  rw [hzz] at HRM hzl ⊢
  have HZZ : Hid (z + 2 ≤ zz) := Lib.hid (by omega)
  clear hzz hzl
  go_loopw [45] (fun i wr => ∃ k : Nat, i = .int .i64 k ∧ k ≤ n ∧ Hid (RM w a n c R u z L D zz k wr)) (fun i _ => n - (intOf i).toNat)
  case atStart => exact ⟨0, rfl, Nat.zero_le _, HRM⟩
  case round =>
    clear HRM
    obtain ⟨k, rfl, hk, HI⟩ := hrel
    by_cases hlt : k < n
    · obtain ⟨b, o, rfl, g0, g1, g2⟩ := (HS.out.below HI.out.i.b.k).at_ hlt
      have hbl := World.block_lt_of_cell? _ _ g0
      dsimp only at hbl
      have hw := nx_ways (HP.out.ok k hlt) hu0 hu1
      have hr1 : rstA R u (k + 1) = if 0 ≤ nxA (R k).2 u then rstA R u k ++ [((R k).1, nxA (R k).2 u, (R k).2.2)] else rstA R u k := rfl
      have hx0 := (HP.out.ok k hlt).a0
      obtain ⟨s, x, p, hX⟩ : ∃ s x p, R k = (s, x, p) := ⟨_, _, _, rfl⟩
      rw [hX] at g0 g1 g2 hw hr1 hx0
      dsimp only at g0 g1 g2 hw hr1 hx0
      have HR1 := Lib.hid hr1
      have k3 : wr.cell? ⟨w.heap.size + 1, 0, none⟩ = some (.int .i64 u) := by rw [cell_of_block HI.out.i.b.b3]; rfl
      have kl3 := blk_lt HI.out.i.b.b3
      clear hX hr1
      have HX0 : 0 ≤ x := hx0
      rcases hw with ⟨d1, d2, hv⟩ | ⟨d1, d2, hv⟩ | ⟨q, d1, d2, d3, e1, e2, e3, e4, e5, e6, e7, ⟨d4, hv⟩ | ⟨d4, hv⟩⟩
      all_goals
        have bA := below_box0 wr (.cells #[.string s, .int .i64 x, .int .i64 p] 50)
        have h14 : (wr.alloc (.cells #[.string s, .int .i64 x, .int .i64 p] 50)).heap[wr.heap.size]? = some (.cells #[.string s, .int .i64 x, .int .i64 p] 50 (0, 0)) := heap_alloc_new wr _
        have HIA := Lib.hid (HI.out.below bA)
        have HBV := Lib.hid bA
        have H14 := Lib.hid h14
        have HV := Lib.hid hv
        clear bA h14 hv
        go_upto_region 15 with fail
        obtain ⟨V, hV⟩ : ∃ V, wr.alloc (.cells #[.string s, .int .i64 x, .int .i64 p] 50) = V := ⟨_, rfl⟩
        rw [hV] at HIA H14 HBV ⊢
        obtain ⟨g14, hg14⟩ : ∃ g, wr.heap.size = g := ⟨_, rfl⟩
        have HG14 := Lib.hid hg14
        rw [hg14] at H14 HBV ⊢
        clear hV k3 kl3 hg14 g0 g1 g2 hbl
        have k3 : V.cell? ⟨w.heap.size + 1, 0, none⟩ = some (.int .i64 u) := by rw [cell_of_block HIA.out.i.b.b3]; rfl
        have c1 : V.cell? ⟨g14, 1, none⟩ = some (.int .i64 x) := by rw [cell_of_block H14.out]; rfl
        have c2 : V.cell? ⟨g14, 2, none⟩ = some (.int .i64 p) := by rw [cell_of_block H14.out]; rfl
      · go_upto_region 19 with fail
        clear k3 c1 c2
        have HI5 := HIA
        have H145 := H14
        obtain ⟨V5, hV5⟩ : ∃ W, V = W := ⟨_, rfl⟩
        rw [hV5] at HI5 H145 ⊢
        clear hV5 HBV HIA H14
        obtain ⟨v, hbq, hoq⟩ := HI5.out.q
        have kq : V5.cell? ⟨zz, 0, none⟩ = some v := by rw [cell_of_block hbq]; rfl
        have ks0 : V5.cell? ⟨g14, 0, none⟩ = some (.string s) := by rw [cell_of_block H145.out]; rfl
        have ks1 : V5.cell? ⟨g14, 1, none⟩ = some (.int .i64 (x)) := by rw [cell_of_block H145.out]; rfl
        have ks2 : V5.cell? ⟨g14, 2, none⟩ = some (.int .i64 p) := by rw [cell_of_block H145.out]; rfl
        have hlz := blk_lt hbq
        have hlq := rstA_len R u k
        have HBQ := Lib.hid hbq
        have HOQ := Lib.hid hoq
        clear hbq hoq
        go_wp2_with (at_builtin; refine wpList_append_own _ rfl (.tmp 75) (.tmp 77) 42 rfl (zz + 1) 50 i0 (.agg #[.string ⟨#[]⟩, .int .i64 0, .int .i64 0]) 3 32 Tryd.underlying42 hi0 hz0 hz1 hz2' rfl (by decide) _ _ _ rfl (HOQ.out.alloc _) ⟨V5.heap.size, 0, none⟩ 1 1 [.string s, .int .i64 (x), .int .i64 p] rfl rfl ?c1 ?c2 ?c3 ?c4 ?c5 ?_)
        case c1 => intro j q hq; match j with | 0 => (simp at hq; subst hq; simp [go_sem]) | 1 => (simp at hq; subst hq; simp [go_sem]) | 2 => (simp at hq; subst hq; simp [go_sem]) | j + 3 => simp at hq
        case c2 => intro q hq; simp at hq; rcases hq with rfl | rfl | rfl <;> rfl
        case c3 => unfold maxLen; omega
        case c4 => omega
        case c5 => first | omega | (simp; omega)
        intro v' w3 hown hg _
        obtain ⟨va, vc, rfl⟩ := own_slice' hown
        have hge : ∀ r, v.ownBlock = some r → zz + 1 ≤ r := fun r e => (HOQ.out.lt _ e).1
        have hbz3 : w3.heap[zz]? = some (.cells #[v] 44 (0, 0)) := (hg.block zz (by simp; omega) (fun e => by have := hge _ e.symm; omega)).trans ((Below.heap_alloc _ _ _ hlz).trans HBQ.out)
        have dq : w3.cell? ⟨zz, 0, none⟩ = some v := by rw [cell_of_block hbz3]; rfl
        have df : w3.frozen? ⟨zz, 0, none⟩ = false := unfrozen_of_block hbz3 0
        have HWN := Lib.hid hown
        have HGN := Lib.hid hg
        clear hown hg hbz3 hge kq ks0 ks1 ks2
        go_wp2
        go_roundw
        case rel => exact ⟨k + 1, by go_num, by omega, Lib.hid (HI5.out.snoc (x := (s, x, p)) HZZ.out HBQ.out HOQ.out HGN.out HWN.out rfl (by rw [HR1.out, HV.out, if_pos (by omega)]))⟩
        case measure => simp [intOf]; omega
      · go_wp2
        go_roundw
        case rel => exact ⟨k + 1, by go_num, by omega, Lib.hid (HIA.out.same (by rw [HR1.out, HV.out, if_neg (by decide)]))⟩
        case measure => simp [intOf]; omega
      · skip
        have hw1 : IntKind.i64.wrap (u - x) = u - x := IntWalk.i64_in _ (by omega)
        have hp0 : (p = 0) = False := by rw [eq_iff_iff, iff_false]; omega
        have hq1 : IntKind.i64.wrap ((u - x).tdiv p) = q := by rw [Int.tdiv_eq_ediv_of_nonneg (by omega), d3]; exact IntWalk.i64_in _ (by omega)
        have hq2 : IntKind.i64.wrap (q + 1) = q + 1 := IntWalk.i64_in _ (by omega)
        have hq3 : IntKind.i64.wrap ((q + 1) * p) = (q + 1) * p := IntWalk.i64_in _ (by omega)
        have hq4 : IntKind.i64.wrap (x + (q + 1) * p) = x + (q + 1) * p := IntWalk.i64_in _ (by omega)
        have f14 := unfrozen_of_block H14.out
        go_wp2_with fail
        go_still_tail 15, (by kernel_rfl)
        change wpList _ _ _ _ _ V.drew
        have HB2 : Hid (Below g14 wr V.drew) := Lib.hid (HBV.out.drew)
        have H142 : Hid (V.drew.heap[g14]? = some (.cells #[.string s, .int .i64 x, .int .i64 p] 50 (0, 0))) := Lib.hid H14.out
        obtain ⟨V2, hV2⟩ : ∃ W, V.drew = W := ⟨_, rfl⟩
        rw [hV2] at HB2 H142 ⊢
        clear hV2 hw1 hp0 hq1 hq2 hq3 hq4 k3 c1 c2 f14
        have f14 := unfrozen_of_block H142.out
        have c1 : V2.cell? ⟨g14, 1, none⟩ = some (.int .i64 x) := by rw [cell_of_block H142.out]; rfl
        have HB5 : Hid (Below g14 wr (V2.setCell ⟨g14, 1, none⟩ (.int .i64 (x + (q + 1) * p)))) := Lib.hid (HB2.out.setCell (p := ⟨g14, 1, none⟩) (Nat.le_refl _) _)
        have H145 : Hid ((V2.setCell ⟨g14, 1, none⟩ (.int .i64 (x + (q + 1) * p))).heap[g14]? = some (.cells #[.string s, .int .i64 (x + (q + 1) * p), .int .i64 p] 50 (0, 0))) := Lib.hid ((setCell_block H142.out _).trans (by simp))
        go_upto_region 18 with fail
        obtain ⟨V5, hV5⟩ : ∃ W, V2.setCell ⟨g14, 1, none⟩ (.int .i64 (x + (q + 1) * p)) = W := ⟨_, rfl⟩
        rw [hV5] at HB5 H145 ⊢
        clear hV5 c1 f14
        have hb5 := HB5.out
        rw [← HG14.out] at hb5
        have HI5 := Lib.hid (HI.out.below hb5)
        clear hb5
        have cx : V5.cell? ⟨g14, 1, none⟩ = some (.int .i64 (x + (q + 1) * p)) := by rw [cell_of_block H145.out]; rfl
        go_upto_region 19 with fail
        clear cx
        obtain ⟨v, hbq, hoq⟩ := HI5.out.q
        have kq : V5.cell? ⟨zz, 0, none⟩ = some v := by rw [cell_of_block hbq]; rfl
        have ks0 : V5.cell? ⟨g14, 0, none⟩ = some (.string s) := by rw [cell_of_block H145.out]; rfl
        have ks1 : V5.cell? ⟨g14, 1, none⟩ = some (.int .i64 (x + (q + 1) * p)) := by rw [cell_of_block H145.out]; rfl
        have ks2 : V5.cell? ⟨g14, 2, none⟩ = some (.int .i64 p) := by rw [cell_of_block H145.out]; rfl
        have hlz := blk_lt hbq
        have hlq := rstA_len R u k
        have HBQ := Lib.hid hbq
        have HOQ := Lib.hid hoq
        clear hbq hoq
        go_wp2_with (at_builtin; refine wpList_append_own _ rfl (.tmp 75) (.tmp 77) 42 rfl (zz + 1) 50 i0 (.agg #[.string ⟨#[]⟩, .int .i64 0, .int .i64 0]) 3 32 Tryd.underlying42 hi0 hz0 hz1 hz2' rfl (by decide) _ _ _ rfl (HOQ.out.alloc _) ⟨V5.heap.size, 0, none⟩ 1 1 [.string s, .int .i64 (x + (q + 1) * p), .int .i64 p] rfl rfl ?c1 ?c2 ?c3 ?c4 ?c5 ?_)
        case c1 => intro j q hq; match j with | 0 => (simp at hq; subst hq; simp [go_sem]) | 1 => (simp at hq; subst hq; simp [go_sem]) | 2 => (simp at hq; subst hq; simp [go_sem]) | j + 3 => simp at hq
        case c2 => intro q hq; simp at hq; rcases hq with rfl | rfl | rfl <;> rfl
        case c3 => unfold maxLen; omega
        case c4 => omega
        case c5 => first | omega | (simp; omega)
        intro v' w3 hown hg _
        obtain ⟨va, vc, rfl⟩ := own_slice' hown
        have hge : ∀ r, v.ownBlock = some r → zz + 1 ≤ r := fun r e => (HOQ.out.lt _ e).1
        have hbz3 : w3.heap[zz]? = some (.cells #[v] 44 (0, 0)) := (hg.block zz (by simp; omega) (fun e => by have := hge _ e.symm; omega)).trans ((Below.heap_alloc _ _ _ hlz).trans HBQ.out)
        have dq : w3.cell? ⟨zz, 0, none⟩ = some v := by rw [cell_of_block hbz3]; rfl
        have df : w3.frozen? ⟨zz, 0, none⟩ = false := unfrozen_of_block hbz3 0
        have HWN := Lib.hid hown
        have HGN := Lib.hid hg
        clear hown hg hbz3 hge kq ks0 ks1 ks2
        go_wp2
        go_roundw
        case rel => exact ⟨k + 1, by go_num, by omega, Lib.hid (HI5.out.snoc (x := (s, x + (q + 1) * p, p)) HZZ.out HBQ.out HOQ.out HGN.out HWN.out rfl (by rw [HR1.out, HV.out, if_pos (by omega)]))⟩
        case measure => simp [intOf]; omega
      · skip
        have hw1 : IntKind.i64.wrap (u - x) = u - x := IntWalk.i64_in _ (by omega)
        have hp0 : (p = 0) = False := by rw [eq_iff_iff, iff_false]; omega
        have hq1 : IntKind.i64.wrap ((u - x).tdiv p) = q := by rw [Int.tdiv_eq_ediv_of_nonneg (by omega), d3]; exact IntWalk.i64_in _ (by omega)
        have hq2 : IntKind.i64.wrap (q + 1) = q + 1 := IntWalk.i64_in _ (by omega)
        have hq3 : IntKind.i64.wrap ((q + 1) * p) = (q + 1) * p := IntWalk.i64_in _ (by omega)
        have hq4 : IntKind.i64.wrap (x + (q + 1) * p) = x + (q + 1) * p := IntWalk.i64_in _ (by omega)
        have f14 := unfrozen_of_block H14.out
        go_wp2_with fail
        go_still_tail 15, (by kernel_rfl)
        change wpList _ _ _ _ _ V.drew
        have HB2 : Hid (Below g14 wr V.drew) := Lib.hid (HBV.out.drew)
        have H142 : Hid (V.drew.heap[g14]? = some (.cells #[.string s, .int .i64 x, .int .i64 p] 50 (0, 0))) := Lib.hid H14.out
        obtain ⟨V2, hV2⟩ : ∃ W, V.drew = W := ⟨_, rfl⟩
        rw [hV2] at HB2 H142 ⊢
        clear hV2 hw1 hp0 hq1 hq2 hq3 hq4 k3 c1 c2 f14
        have f14 := unfrozen_of_block H142.out
        have c1 : V2.cell? ⟨g14, 1, none⟩ = some (.int .i64 x) := by rw [cell_of_block H142.out]; rfl
        have HB5 : Hid (Below g14 wr (V2.setCell ⟨g14, 1, none⟩ (.int .i64 (x + (q + 1) * p)))) := Lib.hid (HB2.out.setCell (p := ⟨g14, 1, none⟩) (Nat.le_refl _) _)
        have H145 : Hid ((V2.setCell ⟨g14, 1, none⟩ (.int .i64 (x + (q + 1) * p))).heap[g14]? = some (.cells #[.string s, .int .i64 (x + (q + 1) * p), .int .i64 p] 50 (0, 0))) := Lib.hid ((setCell_block H142.out _).trans (by simp))
        go_upto_region 18 with fail
        obtain ⟨V5, hV5⟩ : ∃ W, V2.setCell ⟨g14, 1, none⟩ (.int .i64 (x + (q + 1) * p)) = W := ⟨_, rfl⟩
        rw [hV5] at HB5 H145 ⊢
        clear hV5 c1 f14
        have hb5 := HB5.out
        rw [← HG14.out] at hb5
        have HI5 := Lib.hid (HI.out.below hb5)
        clear hb5
        have cx : V5.cell? ⟨g14, 1, none⟩ = some (.int .i64 (x + (q + 1) * p)) := by rw [cell_of_block H145.out]; rfl
        go_wp2
        go_roundw
        case rel => exact ⟨k + 1, by go_num, by omega, Lib.hid (HI5.out.same (by rw [HR1.out, HV.out, if_neg (by decide)]))⟩
        case measure => simp [intOf]; omega
    · obtain rfl : n = k := by omega
      obtain ⟨v1, hb1, ho1⟩ := HI.out.i.box
      obtain ⟨v2, hb2, ho2⟩ := HI.out.q
      obtain ⟨aL, cL, rfl⟩ := own_slice' ho1
      obtain ⟨aR, cR, rfl⟩ := own_slice' ho2
      have k9 : wr.cell? ⟨z, 0, none⟩ = some (.slice aL L.length cL) := by rw [cell_of_block hb1]; rfl
      have kq : wr.cell? ⟨zz, 0, none⟩ = some (.slice aR (rstA R u n).length cR) := by rw [cell_of_block hb2]; rfl
      have k5 : wr.cell? ⟨w.heap.size + 1 + 1, 0, none⟩ = some (.slice none 0 0) := by rw [cell_of_block HI.out.i.b.b5]; rfl
      have f5 := unfrozen_of_block HI.out.i.b.b5
      have hz3 := HI.out.i.z3
      have hzz := HZZ.out
      have HO1 := Lib.hid ho1
      have HO2 := Lib.hid ho2
      clear hb1 hb2 ho1 ho2
      go_wp2_with fail
      go_region
      all_goals
        go_wp2
        have HD := Lib.hid HI.out.d
        have HDz := HA.out.dz
        obtain ⟨W5, hW5⟩ : ∃ W, (wr.setCell ⟨w.heap.size + 1 + 1, 0, none⟩ (.slice aR (rstA R u n).length cR)).drew = W := ⟨_, rfl⟩
        have e5 : W5.heap[w.heap.size + 1 + 1]? = some (.cells #[.slice aR (rstA R u n).length cR] 44 (0, 0)) := by rw [← hW5]; exact (setCell_block HI.out.i.b.b5 _).trans (by simp)
        have eo : ∀ k, k ≠ w.heap.size + 1 + 1 → W5.heap[k]? = wr.heap[k]? := fun k hk => by rw [← hW5]; exact Below.heap_setCell _ _ _ _ hk
        have eb : Below w.heap.size w W5 := by rw [← hW5]; exact (HI.out.i.b.k.setCell (p := ⟨w.heap.size + 1 + 1, 0, none⟩) (by dsimp only; omega) _).drew
        rw [hW5]
        clear hW5 k9 kq k5 f5
        have ed : W5.heap[D]? = some (.deferred (some [])) := (eo D (by omega)).trans HD.out
        refine ⟨by simp, .inl ⟨D, _, rfl, run_takeDeferred ed, ?_⟩⟩
        have c5 : (W5.putObj D (.deferred none)).cell? ⟨w.heap.size + 1 + 1, 0, none⟩ = some (.slice aR (rstA R u n).length cR) := by
          rw [World.cell?_of_block (w := W5) (World.putObj_heap_other (show w.heap.size + 1 + 1 ≠ D by omega)), cell_of_block e5]; rfl
        refine ⟨.tuple #[.slice aL L.length cL, .agg #[.slice aR (rstA R u n).length cR], .int .i64 0], ?_, ?_⟩
        · simp [results, Tryd.results19, go_sem, c5]
        · have key : ∀ {T : TypeId} {g : Nat} {cur : Array Value}, T ≠ 44 → wr.heap[g]? = some (.cells cur T (0, 0)) → (W5.putObj D (.deferred none)).heap[g]? = some (.cells cur T (0, 0)) := by
            intro T g cur hT hg
            have hgD : g ≠ D := fun e => by subst e; rw [HD.out] at hg; cases hg
            have hg5 : g ≠ w.heap.size + 1 + 1 := fun e => by subst e; rw [HI.out.i.b.b5] at hg; cases hg; exact hT rfl
            exact (World.putObj_heap_other hgD).trans ((eo g hg5).trans hg)
          have o1 := own_same (W' := W5.putObj D (.deferred none)) HO1.out fun g cur hg => key (by decide) hg
          have o2 := own_same (W' := W5.putObj D (.deferred none)) HO2.out fun g cur hg => key (by decide) hg
          have hlm : (L.map (rgN R)).length = L.length := List.length_map _
          refine ⟨aL, cL, aR, cR, L, rfl, ?_, SlA.of_own o2, HA.out.ok, HSUM.out, eb.trans (belowK_b (w := w) (Nat.le_refl _) _ D _ _ (by omega) ed rfl rfl)⟩
          have o1' : (W5.putObj D (.deferred none)).ownsRow (z + 2) 39 2 (.slice aL L.length cL) (L.map (rgN R)).length (rgc (L.map (rgN R))) := by rw [hlm]; exact o1
          have := SlG.of_own o1'
          rwa [hlm] at this
/-- Run of a plan that is right -/
theorem run_good {a : Option Addr} {n c : Nat} {R : Nat → Al} {u : Int} {w : World} (hS : SlA w a n R) (hn : n ≤ 9223372036854775807) (hR : ∀ j, j < n → AlB (R j)) (hE : rnE n R u = 0) :
    Calls Tryd.prog 19 #[pV a n c, .int .i64 u] w (RunPost w n R u) :=
  (runA a n c R u w).2 (fun W D z cv L hA => runB W D z cv L hA hS hn hE) hS hn hR hE
end Go.Proofs.YtmgpdaljminipaaDoor
