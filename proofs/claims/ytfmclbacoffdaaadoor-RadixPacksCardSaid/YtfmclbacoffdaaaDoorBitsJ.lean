/- Package bits: Set. -/
import Derived.Test.YtfmclbacoffdaaaDoorBitsI
import Derived.Deep.RegionHeld3
import Derived.Deep.DeepCutAuto
namespace Go.Proofs.YtfmclbacoffdaaaDoor
open Go.RowKit Go.Sort Go.Joins
attribute [local go_sem] cell_grow frozen_grow size_grow

theorem keepN {W nxt : World} {C : World → Prop} (hC : Hid (∀ w', Below W.heap.size W w' → C w')) (h : Below W.heap.size W nxt) : Below W.heap.size W nxt ∧ C nxt := ⟨h, hC _ h⟩
theorem lay_alloc {G : Prop} {W w' : World} {a b : Value} {T : TypeId} {g : Nat} (hb : Below (W.alloc (.cells #[a, b] T)).drew.heap.size (W.alloc (.cells #[a, b] T)).drew w') (hg : g = W.heap.size)
    (k : w'.cell? ⟨g, 0, none⟩ = some a → w'.cell? ⟨g, 1, none⟩ = some b → (∀ j, w'.frozen? ⟨g, j, none⟩ = false) → G) : G := by
  subst hg
  refine k ?_ ?_ fun j => ?_
  · rw [hb.cell (p := ⟨W.heap.size, 0, none⟩) (by simp)]; exact (World.cell?_alloc_at (w := W) _ _ _ _ rfl).trans rfl
  · rw [hb.cell (p := ⟨W.heap.size, 1, none⟩) (by simp)]; exact (World.cell?_alloc_at (w := W) _ _ _ _ rfl).trans rfl
  · rw [hb.frozen (p := ⟨W.heap.size, j, none⟩) (by simp)]; exact World.frozen?_alloc_at (w := W) _ _ _ _ rfl
theorem own_slice {w : World} {base len : Nat} {e : TypeId} {v : Value} {xs : List Value} (h : w.ownsRow base e 1 v len xs) : ∃ a cap, v = .slice a len cap := by
  rcases ownsRow_forms h with ⟨rfl, rfl⟩ | ⟨g, cap, rfl⟩
  · exact ⟨_, _, rfl⟩
  · exact ⟨_, _, rfl⟩
theorem bel_alloc {W cur : World} {C : Prop} (h : Below W.heap.size W cur ∧ C) (o : Obj) : Below W.heap.size W (cur.alloc o) := h.1.alloc h.1.size o
theorem bel_realloc {W cur : World} {o : Obj} {C : Prop} (h : Below W.heap.size W (cur.alloc o) ∧ C) (hle : W.heap.size ≤ cur.heap.size) (o' : Obj) : Below W.heap.size W (cur.alloc o') :=
  ⟨h.1.os, h.1.tape, h.1.output, by simp; omega, fun k hk => by rw [Below.heap_alloc _ _ _ (by omega), ← h.1.block k hk, Below.heap_alloc _ _ _ (by omega)]⟩
theorem bel_call {W cur nxt : World} {C : Prop} (h : Below W.heap.size W cur ∧ C) (hb : Below cur.heap.size cur nxt) : Below W.heap.size W nxt := below_tr h.1 hb
theorem bel_set2 {W cur : World} {C : Prop} (h : Below W.heap.size W cur ∧ C) {g i j : Nat} (hg : W.heap.size ≤ g) (u v : Value) : Below W.heap.size W ((cur.setCell ⟨g, i, none⟩ u).setCell ⟨g, j, none⟩ v) := (h.1.setCell (p := ⟨g, i, none⟩) hg u).setCell (p := ⟨g, j, none⟩) hg v

set_option maxHeartbeats 1600000 in
theorem bSet_ok (n f t : Nat) (on : Bool) (a : Option Addr) (len cap : Nat) (ws : List Nat) (w : World) (hs : SlK .u64 w a len ws) (hw : ∀ x ∈ ws, x < 18446744073709551616) (hc : chk n ws = 0) (hft : f ≤ t) (ht : t ≤ n) :
    Calls Tryd.prog 62 #[.agg #[.int .i64 n, .slice a len cap], .int .i64 f, .int .i64 t, .bool on] w fun e w' => ∃ a' cap', e = .returned (.tuple #[.agg #[.int .i64 n, .slice a' len cap'], .int .i64 0]) ∧
      w'.ownsRow w.heap.size 24 1 (.slice a' len cap') len (u64s (pack (filled (bat ws) f t on) len)) ∧ Below w.heap.size w w' := by
  have hp : prt n ws f t = 0 := prt_ok hc (by omega)
  obtain ⟨_, hN, hl, _⟩ := chk_zero hc
  have hL := hs.length
  have hlen : len ≤ 64 := by omega
  have htl : t ≤ 64 * len := by omega
  clear hl hc
  have P1 := bpart_ok w.heap.size n f t a len cap ws _ ((AtBits.new w n a len cap 93).below (below_box0 _ (.cells #[.int .i64 0, .slice none 0 0] 93))) ((hs.alloc _).alloc _) hw (by omega)
  rw [hp] at P1
  have HP := Lib.hid P1
  clear P1 hp
  go_enter Tryd.func62, Tryd.ntmps62
  go_wp2_with fail
  refine HP.out.mono ?_
  rintro e W ⟨rfl, hb⟩
  have hz : w.heap.size + 1 < W.heap.size := by have := hb.size; simp at this; omega
  have c0 : W.cell? ⟨w.heap.size, 0, none⟩ = some (.int .i64 n) := by rw [hb.cell (p := ⟨w.heap.size, 0, none⟩) (by simp; omega)]; simp [go_sem]
  have c1 : W.cell? ⟨w.heap.size, 1, none⟩ = some (.slice a len cap) := by rw [hb.cell (p := ⟨w.heap.size, 1, none⟩) (by simp; omega)]; simp [go_sem]
  have d0 : W.cell? ⟨w.heap.size + 1, 0, none⟩ = some (.int .i64 0) := by rw [hb.cell (p := ⟨w.heap.size + 1, 0, none⟩) (by simp)]; simp [go_sem]
  have d1 : W.cell? ⟨w.heap.size + 1, 1, none⟩ = some (.slice none 0 0) := by rw [hb.cell (p := ⟨w.heap.size + 1, 1, none⟩) (by simp)]; simp [go_sem]
  have d2 : ∀ j, W.frozen? ⟨w.heap.size + 1, j, none⟩ = false := fun j => by rw [hb.frozen (p := ⟨w.heap.size + 1, j, none⟩) (by simp)]; simp [go_sem]
  have hsW : SlK .u64 W a len ws := ((hs.alloc _).alloc _).below hb
  have hB : Below w.heap.size w W := (below_alloc2 w _ _).trans (hb.mono (by simp; omega))
  have HB := Lib.hid hB
  clear hb hB hs HP
  go_upto_region 4 with fail
  go_cut [11] (fun s11 wx => ∃ g a' cap', s11 = .pointer (some ⟨g, 0, none⟩) ∧ wx.cell? ⟨g, 0, none⟩ = some (.int .i64 n) ∧ wx.cell? ⟨g, 1, none⟩ = some (.slice a' len cap') ∧ wx.ownsRow W.heap.size 24 1 (.slice a' len cap') len (u64s ws) ∧
    (∀ h, a' = some h → h.block ≠ g) ∧ Below W.heap.size W wx)
  case first =>
    have HC : Hid (∀ w', Below W.heap.size W w' → w'.cell? ⟨w.heap.size, 0, none⟩ = some (.int .i64 n) ∧ w'.cell? ⟨w.heap.size, 1, none⟩ = some (.slice a len cap)) := fun w' h => ⟨cell_later h c0, cell_later h c1⟩
    go_region_held3 (fun w' => Below W.heap.size W w' ∧ w'.cell? ⟨w.heap.size, 0, none⟩ = some (.int .i64 n) ∧ w'.cell? ⟨w.heap.size, 1, none⟩ = some (.slice a len cap))
      ((refine keepN HC ?_; first | exact (Below.refl _ _).drew | exact bel_alloc (by assumption) _ | exact bel_call (by assumption) (by assumption) | exact bel_realloc (by assumption) (by first | omega | (simp; omega) | simp) _ | exact bel_set2 (by assumption) (by first | omega | (simp; omega) | simp) _ _))
      (first | (go_at_call 49; refine (clone_ok a len cap ws _ (hsW.below (And.left (by assumption))) (by omega)).mono ?_; rintro e w' ⟨v, rfl, hown, hb⟩; have hbW : Below W.heap.size W w' := bel_call (W := W) (by assumption) hb; have hsz : W.heap.size ≤ w'.heap.size := hbW.size; obtain ⟨va, vcap, rfl⟩ : ∃ va vcap, v = .slice va len vcap := own_slice hown; first | (refine lay_alloc (g := W.heap.size) hb rfl (fun q0 q1 q2 => ?_)) | skip))
    · go_wp2_with fail
      go_meet
      exact ⟨w'.heap.size, va, vcap, rfl, by simp [go_sem], by simp [go_sem], hown.alloc _, fun h e => by have := (hown.lt h.block (by rw [e]; rfl)).2; omega, hbW.alloc hsz _⟩
    · go_wp2_with fail
      go_meet
      have hne : ∀ h, va = some h → h.block ≠ W.heap.size := fun h e => by have := (hown.lt h.block (by rw [e]; rfl)).1; simp at this; omega
      have hob : ∀ j, (Value.slice va len vcap).ownBlock ≠ some (⟨W.heap.size, j, none⟩ : Addr).block := fun j e => by
        cases va with
        | none => cases e
        | some h => exact hne h rfl (by simpa [Value.ownBlock] using e)
      exact ⟨W.heap.size, va, vcap, rfl, by simp [go_sem, q0], by simp [go_sem, q1], ownsRow_setCell_other (ownsRow_setCell_other (ownsRow_le hown (by simp)) (hob 0) _) (hob 1) _, hne, (hbW.setCell (p := ⟨W.heap.size, 0, none⟩) (Nat.le_refl _) _).setCell (p := ⟨W.heap.size, 1, none⟩) (Nat.le_refl _) _⟩
  case rest =>
    obtain ⟨g, a', cap', rfl, e0, e1, ho, hne, hb⟩ := hcut
    have hob : (some g : Option Nat) ≠ (Value.slice a' len cap').ownBlock := fun e => by
      cases a' with
      | none => cases e
      | some h => exact hne h rfl (by simpa [Value.ownBlock] using e.symm)
    have hoH : (some (w.heap.size + 1) : Option Nat) ≠ (Value.slice a' len cap').ownBlock := fun e => by
      have := (ho.lt _ e.symm).1; omega
    have q0 : wc.cell? ⟨w.heap.size + 1, 0, none⟩ = some (.int .i64 0) := cell_later hb d0
    have q1 : wc.cell? ⟨w.heap.size + 1, 1, none⟩ = some (.slice none 0 0) := cell_later hb d1
    have q2 : ∀ j, wc.frozen? ⟨w.heap.size + 1, j, none⟩ = false := fun j => by rw [hb.frozen (p := ⟨w.heap.size + 1, j, none⟩) (by dsimp only; omega)]; exact d2 j
    have F := Lib.hid (bfill_ok W.heap.size (.slice a' len cap') len f t on ws wc ho hw hL htl hlen hft)
    have HBX := Lib.hid (HB.out.trans (hb.mono (by omega)))
    have HO := Lib.hid ho
    have HN := Lib.hid hob
    have HN2 := Lib.hid hoH
    have hzx : w.heap.size + 1 < wc.heap.size := by have := hb.size; omega
    have hgx : g < wc.heap.size := World.block_lt_of_cell? _ _ e0
    clear hb ho hob hoH hne c0 c1 d0 d1 d2 hsW hL
    go_wp2_with fail
    refine F.out.mono ?_
    rintro e w2 ⟨rfl, hown, hg⟩
    have r0 : w2.cell? ⟨w.heap.size + 1, 0, none⟩ = some (.int .i64 0) := hg.cell q0 HN2.out
    have r1 : w2.cell? ⟨w.heap.size + 1, 1, none⟩ = some (.slice none 0 0) := hg.cell q1 HN2.out
    have r2 : ∀ j, w2.frozen? ⟨w.heap.size + 1, j, none⟩ = false := fun j => by rw [World.frozen?_of_block (hg.block (w.heap.size + 1) hzx HN2.out)]; exact q2 j
    have r3 : w2.cell? ⟨g, 0, none⟩ = some (.int .i64 n) := hg.cell e0 HN.out
    have r4 : w2.cell? ⟨g, 1, none⟩ = some (.slice a' len cap') := hg.cell e1 HN.out
    have HB2 := Lib.hid (HBX.out.grown hg (by omega) (fun k hk => by have := (HO.out.lt k hk).1; omega))
    have HO2 := Lib.hid hown
    clear hown hg q0 q1 q2 e0 e1
    go_wp2
    refine bodyPost_ret (v := .tuple #[.agg #[.int .i64 n, .slice a' len cap'], .int .i64 0]) (by simp [results, Tryd.results62, go_sem, r0, r1]) rfl ?_
    have hob : ∀ j, (Value.slice a' len cap').ownBlock ≠ some (⟨w.heap.size + 1, j, none⟩ : Addr).block := fun j e => HN2.out e.symm
    exact ⟨_, _, rfl, ownsRow_le (ownsRow_setCell_other (ownsRow_setCell_other HO2.out (hob 0) _) (hob 1) _) (by omega), (HB2.out.setCell (p := ⟨w.heap.size + 1, 0, none⟩) (by simp) _).setCell (p := ⟨w.heap.size + 1, 1, none⟩) (by simp) _⟩
end Go.Proofs.YtfmclbacoffdaaaDoor
