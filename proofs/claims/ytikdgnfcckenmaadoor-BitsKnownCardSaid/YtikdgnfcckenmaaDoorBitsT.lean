/- Package bits: Fit, where the bits are good. -/
import Derived.Test.YtikdgnfcckenmaaDoorBitsS
import Derived.Test.YtikdgnfcckenmaaDoorBitsA
import Derived.Test.YtikdgnfcckenmaaDoorBitsD
namespace Go.Proofs.YtikdgnfcckenmaaDoor
open Go.RowKit Go.Sort Go.Shelf
attribute [local go_sem] cell_grow frozen_grow size_grow size_redrawn Oper.semAt_some

/-- the first run that has room from g on -/
def fitR (g : Nat × Nat → Nat) (size : Nat) (rs : List (Nat × Nat)) : Option (Nat × Nat) := rs.find? fun r => decide (g r + size ≤ r.2)
/-- no run that came has room -/
def NoFit (g : Nat × Nat → Nat) (size : Nat) (pre : List Rn) : Prop := ∀ y ∈ pre, ¬ (g y.1 + size ≤ y.1.2)
/-- the last run that came is the first that has room -/
def FitAt (g : Nat × Nat → Nat) (size : Nat) (pre : List Rn) (v : Nat) : Prop := ∃ pre' x, pre = pre' ++ [x] ∧ NoFit g size pre' ∧ g x.1 + size ≤ x.1.2 ∧ v = g x.1
theorem fitR_none {g : Nat × Nat → Nat} {size : Nat} {ys : List Rn} (h : NoFit g size ys) : fitR g size (ys.map (·.1)) = none := by
  unfold fitR
  rw [List.find?_eq_none]
  intro r hr
  obtain ⟨y, hy, rfl⟩ := List.mem_map.1 hr
  simpa using h y hy
theorem fitR_some {g : Nat × Nat → Nat} {size v : Nat} {pre : List Rn} {rs : List (Nat × Nat)} (h : FitAt g size pre v) (hp : pre.map (·.1) <+: rs) : ∃ r, fitR g size rs = some r ∧ v = g r := by
  obtain ⟨pre', x, rfl, h1, h2, h3⟩ := h
  obtain ⟨tl, rfl⟩ := hp
  refine ⟨x.1, ?_, h3⟩
  have h0 : (pre'.map (·.1)).find? (fun r => decide (g r + size ≤ r.2)) = none := fitR_none h1
  simp only [fitR, List.map_append, List.append_assoc, List.find?_append]
  rw [h0]
  simp [h2]
theorem NoFit.snoc {g : Nat × Nat → Nat} {size : Nat} {pre : List Rn} {x : Rn} (h : NoFit g size pre) (hx : ¬ (g x.1 + size ≤ x.1.2)) : NoFit g size (pre ++ [x]) :=
  fun y hy => (List.mem_append.1 hy).elim (h y) (fun e => by simp at e; subst e; exact hx)
/-- what Fit and Block return, where they have looked -/
def fitOut (g : Nat × Nat → Nat) (o : Option (Nat × Nat)) : Value := match o with | some r => .tuple #[.int .i64 (g r : Nat), .int .i64 0] | none => .tuple #[.int .i64 0, .int .i64 4]
def gMax (fr : Nat) (r : Nat × Nat) : Nat := max fr r.1

set_option maxRecDepth 100000 in
set_option maxHeartbeats 1600000 in
theorem bFit_ok (n size fr : Nat) (a : Option Addr) (len cap : Nat) (ws : List Nat) (w : World) (hT : Tab w) (_ : 0 < w.heap.size) (hs : SlK .u64 w a len ws) (hw : ∀ x ∈ ws, x < 18446744073709551616) (hc : chk n ws = 0) (h1 : 1 ≤ size) (h2 : fr ≤ n) (h3 : size ≤ 9223372036854775807) :
    Calls Tryd.prog 15 #[.agg #[.int .i64 n, .slice a len cap], .int .i64 size, .int .i64 fr] w fun e w' =>
      e = .returned (fitOut (gMax fr) (fitR (gMax fr) size (runsL (look ws false) n))) ∧ Below w.heap.size w w' := by
  obtain ⟨hn0, hn1, hn2, -⟩ := chk_zero hc
  have hL := hs.length
  have ha := fun h => hs.lt h
  have hlen : len = (n + 63) / 64 := by omega
  have hlu : len ≤ 64 := by omega
  have HL := Lib.hid hlen
  have HC := Lib.hid hc
  have HL2 := Lib.hid hL
  have HN := Lib.hid hn2
  clear hlen hc hL hn2
  have hz1 : decide ((size : Int) < 1) = false := by simp; omega
  have hz2 : decide ((fr : Int) < 0) = false := by simp
  have hz3 : decide (n < fr) = false := by simp; omega
  refine (callsIn_wide (n := 3)).1 ?_
  refine callsIn_of_wp_marks Tryd.func15 rfl trivial ?_ rfl
  simp only [Tryd.ntmps15, List.size_toArray, List.length_cons, List.length_nil, Nat.reduceAdd, Nat.reduceSub, Array.replicate_succ, Array.replicate_zero, List.push_toArray, List.append_toArray, List.nil_append, List.cons_append]
  gi_wp2_with (first
    | (refine ⟨trivial, (callsIn_wide.2 (bCheck_ok (n : Int) a len cap ws _ ?_ hw (by omega))).mono ?_⟩
       · exact hs.below ((((((Below.refl _ w).alloc (Nat.le_refl _) _).alloc (by simp) _).alloc (by simp; omega) _).alloc (by simp; omega) _).alloc (by simp; omega) _)
       rintro e w1 ⟨rfl, hb1⟩
       obtain ⟨⟨d1, os1⟩, rfl⟩ := regrown_of_below hb1
       rw [HC.out]))
  refine ⟨trivial, (callsIn_wide.2 (runs_ok _ _ _)).mono ?_⟩
  rintro e w1 ⟨Bp, Bq, rfl, hp, hq, cp, cq, hb2⟩
  have k0 : w1.cell? ⟨w.heap.size, 0, none⟩ = some (.int .i64 n) := (hb2.cell (p := ⟨w.heap.size, 0, none⟩) (by simp [go_sem]; try omega)).trans (by simp [go_sem])
  have k1 : w1.cell? ⟨w.heap.size, 1, none⟩ = some (.slice a len cap) := (hb2.cell (p := ⟨w.heap.size, 1, none⟩) (by simp [go_sem]; try omega)).trans (by simp [go_sem])
  have ks : w1.cell? ⟨w.heap.size + 1, 0, none⟩ = some (.int .i64 size) := (hb2.cell (p := ⟨w.heap.size + 1, 0, none⟩) (by simp [go_sem]; try omega)).trans (by simp [go_sem])
  have kf : w1.cell? ⟨w.heap.size + 1 + 1, 0, none⟩ = some (.int .i64 fr) := (hb2.cell (p := ⟨w.heap.size + 1 + 1, 0, none⟩) (by simp [go_sem]; try omega)).trans (by simp [go_sem])
  have k6 : w1.cell? ⟨w.heap.size + 1 + 1 + 1, 0, none⟩ = some (.int .i64 0) := (hb2.cell (p := ⟨w.heap.size + 1 + 1 + 1, 0, none⟩) (by simp [go_sem]; try omega)).trans (by simp [go_sem])
  have k7 : w1.cell? ⟨w.heap.size + 1 + 1 + 1 + 1, 0, none⟩ = some (.int .i64 0) := (hb2.cell (p := ⟨w.heap.size + 1 + 1 + 1 + 1, 0, none⟩) (by simp [go_sem]; try omega)).trans (by simp [go_sem])
  have hz : w.heap.size + 5 ≤ w1.heap.size := by
    have h9 := hb2.size
    simp [go_sem] at h9
    omega
  have hB : Below w.heap.size w w1 := by
    refine Below.trans ?_ (hb2.mono (by simp [go_sem]; omega))
    exact (((((Below.refl _ w).alloc (Nat.le_refl _) _).alloc (by simp) _).alloc (by simp; omega) _).alloc (by simp; omega) _).alloc (by simp; omega) _ |>.trans ((below_grow _ _ _).mono (by simp; omega))
  have f6 : w1.frozen? ⟨w.heap.size + 1 + 1 + 1, 0, none⟩ = false := (hb2.frozen (p := ⟨w.heap.size + 1 + 1 + 1, 0, none⟩) (by simp [go_sem]; try omega)).trans (by simp [go_sem])
  have f7 : w1.frozen? ⟨w.heap.size + 1 + 1 + 1 + 1, 0, none⟩ = false := (hb2.frozen (p := ⟨w.heap.size + 1 + 1 + 1 + 1, 0, none⟩) (by simp [go_sem]; try omega)).trans (by simp [go_sem])
  have hp2 := hp.2
  have hq2 := hq.2
  clear hb2 hp hq hb1
  have hS : RunSrc w1.heap.size w1 Bp Bq w.heap.size n false a len cap ws := ⟨cp, hp2, cq, hq2, ⟨k0, k1⟩, by omega, hs.below hB, fun h A e => by have := ha h A e; omega, hT.below hB, by omega⟩
  gi_wp2
  refine wpIn_rangeFunc_ownH rfl (by omega) (gf := 75) (lb := #[.pointer (some ⟨Bp, 0, none⟩), .pointer (some ⟨Bq, 0, none⟩)]) rfl trivial (enters_of Tryd.func75 (by kernel_rfl) rfl)
    (runs_stops w1.heap.size _ Bp Bq w.heap.size n false a len cap ws (by omega) HL.out hw (Below w1.heap.size) (fun _ _ h k => h.below k) w1 hS (Nat.le_refl _)) belowK_t (belowK_b (Nat.le_refl _)) (Below.refl _ _) (fun _ => rfl)
    (fun pre W => NoFit (gMax fr) size pre ∧ Below w1.heap.size w1 W)
    (fun c pre W => ((c = .ret ∧ ∃ v : Nat, FitAt (gMax fr) size pre v ∧ W.cell? ⟨w.heap.size + 1 + 1 + 1, 0, none⟩ = some (.int .i64 v) ∧ W.cell? ⟨w.heap.size + 1 + 1 + 1 + 1, 0, none⟩ = some (.int .i64 0))) ∧ Below w.heap.size w W)
    (OwnFrom.and (ownFrom_pure _ _) (ownFrom_below (Nat.le_refl _) (Nat.le_refl _)))
    (fun c => OwnFrom.and (Own.from (fun s A B row hs hg hr => by obtain ⟨h1, v, h2, h5, h6⟩ := hs; exact ⟨h1, v, h2, cell_kept h5 hg hr, cell_kept h6 hg hr⟩) _) (ownFrom_below (Nat.le_refl _) (by omega)))
    ⟨fun _ h => by simp at h, Below.refl _ _⟩
    (fun x a' W => ∃ Bx, w1.heap.size ≤ Bx ∧ (W.cell? ⟨Bx, 0, none⟩ = some (.int .i64 (x.1.1 : Int)) ∧ W.cell? ⟨Bx, 1, none⟩ = some (.int .i64 (x.1.2 : Int))) ∧ a' = { tmps := #[.agg #[.int .i64 n, .slice a len cap], .int .i64 size, .int .i64 fr, .pointer (some ⟨w.heap.size, 0, none⟩), .pointer (some ⟨w.heap.size + 1, 0, none⟩), .pointer (some ⟨w.heap.size + 1 + 1, 0, none⟩), .pointer (some ⟨w.heap.size + 1 + 1 + 1, 0, none⟩), .pointer (some ⟨w.heap.size + 1 + 1 + 1 + 1, 0, none⟩), .int .i64 0, .pointer (some ⟨Bx, 0, none⟩), undef, .agg #[.int .i64 n, .slice a len cap], .int .i64 0, .bool false, .int .i64 0, .bool false, undef, .bool false, .int .i64 size, .bool false, .bool false, .int .i64 fr, .bool false, .bool false, .int .i64 fr, .pointer (some ⟨w.heap.size, 0, none⟩), .int .i64 n, .bool false, .bool false, .func (.func 75) #[] #[.pointer (some ⟨Bp, 0, none⟩), .pointer (some ⟨Bq, 0, none⟩)], .agg #[.int .i64 (x.1.1 : Int), .int .i64 (x.1.2 : Int)], undef, undef, undef, undef, undef, undef, undef, undef, undef, undef, undef], defers := [] })
    (fun x a' _ X Y row hs hg hr => by obtain ⟨Bx, h1, h2, h3⟩ := hs; exact ⟨Bx, h1, ⟨cell_kept h2.1 hg (fun r e => (hr r e).2), cell_kept h2.2 hg (fun r e => (hr r e).2)⟩, h3⟩)
    ?assign ?body ?done ?stop
  case assign =>
    rintro l pre x W K ⟨hp, hB1⟩ hK
    gi_wp2
    exact hK _ _ ((KeepsOthers.alloc _ _).from _) ((Below.refl _ W).alloc hB1.size _) ⟨hp, hB1.alloc hB1.size _⟩ ⟨W.heap.size, hB1.size, ⟨by simp [go_sem], by simp [go_sem]⟩, rfl⟩
  case body =>
    rintro l pre x a' W hl ⟨r, hr⟩ ⟨hp, hB1⟩ ⟨Bx, hBx, ⟨cx, cy⟩, rfl⟩ hlt
    have kf1 := (hB1.cell (p := ⟨w.heap.size + 1 + 1, 0, none⟩) (by simp; omega)).trans kf
    have ks1 := (hB1.cell (p := ⟨w.heap.size + 1, 0, none⟩) (by simp; omega)).trans ks
    have k61 := (hB1.cell (p := ⟨w.heap.size + 1 + 1 + 1, 0, none⟩) (by simp; omega)).trans k6
    have k71 := (hB1.cell (p := ⟨w.heap.size + 1 + 1 + 1 + 1, 0, none⟩) (by simp; omega)).trans k7
    have f61 := (hB1.frozen (p := ⟨w.heap.size + 1 + 1 + 1, 0, none⟩) (by simp; omega)).trans f6
    have f71 := (hB1.frozen (p := ⟨w.heap.size + 1 + 1 + 1 + 1, 0, none⟩) (by simp; omega)).trans f7
    have HP := Lib.hid hp
    clear hp
    obtain ⟨f, hf⟩ : ∃ f, x.1.1 = f := ⟨_, rfl⟩
    obtain ⟨t, ht⟩ : ∃ f, x.1.2 = f := ⟨_, rfl⟩
    have hx1 : f < t := by rw [← hf, ← ht]; exact x.2.1
    have hx2 : t ≤ 4096 := by rw [← ht]; exact x.2.2
    rw [hf] at cx ⊢
    rw [ht] at cy ⊢
    have HF := Lib.hid hf
    have HT := Lib.hid ht
    clear hf ht
    obtain ⟨m, hm⟩ : ∃ m, max fr f = m := ⟨_, rfl⟩
    have hX : (if fr < f then (f : Int) else (fr : Int)) = (m : Int) := by rw [← hm]; split <;> omega
    have hm2 : m ≤ 4096 := by omega
    by_cases hfit : m + size ≤ t
    · have hd : decide ((size : Int) ≤ (t : Int) - (m : Int)) = true := by simp; omega
      have HM := Lib.hid hm
      clear hm
      gi_wp2
      exact ⟨((KeepsOthers.setCell _ _ _).trans (KeepsOthers.setCell _ _ _)).from _,
        ⟨rfl, m, ⟨pre, x, rfl, HP.out, by unfold gMax; rw [HF.out, HT.out, HM.out]; exact hfit, by unfold gMax; rw [HF.out, HM.out]⟩, by simp [go_sem, k61], by simp [go_sem, k71]⟩,
        (((hB.trans (hB1.mono (by omega))).setCell (p := ⟨w.heap.size + 1 + 1 + 1, 0, none⟩) (by simp; omega) _).setCell (p := ⟨w.heap.size + 1 + 1 + 1 + 1, 0, none⟩) (by simp; omega) _)⟩
    · have hd : decide ((size : Int) ≤ (t : Int) - (m : Int)) = false := by simp; omega
      have HM := Lib.hid hm
      clear hm
      gi_wp2
      exact ⟨KeepsFrom.refl _ _, Below.refl _ _, HP.out.snoc (by unfold gMax; rw [HF.out, HT.out, HM.out]; exact hfit), hB1⟩
  case done =>
    rintro D ys W hD hys ⟨hno, hB1⟩ hK
    have k61 := (hB1.cell (p := ⟨w.heap.size + 1 + 1 + 1, 0, none⟩) (by simp; omega)).trans k6
    have k71 := (hB1.cell (p := ⟨w.heap.size + 1 + 1 + 1 + 1, 0, none⟩) (by simp; omega)).trans k7
    have f61 := (hB1.frozen (p := ⟨w.heap.size + 1 + 1 + 1, 0, none⟩) (by simp; omega)).trans f6
    have f71 := (hB1.frozen (p := ⟨w.heap.size + 1 + 1 + 1 + 1, 0, none⟩) (by simp; omega)).trans f7
    have e0 := fitR_none hno
    rw [hys] at e0
    have HE := Lib.hid e0
    clear e0
    have HY := Lib.hid hys
    clear hys
    gi_wp2
    have hK' := ((KeepsOthers.setCell W ⟨w.heap.size + 1 + 1 + 1, 0, none⟩ (.int .i64 0)).trans (KeepsOthers.setCell _ ⟨w.heap.size + 1 + 1 + 1 + 1, 0, none⟩ (.int .i64 4))).same D _ hK rfl
    refine ⟨by simp, .inl ⟨_, _, rfl, run_takeDeferred hK', ?_⟩⟩
    have r6 := cell_kept (v := .int .i64 0) (W := (W.setCell ⟨w.heap.size + 1 + 1 + 1, 0, none⟩ (.int .i64 0)).setCell ⟨w.heap.size + 1 + 1 + 1 + 1, 0, none⟩ (.int .i64 4)) (a := ⟨w.heap.size + 1 + 1 + 1, 0, none⟩) (by simp [go_sem, k61]) (grownBy_putObj' _ D (.deferred none)) (fun r e => by cases e; exact ⟨_, hK', rfl⟩)
    have r7 := cell_kept (v := .int .i64 4) (W := (W.setCell ⟨w.heap.size + 1 + 1 + 1, 0, none⟩ (.int .i64 0)).setCell ⟨w.heap.size + 1 + 1 + 1 + 1, 0, none⟩ (.int .i64 4)) (a := ⟨w.heap.size + 1 + 1 + 1 + 1, 0, none⟩) (by simp [go_sem, k71]) (grownBy_putObj' _ D (.deferred none)) (fun r e => by cases e; exact ⟨_, hK', rfl⟩)
    refine ⟨.tuple #[.int .i64 0, .int .i64 4], ?_, by rw [HE.out]; rfl, ((((hB.trans (hB1.mono (by omega))).setCell (p := ⟨w.heap.size + 1 + 1 + 1, 0, none⟩) (by simp; omega) _).setCell (p := ⟨w.heap.size + 1 + 1 + 1 + 1, 0, none⟩) (by simp; omega) _)).trans (belowK_b (w := w) (Nat.le_refl _) _ D _ _ (by omega) hK' rfl rfl)⟩
    simp [results, Tryd.f15, go_sem, r6, r7]
  case stop =>
    rintro D c pre W hD hpre ⟨⟨rfl, v, hv, c6, c7⟩, hBW⟩ hK
    obtain ⟨r, hr, hvr⟩ := fitR_some hv hpre
    have HE := Lib.hid hr
    clear hr
    gi_wp2
    refine ⟨by simp, .inl ⟨_, _, rfl, run_takeDeferred hK, ?_⟩⟩
    have r6 := cell_kept c6 (grownBy_putObj' _ D (.deferred none)) (fun r e => by cases e; exact ⟨_, hK, rfl⟩)
    have r7 := cell_kept c7 (grownBy_putObj' _ D (.deferred none)) (fun r e => by cases e; exact ⟨_, hK, rfl⟩)
    refine ⟨.tuple #[.int .i64 v, .int .i64 0], ?_, by rw [HE.out, hvr]; rfl, hBW.trans (belowK_b (w := w) (Nat.le_refl _) W D _ _ (by omega) hK rfl rfl)⟩
    simp [results, Tryd.f15, go_sem, r6, r7]
end Go.Proofs.YtikdgnfcckenmaaDoor
