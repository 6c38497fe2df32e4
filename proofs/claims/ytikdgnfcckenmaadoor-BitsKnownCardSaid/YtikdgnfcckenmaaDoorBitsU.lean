/- Package bits: Best, where the bits are good. -/
import Derived.Test.YtikdgnfcckenmaaDoorBitsT
namespace Go.Proofs.YtikdgnfcckenmaaDoor
open Go.RowKit Go.Sort Go.Shelf
attribute [local go_sem] cell_grow frozen_grow size_grow size_redrawn Oper.semAt_some

/-- nothing below n₀ has turned, but block b -/
structure BB (n₀ b : Nat) (w w' : World) : Prop where
  size : w.heap.size ≤ w'.heap.size
  block : ∀ k, k < n₀ → k ≠ b → w'.heap[k]? = w.heap[k]?
theorem BB.refl (n₀ b : Nat) (w : World) : BB n₀ b w w := ⟨Nat.le_refl _, fun _ _ _ => rfl⟩
theorem BB.trans {n₀ b : Nat} {u v w : World} (h : BB n₀ b u v) (k : BB n₀ b v w) : BB n₀ b u w := ⟨Nat.le_trans h.size k.size, fun i h1 h2 => (k.block i h1 h2).trans (h.block i h1 h2)⟩
theorem BB.of_below {n₀ b : Nat} {w w' : World} (h : Below n₀ w w') : BB n₀ b w w' := ⟨h.size, fun i h1 _ => h.block i h1⟩
theorem BB.cell {n₀ b : Nat} {w w' : World} (h : BB n₀ b w w') {p : Addr} (h1 : p.block < n₀) (h2 : p.block ≠ b) : w'.cell? p = w.cell? p := World.cell?_of_block (h.block p.block h1 h2)
theorem BB.set (n₀ b o : Nat) (w : World) (v : Value) : BB n₀ b w (w.setCell ⟨b, o, none⟩ v) := ⟨by simp [World.setCell], fun _ _ h => Below.heap_setCell _ _ _ _ h⟩
theorem BB.grown {n₀ b : Nat} {w W W' : World} {row : Option Nat} (h : BB n₀ b w W) (hn : n₀ ≤ w.heap.size) (hg : W.grownBy W' row) (hr : ∀ r, row = some r → n₀ ≤ r) : BB n₀ b w W' :=
  ⟨Nat.le_trans h.size hg.size, fun i h1 h2 => (hg.block i (Nat.lt_of_lt_of_le h1 (Nat.le_trans hn h.size)) (fun e => by have := hr i e.symm; omega)).trans (h.block i h1 h2)⟩
theorem cellA {W : World} {p : Addr} {v : Value} (h : W.cell? p = some v) (o : Obj) : (W.alloc o).cell? p = some v := by
  obtain ⟨c, hc, _⟩ := cells_of_cell h
  exact (((Below.refl _ W).alloc (Nat.le_refl _) o).cell (Array.getElem?_eq_some_iff.1 hc).1).trans h
theorem frozenA {W : World} {p : Addr} {v : Value} {b : Bool} (h : W.cell? p = some v) (o : Obj) (hf : W.frozen? p = b) : (W.alloc o).frozen? p = b := by
  obtain ⟨c, hc, _⟩ := cells_of_cell h
  exact (((Below.refl _ W).alloc (Nat.le_refl _) o).frozen (Array.getElem?_eq_some_iff.1 hc).1).trans hf
theorem BB.grown' {n₀ b : Nat} {w W W' : World} {row : Option Nat} (h : BB n₀ b w W) (hn : n₀ ≤ W.heap.size) (hg : W.grownBy W' row) (hr : ∀ r, row = some r → n₀ ≤ r) : BB n₀ b w W' :=
  ⟨Nat.le_trans h.size hg.size, fun i h1 h2 => (hg.block i (Nat.lt_of_lt_of_le h1 hn) (fun e => by have := hr i e.symm; omega)).trans (h.block i h1 h2)⟩
theorem RunSrc.but {n₀ b : Nat} {W W' : World} {Bp Bq Bb n : Nat} {on : Bool} {a : Option Addr} {len cap : Nat} {ws : List Nat} (h : RunSrc n₀ W Bp Bq Bb n on a len cap ws) (k : BB n₀ b W W') (h1 : Bp ≠ b) (h2 : Bq ≠ b) (h3 : Bb ≠ b) (h4 : len ≠ 0 → ∀ A, a = some A → A.block ≠ b) (h5 : 0 ≠ b) : RunSrc n₀ W' Bp Bq Bb n on a len cap ws := by
  refine ⟨(k.cell (p := ⟨Bp, 0, none⟩) h.hp h1).trans h.p, h.hp, (k.cell (p := ⟨Bq, 0, none⟩) h.hq h2).trans h.q, h.hq, ⟨(k.cell (p := ⟨Bb, 0, none⟩) h.hb h3).trans h.b.n, (k.cell (p := ⟨Bb, 1, none⟩) h.hb h3).trans h.b.s⟩, h.hb, ⟨h.s.length, ?_⟩, h.hs, fun i hi => (k.cell (p := ⟨0, i, none⟩) h.ht h5).trans (h.t i hi), h.ht⟩
  by_cases hl0 : len = 0
  · exact .inl hl0
  rcases h.s.cells with h0 | ⟨b', off, ha, hc⟩
  · exact .inl h0
  · exact .inr ⟨b', off, ha, fun j hj => (k.cell (p := ⟨b', off + j, none⟩) (show b' < n₀ from h.hs hl0 ⟨b', off, none⟩ ha) (h4 hl0 ⟨b', off, none⟩ ha)).trans (hc j hj)⟩

/-- the shortest run that has room, so far -/
def bestF (size : Nat) : List (Nat × Nat) → Nat × Nat := List.foldl (fun b r => if size ≤ r.2 - r.1 ∧ r.2 - r.1 < b.2 - b.1 then r else b) (0, 4097)
theorem bestF_snoc (size : Nat) (pre : List (Nat × Nat)) (r : Nat × Nat) : bestF size (pre ++ [r]) = if size ≤ r.2 - r.1 ∧ r.2 - r.1 < (bestF size pre).2 - (bestF size pre).1 then r else bestF size pre := by
  simp only [bestF, List.foldl_append, List.foldl_cons, List.foldl_nil]
  rfl
theorem bestF_rng (size : Nat) (ys : List Rn) : (bestF size (ys.map (·.1))).1 < (bestF size (ys.map (·.1))).2 ∧ (bestF size (ys.map (·.1))).2 ≤ 4097 := by
  unfold bestF
  suffices h : ∀ (ys : List Rn) (b : Nat × Nat), b.1 < b.2 ∧ b.2 ≤ 4097 → (List.foldl (fun b r => if size ≤ r.2 - r.1 ∧ r.2 - r.1 < b.2 - b.1 then r else b) b (ys.map (·.1))).1 < (List.foldl (fun b r => if size ≤ r.2 - r.1 ∧ r.2 - r.1 < b.2 - b.1 then r else b) b (ys.map (·.1))).2 ∧ (List.foldl (fun b r => if size ≤ r.2 - r.1 ∧ r.2 - r.1 < b.2 - b.1 then r else b) b (ys.map (·.1))).2 ≤ 4097 from h ys _ (by decide)
  intro ys
  induction ys with
  | nil => exact fun b hb => hb
  | cons y ys ih =>
    intro b hb
    simp only [List.map_cons, List.foldl_cons]
    apply ih
    split
    · exact ⟨y.2.1, Nat.le_trans y.2.2 (by decide)⟩
    · exact hb
/-- what Best returns, where it has looked -/
def bestOut (b : Nat × Nat) : Value := if 4096 < b.2 then .tuple #[.int .i64 0, .int .i64 4] else .tuple #[.int .i64 (b.1 : Nat), .int .i64 0]

set_option maxRecDepth 100000 in
set_option maxHeartbeats 1600000 in
theorem bBest_ok (n size : Nat) (a : Option Addr) (len cap : Nat) (ws : List Nat) (w : World) (hT : Tab w) (ht : 0 < w.heap.size) (hs : SlK .u64 w a len ws) (hw : ∀ x ∈ ws, x < 18446744073709551616) (hc : chk n ws = 0) (h1 : 1 ≤ size) (h3 : size ≤ 9223372036854775807) :
    Calls Tryd.prog 17 #[.agg #[.int .i64 n, .slice a len cap], .int .i64 size] w fun e w' =>
      e = .returned (bestOut (bestF size (runsL (look ws false) n))) ∧ Below w.heap.size w w' := by
  obtain ⟨hn0, hn1, hn2, -⟩ := chk_zero hc
  have hL := hs.length
  have ha := fun h => hs.lt h
  have hlen : len = (n + 63) / 64 := by omega
  have hlu : len ≤ 64 := by omega
  have HL := Lib.hid hlen
  have HC := Lib.hid hc
  have HL2 := Lib.hid hL
  have HN := Lib.hid hn2
  clear hlen hc hL hn2
  have hz1 : decide ((size : Int) < 1) = false := by simp; omega
  refine (callsIn_wide (n := 3)).1 ?_
  refine callsIn_of_wp_marks Tryd.func17 rfl trivial ?_ rfl
  simp only [Tryd.ntmps17, List.size_toArray, List.length_cons, List.length_nil, Nat.reduceAdd, Nat.reduceSub, Array.replicate_succ, Array.replicate_zero, List.push_toArray, List.append_toArray, List.nil_append, List.cons_append]
  gi_wp2_with (first
    | (refine ⟨trivial, (callsIn_wide.2 (bCheck_ok (n : Int) a len cap ws _ ?_ hw (by omega))).mono ?_⟩
       · exact hs.below (((Below.refl _ w).alloc (Nat.le_refl _) _).alloc (by simp) _)
       rintro e w1 ⟨rfl, hb1⟩
       rw [HC.out]
       have k0 : w1.cell? ⟨w.heap.size, 0, none⟩ = some (.int .i64 n) := (hb1.cell (p := ⟨w.heap.size, 0, none⟩) (by simp [go_sem]; try omega)).trans (by simp [go_sem])
       have k1 : w1.cell? ⟨w.heap.size, 1, none⟩ = some (.slice a len cap) := (hb1.cell (p := ⟨w.heap.size, 1, none⟩) (by simp [go_sem]; try omega)).trans (by simp [go_sem])
       have ks : w1.cell? ⟨w.heap.size + 1, 0, none⟩ = some (.int .i64 size) := (hb1.cell (p := ⟨w.heap.size + 1, 0, none⟩) (by simp [go_sem]; try omega)).trans (by simp [go_sem])
       have hz : w.heap.size + 2 ≤ w1.heap.size := by
         have h9 := hb1.size
         simp [go_sem] at h9
         omega
       have hB : Below w.heap.size w w1 := (((Below.refl _ w).alloc (Nat.le_refl _) _).alloc (by simp) _).trans (hb1.mono (by simp; omega))
       clear hb1)
    | (refine ⟨trivial, (callsIn_wide.2 (runs_ok _ _ _)).mono ?_⟩
       rintro e w2 ⟨Bp, Bq, rfl, hp, hq, cp, cq, hb2⟩))
  have k2 : w2.cell? ⟨w1.heap.size, 0, none⟩ = some (.int .i64 0) := (hb2.cell (p := ⟨w1.heap.size, 0, none⟩) (by simp)).trans (by simp [go_sem])
  have k3 : w2.cell? ⟨w1.heap.size, 1, none⟩ = some (.int .i64 4097) := (hb2.cell (p := ⟨w1.heap.size, 1, none⟩) (by simp)).trans (by simp [go_sem])
  have f2 : w2.frozen? ⟨w1.heap.size, 0, none⟩ = false := (hb2.frozen (p := ⟨w1.heap.size, 0, none⟩) (by simp)).trans (by simp [go_sem])
  have f3 : w2.frozen? ⟨w1.heap.size, 1, none⟩ = false := (hb2.frozen (p := ⟨w1.heap.size, 1, none⟩) (by simp)).trans (by simp [go_sem])
  have hB12 : Below w1.heap.size w1 w2 := ((Below.refl _ w1).alloc (Nat.le_refl _) _).trans (hb2.mono (by simp))
  have hp1 := hp.1
  have hp2 := hp.2
  have hq1 := hq.1
  have hq2 := hq.2
  rw [World.size_alloc] at hp1 hq1
  have hz2 : w1.heap.size + 1 ≤ w2.heap.size := by omega
  clear hb2 hp hq
  have ks2 := (hB12.cell (p := ⟨w.heap.size + 1, 0, none⟩) (by simp; omega)).trans ks
  have hB2 : Below w.heap.size w w2 := hB.trans (hB12.mono (by omega))
  have hS : RunSrc w2.heap.size w2 Bp Bq w.heap.size n false a len cap ws := ⟨cp, hp2, cq, hq2, ⟨(hB12.cell (p := ⟨w.heap.size, 0, none⟩) (by simp; omega)).trans k0, (hB12.cell (p := ⟨w.heap.size, 1, none⟩) (by simp; omega)).trans k1⟩, by omega, hs.below hB2, fun h A e => by have := ha h A e; omega, hT.below hB2, by omega⟩
  refine wpIn_rangeFunc_ownH rfl (by omega) (gf := 75) (lb := #[.pointer (some ⟨Bp, 0, none⟩), .pointer (some ⟨Bq, 0, none⟩)]) rfl trivial (enters_of Tryd.func75 (by kernel_rfl) rfl)
    (runs_stops w2.heap.size _ Bp Bq w.heap.size n false a len cap ws (by omega) HL.out hw (BB w2.heap.size w1.heap.size) (fun _ _ h k => h.but k (by omega) (by omega) (by omega) (fun h A e => by have := ha h A e; omega) (by omega)) w2 hS (Nat.le_refl _)) BB.trans
    (fun W l o o' hl ho _ _ => (BB.refl _ _ W).grown' (by have := (Array.getElem?_eq_some_iff.1 ho).1; omega) (grownBy_putObj' W l o') (fun k e => by cases e; omega)) (Below.refl _ _) (fun _ => rfl)
    (fun pre W => ((W.cell? ⟨w1.heap.size, 0, none⟩ = some (.int .i64 ((bestF size (pre.map (·.1))).1 : Nat)) ∧ W.cell? ⟨w1.heap.size, 1, none⟩ = some (.int .i64 ((bestF size (pre.map (·.1))).2 : Nat)) ∧ W.frozen? ⟨w1.heap.size, 0, none⟩ = false ∧ W.frozen? ⟨w1.heap.size, 1, none⟩ = false) ∧ BB w2.heap.size w1.heap.size w2 W) ∧ Below w.heap.size w W)
    (fun _ _ _ => False)
    (OwnFrom.and (OwnFrom.and (Own.from (fun s A B row hs hg hr => ⟨cell_kept hs.1 hg hr, cell_kept hs.2.1 hg hr, (frozen_kept hs.1 hg hr).trans hs.2.2.1, (frozen_kept hs.2.1 hg hr).trans hs.2.2.2⟩) _) (fun s A C row hs hg hr => hs.grown (Nat.le_refl _) hg (fun r e => (hr r e).1))) (ownFrom_below (Nat.le_refl _) (by omega)))
    (fun _ _ _ _ _ hs _ _ => hs)
    ⟨⟨⟨k2, k3, f2, f3⟩, BB.refl _ _ _⟩, hB2⟩
    (fun x a' W => ∃ Bx, w2.heap.size ≤ Bx ∧ (W.cell? ⟨Bx, 0, none⟩ = some (.int .i64 (x.1.1 : Int)) ∧ W.cell? ⟨Bx, 1, none⟩ = some (.int .i64 (x.1.2 : Int))) ∧ a' = { tmps := #[.agg #[.int .i64 n, .slice a len cap], .int .i64 size, .pointer (some ⟨w.heap.size, 0, none⟩), .pointer (some ⟨w.heap.size + 1, 0, none⟩), .int .i64 0, .int .i64 0, .int .i64 0, .pointer (some ⟨w1.heap.size, 0, none⟩), .pointer (some ⟨Bx, 0, none⟩), undef, .agg #[.int .i64 n, .slice a len cap], .int .i64 0, .int .i64 0, .bool false, undef, .int .i64 size, .bool false, .agg #[.int .i64 0, .int .i64 4097], .func (.func 75) #[] #[.pointer (some ⟨Bp, 0, none⟩), .pointer (some ⟨Bq, 0, none⟩)], .agg #[.int .i64 (x.1.1 : Int), .int .i64 (x.1.2 : Int)], undef, undef, undef, undef, undef, undef, undef, undef, undef, undef, undef, undef, undef, undef, undef, undef, undef, undef, undef, undef, undef, undef, undef], defers := [] })
    (fun x a' _ X Y row hs hg hr => by obtain ⟨Bx, h1, h2, h3⟩ := hs; exact ⟨Bx, h1, ⟨cell_kept h2.1 hg (fun r e => (hr r e).2), cell_kept h2.2 hg (fun r e => (hr r e).2)⟩, h3⟩)
    ?assign ?body ?done ?stop
  case assign =>
    rintro l pre x W K ⟨⟨⟨d0, d1, d2, d3⟩, hBB⟩, hBW⟩ hK
    gi_wp2
    exact hK _ _ ((KeepsOthers.alloc _ _).from _) (BB.of_below ((Below.refl _ W).alloc hBB.size _)) ⟨⟨⟨cellA d0 _, cellA d1 _, frozenA d0 _ d2, frozenA d1 _ d3⟩, hBB.trans (BB.of_below ((Below.refl _ W).alloc hBB.size _))⟩, hBW.alloc hBW.size _⟩ ⟨W.heap.size, hBB.size, ⟨by simp [go_sem], by simp [go_sem]⟩, rfl⟩
  case body =>
    rintro l pre x a' W hl ⟨r, hr⟩ ⟨⟨⟨d0, d1, d2, d3⟩, hBB⟩, hBW⟩ ⟨Bx, hBx, ⟨cx, cy⟩, rfl⟩ hlt
    have ks3 := (hBB.cell (p := ⟨w.heap.size + 1, 0, none⟩) (by simp; omega) (by simp; omega)).trans ks2
    have R := bestF_rng size pre
    have HS := bestF_snoc size (pre.map (·.1)) x.1
    obtain ⟨g, hg⟩ : ∃ f, (bestF size (pre.map (·.1))).1 = f := ⟨_, rfl⟩
    obtain ⟨h, hh⟩ : ∃ f, (bestF size (pre.map (·.1))).2 = f := ⟨_, rfl⟩
    rw [hg] at d0 R HS
    rw [hh] at d1 R HS
    obtain ⟨f, hf⟩ : ∃ f, x.1.1 = f := ⟨_, rfl⟩
    obtain ⟨t, ht⟩ : ∃ f, x.1.2 = f := ⟨_, rfl⟩
    have hx1 : f < t := by rw [← hf, ← ht]; exact x.2.1
    have hx2 : t ≤ 4096 := by rw [← ht]; exact x.2.2
    rw [hf] at cx HS ⊢
    rw [ht] at cy HS ⊢
    have HF := Lib.hid hf
    have HT := Lib.hid ht
    have HG := Lib.hid hg
    have HH := Lib.hid hh
    have HS2 := Lib.hid HS
    obtain ⟨R1, R2⟩ := R
    clear hf ht hg hh HS
    by_cases hfit : size ≤ t - f
    · have hd : decide ((size : Int) ≤ (t : Int) - (f : Int)) = true := by simp; omega
      by_cases hl2 : t - f < h - g
      · have hd2 : decide ((t : Int) - (f : Int) < (h : Int) - (g : Int)) = true := by simp; omega
        gi_wp2
        have e := HS2.out
        rw [if_pos ⟨hfit, hl2⟩] at e
        refine ⟨((KeepsOthers.setCell _ _ _).trans (KeepsOthers.setCell _ _ _)).from _, (BB.set _ _ _ _ _).trans (BB.set _ _ _ _ _),
          ⟨⟨?_, ?_, ?_, ?_⟩, hBB.trans ((BB.set _ _ _ _ _).trans (BB.set _ _ _ _ _))⟩, (hBW.setCell (p := ⟨w1.heap.size, 0, none⟩) (by simp; omega) _).setCell (p := ⟨w1.heap.size, 1, none⟩) (by simp; omega) _⟩
        · rw [List.map_append, List.map_cons, List.map_nil, e, HF.out]; simp [go_sem, d0]
        · rw [List.map_append, List.map_cons, List.map_nil, e, HT.out]; simp [go_sem, d1]
        · simp [go_sem, d2]
        · simp [go_sem, d3]
      · have hd2 : decide ((t : Int) - (f : Int) < (h : Int) - (g : Int)) = false := by simp; omega
        gi_wp2
        have e := HS2.out
        rw [if_neg (fun k => hl2 k.2)] at e
        refine ⟨KeepsFrom.refl _ _, BB.refl _ _ _, ⟨⟨?_, ?_, d2, d3⟩, hBB⟩, hBW⟩
        · rw [List.map_append, List.map_cons, List.map_nil, e, HG.out]; exact d0
        · rw [List.map_append, List.map_cons, List.map_nil, e, HH.out]; exact d1
    · have hd : decide ((size : Int) ≤ (t : Int) - (f : Int)) = false := by simp; omega
      gi_wp2
      have e := HS2.out
      rw [if_neg (fun k => hfit k.1)] at e
      refine ⟨KeepsFrom.refl _ _, BB.refl _ _ _, ⟨⟨?_, ?_, d2, d3⟩, hBB⟩, hBW⟩
      · rw [List.map_append, List.map_cons, List.map_nil, e, HG.out]; exact d0
      · rw [List.map_append, List.map_cons, List.map_nil, e, HH.out]; exact d1
  case done =>
    rintro D ys W hD hys ⟨⟨⟨d0, d1, d2, d3⟩, hBB⟩, hBW⟩ hK
    rw [hys] at d0 d1
    have HY := Lib.hid hys
    clear hys
    obtain ⟨g, hg⟩ : ∃ f, (bestF size (runsL (look ws false) n)).1 = f := ⟨_, rfl⟩
    obtain ⟨h, hh⟩ : ∃ f, (bestF size (runsL (look ws false) n)).2 = f := ⟨_, rfl⟩
    rw [hg] at d0
    rw [hh] at d1
    have HG := Lib.hid hg
    have HH := Lib.hid hh
    clear hg hh
    by_cases ho : 4096 < h
    · have hd : decide (4096 < h) = true := by simpa using ho
      gi_wp2
      refine ⟨by simp, .inl ⟨_, _, rfl, run_takeDeferred hK, ?_⟩⟩
      refine ⟨.tuple #[.int .i64 0, .int .i64 4], ?_, by unfold bestOut; rw [HH.out, if_pos ho], hBW.trans (belowK_b (w := w) (Nat.le_refl _) _ D _ _ (by omega) hK rfl rfl)⟩
      simp [results, Tryd.f17, go_sem]
    · have hd : decide (4096 < h) = false := by simpa using ho
      gi_wp2
      refine ⟨by simp, .inl ⟨_, _, rfl, run_takeDeferred hK, ?_⟩⟩
      refine ⟨.tuple #[.int .i64 (g : Int), .int .i64 0], ?_, by unfold bestOut; rw [HH.out, HG.out, if_neg ho], hBW.trans (belowK_b (w := w) (Nat.le_refl _) _ D _ _ (by omega) hK rfl rfl)⟩
      simp [results, Tryd.f17, go_sem]
  case stop =>
    rintro D c pre W _ _ h _
    exact h.elim
end Go.Proofs.YtikdgnfcckenmaaDoor
