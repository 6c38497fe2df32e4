/- Package slices: AppendSeq, Collect of runs; package bits: Runs. -/
import Derived.Test.YtikdgnfcckenmaaDoorBitsU
import Derived.Test.YtikdgnfcckenmaaDoorRefE
namespace Go.Proofs.YtikdgnfcckenmaaDoor
open Go.RowKit Go.Sort Go.Joins Go.Shelf
attribute [local go_sem] cell_grow frozen_grow size_grow Oper.semAt_some

/-- runs as cells -/
def rcells (L : List (Nat × Nat)) : List Value := L.flatMap fun r => [.int .i64 (r.1 : Int), .int .i64 (r.2 : Int)]
theorem rcells_snoc (L : List (Nat × Nat)) (r : Nat × Nat) : rcells (L ++ [r]) = rcells L ++ [.int .i64 (r.1 : Int), .int .i64 (r.2 : Int)] := by simp [rcells]
theorem rcells_length (L : List (Nat × Nat)) : (rcells L).length = 2 * L.length := by
  induction L with
  | nil => rfl
  | cons r L ih =>
    have e : rcells (r :: L) = [.int .i64 (r.1 : Int), .int .i64 (r.2 : Int)] ++ rcells L := rfl
    rw [e, List.length_append, ih]; simp; omega
theorem rcells_get (L : List (Nat × Nat)) (k : Nat) (h : k < L.length) : (rcells L)[k * 2]? = some (.int .i64 ((L.getD k (0, 0)).1 : Nat)) ∧ (rcells L)[k * 2 + 1]? = some (.int .i64 ((L.getD k (0, 0)).2 : Nat)) := by
  induction L generalizing k with
  | nil => simp at h
  | cons r L ih =>
    cases k with
    | zero => simp [rcells]
    | succ k =>
      have := ih k (by simpa using h)
      simp only [rcells, List.flatMap_cons] at this ⊢
      rw [List.getElem?_append_right (by simp; omega), List.getElem?_append_right (by simp; omega)]
      simpa [show (k + 1) * 2 - 2 = k * 2 by omega, show (k + 1) * 2 + 1 - 2 = k * 2 + 1 by omega] using this
theorem info_run : (Tryd.prog.info? 43).map (fun i => (i.zero, i.size, i.bytes)) = some (some (.agg #[.int .i64 0, .int .i64 0]), 2, 16) := by kernel_rfl

theorem own_stays {W W' : World} {base : Nat} {e : TypeId} {size : Nat} {v : Value} {n : Nat} {xs : List Value} {row : Option Nat} (h : W.ownsRow base e size v n xs) (hg : W.grownBy W' row) (hr : ∀ r, row = some r → ∃ o : Obj, W.heap[r]? = some o ∧ o.isCells = false) : W'.ownsRow base e size v n xs := by
  refine h.kept hg ?_
  rcases h.2 with ⟨rfl, _⟩ | ⟨g, cap, cur, rfl, _, hgb, _⟩
  · exact .inl rfl
  · refine .inr fun e' => ?_
    obtain ⟨o, ho, hc⟩ := hr g e'.symm
    rw [hgb] at ho; cases ho; cases hc
theorem own_slice' {w : World} {base n size : Nat} {e : TypeId} {v : Value} {xs : List Value} (h : w.ownsRow base e size v n xs) : ∃ a cap, v = .slice a n cap := by
  rcases h.2 with ⟨hv, h0⟩ | ⟨g, cap', cur, hv, _⟩
  · exact ⟨_, _, by rw [hv, h0]⟩
  · exact ⟨_, _, hv⟩
theorem own_cells {W : World} {base : Nat} {e : TypeId} {size : Nat} {v : Value} {n : Nat} {xs : List Value} (h : W.ownsRow base e size v n xs) : ∀ (j : Nat) (o : Obj), v.ownBlock = some j → W.heap[j]? = some o → o.isCells = true := by
  intro j o hj ho
  rcases h.2 with ⟨rfl, _⟩ | ⟨g, cap, cur, rfl, _, hgb, _⟩
  · simp [Value.ownBlock] at hj
  · have : g = j := by simpa [Value.ownBlock] using hj
    subst this; rw [hgb] at ho; cases ho; rfl
/-- the box and the runs so far -/
def RunBox (B : Nat) (pre : List (Nat × Nat)) (W : World) : Prop := ∃ v, W.cell? ⟨B, 0, none⟩ = some v ∧ W.frozen? ⟨B, 0, none⟩ = false ∧ W.ownsRow (B + 1) 43 2 v pre.length (rcells pre)

set_option maxRecDepth 100000 in
set_option maxHeartbeats 1600000 in
theorem appendSeq_ok (Bp Bq Bb n : Nat) (on : Bool) (a : Option Addr) (len cap : Nat) (ws : List Nat) (w : World) (hS : RunSrc w.heap.size w Bp Bq Bb n on a len cap ws) (hn : n ≤ 4096) (hlen : len = (n + 63) / 64) (hw : ∀ x ∈ ws, x < 18446744073709551616) :
    Calls Tryd.prog 76 #[.slice none 0 0, .func (.func 75) #[] #[.pointer (some ⟨Bp, 0, none⟩), .pointer (some ⟨Bq, 0, none⟩)]] w fun e w' => ∃ v, e = .returned v ∧
      w'.ownsRow w.heap.size 43 2 v (runsL (look ws on) n).length (rcells (runsL (look ws on) n)) ∧ Below w.heap.size w w' := by
  obtain ⟨i0, hi, hz0, hz1, hz2⟩ := info_parts info_run
  have HL := Lib.hid hlen
  have HSS := Lib.hid hS
  clear hlen hS
  refine (callsIn_wide (n := 4)).1 ?_
  refine callsIn_of_wp_marks Tryd.func76 rfl trivial ?_ rfl
  simp only [Tryd.ntmps76, List.size_toArray, List.length_cons, List.length_nil, Nat.reduceAdd, Nat.reduceSub, Array.replicate_succ, Array.replicate_zero, List.push_toArray, List.append_toArray, List.nil_append, List.cons_append]
  gi_wp2
  refine wpIn_rangeFunc_ownH rfl (by omega) (gf := 75) (lb := #[.pointer (some ⟨Bp, 0, none⟩), .pointer (some ⟨Bq, 0, none⟩)]) rfl trivial (enters_of Tryd.func75 (by kernel_rfl) rfl)
    (runs_stops w.heap.size _ Bp Bq Bb n on a len cap ws hn HL.out hw (Below w.heap.size) (fun _ _ h k => h.below k) w HSS.out (Nat.le_refl _)) belowK_t (belowK_b (by simp)) (below_box0 _ _) (fun _ => rfl)
    (fun pre W => RunBox w.heap.size (pre.map (·.1)) W ∧ Below w.heap.size w W)
    (fun _ _ _ => False)
    (OwnFrom.and (Own.from (fun s A B row hs hg hr => by obtain ⟨v, h1, h2, h3⟩ := hs; exact ⟨v, cell_kept h1 hg hr, (frozen_kept h1 hg hr).trans h2, own_stays h3 hg hr⟩) _) (ownFrom_below (Nat.le_refl _) (by simp)))
    (fun _ _ _ _ _ hs _ _ => hs)
    ⟨⟨.slice none 0 0, by simp [go_sem], by simp [go_sem], World.ownsRow_nil _ _ _ _⟩, below_box0 _ _⟩
    (fun x a' W => ∃ Bx, w.heap.size + 1 ≤ Bx ∧ (W.cell? ⟨Bx, 0, none⟩ = some (.int .i64 (x.1.1 : Int)) ∧ W.cell? ⟨Bx, 1, none⟩ = some (.int .i64 (x.1.2 : Int))) ∧ a' = { tmps := #[.slice none 0 0, .func (.func 75) #[] #[.pointer (some ⟨Bp, 0, none⟩), .pointer (some ⟨Bq, 0, none⟩)], .pointer (some ⟨w.heap.size, 0, none⟩), undef, .slice none 0 0, .pointer (some ⟨Bx, 0, none⟩), .func (.func 75) #[] #[.pointer (some ⟨Bp, 0, none⟩), .pointer (some ⟨Bq, 0, none⟩)], .agg #[.int .i64 (x.1.1 : Int), .int .i64 (x.1.2 : Int)], undef, undef, undef, undef, undef], defers := [] })
    (fun x a' _ X Y row hs hg hr => by obtain ⟨Bx, h1, h2, h3⟩ := hs; exact ⟨Bx, h1, ⟨cell_kept h2.1 hg (fun r e => (hr r e).2), cell_kept h2.2 hg (fun r e => (hr r e).2)⟩, h3⟩)
    ?assign ?body ?done ?stop
  case assign =>
    rintro l pre x W K ⟨⟨v, h1, h2, h3⟩, hBW⟩ hK
    have hz : w.heap.size < W.heap.size := World.block_lt_of_cell? _ _ h1
    gi_wp2
    exact hK _ _ ((KeepsOthers.alloc _ _).from _) ((Below.refl w.heap.size W).alloc hBW.size _) ⟨⟨v, cellA h1 _, frozenA h1 _ h2, h3.alloc _⟩, hBW.alloc hBW.size _⟩ ⟨W.heap.size, hz, ⟨by simp [go_sem], by simp [go_sem]⟩, rfl⟩
  case body =>
    rintro l pre x a' W hl ⟨r, hr⟩ ⟨⟨v, h1, h2, h3⟩, hBW⟩ ⟨Bx, hBx, ⟨cx, cy⟩, rfl⟩ hlt
    have hz : w.heap.size < W.heap.size := World.block_lt_of_cell? _ _ h1
    have hBxz : Bx < W.heap.size := World.block_lt_of_cell? _ _ cx
    obtain ⟨f, hf⟩ : ∃ f, x.1.1 = f := ⟨_, rfl⟩
    obtain ⟨t, ht⟩ : ∃ f, x.1.2 = f := ⟨_, rfl⟩
    rw [hf] at cx ⊢
    rw [ht] at cy ⊢
    have HF := Lib.hid hf
    have HT := Lib.hid ht
    have HO := Lib.hid h3
    have HB := Lib.hid hBW
    clear hf ht h3 hBW hr
    gi_wp2_with (gi_at_builtin; refine wpListIn_append_own _ rfl (.tmp 8) (.tmp 10) 37 rfl (w.heap.size + 1) 43 i0 (.agg #[.int .i64 0, .int .i64 0]) 2 16 Tryd.underlying37 hi hz0 hz1 hz2 rfl (by decide) _ _ _ rfl (HO.out.alloc _) ⟨W.heap.size, 0, none⟩ 1 1 [.int .i64 (f : Int), .int .i64 (t : Int)] rfl rfl ?c1 ?c2 ?c3 ?c4 ?c5 ?_)
    case c1 => intro j u hu; match j with | 0 => (simp at hu; subst hu; simp [go_sem]) | 1 => (simp at hu; subst hu; simp [go_sem]) | j + 2 => simp at hu
    case c2 => intro u hu; simp at hu; rcases hu with rfl | rfl <;> rfl
    case c3 => unfold maxLen; simp; omega
    case c4 => simp; omega
    case c5 => simp; omega
    intro v' w3 hown hg _
    obtain ⟨va, vc, rfl⟩ := own_slice' hown
    have hne : (some w.heap.size : Option Nat) ≠ v.ownBlock := fun e => by have := (HO.out.lt _ e.symm).1; omega
    have d1 : w3.cell? ⟨w.heap.size, 0, none⟩ = some v := hg.cell (cellA h1 _) hne
    have d2 : w3.frozen? ⟨w.heap.size, 0, none⟩ = false := (World.frozen?_of_block (hg.block w.heap.size (by simp; omega) hne)).trans (frozenA h1 _ h2)
    have HW := Lib.hid hown
    have HG := Lib.hid hg
    clear hown hg hne
    gi_wp2
    have hne' : (Value.slice va (pre.length + 1) vc).ownBlock ≠ some (⟨w.heap.size, 0, none⟩ : Addr).block := fun e => by have := (HW.out.lt _ e).1; dsimp only at this; omega
    have hB3 : Below w.heap.size W w3 := ((Below.refl _ W).alloc (Nat.le_refl _) _ |>.mono (Nat.le_of_lt hz)).grown HG.out (by simp; omega) (by intro r hr; have := (HO.out.lt r hr).1; omega)
    refine ⟨(((KeepsOthers.alloc W _).trans (KeepsOthers.of_grownBy HG.out (own_cells (HO.out.alloc _)))).trans (KeepsOthers.setCell _ _ _)).from _, hB3.setCell (p := ⟨w.heap.size, 0, none⟩) (Nat.le_refl _) _, ⟨.slice va (pre.length + 1) vc, ?_, ?_, ?_⟩, (HB.out.trans hB3).setCell (p := ⟨w.heap.size, 0, none⟩) (Nat.le_refl _) _⟩
    · simp [go_sem, d1]
    · simp [go_sem, d2]
    · have := ownsRow_setCell_other HW.out hne' (.slice va (pre.length + 1) vc)
      simpa [rcells_snoc, HF.out, HT.out] using this
  case done =>
    rintro D ys W hD hys ⟨⟨v, h1, h2, h3⟩, hBW⟩ hK
    have hz : w.heap.size < W.heap.size := World.block_lt_of_cell? _ _ h1
    have HY := Lib.hid hys
    have h4 := h3
    rw [hys] at h4
    have HO : Hid (W.ownsRow (w.heap.size + 1) 43 2 v (runsL (look ws on) n).length (rcells (runsL (look ws on) n))) := Lib.hid h4
    clear hys h3 h4
    gi_wp2
    refine ⟨by simp, .inl ⟨_, _, rfl, run_takeDeferred hK, ?_⟩⟩
    refine ⟨_, results_tmp rfl _ _ _, v, rfl, ?_, hBW.trans (belowK_b (w := w) (Nat.le_refl _) _ D _ _ (by simp at hD; omega) hK rfl rfl)⟩
    have := own_stays HO.out (grownBy_putObj' _ D (.deferred none)) (fun r e => by cases e; exact ⟨_, hK, rfl⟩)
    exact ownsRow_le this (by omega)
  case stop =>
    rintro D c pre W _ _ h _
    exact h.elim

/-- A slice of runs. -/
structure SlR (w : World) (a : Option Addr) (len : Nat) (L : List (Nat × Nat)) : Prop where
  length : L.length = len
  cells : len = 0 ∨ ∃ b off, a = some ⟨b, off, none⟩ ∧ ∀ j, j < len → w.cell? ⟨b, off + j * 2, none⟩ = some (.int .i64 ((L.getD j (0, 0)).1 : Nat)) ∧ w.cell? ⟨b, off + j * 2 + 1, none⟩ = some (.int .i64 ((L.getD j (0, 0)).2 : Nat))
theorem SlR.below {w w' : World} {a : Option Addr} {len : Nat} {L : List (Nat × Nat)} (h : SlR w a len L) (hb : Below w.heap.size w w') : SlR w' a len L := by
  refine ⟨h.length, ?_⟩
  rcases h.cells with h0 | ⟨b, off, ha, hc⟩
  · exact .inl h0
  · refine .inr ⟨b, off, ha, fun j hj => ?_⟩
    obtain ⟨c1, c2⟩ := hc j hj
    exact ⟨(hb.cell (p := ⟨b, off + j * 2, none⟩) (World.block_lt_of_cell? _ _ c1)).trans c1, (hb.cell (p := ⟨b, off + j * 2 + 1, none⟩) (World.block_lt_of_cell? _ _ c2)).trans c2⟩
theorem SlR.of_own {w : World} {base len cap : Nat} {e : TypeId} {a : Option Addr} {L : List (Nat × Nat)} (h : w.ownsRow base e 2 (.slice a len cap) L.length (rcells L)) : SlR w a L.length L := by
  refine ⟨rfl, ?_⟩
  by_cases h0 : L.length = 0
  · exact .inl h0
  · obtain ⟨g, cap', hv⟩ := ownsRow_form h (by omega)
    cases hv
    refine .inr ⟨g, 0, rfl, fun j hj => ?_⟩
    have c1 := h.cellAt (j * 2) (by omega)
    have c2 := h.cellAt (j * 2 + 1) (by omega)
    obtain ⟨e1, e2⟩ := rcells_get L j hj
    rw [e1] at c1
    rw [e2] at c2
    rw [Nat.zero_add]
    exact ⟨c1, c2⟩
theorem own_len {w : World} {base len cap n size : Nat} {e : TypeId} {a : Option Addr} {xs : List Value} (h : w.ownsRow base e size (.slice a len cap) n xs) : len = n := by
  rcases h.2 with ⟨hv, h0⟩ | ⟨g, cap', cur, hv, _⟩
  · cases hv; exact h0.symm
  · cases hv; rfl
/-- a value that is runs -/
def RunsR (W : World) (v : Value) (L : List (Nat × Nat)) : Prop := ∃ a cap, v = .slice a L.length cap ∧ SlR W a L.length L
theorem RunsR.below {W W' : World} {v : Value} {L : List (Nat × Nat)} (h : RunsR W v L) (hb : Below W.heap.size W W') : RunsR W' v L := by
  obtain ⟨a, cap, h1, h2⟩ := h
  exact ⟨a, cap, h1, h2.below hb⟩
theorem RunsR.nil (W : World) : RunsR W (.slice none 0 0) [] := ⟨none, 0, rfl, rfl, .inl rfl⟩
theorem RunsR.of_own {w : World} {base : Nat} {e : TypeId} {v : Value} {L : List (Nat × Nat)} (h : w.ownsRow base e 2 v L.length (rcells L)) : RunsR w v L := by
  obtain ⟨a, cap, rfl⟩ := own_slice' h
  exact ⟨a, cap, rfl, SlR.of_own h⟩

theorem collect_ok (Bp Bq Bb n : Nat) (on : Bool) (a : Option Addr) (len cap : Nat) (ws : List Nat) (w : World) (hS : RunSrc w.heap.size w Bp Bq Bb n on a len cap ws) (hn : n ≤ 4096) (hlen : len = (n + 63) / 64) (hw : ∀ x ∈ ws, x < 18446744073709551616) :
    Calls Tryd.prog 58 #[.func (.func 75) #[] #[.pointer (some ⟨Bp, 0, none⟩), .pointer (some ⟨Bq, 0, none⟩)]] w fun e w' => ∃ v, e = .returned v ∧
      w'.ownsRow w.heap.size 43 2 v (runsL (look ws on) n).length (rcells (runsL (look ws on) n)) ∧ Below w.heap.size w w' := by
  have H := Lib.hid (appendSeq_ok Bp Bq Bb n on a len cap ws w hS hn hlen hw)
  clear hS hlen
  go_enter Tryd.func58, Tryd.ntmps58
  go_wp2_with (go_at_call 76; refine H.out.mono ?_; rintro e w1 ⟨v, rfl, h1, h2⟩; have H1 := Lib.hid h1; have H2 := Lib.hid h2; clear h1 h2)
  go_ret
  exact ⟨v, rfl, H1.out, H2.out⟩

def runsV (N : Int) (ws : List Nat) (on : Bool) : List (Nat × Nat) := if chk N ws = 0 then runsL (look ws on) N.toNat else []
set_option maxRecDepth 100000 in
set_option maxHeartbeats 1600000 in
theorem bRuns_ok (N : Int) (on : Bool) (a : Option Addr) (len cap : Nat) (ws : List Nat) (w : World) (hT : Tab w) (ht : 0 < w.heap.size) (hs : SlK .u64 w a len ws) (hw : ∀ x ∈ ws, x < 18446744073709551616) (hlen : len ≤ 9223372036854775807) :
    Calls Tryd.prog 24 #[.agg #[.int .i64 N, .slice a len cap], .bool on] w fun e w' => ∃ v, e = .returned (.tuple #[v, .int .i64 (chk N ws)]) ∧ RunsR w' v (runsV N ws on) ∧ Below w.heap.size w w' := by
  by_cases hc : chk N ws = 0
  · obtain ⟨hN0, hN, hl, -⟩ := chk_zero hc
    obtain ⟨n, rfl⟩ := Int.eq_ofNat_of_zero_le hN0
    have E1 : runsV n ws on = runsL (look ws on) n := if_pos hc
    rw [E1, hc]
    have HC := Lib.hid hc
    have hL := hs.length
    have HL : Hid (len = (n + 63) / 64) := Lib.hid (by omega)
    have ha := fun h => hs.lt h
    have HA := Lib.hid ha
    clear hc hl hL E1 ha
    go_enter Tryd.func24, Tryd.ntmps24
    go_wp2_with fail
    refine (bCheck_ok n a len cap ws _ (hs.alloc _) hw hlen).mono ?_
    rintro e w1 ⟨rfl, b1⟩
    rw [HC.out]
    have R1 := Lib.hid ((RAt.new (N := n) (cap := cap) hs 24).below b1)
    have T1 := Lib.hid ((hT.alloc (.cells #[.int .i64 n, .slice a len cap] 24)).below b1)
    clear b1
    go_wp2_with fail
    refine (runs_ok _ _ _).mono ?_
    rintro e w2 ⟨Bp, Bq, rfl, hp, hq, cp, cq, b2⟩
    have R2 := Lib.hid (R1.out.below b2)
    have hz1 := R1.out.l
    have hz2 := b2.size
    have hS : RunSrc w2.heap.size w2 Bp Bq w.heap.size n on a len cap ws := ⟨cp, hp.2, cq, hq.2, R2.out.b, by omega, R2.out.s, fun h A e => by have := HA.out h A e; omega, T1.out.below b2, by omega⟩
    have HS := Lib.hid hS
    clear hp hq cp cq b2 hS
    go_wp2_with fail
    refine (collect_ok Bp Bq w.heap.size n on a len cap ws _ HS.out (by omega) HL.out hw).mono ?_
    rintro e w3 ⟨v, rfl, h1, h2⟩
    have H1 := Lib.hid (RunsR.of_own h1)
    have H2 := Lib.hid (R2.out.below h2)
    clear h1 h2
    go_wp2
    go_ret2
    exact ⟨v, rfl, H1.out, H2.out.k⟩
  · have hcb := bne0_true hc
    have E1 : runsV N ws on = [] := if_neg hc
    rw [E1]
    clear hc E1
    go_enter Tryd.func24, Tryd.ntmps24
    go_wp2_with fail
    refine (bCheck_ok N a len cap ws _ (hs.alloc _) hw hlen).mono ?_
    rintro e w1 ⟨rfl, b1⟩
    have R1 := Lib.hid ((RAt.new (N := N) (cap := cap) hs 24).below b1)
    clear b1
    go_wp2
    go_ret2
    exact ⟨_, rfl, RunsR.nil _, R1.out.k⟩
end Go.Proofs.YtikdgnfcckenmaaDoor
