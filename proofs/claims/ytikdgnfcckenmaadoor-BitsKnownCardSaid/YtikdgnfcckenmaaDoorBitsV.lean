/- Package bits: Block, where the bits are good. -/
import Derived.Test.YtikdgnfcckenmaaDoorBitsU
import Derived.Lib.QuoteBits
import Derived.WalkMore
namespace Go.Proofs.YtikdgnfcckenmaaDoor
open Go.RowKit Go.Sort Go.Shelf
attribute [local go_sem] cell_grow frozen_grow size_grow size_redrawn Oper.semAt_some

theorem nat_clear (x k : Nat) (hk : k ≤ 64) (hx : x < 2 ^ 64) : x &&& (2 ^ 64 - 1 - (2 ^ k - 1)) = x / 2 ^ k * 2 ^ k := by
  have hp : 0 < 2 ^ k := Nat.two_pow_pos k
  have hp2 : 2 ^ k ≤ 2 ^ 64 := Nat.pow_le_pow_right (by decide) hk
  apply Nat.eq_of_testBit_eq
  intro i
  rw [Nat.testBit_and, show 2 ^ 64 - 1 - (2 ^ k - 1) = 2 ^ 64 - ((2 ^ k - 1) + 1) by omega, Nat.testBit_two_pow_sub_succ (by omega), Nat.testBit_two_pow_sub_one, Nat.testBit_mul_two_pow, Nat.testBit_div_two_pow]
  by_cases hi : i < k
  · simp [hi, Nat.not_le.2 hi]
  · have hki : k ≤ i := Nat.le_of_not_lt hi
    by_cases h64 : i < 64
    · simp [hi, h64, hki]
    · have h1 : x.testBit i = false := Nat.testBit_lt_two_pow (Nat.lt_of_lt_of_le hx (Nat.pow_le_pow_right (by decide) (by omega)))
      simp [hki, h1]
theorem andNot_mask (x k : Nat) (hk : k ≤ 62) (hx : x < 9223372036854775808) : bits .andNot .i64 (x : Int) ((2 ^ k - 1 : Nat) : Int) = ((x / 2 ^ k * 2 ^ k : Nat) : Int) := by
  have hp2 : 2 ^ k ≤ 2 ^ 62 := Nat.pow_le_pow_right (by decide) hk
  show IntKind.i64.wrap ((BitVec.ofInt 64 (x : Int) &&& ~~~BitVec.ofInt 64 ((2 ^ k - 1 : Nat) : Int)).toNat : Int) = _
  rw [BitVec.toNat_and, BitVec.toNat_not, ofInt_u64 x (by omega), ofInt_u64 (2 ^ k - 1) (by omega), nat_clear x k (by omega) (by omega)]
  exact Lib.wrap_i64_small _ (Nat.lt_of_le_of_lt (Nat.div_mul_le_self x _) hx)

def gAl (size : Nat) (r : Nat × Nat) : Nat := (r.1 + size - 1) / size * size

set_option maxRecDepth 100000 in
set_option maxHeartbeats 1600000 in
theorem bBlock_ok (n k : Nat) (a : Option Addr) (len cap : Nat) (ws : List Nat) (w : World) (hT : Tab w) (_ : 0 < w.heap.size) (hs : SlK .u64 w a len ws) (hw : ∀ x ∈ ws, x < 18446744073709551616) (hc : chk n ws = 0) (h1 : k ≤ 12) :
    Calls Tryd.prog 19 #[.agg #[.int .i64 n, .slice a len cap], .int .i64 k] w fun e w' =>
      e = .returned (fitOut (gAl (2 ^ k)) (fitR (gAl (2 ^ k)) (2 ^ k) (runsL (look ws false) n))) ∧ Below w.heap.size w w' := by
  obtain ⟨hn0, hn1, hn2, -⟩ := chk_zero hc
  have hL := hs.length
  have ha := fun h => hs.lt h
  have hlen : len = (n + 63) / 64 := by omega
  have hlu : len ≤ 64 := by omega
  have HL := Lib.hid hlen
  have HC := Lib.hid hc
  have HL2 := Lib.hid hL
  have HN := Lib.hid hn2
  clear hlen hc hL hn2
  have hz1 : decide ((k : Int) < 0) = false := by simp
  have hz2 : decide (12 < k) = false := by simp; omega
  obtain ⟨S, hSd⟩ : ∃ S : Nat, 2 ^ k = S := ⟨_, rfl⟩
  rw [hSd]
  have hS1 : 1 ≤ S := by rw [← hSd]; exact Nat.two_pow_pos k
  have hS2 : S ≤ 4096 := by rw [← hSd]; exact Nat.le_trans (Nat.pow_le_pow_right (by decide) h1) (by decide)
  have hz3 : decide ((12 : Int) < (k : Int)) = false := by simp; omega
  have hX : wrap64 (2 ^ k) = (S : Int) := by
    rw [← hSd, IntWalk.wrap64_in _ (by have : ((2 : Int) ^ k) = ((2 ^ k : Nat) : Int) := by simp
                                       rw [this, hSd]; omega)]
    simp
  have HSd := Lib.hid hSd
  clear hSd
  refine (callsIn_wide (n := 3)).1 ?_
  refine callsIn_of_wp_marks Tryd.func19 rfl trivial ?_ rfl
  simp only [Tryd.ntmps19, List.size_toArray, List.length_cons, List.length_nil, Nat.reduceAdd, Nat.reduceSub, Array.replicate_succ, Array.replicate_zero, List.push_toArray, List.append_toArray, List.nil_append, List.cons_append]
  gi_wp2
  refine wpIn_wide.2 (wp_scope_straight ((wpIn_wide (n := 3)).1 ?_))
  gi_wp2_with (
    refine ⟨trivial, (callsIn_wide.2 (bCheck_ok (n : Int) a len cap ws _ ?_ hw (by omega))).mono ?_⟩
    · exact hs.below ((((Below.refl _ w).alloc (Nat.le_refl _) _).alloc (by simp) _).alloc (by simp; omega) _)
    rintro e w1 ⟨rfl, hb1⟩
    rw [HC.out]
    have k0 : w1.cell? ⟨w.heap.size, 0, none⟩ = some (.int .i64 n) := (hb1.cell (p := ⟨w.heap.size, 0, none⟩) (by simp [go_sem]; try omega)).trans (by simp [go_sem])
    have k1 : w1.cell? ⟨w.heap.size, 1, none⟩ = some (.slice a len cap) := (hb1.cell (p := ⟨w.heap.size, 1, none⟩) (by simp [go_sem]; try omega)).trans (by simp [go_sem])
    have k6 : w1.cell? ⟨w.heap.size + 1, 0, none⟩ = some (.int .i64 0) := (hb1.cell (p := ⟨w.heap.size + 1, 0, none⟩) (by simp [go_sem]; try omega)).trans (by simp [go_sem])
    have k7 : w1.cell? ⟨w.heap.size + 1 + 1, 0, none⟩ = some (.int .i64 0) := (hb1.cell (p := ⟨w.heap.size + 1 + 1, 0, none⟩) (by simp [go_sem]; try omega)).trans (by simp [go_sem])
    have f6 : w1.frozen? ⟨w.heap.size + 1, 0, none⟩ = false := (hb1.frozen (p := ⟨w.heap.size + 1, 0, none⟩) (by simp [go_sem]; try omega)).trans (by simp [go_sem])
    have f7 : w1.frozen? ⟨w.heap.size + 1 + 1, 0, none⟩ = false := (hb1.frozen (p := ⟨w.heap.size + 1 + 1, 0, none⟩) (by simp [go_sem]; try omega)).trans (by simp [go_sem])
    have hz : w.heap.size + 3 ≤ w1.heap.size := by
      have h9 := hb1.size
      simp [go_sem] at h9
      omega
    have hB : Below w.heap.size w w1 := ((((Below.refl _ w).alloc (Nat.le_refl _) _).alloc (by simp) _).alloc (by simp; omega) _).trans (hb1.mono (by simp; omega))
    clear hb1)
  refine wpIn_label ?_
  gi_wp2_with (
    refine ⟨trivial, (callsIn_wide.2 (runs_ok _ _ _)).mono ?_⟩
    rintro e w2 ⟨Bp, Bq, rfl, hp, hq, cp, cq, hb2⟩)
  have kS : w2.cell? ⟨w1.heap.size, 0, none⟩ = some (.int .i64 S) := (hb2.cell (p := ⟨w1.heap.size, 0, none⟩) (by simp)).trans (by simp [go_sem])
  have hB12 : Below w1.heap.size w1 w2 := ((Below.refl _ w1).alloc (Nat.le_refl _) _).trans (hb2.mono (by simp))
  have hp2 := hp.2
  have hq2 := hq.2
  have hz2 : w1.heap.size + 1 ≤ w2.heap.size := by have := hb2.size; simp at this; omega
  clear hb2 hp hq
  have hB2 : Below w.heap.size w w2 := hB.trans (hB12.mono (by omega))
  have hS : RunSrc w2.heap.size w2 Bp Bq w.heap.size n false a len cap ws := ⟨cp, hp2, cq, hq2, ⟨(hB12.cell (p := ⟨w.heap.size, 0, none⟩) (by simp; omega)).trans k0, (hB12.cell (p := ⟨w.heap.size, 1, none⟩) (by simp; omega)).trans k1⟩, by omega, hs.below hB2, fun h A e => by have := ha h A e; omega, hT.below hB2, by omega⟩
  have k62 := (hB12.cell (p := ⟨w.heap.size + 1, 0, none⟩) (by simp; omega)).trans k6
  have k72 := (hB12.cell (p := ⟨w.heap.size + 1 + 1, 0, none⟩) (by simp; omega)).trans k7
  have f62 := (hB12.frozen (p := ⟨w.heap.size + 1, 0, none⟩) (by simp; omega)).trans f6
  have f72 := (hB12.frozen (p := ⟨w.heap.size + 1 + 1, 0, none⟩) (by simp; omega)).trans f7
  clear k6 k7 f6 f7 k0 k1
  refine wpIn_rangeFunc_ownH rfl (by omega) (gf := 75) (lb := #[.pointer (some ⟨Bp, 0, none⟩), .pointer (some ⟨Bq, 0, none⟩)]) rfl trivial (enters_of Tryd.func75 (by kernel_rfl) rfl)
    (runs_stops w2.heap.size _ Bp Bq w.heap.size n false a len cap ws (by omega) HL.out hw (Below w2.heap.size) (fun _ _ h k => h.below k) w2 hS (Nat.le_refl _)) belowK_t (belowK_b (Nat.le_refl _)) (Below.refl _ _) (fun _ => rfl)
    (fun pre W => NoFit (gAl S) S pre ∧ Below w2.heap.size w2 W)
    (fun c pre W => ((c = .ret ∧ ∃ v : Nat, FitAt (gAl S) S pre v ∧ W.cell? ⟨w.heap.size + 1, 0, none⟩ = some (.int .i64 v) ∧ W.cell? ⟨w.heap.size + 1 + 1, 0, none⟩ = some (.int .i64 0))) ∧ Below w.heap.size w W)
    (OwnFrom.and (ownFrom_pure _ _) (ownFrom_below (Nat.le_refl _) (Nat.le_refl _)))
    (fun c => OwnFrom.and (Own.from (fun s A B row hs hg hr => by obtain ⟨h1, v, h2, h5, h6⟩ := hs; exact ⟨h1, v, h2, cell_kept h5 hg hr, cell_kept h6 hg hr⟩) _) (ownFrom_below (Nat.le_refl _) (by omega)))
    ⟨fun _ h => by simp at h, Below.refl _ _⟩
    (fun x a' W => ∃ Bx, w2.heap.size ≤ Bx ∧ (W.cell? ⟨Bx, 0, none⟩ = some (.int .i64 (x.1.1 : Int)) ∧ W.cell? ⟨Bx, 1, none⟩ = some (.int .i64 (x.1.2 : Int))) ∧ a' = { tmps := #[.agg #[.int .i64 n, .slice a len cap], .int .i64 k, .pointer (some ⟨w.heap.size, 0, none⟩), undef, .pointer (some ⟨w.heap.size + 1, 0, none⟩), .pointer (some ⟨w.heap.size + 1 + 1, 0, none⟩), .int .i64 0, .pointer (some ⟨w1.heap.size, 0, none⟩), .pointer (some ⟨Bx, 0, none⟩), undef, .agg #[.int .i64 n, .slice a len cap], .int .i64 0, .int .i64 0, .bool false, undef, .int .i64 k, .bool false, .bool false, .int .i64 k, .bool false, .bool false, .int .i64 k, .int .i64 S, .func (.func 75) #[] #[.pointer (some ⟨Bp, 0, none⟩), .pointer (some ⟨Bq, 0, none⟩)], .agg #[.int .i64 (x.1.1 : Int), .int .i64 (x.1.2 : Int)], undef, undef, undef, undef, undef, undef, undef, undef, undef, undef, undef, undef, undef, undef, undef], defers := [] })
    (fun x a' _ X Y row hs hg hr => by obtain ⟨Bx, h1, h2, h3⟩ := hs; exact ⟨Bx, h1, ⟨cell_kept h2.1 hg (fun r e => (hr r e).2), cell_kept h2.2 hg (fun r e => (hr r e).2)⟩, h3⟩)
    ?assign ?body ?done ?stop
  case assign =>
    rintro l pre x W K ⟨hp, hB1⟩ hK
    gi_wp2
    exact hK _ _ ((KeepsOthers.alloc _ _).from _) ((Below.refl _ W).alloc hB1.size _) ⟨hp, hB1.alloc hB1.size _⟩ ⟨W.heap.size, hB1.size, ⟨by simp [go_sem], by simp [go_sem]⟩, rfl⟩
  case body =>
    rintro l pre x a' W hl ⟨r, hr⟩ ⟨hp, hB1⟩ ⟨Bx, hBx, ⟨cx, cy⟩, rfl⟩ hlt
    have kS1 := (hB1.cell (p := ⟨w1.heap.size, 0, none⟩) (by simp; omega)).trans kS
    have k61 := (hB1.cell (p := ⟨w.heap.size + 1, 0, none⟩) (by simp; omega)).trans k62
    have k71 := (hB1.cell (p := ⟨w.heap.size + 1 + 1, 0, none⟩) (by simp; omega)).trans k72
    have f61 := (hB1.frozen (p := ⟨w.heap.size + 1, 0, none⟩) (by simp; omega)).trans f62
    have f71 := (hB1.frozen (p := ⟨w.heap.size + 1 + 1, 0, none⟩) (by simp; omega)).trans f72
    have HP := Lib.hid hp
    clear hp
    obtain ⟨f, hf⟩ : ∃ f, x.1.1 = f := ⟨_, rfl⟩
    obtain ⟨t, ht⟩ : ∃ f, x.1.2 = f := ⟨_, rfl⟩
    have hx1 : f < t := by rw [← hf, ← ht]; exact x.2.1
    have hx2 : t ≤ 4096 := by rw [← ht]; exact x.2.2
    rw [hf] at cx ⊢
    rw [ht] at cy ⊢
    have HF := Lib.hid hf
    have HT := Lib.hid ht
    clear hf ht
    obtain ⟨m, hm⟩ : ∃ m, (f + S - 1) / S * S = m := ⟨_, rfl⟩
    have hX2 : bits BinOp.andNot IntKind.i64 ((f : Int) + (S : Int) - 1) ((S : Int) - 1) = (m : Int) := by
      have := andNot_mask (f + S - 1) k (by omega) (by omega)
      rw [HSd.out, hm] at this
      rw [← this]
      congr 1 <;> omega
    have hm2 : m ≤ 8192 := by
      have := Nat.div_mul_le_self (f + S - 1) S
      omega
    by_cases hfit : m + S ≤ t
    · have hd : decide ((t : Int) < (m : Int) + (S : Int)) = false := by simp; omega
      have HM := Lib.hid hm
      clear hm
      gi_wp2
      exact ⟨((KeepsOthers.setCell _ _ _).trans (KeepsOthers.setCell _ _ _)).from _,
        ⟨rfl, m, ⟨pre, x, rfl, HP.out, by unfold gAl; rw [HF.out, HT.out, HM.out]; exact hfit, by unfold gAl; rw [HF.out, HM.out]⟩, by simp [go_sem, k61], by simp [go_sem, k71]⟩,
        (((hB2.trans (hB1.mono (by omega))).setCell (p := ⟨w.heap.size + 1, 0, none⟩) (by simp) _).setCell (p := ⟨w.heap.size + 1 + 1, 0, none⟩) (by simp; omega) _)⟩
    · have hd : decide ((t : Int) < (m : Int) + (S : Int)) = true := by simp; omega
      have HM := Lib.hid hm
      clear hm
      gi_wp2
      exact ⟨KeepsFrom.refl _ _, Below.refl _ _, HP.out.snoc (by unfold gAl; rw [HF.out, HT.out, HM.out]; exact hfit), hB1⟩
  case done =>
    rintro D ys W hD hys ⟨hno, hB1⟩ hK
    have k61 := (hB1.cell (p := ⟨w.heap.size + 1, 0, none⟩) (by simp; omega)).trans k62
    have k71 := (hB1.cell (p := ⟨w.heap.size + 1 + 1, 0, none⟩) (by simp; omega)).trans k72
    have f61 := (hB1.frozen (p := ⟨w.heap.size + 1, 0, none⟩) (by simp; omega)).trans f62
    have f71 := (hB1.frozen (p := ⟨w.heap.size + 1 + 1, 0, none⟩) (by simp; omega)).trans f72
    have e0 := fitR_none hno
    rw [hys] at e0
    have HE := Lib.hid e0
    clear e0
    have HY := Lib.hid hys
    clear hys
    gi_wp2
    try rw [Exit.noGoto_ret]
    have hK' := ((KeepsOthers.setCell W ⟨w.heap.size + 1, 0, none⟩ (.int .i64 0)).trans (KeepsOthers.setCell _ ⟨w.heap.size + 1 + 1, 0, none⟩ (.int .i64 4))).same D _ hK rfl
    refine ⟨by simp, .inl ⟨_, _, rfl, run_takeDeferred hK', ?_⟩⟩
    have r6 := cell_kept (v := .int .i64 0) (W := (W.setCell ⟨w.heap.size + 1, 0, none⟩ (.int .i64 0)).setCell ⟨w.heap.size + 1 + 1, 0, none⟩ (.int .i64 4)) (a := ⟨w.heap.size + 1, 0, none⟩) (by simp [go_sem, k61]) (grownBy_putObj' _ D (.deferred none)) (fun r e => by cases e; exact ⟨_, hK', rfl⟩)
    have r7 := cell_kept (v := .int .i64 4) (W := (W.setCell ⟨w.heap.size + 1, 0, none⟩ (.int .i64 0)).setCell ⟨w.heap.size + 1 + 1, 0, none⟩ (.int .i64 4)) (a := ⟨w.heap.size + 1 + 1, 0, none⟩) (by simp [go_sem, k71]) (grownBy_putObj' _ D (.deferred none)) (fun r e => by cases e; exact ⟨_, hK', rfl⟩)
    refine ⟨.tuple #[.int .i64 0, .int .i64 4], ?_, by rw [HE.out]; rfl, ((((hB2.trans (hB1.mono (by omega))).setCell (p := ⟨w.heap.size + 1, 0, none⟩) (by simp) _).setCell (p := ⟨w.heap.size + 1 + 1, 0, none⟩) (by simp; omega) _)).trans (belowK_b (w := w) (Nat.le_refl _) _ D _ _ (by omega) hK' rfl rfl)⟩
    simp [results, Tryd.f19, go_sem, r6, r7]
  case stop =>
    rintro D c pre W hD hpre ⟨⟨rfl, v, hv, c6, c7⟩, hBW⟩ hK
    obtain ⟨r, hr, hvr⟩ := fitR_some hv hpre
    have HE := Lib.hid hr
    clear hr
    gi_wp2
    try rw [Exit.noGoto_ret]
    refine ⟨by simp, .inl ⟨_, _, rfl, run_takeDeferred hK, ?_⟩⟩
    have r6 := cell_kept c6 (grownBy_putObj' _ D (.deferred none)) (fun r e => by cases e; exact ⟨_, hK, rfl⟩)
    have r7 := cell_kept c7 (grownBy_putObj' _ D (.deferred none)) (fun r e => by cases e; exact ⟨_, hK, rfl⟩)
    refine ⟨.tuple #[.int .i64 v, .int .i64 0], ?_, by rw [HE.out, hvr]; rfl, hBW.trans (belowK_b (w := w) (Nat.le_refl _) W D _ _ (by omega) hK rfl rfl)⟩
    simp [results, Tryd.f19, go_sem, r6, r7]
end Go.Proofs.YtikdgnfcckenmaaDoor
