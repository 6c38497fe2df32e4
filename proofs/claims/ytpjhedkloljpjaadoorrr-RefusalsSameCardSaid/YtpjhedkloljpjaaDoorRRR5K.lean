/- Refusals: Same: program and reference. -/
import Derived.Test.YtpjhedkloljpjaaDoorRRR5H
import Derived.Test.YtpjhedkloljpjaaDoorRRR5PlainF
namespace Go.Proofs.YtpjhedkloljpjaaDoorRR
open Go.RowKit Go.Sort Go.Joins Go.Shelf
attribute [local go_sem] cell_grow frozen_grow size_grow
attribute [local go_sem ↓] Go.wp_at_zero Go.wp_at_succ

/-- are the first N answers the same? -/
def eqB (p q : Nat → Bool) (N : Nat) : Bool := (List.range N).all fun j => p j == q j
theorem eqB_yes {p q : Nat → Bool} {N : Nat} (h : ∀ j, j < N → p j = q j) : eqB p q N = true := by
  unfold eqB
  rw [List.all_eq_true]
  intro j hj
  rw [h j (List.mem_range.1 hj)]
  exact beq_self_eq_true _
theorem eqB_no {p q : Nat → Bool} {N j : Nat} (hj : j < N) (h : (p j != q j) = true) : eqB p q N = false := by
  unfold eqB
  rw [List.all_eq_false]
  exact ⟨j, List.mem_range.2 hj, by simpa using h⟩
theorem eqB_iff {p q : Nat → Bool} {N : Nat} : eqB p q N = true ↔ ∀ j, j < N → p j = q j := by
  unfold eqB
  rw [List.all_eq_true]
  constructor
  · intro h j hj; simpa using h j (List.mem_range.2 hj)
  · intro h j hj; rw [h j (List.mem_range.1 hj)]; exact beq_self_eq_true _
/-- a slice that reads as bools -/
def SlBl (W : World) (g N : Nat) (p : Nat → Bool) : Prop := ∀ j, j < N → W.cell? ⟨g, j, none⟩ = some (.bool (p j))
theorem SlBl.below {W W' : World} {g N : Nat} {p : Nat → Bool} (h : SlBl W g N p) (hb : Below W.heap.size W W') : SlBl W' g N p := fun j hj => cell_later hb (h j hj)
set_option maxRecDepth 100000 in
set_option maxHeartbeats 1600000 in
theorem equal_ok (g h N cg ch : Nat) (p q : Nat → Bool) (w : World) (hN : N ≤ 1000000) (hg : SlBl w g N p) (hh : SlBl w h N q) :
    Calls Tryd.prog 42 #[.slice (some ⟨g, 0, none⟩) N cg, .slice (some ⟨h, 0, none⟩) N ch] w fun e w' => e = .returned (.bool (eqB p q N)) ∧ Below w.heap.size w w' := by
  have HG := Lib.hid hg
  have HH := Lib.hid hh
  clear hg hh
  have hne : ((N : Int) != (N : Int)) = false := by simp
  go_enter Tryd.func42, Tryd.ntmps42
  go_wp2
  go_loopw [13] (fun i wr => ∃ k : Nat, i = .int .i64 k ∧ k ≤ N ∧ Hid (Below w.heap.size w wr) ∧ Hid (∀ j, j < k → p j = q j)) (fun i _ => N - (intOf i).toNat)
  case atStart => exact ⟨0, rfl, Nat.zero_le _, Lib.hid (Below.refl _ _), Lib.hid (fun j hj => by omega)⟩
  case round =>
    obtain ⟨k, rfl, hk, HB, HA⟩ := hrel
    clear hne
    by_cases hlt : k < N
    · have g1 := cell_later HB.out (HG.out k hlt)
      have g2 := cell_later HB.out (HH.out k hlt)
      have hli : (k : Int) < (N : Int) := by omega
      have hk0 : (0 : Int) ≤ (k : Int) := by omega
      obtain ⟨x, hx⟩ : ∃ x, p k = x := ⟨_, rfl⟩
      obtain ⟨y, hy⟩ : ∃ y, q k = y := ⟨_, rfl⟩
      rw [hx] at g1
      rw [hy] at g2
      have HX := Lib.hid hx
      have HY := Lib.hid hy
      clear hx hy
      cases x <;> cases y
      all_goals
        go_wp2_with fail
        go_quiet (fail)
        go_wp2
      · go_roundw
        case rel => exact ⟨k + 1, by go_num, by omega, Lib.hid (HB.out.trans ((below_draw _ _).mono HB.out.size)), Lib.hid (fun j hj => by
          by_cases ej : j = k
          · rw [ej, HX.out, HY.out]
          · exact HA.out j (by omega))⟩
        case measure => simp [intOf]; omega
      · go_ret
        exact ⟨ret_bool (eqB_no hlt (by rw [HX.out, HY.out]; rfl)).symm, HB.out.trans ((below_draw _ _).mono HB.out.size)⟩
      · go_ret
        exact ⟨ret_bool (eqB_no hlt (by rw [HX.out, HY.out]; rfl)).symm, HB.out.trans ((below_draw _ _).mono HB.out.size)⟩
      · go_roundw
        case rel => exact ⟨k + 1, by go_num, by omega, Lib.hid (HB.out.trans ((below_draw _ _).mono HB.out.size)), Lib.hid (fun j hj => by
          by_cases ej : j = k
          · rw [ej, HX.out, HY.out]
          · exact HA.out j (by omega))⟩
        case measure => simp [intOf]; omega
    · obtain rfl : k = N := by omega
      go_wp2
      go_ret
      exact ⟨ret_bool (eqB_yes HA.out).symm, HB.out⟩
/-- how many numbers Same looks at -/
def HN : Nat := 49721
/-- do two plans refuse the same calls of a kind? -/
def kdB (n : Nat) (R : Nat → Rl) (m : Nat) (Q : Nat → Rl) (k : Nat) : Bool := eqB (fun j => rfP n R (k : Int) (j : Int)) (fun j => rfP m Q (k : Int) (j : Int)) HN
def smB (n : Nat) (R : Nat → Rl) (m : Nat) (Q : Nat → Rl) : Bool := (List.range 7).all fun k => kdB n R m Q k
theorem smB_yes {n m : Nat} {R Q : Nat → Rl} (h : ∀ k, k < 7 → kdB n R m Q k = true) : smB n R m Q = true := by
  unfold smB
  rw [List.all_eq_true]
  exact fun k hk => h k (List.mem_range.1 hk)
theorem smB_no {n m : Nat} {R Q : Nat → Rl} {k : Nat} (hk : k < 7) (h : kdB n R m Q k = false) : smB n R m Q = false := by
  unfold smB
  rw [List.all_eq_false]
  exact ⟨k, List.mem_range.2 hk, by simpa using h⟩
/-- what Same answers -/
def smE (n : Nat) (R : Nat → Rl) (m : Nat) (Q : Nat → Rl) : Int := if pE n R ≠ 0 then pE n R else pE m Q
def smV (n : Nat) (R : Nat → Rl) (m : Nat) (Q : Nat → Rl) : Bool := if smE n R m Q = 0 then smB n R m Q else false
theorem sm_err1 {n m : Nat} {R Q : Nat → Rl} (h : pE n R ≠ 0) : false = smV n R m Q ∧ pE n R = smE n R m Q := by
  have e : smE n R m Q = pE n R := if_pos h
  unfold smV
  rw [e, if_neg h]; exact ⟨rfl, rfl⟩
theorem sm_err2 {n m : Nat} {R Q : Nat → Rl} (h1 : pE n R = 0) (h : pE m Q ≠ 0) : false = smV n R m Q ∧ pE m Q = smE n R m Q := by
  have e : smE n R m Q = pE m Q := if_neg (by simpa using h1)
  unfold smV
  rw [e, if_neg h]; exact ⟨rfl, rfl⟩
theorem sm_ok {n m : Nat} {R Q : Nat → Rl} (h1 : pE n R = 0) (h2 : pE m Q = 0) : smB n R m Q = smV n R m Q ∧ 0 = smE n R m Q := by
  have e : smE n R m Q = 0 := by unfold smE; rw [if_neg (by simpa using h1)]; exact h2
  unfold smV
  rw [e, if_pos rfl]; exact ⟨rfl, rfl⟩
theorem ret_be {a b : Bool} {c d : Int} (h : a = b ∧ c = d) : Ending.returned (.tuple #[.bool a, .int .i64 c]) = .returned (.tuple #[.bool b, .int .i64 d]) := by rw [h.1, h.2]
theorem marksH {w : World} {a : Option Addr} {n c : Nat} {R : Nat → Rl} (hS : SlR w a n R) (hn : n ≤ 50) (hR : ∀ i, i < n → RlOk (R i)) (q : Int) :
    Calls Tryd.prog 43 #[pV a n c, .int .i64 q, .int .i64 49720] w fun e w' => ∃ g cap, e = .returned (.slice (some ⟨g, 0, none⟩) HN cap) ∧ SlBl w' g HN (fun j => rfP n R q (j : Int)) ∧ Below w.heap.size w w' := by
  have h := marks_ok (c := c) hS hn hR q 49720 (by decide)
  have e : ((49720 : Nat) : Int) = 49720 := rfl
  have e2 : 49720 + 1 = HN := rfl
  rw [e, e2] at h
  refine h.mono ?_
  rintro e w' ⟨v, rfl, o, hb⟩
  obtain ⟨g, cap, rfl⟩ := ownsRow_form o (by decide)
  exact ⟨g, cap, rfl, own_bl o, hb⟩
section
variable {w : World} {a b : Option Addr} {n c m d : Nat} {R Q : Nat → Rl}
set_option maxRecDepth 100000 in
set_option maxHeartbeats 3200000 in
theorem Same_ok (hS : SlR w a n R) (hn : n ≤ 9223372036854775807) (hQ : SlR w b m Q) (hm : m ≤ 9223372036854775807) :
    Calls Tryd.prog 18 #[pV a n c, pV b m d] w fun e w' => e = .returned (.tuple #[.bool (smV n R m Q), .int .i64 (smE n R m Q)]) ∧ Below w.heap.size w w' := by
  have b2 : Below w.heap.size w ((w.alloc (.cells #[.slice a n c] 24)).alloc (.cells #[.slice b m d] 24)) := ((Below.refl _ w).alloc (Nat.le_refl _) _).alloc (by simp) _
  have HS := Lib.hid hS
  have HQ := Lib.hid hQ
  have HB := Lib.hid b2
  clear b2 hS hQ
  have i0 : ∀ W, (Instr.index 62 (.agg #[.slice a n c, .slice b m d]) (.int .i64 0)).run Tryd.prog W = .ok (.agg #[.slice a n c]) W := fun _ => by kernel_rfl
  have i1 : ∀ W, (Instr.index 62 (.agg #[.slice a n c, .slice b m d]) (.int .i64 1)).run Tryd.prog W = .ok (.agg #[.slice b m d]) W := fun _ => by kernel_rfl
  go_enter Tryd.func18, Tryd.ntmps18
  go_wp2
  obtain ⟨W, hW⟩ : ∃ W, (w.alloc (.cells #[.slice a n c] 24)).alloc (.cells #[.slice b m d] 24) = W := ⟨_, rfl⟩
  have k0 : W.cell? ⟨w.heap.size, 0, none⟩ = some (.slice a n c) := by rw [← hW]; simp [go_sem]
  have k1 : W.cell? ⟨w.heap.size + 1, 0, none⟩ = some (.slice b m d) := by rw [← hW]; simp [go_sem]
  rw [hW] at HB ⊢
  clear hW
  go_loopw [14] (fun i wr => ∃ k : Nat, i = .int .i64 k ∧ k ≤ 2 ∧ Hid (1 ≤ k → pE n R = 0) ∧ Hid (2 ≤ k → pE m Q = 0) ∧ Hid (Below W.heap.size W wr)) (fun i _ => 2 - (intOf i).toNat)
  case atStart => exact ⟨0, rfl, by omega, Lib.hid (fun h => by omega), Lib.hid (fun h => by omega), Lib.hid (Below.refl _ _)⟩
  case round =>
    obtain ⟨k, rfl, hk, H1, H2, HBr⟩ := hrel
    match k, hk with
    | 0, _ =>
      clear k0 k1
      have HC := Lib.hid (rfchk_ok (c := c) (HS.out.below ((HB.out.trans (HBr.out.mono HB.out.size)).trans (below_box0 wr (.cells #[.slice a n c] 24) |>.mono (HB.out.trans (HBr.out.mono HB.out.size)).size))) hn)
      obtain ⟨e, he⟩ : ∃ e, pE n R = e := ⟨_, rfl⟩
      rw [he] at HC
      have HE := Lib.hid he
      clear he
      by_cases h0 : e = 0
      · have d0 : (e != 0) = false := by rw [h0]; rfl
        have H0 := Lib.hid h0
        clear h0
        go_wp2_with fail
        refine HC.out.mono ?_
        rintro e' w1 ⟨rfl, b1⟩
        have HB1 := Lib.hid (HBr.out.trans (((below_box0 _ _).trans (b1.mono (by simp))).mono HBr.out.size))
        clear b1
        go_wp2
        go_roundw
        case rel => exact ⟨1, by go_num, by omega, Lib.hid (fun _ => by rw [HE.out]; exact H0.out), Lib.hid (fun h => by omega), HB1⟩
        case measure => simp [intOf]
      · have d0 : (e != 0) = true := bne0_true h0
        have H0 := Lib.hid h0
        clear h0
        go_wp2_with fail
        refine HC.out.mono ?_
        rintro e' w1 ⟨rfl, b1⟩
        have HB1 := Lib.hid (HBr.out.trans (((below_box0 _ _).trans (b1.mono (by simp))).mono HBr.out.size))
        clear b1
        go_wp2
        go_ret2
        have := sm_err1 (m := m) (Q := Q) (by rw [HE.out]; exact H0.out)
        rw [HE.out] at this
        exact ⟨ret_be this, HB.out.trans (HB1.out.mono HB.out.size)⟩
    | 1, _ =>
      clear k0 k1
      have HC := Lib.hid (rfchk_ok (c := d) (HQ.out.below ((HB.out.trans (HBr.out.mono HB.out.size)).trans (below_box0 wr (.cells #[.slice b m d] 24) |>.mono (HB.out.trans (HBr.out.mono HB.out.size)).size))) hm)
      obtain ⟨e, he⟩ : ∃ e, pE m Q = e := ⟨_, rfl⟩
      rw [he] at HC
      have HE := Lib.hid he
      clear he
      by_cases h0 : e = 0
      · have d0 : (e != 0) = false := by rw [h0]; rfl
        have H0 := Lib.hid h0
        clear h0
        go_wp2_with fail
        refine HC.out.mono ?_
        rintro e' w1 ⟨rfl, b1⟩
        have HB1 := Lib.hid (HBr.out.trans (((below_box0 _ _).trans (b1.mono (by simp))).mono HBr.out.size))
        clear b1
        go_wp2
        go_roundw
        case rel => exact ⟨2, by go_num, by omega, Lib.hid (fun _ => H1.out (by omega)), Lib.hid (fun _ => by rw [HE.out]; exact H0.out), HB1⟩
        case measure => simp [intOf]
      · have d0 : (e != 0) = true := bne0_true h0
        have H0 := Lib.hid h0
        clear h0
        go_wp2_with fail
        refine HC.out.mono ?_
        rintro e' w1 ⟨rfl, b1⟩
        have HB1 := Lib.hid (HBr.out.trans (((below_box0 _ _).trans (b1.mono (by simp))).mono HBr.out.size))
        clear b1
        go_wp2
        go_ret2
        have := sm_err2 (R := R) (m := m) (Q := Q) (H1.out (by omega)) (by rw [HE.out]; exact H0.out)
        rw [HE.out] at this
        exact ⟨ret_be this, HB.out.trans (HB1.out.mono HB.out.size)⟩
    | 2, _ =>
      have HR := Lib.hid (pE_zero (H1.out (by omega))).2
      have hn50 := (pE_zero (H1.out (by omega))).1
      have HRQ := Lib.hid (pE_zero (H2.out (by omega))).2
      have hm50 := (pE_zero (H2.out (by omega))).1
      have HSM := Lib.hid (sm_ok (H1.out (by omega)) (H2.out (by omega)))
      clear i0 i1
      have e0 := cell_later HBr.out k0
      have e1 := cell_later HBr.out k1
      clear k0 k1
      have HBw := Lib.hid (HB.out.trans (HBr.out.mono HB.out.size))
      rw [show ((2 : Nat) : Int) = 2 from rfl]
      go_wp2
      obtain ⟨V, rfl⟩ : ∃ V : World, V = wr := ⟨_, rfl⟩
      go_loopw [26] (fun i wr => ∃ k : Nat, i = .int .i64 k ∧ k ≤ 7 ∧ Hid (∀ j, j < k → kdB n R m Q j = true) ∧ Hid (Below V.heap.size V wr)) (fun i _ => 7 - (intOf i).toNat)
      case atStart => exact ⟨0, rfl, by omega, Lib.hid (fun j hj => by omega), Lib.hid (Below.refl _ _)⟩
      case round =>
        obtain ⟨k, rfl, hk, HA, HBr2⟩ := hrel
        have f0 := cell_later HBr2.out e0
        have f1 := cell_later HBr2.out e1
        clear e0 e1
        by_cases hlt : k < 7
        · have dl : decide (k < 7) = true := by simpa using hlt
          have dl2 : decide ((k : Int) < 7) = true := by simp; omega
          have HBz := Lib.hid (HBw.out.trans (HBr2.out.mono HBw.out.size))
          have HK2 : Hid (∀ w', Below wr.heap.size wr w' → w'.cell? ⟨w.heap.size, 0, none⟩ = some (.slice a n c) ∧ w'.cell? ⟨w.heap.size + 1, 0, none⟩ = some (.slice b m d)) := Lib.hid (fun w' h => ⟨cell_later h f0, cell_later h f1⟩)
          have hHN : HN ≤ 1000000 := by decide
          have hSr := Lib.hid (HS.out.below HBz.out)
          have hQr := Lib.hid (HQ.out.below HBz.out)
          cases hkd : kdB n R m Q k
          all_goals
            have HKD : Hid (eqB (fun j => rfP n R (k : Int) (j : Int)) (fun j => rfP m Q (k : Int) (j : Int)) HN = _) := Lib.hid hkd
            clear hkd
            go_wp2_with fail
            go_region_held3 (fun w' => Below wr.heap.size wr w' ∧ w'.cell? ⟨w.heap.size, 0, none⟩ = some (.slice a n c) ∧ w'.cell? ⟨w.heap.size + 1, 0, none⟩ = some (.slice b m d))
              ((refine keepN HK2 ?_; first | exact (Below.refl _ _).drew | exact And.left (by assumption) | exact bel_call (by assumption) (by assumption)))
              (first
                | (go_at_call 43; (with_reducible refine (marksH (a := a) (hSr.out.below (And.left (by assumption))) hn50 HR.out (k : Int)).mono ?_); rintro e w2 ⟨g2, p2, rfl, o2, b2⟩; have s2 := Lib.hid o2; clear o2)
                | (go_at_call 43; (with_reducible refine (marksH (a := b) (hQr.out.below (And.left (by assumption))) hm50 HRQ.out (k : Int)).mono ?_); rintro e w3 ⟨g3, p3, rfl, o3, b3⟩; have s3 := Lib.hid o3; clear o3)
                | (go_at_call 42; (refine (equal_ok g2 g3 HN p2 p3 (fun j => rfP n R (k : Int) (j : Int)) (fun j => rfP m Q (k : Int) (j : Int)) _ hHN (by first | exact s2.out | exact SlBl.below s2.out b3) (by first | exact s3.out | exact SlBl.below s3.out b2)).mono ?_); rw [HKD.out]; rintro e w4 ⟨rfl, b4⟩; have g4 := Lib.hid (bel_call (by assumption) b4)))
          all_goals
            first
              | (go_wp2
                 go_ret2
                 exact ⟨ret_be ⟨(smB_no hlt HKD.out).symm.trans HSM.out.1, HSM.out.2⟩, HBz.out.trans (g4.out.mono HBz.out.size)⟩)
              | (go_wp2
                 go_roundw
                 · exact ⟨k + 1, by go_num, by omega, Lib.hid (fun j hj => by
                     by_cases ej : j = k
                     · rw [ej]; exact HKD.out
                     · exact HA.out j (by omega)), Lib.hid (HBr2.out.trans (g4.out.mono HBr2.out.size))⟩
                 · simp [intOf]; omega)
        · obtain rfl : k = 7 := by omega
          go_wp2
          go_ret2
          exact ⟨ret_be ⟨(smB_yes HA.out).symm.trans HSM.out.1, HSM.out.2⟩, HBw.out.trans (HBr2.out.mono HBw.out.size)⟩
theorem kdB_iff : ∀ {k : Nat}, kdB n R m Q k = true ↔ ∀ j, j < HN → rfP n R (k : Int) (j : Int) = rfP m Q (k : Int) (j : Int) := eqB_iff
set_option maxRecDepth 100000 in
set_option maxHeartbeats 3200000 in
theorem rsame_ok (hS : SlR w a n R) (hn : n ≤ 50) (hR : ∀ i, i < n → RlOk (R i)) (hQ : SlR w b m Q) (hm : m ≤ 50) (hRQ : ∀ i, i < m → RlOk (Q i)) :
    Calls Tryd.prog 44 #[pV a n c, pV b m d] w fun e w' => e = .returned (.bool (smB n R m Q)) ∧ Below w.heap.size w w' := by
  have b2 : Below w.heap.size w ((w.alloc (.cells #[.slice a n c] 24)).alloc (.cells #[.slice b m d] 24)) := ((Below.refl _ w).alloc (Nat.le_refl _) _).alloc (by simp) _
  have HS := Lib.hid hS
  have HQ := Lib.hid hQ
  have HR := Lib.hid hR
  have HRQ := Lib.hid hRQ
  have HB := Lib.hid b2
  clear b2 hS hQ hR hRQ
  go_enter Tryd.func44, Tryd.ntmps44
  go_wp2
  obtain ⟨W, hW⟩ : ∃ W, (w.alloc (.cells #[.slice a n c] 24)).alloc (.cells #[.slice b m d] 24) = W := ⟨_, rfl⟩
  have k0 : W.cell? ⟨w.heap.size, 0, none⟩ = some (.slice a n c) := by rw [← hW]; simp [go_sem]
  have k1 : W.cell? ⟨w.heap.size + 1, 0, none⟩ = some (.slice b m d) := by rw [← hW]; simp [go_sem]
  rw [hW] at HB ⊢
  clear hW
  go_loopw [5] (fun i wr => ∃ k : Nat, i = .int .i64 k ∧ k ≤ 7 ∧ Hid (∀ j, j < k → kdB n R m Q j = true) ∧ Hid (Below W.heap.size W wr)) (fun i _ => 7 - (intOf i).toNat)
  case atStart => exact ⟨0, rfl, by omega, Lib.hid (fun j hj => by omega), Lib.hid (Below.refl _ _)⟩
  case round =>
    obtain ⟨k, rfl, hk, HA, HBr⟩ := hrel
    have e0 := cell_later HBr.out k0
    have e1 := cell_later HBr.out k1
    clear k0 k1
    have HBw := Lib.hid (HB.out.trans (HBr.out.mono HB.out.size))
    by_cases hlt : k < 7
    · have dl : decide (k < 7) = true := by simpa using hlt
      have dl2 : decide ((k : Int) < 7) = true := by simp; omega
      go_wp2
      obtain ⟨V, rfl⟩ : ∃ V : World, V = wr := ⟨_, rfl⟩
      go_loopw [6] (fun i wr => ∃ x : Nat, i = .int .i64 x ∧ 1 ≤ x ∧ x ≤ 49721 ∧ Hid (∀ j, j < x → rfP n R (k : Int) (j : Int) = rfP m Q (k : Int) (j : Int)) ∧ Hid (Below V.heap.size V wr)) (fun i _ => 49721 - (intOf i).toNat)
      case atStart => exact ⟨1, rfl, by omega, by omega, Lib.hid (fun j hj => by rw [rfP_zero HR.out (by omega), rfP_zero HRQ.out (by omega)]), Lib.hid (Below.refl _ _)⟩
      case round =>
        obtain ⟨x, rfl, hx1, hx2, HX, HBx⟩ := hrel
        have f0 := cell_later HBx.out e0
        have f1 := cell_later HBx.out e1
        clear e0 e1
        have HBz := Lib.hid (HBw.out.trans (HBx.out.mono HBw.out.size))
        by_cases hxl : x ≤ 49720
        · have dm : decide ((x : Int) ≤ 49720) = true := by simp; omega
          have dm2 : decide (x ≤ 49720) = true := by simpa using hxl
          have HK2 : Hid (∀ w', Below wr.heap.size wr w' → w'.cell? ⟨w.heap.size, 0, none⟩ = some (.slice a n c) ∧ w'.cell? ⟨w.heap.size + 1, 0, none⟩ = some (.slice b m d)) := Lib.hid (fun w' h => ⟨cell_later h f0, cell_later h f1⟩)
          have hSr := Lib.hid (HS.out.below HBz.out)
          have hQr := Lib.hid (HQ.out.below HBz.out)
          obtain ⟨p, hp⟩ : ∃ p, rfP n R (k : Int) (x : Int) = p := ⟨_, rfl⟩
          obtain ⟨q, hq⟩ : ∃ q, rfP m Q (k : Int) (x : Int) = q := ⟨_, rfl⟩
          have HP := Lib.hid hp
          have HQ2 := Lib.hid hq
          clear hp hq
          cases p <;> cases q
          all_goals
            go_wp2_with fail
            go_region_held3 (fun w' => Below wr.heap.size wr w' ∧ w'.cell? ⟨w.heap.size, 0, none⟩ = some (.slice a n c) ∧ w'.cell? ⟨w.heap.size + 1, 0, none⟩ = some (.slice b m d))
              ((refine keepN HK2 ?_; first | exact (Below.refl _ _).drew | exact And.left (by assumption) | exact bel_call (by assumption) (by assumption)))
              (first
                | (go_at_call 38; (with_reducible refine (rrefused_ok (a := a) (hSr.out.below (And.left (by assumption))) (by omega) HR.out (k : Int) (x : Int) (by omega) (by omega)).mono ?_); rw [HP.out]; rintro e w2 ⟨rfl, b2⟩; have g2 := Lib.hid (bel_call (by assumption) b2))
                | (go_at_call 38; (with_reducible refine (rrefused_ok (a := b) (hQr.out.below (And.left (by assumption))) (by omega) HRQ.out (k : Int) (x : Int) (by omega) (by omega)).mono ?_); rw [HQ2.out]; rintro e w3 ⟨rfl, b3⟩; have g3 := Lib.hid (bel_call (by assumption) b3)))
          all_goals
            first
              | (go_wp2
                 go_ret
                 refine ⟨ret_bool (smB_no hlt ?_).symm, HBz.out.trans (Below.mono ?_ HBz.out.size)⟩
                 · rw [Bool.eq_false_iff]
                   intro h
                   have := kdB_iff.1 h x (by unfold HN; omega)
                   rw [HP.out, HQ2.out] at this
                   cases this
                 · first | exact g3.out | exact g2.out)
              | (go_wp2
                 go_roundw
                 · exact ⟨x + 1, by go_num, by omega, by omega, Lib.hid (fun j hj => by
                     by_cases ej : j = x
                     · rw [ej, HP.out, HQ2.out]
                     · exact HX.out j (by omega)), Lib.hid (HBx.out.trans (Below.mono (by first | exact g3.out | exact g2.out) HBx.out.size))⟩
                 · simp [intOf]; omega)
        · have dm : decide ((x : Int) ≤ 49720) = false := by simp; omega
          have dm2 : decide (x ≤ 49720) = false := by simp; omega
          obtain rfl : x = 49721 := by omega
          go_wp2
          go_roundw
          case rel => exact ⟨k + 1, by go_num, by omega, Lib.hid (fun j hj => by
            by_cases ej : j = k
            · rw [ej]; exact kdB_iff.2 HX.out
            · exact HA.out j (by omega)), Lib.hid (HBr.out.trans (HBx.out.mono HBr.out.size))⟩
          case measure => simp [intOf]; omega
    · obtain rfl : k = 7 := by omega
      go_wp2
      go_ret
      exact ⟨ret_bool (smB_yes HA.out).symm, HBw.out⟩
end
end Go.Proofs.YtpjhedkloljpjaaDoorRR
