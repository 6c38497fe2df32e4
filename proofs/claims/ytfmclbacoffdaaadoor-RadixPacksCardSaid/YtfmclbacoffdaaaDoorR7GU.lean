/- The radix map: Unpack, of the program and of the reference; the reference's Pack. -/
import Derived.Test.YtfmclbacoffdaaaDoorR7G
namespace Go.Proofs.YtfmclbacoffdaaaDoor
open Go.RowKit Go.Sort Go.Joins
attribute [local go_sem] cell_grow frozen_grow size_grow
def unV (x : Int) : Value := if unE x = 0 then dsV (unO x) (unS x) (unT x) (unH x) else dsV 0 0 0 false
theorem un_ways (x : Int) (h0 : 0 ≤ x) :
    (Hid (unE x = 6) ∧ (x % 2 == 0) = true) ∨
    (Hid (unE x = 6) ∧ (x % 2 == 0) = false ∧ (x / 288230376151711744 != 0) = true) ∨
    (Hid (unE x = 6) ∧ (x % 2 == 0) = false ∧ (x / 288230376151711744 != 0) = false ∧ decide (1000000000000 < unT x) = true) ∨
    (Hid (unE x = 0) ∧ (x % 2 == 0) = false ∧ (x / 288230376151711744 != 0) = false ∧ decide (1000000000000 < unT x) = false) := by
  unfold unE
  by_cases h1 : x % 2 = 0
  · exact .inl ⟨Lib.hid (if_neg (by omega)), by simpa using h1⟩
  · have e1 : (x % 2 == 0) = false := by simpa using h1
    by_cases h2 : x / 288230376151711744 = 0
    · have e2 : (x / 288230376151711744 != 0) = false := by rw [h2]; rfl
      by_cases h3 : 1000000000000 < unT x
      · exact .inr (.inr (.inl ⟨Lib.hid (if_neg (by omega)), e1, e2, decide_eq_true h3⟩))
      · exact .inr (.inr (.inr ⟨Lib.hid (if_pos (by omega)), e1, e2, decide_eq_false h3⟩))
    · exact .inr (.inl ⟨Lib.hid (if_neg (by omega)), e1, by simpa using h2⟩)
theorem un_rng {x : Int} (h0 : 0 ≤ x) : 0 ≤ unO x ∧ unO x ≤ 4095 ∧ 0 ≤ unS x ∧ unS x ≤ 15 ∧ 0 ≤ unT x ∧ unT x ≤ 1099511627775 := by
  unfold unO unS unT; omega
theorem unH_eq (x : Int) : (x / 144115188075855872 % 2 == 1) = unH x := by unfold unH; rfl
section
variable {w : World}
set_option maxRecDepth 100000 in
set_option maxHeartbeats 1600000 in
theorem unpack_ok (x : Int) (h0 : 0 ≤ x) (hx : x < 18446744073709551616) (w : World) :
    Calls Tryd.prog 15 #[.int .u64 x] w fun e w' => e = .returned (.tuple #[unV x, .int .i64 (unE x)]) ∧ Below w.heap.size w w' := by
  obtain ⟨b1, b2, b3, b4, b5⟩ := un_bits h0 hx
  obtain ⟨r1, r2, r3, r4, r5, r6⟩ := un_rng h0
  have hH := unH_eq x
  have w1 : IntKind.i64.wrap (unO x) = unO x := IntWalk.i64_in _ (by omega)
  have w2 : IntKind.i64.wrap (unS x) = unS x := IntWalk.i64_in _ (by omega)
  have w3 : IntKind.i64.wrap (unT x) = unT x := IntWalk.i64_in _ (by omega)
  have HB : Hid (∀ o' s' t' g' o s t g, Below w.heap.size w ((w.alloc (.cells #[.int .i64 o', .int .i64 s', .int .i64 t', .bool g'] 23)).alloc (.cells #[.int .i64 o, .int .i64 s, .int .i64 t, .bool g] 23))) := Lib.hid (fun o' s' t' g' o s t g => ((Below.refl _ w).alloc (Nat.le_refl _) _).alloc (by simp) _)
  have hw := un_ways x h0
  obtain ⟨o, ho⟩ : ∃ z, unO x = z := ⟨_, rfl⟩
  obtain ⟨s, hs⟩ : ∃ z, unS x = z := ⟨_, rfl⟩
  obtain ⟨t, ht⟩ : ∃ z, unT x = z := ⟨_, rfl⟩
  obtain ⟨g, hg⟩ : ∃ z, unH x = z := ⟨_, rfl⟩
  have HV : Hid (unV x = if unE x = 0 then dsV o s t g else dsV 0 0 0 false) := Lib.hid (by unfold unV; rw [ho, hs, ht, hg])
  rw [ho] at b1 w1
  rw [hs] at b2 w2
  rw [ht] at b3 w3 hw
  rw [hg] at hH
  clear r1 r2 r3 r4 r5 r6 ho hs ht hg
  rcases hw with ⟨HE, d1⟩ | ⟨HE, d1, d2⟩ | ⟨HE, d1, d2, d3⟩ | ⟨HE, d1, d2, d3⟩
  all_goals
    go_enter Tryd.func15, Tryd.ntmps15
    go_wp2
    first
      | exact bodyPost_ret (v := .tuple #[dsV 0 0 0 false, .int .i64 6]) (by simp [results, Tryd.results15, go_sem]) rfl ⟨by rw [HV.out, HE.out]; rfl, HB.out _ _ _ _ _ _ _ _⟩
      | exact bodyPost_ret (v := .tuple #[dsV o s t g, .int .i64 0]) (by simp [results, Tryd.results15, go_sem]) rfl ⟨by rw [HV.out, HE.out]; rfl, HB.out _ _ _ _ _ _ _ _⟩
end
theorem btw_ok (x a b : Int) (w : World) : Calls Tryd.prog 40 #[.int .i64 x, .int .i64 a, .int .i64 b] w fun e w' => e = .returned (.bool (decide (a ≤ x) && decide (x ≤ b))) ∧ w = w' := by
  cases h1 : decide (a ≤ x)
  · go_enter Tryd.func40, Tryd.ntmps40
    go_wp2
    go_ret
    exact ⟨rfl, rfl⟩
  · go_enter Tryd.func40, Tryd.ntmps40
    go_wp2
    go_ret
    exact ⟨rfl, rfl⟩
theorem rpk_ways (o s t : Int) :
    (Hid (pkE o s t = 2) ∧ (decide (0 ≤ o) && decide (o ≤ 4095)) = false) ∨
    (Hid (pkE o s t = 2) ∧ (decide (0 ≤ o) && decide (o ≤ 4095)) = true ∧ (decide (0 ≤ s) && decide (s ≤ 15)) = false) ∨
    (Hid (pkE o s t = 2) ∧ (decide (0 ≤ o) && decide (o ≤ 4095)) = true ∧ (decide (0 ≤ s) && decide (s ≤ 15)) = true ∧ decide (t < 0) = true) ∨
    (Hid (pkE o s t = 2) ∧ (decide (0 ≤ o) && decide (o ≤ 4095)) = true ∧ (decide (0 ≤ s) && decide (s ≤ 15)) = true ∧ decide (t < 0) = false ∧ decide (1000000000000 < t) = true) ∨
    (Hid (pkE o s t = 0) ∧ (decide (0 ≤ o) && decide (o ≤ 4095)) = true ∧ (decide (0 ≤ s) && decide (s ≤ 15)) = true ∧ decide (t < 0) = false ∧ decide (1000000000000 < t) = false) := by
  have no : ∀ a b c : Int, ¬ (a ≤ b ∧ b ≤ c) → (decide (a ≤ b) && decide (b ≤ c)) = false := fun a b c h => by
    by_cases h1 : a ≤ b
    · rw [decide_eq_false (fun h2 => h ⟨h1, h2⟩), Bool.and_false]
    · rw [decide_eq_false h1, Bool.false_and]
  have yes : ∀ a b c : Int, (a ≤ b ∧ b ≤ c) → (decide (a ≤ b) && decide (b ≤ c)) = true := fun a b c h => by
    rw [decide_eq_true h.1, decide_eq_true h.2]; rfl
  by_cases h1 : 0 ≤ o ∧ o ≤ 4095
  · by_cases h2 : 0 ≤ s ∧ s ≤ 15
    · by_cases h3 : t < 0
      · exact .inr (.inr (.inl ⟨Lib.hid (if_pos (by omega)), yes _ _ _ h1, yes _ _ _ h2, decide_eq_true h3⟩))
      · by_cases h4 : 1000000000000 < t
        · exact .inr (.inr (.inr (.inl ⟨Lib.hid (if_pos (by omega)), yes _ _ _ h1, yes _ _ _ h2, decide_eq_false h3, decide_eq_true h4⟩)))
        · exact .inr (.inr (.inr (.inr ⟨Lib.hid (if_neg (by omega)), yes _ _ _ h1, yes _ _ _ h2, decide_eq_false h3, decide_eq_false h4⟩)))
    · exact .inr (.inl ⟨Lib.hid (if_pos (by omega)), yes _ _ _ h1, no _ _ _ h2⟩)
  · exact .inl ⟨Lib.hid (if_pos (by omega)), no _ _ _ h1⟩
set_option maxRecDepth 100000 in
set_option maxHeartbeats 1600000 in
theorem rpack_ok (o s t : Int) (g : Bool) (w : World) :
    Calls Tryd.prog 14 #[dsV o s t g] w fun e w' => e = .returned (.tuple #[.int .u64 (pkV o s t g), .int .i64 (pkE o s t)]) ∧ Below w.heap.size w w' := by
  have HB := Lib.hid (below_box0 w (.cells #[.int .i64 o, .int .i64 s, .int .i64 t, .bool g] 23))
  have HO := Lib.hid (btw_ok o 0 4095)
  have HS := Lib.hid (btw_ok s 0 15)
  rcases rpk_ways o s t with ⟨HE, d1⟩ | ⟨HE, d1, d2⟩ | ⟨HE, d1, d2, d3⟩ | ⟨HE, d1, d2, d3, d4⟩ | ⟨HE, d1, d2, d3, d4⟩
  case' inr.inr.inr.inr =>
    obtain ⟨h0, h1, h2, h3, h4, h5⟩ := pkE_zero HE.out
    have w1 : IntKind.u64.wrap o = o := IntWalk.u64_in _ (by omega)
    have w2 : IntKind.u64.wrap s = s := IntWalk.u64_in _ (by omega)
    have w3 : IntKind.u64.wrap t = t := IntWalk.u64_in _ (by omega)
    have w4 : IntKind.u64.wrap (2 * o) = 2 * o := IntWalk.u64_in _ (by omega)
    have w5 : IntKind.u64.wrap (8192 * s) = 8192 * s := IntWalk.u64_in _ (by omega)
    have w6 : IntKind.u64.wrap (131072 * t) = 131072 * t := IntWalk.u64_in _ (by omega)
    have w7 : IntKind.u64.wrap (1 + 2 * o) = 1 + 2 * o := IntWalk.u64_in _ (by omega)
    have w8 : IntKind.u64.wrap (1 + 2 * o + 8192 * s) = 1 + 2 * o + 8192 * s := IntWalk.u64_in _ (by omega)
    have w9 : IntKind.u64.wrap (1 + 2 * o + 8192 * s + 131072 * t) = 1 + 2 * o + 8192 * s + 131072 * t := IntWalk.u64_in _ (by omega)
    have w10 : IntKind.u64.wrap (1 + 2 * o + 8192 * s + 131072 * t + 144115188075855872) = 1 + 2 * o + 8192 * s + 131072 * t + 144115188075855872 := IntWalk.u64_in _ (by omega)
    have HW : Hid (∀ b, pkW o s t b = 1 + 2 * o + 8192 * s + 131072 * t + (if b = true then 144115188075855872 else 0)) := Lib.hid (fun b => rfl)
    clear h0 h1 h2 h3 h4 h5
    cases g
  all_goals
    (try rw [d1] at HO)
    (try rw [d2] at HS)
    go_enter Tryd.func14, Tryd.ntmps14
    go_wp2_with fail
    refine (HO.out _).mono ?_
    rintro e w1 ⟨rfl, rfl⟩
    first
      | (go_wp2_with fail
         refine (HS.out _).mono ?_
         rintro e w1 ⟨rfl, rfl⟩
         go_wp2)
      | go_wp2
    go_ret2
    first
      | exact ⟨by rw [pkV_bad HE.out, HE.out]; rfl, HB.out⟩
      | exact ⟨by rw [pkV_ok HE.out, HE.out, HW.out, if_neg (by decide), Int.add_zero]; rfl, HB.out⟩
      | exact ⟨by rw [pkV_ok HE.out, HE.out, HW.out, if_pos rfl]; rfl, HB.out⟩
set_option maxRecDepth 100000 in
set_option maxHeartbeats 1600000 in
theorem runpack_ok (x : Int) (h0 : 0 ≤ x) (hx : x < 18446744073709551616) (w : World) :
    Calls Tryd.prog 16 #[.int .u64 x] w fun e w' => e = .returned (.tuple #[unV x, .int .i64 (unE x)]) ∧ Below w.heap.size w w' := by
  obtain ⟨r1, r2, r3, r4, r5, r6⟩ := un_rng h0
  have hH := unH_eq x
  have w1 : IntKind.i64.wrap (unO x) = unO x := IntWalk.i64_in _ (by omega)
  have w2 : IntKind.i64.wrap (unS x) = unS x := IntWalk.i64_in _ (by omega)
  have w3 : IntKind.i64.wrap (unT x) = unT x := IntWalk.i64_in _ (by omega)
  have e1 : x / 2 % 4096 = unO x := rfl
  have e2 : x / 8192 % 16 = unS x := rfl
  have e3 : x / 131072 % 1099511627776 = unT x := rfl
  have HR := Lib.hid (rpack_ok (unO x) (unS x) (unT x) (unH x))
  have hpu := pk_un h0
  have hway : (Hid (unE x = 6) ∧ (pkE (unO x) (unS x) (unT x) != 0) = true) ∨ (Hid (unE x = 6) ∧ (pkE (unO x) (unS x) (unT x) != 0) = false ∧ (pkV (unO x) (unS x) (unT x) (unH x) != x) = true) ∨ (Hid (unE x = 0) ∧ (pkE (unO x) (unS x) (unT x) != 0) = false ∧ (pkV (unO x) (unS x) (unT x) (unH x) != x) = false) := by
    have hE : unE x = 0 ∨ unE x = 6 := by unfold unE; split <;> simp
    by_cases c1 : pkE (unO x) (unS x) (unT x) = 0
    · have d1 : (pkE (unO x) (unS x) (unT x) != 0) = false := by rw [c1]; rfl
      by_cases c2 : pkW (unO x) (unS x) (unT x) (unH x) = x
      · exact .inr (.inr ⟨Lib.hid (hpu.2 ⟨c1, c2⟩), d1, by rw [pkV_ok c1, c2]; simp⟩)
      · exact .inr (.inl ⟨Lib.hid (hE.resolve_left fun h => c2 (hpu.1 h).2), d1, by rw [pkV_ok c1]; simpa using c2⟩)
    · exact .inl ⟨Lib.hid (hE.resolve_left fun h => c1 (hpu.1 h).1), by simpa using c1⟩
  have HB : Hid (∀ o' s' t' g' o s t g, Below w.heap.size w ((w.alloc (.cells #[.int .i64 o', .int .i64 s', .int .i64 t', .bool g'] 23)).alloc (.cells #[.int .i64 o, .int .i64 s, .int .i64 t, .bool g] 23))) := Lib.hid (fun o' s' t' g' o s t g => ((Below.refl _ w).alloc (Nat.le_refl _) _).alloc (by simp) _)
  obtain ⟨o, ho⟩ : ∃ z, unO x = z := ⟨_, rfl⟩
  obtain ⟨s, hs⟩ : ∃ z, unS x = z := ⟨_, rfl⟩
  obtain ⟨t, ht⟩ : ∃ z, unT x = z := ⟨_, rfl⟩
  obtain ⟨g, hg⟩ : ∃ z, unH x = z := ⟨_, rfl⟩
  have HV : Hid (unV x = if unE x = 0 then dsV o s t g else dsV 0 0 0 false) := Lib.hid (by unfold unV; rw [ho, hs, ht, hg])
  rw [ho] at w1 e1
  rw [hs] at w2 e2
  rw [ht] at w3 e3
  rw [hg] at hH
  rw [ho, hs, ht, hg] at HR hway
  obtain ⟨pe, hpe⟩ : ∃ z, pkE o s t = z := ⟨_, rfl⟩
  obtain ⟨pv, hpv⟩ : ∃ z, pkV o s t g = z := ⟨_, rfl⟩
  rw [hpe, hpv] at HR
  rw [hpe, hpv] at hway
  clear r1 r2 r3 r4 r5 r6 ho hs ht hg hpu hpe hpv
  go_enter Tryd.func16, Tryd.ntmps16
  go_wp2_with fail
  obtain ⟨w0, hw0⟩ : ∃ W, ((w.alloc (.cells #[.int .i64 0, .int .i64 0, .int .i64 0, .bool false] 23)).alloc (.cells #[.int .i64 o, .int .i64 s, .int .i64 t, .bool g] 23)) = W := ⟨_, rfl⟩
  have hb0 : w0.heap[w.heap.size]? = some (.cells #[.int .i64 0, .int .i64 0, .int .i64 0, .bool false] 23 (0, 0)) := by
    rw [← hw0]
    exact (Below.heap_alloc _ _ _ (by simp)).trans (heap_alloc_new w _)
  have hb1 : w0.heap[w.heap.size + 1]? = some (.cells #[.int .i64 o, .int .i64 s, .int .i64 t, .bool g] 23 (0, 0)) := by
    rw [← hw0]
    have := heap_alloc_new (w.alloc (.cells #[.int .i64 0, .int .i64 0, .int .i64 0, .bool false] 23)) (.cells #[.int .i64 o, .int .i64 s, .int .i64 t, .bool g] 23)
    rwa [World.size_alloc] at this
  have HW0 : Hid (Below w.heap.size w w0) := Lib.hid (by rw [← hw0]; exact HB.out _ _ _ _ _ _ _ _)
  rw [hw0]
  clear hw0 HB
  refine (HR.out w0).mono ?_
  clear HR
  rintro e v1 ⟨rfl, b1⟩
  have hc0 := (b1.block _ (blk_lt hb0)).trans hb0
  have hc1 := (b1.block _ (blk_lt hb1)).trans hb1
  have HV1 := Lib.hid (below_tr HW0.out b1)
  have x0 : v1.cell? ⟨w.heap.size + 1, 0, none⟩ = some (.int .i64 o) := by rw [cell_of_block hc1]; rfl
  have x1 : v1.cell? ⟨w.heap.size + 1, 1, none⟩ = some (.int .i64 s) := by rw [cell_of_block hc1]; rfl
  have x2 : v1.cell? ⟨w.heap.size + 1, 2, none⟩ = some (.int .i64 t) := by rw [cell_of_block hc1]; rfl
  have x3 : v1.cell? ⟨w.heap.size + 1, 3, none⟩ = some (.bool g) := by rw [cell_of_block hc1]; rfl
  have y0 : v1.cell? ⟨w.heap.size, 0, none⟩ = some (.int .i64 0) := by rw [cell_of_block hc0]; rfl
  have y1 : v1.cell? ⟨w.heap.size, 1, none⟩ = some (.int .i64 0) := by rw [cell_of_block hc0]; rfl
  have y2 : v1.cell? ⟨w.heap.size, 2, none⟩ = some (.int .i64 0) := by rw [cell_of_block hc0]; rfl
  have y3 : v1.cell? ⟨w.heap.size, 3, none⟩ = some (.bool false) := by rw [cell_of_block hc0]; rfl
  have yf : ∀ j, v1.frozen? ⟨w.heap.size, j, none⟩ = false := fun j => unfrozen_of_block hc0 j
  clear hb0 hb1 hc0 hc1 b1 HW0
  have HS4 : Hid (∀ a b c d, Below w.heap.size w ((((v1.setCell ⟨w.heap.size, 0, none⟩ a).setCell ⟨w.heap.size, 1, none⟩ b).setCell ⟨w.heap.size, 2, none⟩ c).setCell ⟨w.heap.size, 3, none⟩ d)) := Lib.hid (fun a b c d => (((HV1.out.setCell (p := ⟨w.heap.size, 0, none⟩) (Nat.le_refl _) a).setCell (p := ⟨w.heap.size, 1, none⟩) (Nat.le_refl _) b).setCell (p := ⟨w.heap.size, 2, none⟩) (Nat.le_refl _) c).setCell (p := ⟨w.heap.size, 3, none⟩) (Nat.le_refl _) d)
  rcases hway with ⟨HE, d1⟩ | ⟨HE, d1, d2⟩ | ⟨HE, d1, d2⟩
  all_goals
    go_wp2
    first
      | exact bodyPost_ret (v := .tuple #[dsV 0 0 0 false, .int .i64 6]) (by simp [results, Tryd.results16, go_sem, y0, y1, y2, y3, yf]) rfl ⟨by rw [HV.out, HE.out]; rfl, HS4.out _ _ _ _⟩
      | exact bodyPost_ret (v := .tuple #[dsV o s t g, .int .i64 0]) (by simp [results, Tryd.results16, go_sem, y0, y1, y2, y3, yf]) rfl ⟨by rw [HV.out, HE.out]; rfl, HS4.out _ _ _ _⟩
end Go.Proofs.YtfmclbacoffdaaaDoor
