/- The radix map: Unpack, of the program and of the reference; the reference's Pack. | The radix map: the cells of new nodes. | The radix map: New. | The radix map: Set. -/
import Derived.Test.YtfmclbacoffdaaaDoorRZ7
import Derived.Test.YtfmclbacoffdaaaDoorRZ4
namespace Go.Proofs.YtfmclbacoffdaaaDoor
open Go.RowKit Go.Sort Go.Joins
attribute [local go_sem] cell_grow frozen_grow size_grow
def unV (x : Int) : Value := if unE x = 0 then dsV (unO x) (unS x) (unT x) (unH x) else dsV 0 0 0 false
theorem un_ways (x : Int) (h0 : 0 ≤ x) :
    (Hid (unE x = 6) ∧ (x % 2 == 0) = true) ∨
    (Hid (unE x = 6) ∧ (x % 2 == 0) = false ∧ (x / 288230376151711744 != 0) = true) ∨
    (Hid (unE x = 6) ∧ (x % 2 == 0) = false ∧ (x / 288230376151711744 != 0) = false ∧ decide (1000000000000 < unT x) = true) ∨
    (Hid (unE x = 0) ∧ (x % 2 == 0) = false ∧ (x / 288230376151711744 != 0) = false ∧ decide (1000000000000 < unT x) = false) := by
  unfold unE
  by_cases h1 : x % 2 = 0
  · exact .inl ⟨Lib.hid (if_neg (by omega)), by simpa using h1⟩
  · have e1 : (x % 2 == 0) = false := by simpa using h1
    by_cases h2 : x / 288230376151711744 = 0
    · have e2 : (x / 288230376151711744 != 0) = false := by rw [h2]; rfl
      by_cases h3 : 1000000000000 < unT x
      · exact .inr (.inr (.inl ⟨Lib.hid (if_neg (by omega)), e1, e2, decide_eq_true h3⟩))
      · exact .inr (.inr (.inr ⟨Lib.hid (if_pos (by omega)), e1, e2, decide_eq_false h3⟩))
    · exact .inr (.inl ⟨Lib.hid (if_neg (by omega)), e1, by simpa using h2⟩)
theorem un_rng {x : Int} (h0 : 0 ≤ x) : 0 ≤ unO x ∧ unO x ≤ 4095 ∧ 0 ≤ unS x ∧ unS x ≤ 15 ∧ 0 ≤ unT x ∧ unT x ≤ 1099511627775 := by
  unfold unO unS unT; omega
theorem unH_eq (x : Int) : (x / 144115188075855872 % 2 == 1) = unH x := by unfold unH; rfl
section
variable {w : World}
set_option maxRecDepth 100000 in
set_option maxHeartbeats 1600000 in
theorem unpack_ok (x : Int) (h0 : 0 ≤ x) (hx : x < 18446744073709551616) (w : World) :
    Calls Tryd.prog 15 #[.int .u64 x] w fun e w' => e = .returned (.tuple #[unV x, .int .i64 (unE x)]) ∧ Below w.heap.size w w' := by
  obtain ⟨b1, b2, b3, b4, b5⟩ := un_bits h0 hx
  obtain ⟨r1, r2, r3, r4, r5, r6⟩ := un_rng h0
  have hH := unH_eq x
  have w1 : IntKind.i64.wrap (unO x) = unO x := IntWalk.i64_in _ (by omega)
  have w2 : IntKind.i64.wrap (unS x) = unS x := IntWalk.i64_in _ (by omega)
  have w3 : IntKind.i64.wrap (unT x) = unT x := IntWalk.i64_in _ (by omega)
  have HB : Hid (∀ o' s' t' g' o s t g, Below w.heap.size w ((w.alloc (.cells #[.int .i64 o', .int .i64 s', .int .i64 t', .bool g'] 23)).alloc (.cells #[.int .i64 o, .int .i64 s, .int .i64 t, .bool g] 23))) := Lib.hid (fun o' s' t' g' o s t g => ((Below.refl _ w).alloc (Nat.le_refl _) _).alloc (by simp) _)
  have hw := un_ways x h0
  obtain ⟨o, ho⟩ : ∃ z, unO x = z := ⟨_, rfl⟩
  obtain ⟨s, hs⟩ : ∃ z, unS x = z := ⟨_, rfl⟩
  obtain ⟨t, ht⟩ : ∃ z, unT x = z := ⟨_, rfl⟩
  obtain ⟨g, hg⟩ : ∃ z, unH x = z := ⟨_, rfl⟩
  have HV : Hid (unV x = if unE x = 0 then dsV o s t g else dsV 0 0 0 false) := Lib.hid (by unfold unV; rw [ho, hs, ht, hg])
  rw [ho] at b1 w1
  rw [hs] at b2 w2
  rw [ht] at b3 w3 hw
  rw [hg] at hH
  clear r1 r2 r3 r4 r5 r6 ho hs ht hg
  rcases hw with ⟨HE, d1⟩ | ⟨HE, d1, d2⟩ | ⟨HE, d1, d2, d3⟩ | ⟨HE, d1, d2, d3⟩
  all_goals
    go_enter Tryd.func15, Tryd.ntmps15
    go_wp2
    first
      | exact bodyPost_ret (v := .tuple #[dsV 0 0 0 false, .int .i64 6]) (by simp [results, Tryd.results15, go_sem]) rfl ⟨by rw [HV.out, HE.out]; rfl, HB.out _ _ _ _ _ _ _ _⟩
      | exact bodyPost_ret (v := .tuple #[dsV o s t g, .int .i64 0]) (by simp [results, Tryd.results15, go_sem]) rfl ⟨by rw [HV.out, HE.out]; rfl, HB.out _ _ _ _ _ _ _ _⟩
end
theorem btw_ok (x a b : Int) (w : World) : Calls Tryd.prog 40 #[.int .i64 x, .int .i64 a, .int .i64 b] w fun e w' => e = .returned (.bool (decide (a ≤ x) && decide (x ≤ b))) ∧ w = w' := by
  cases h1 : decide (a ≤ x)
  · go_enter Tryd.func40, Tryd.ntmps40
    go_wp2
    go_ret
    exact ⟨rfl, rfl⟩
  · go_enter Tryd.func40, Tryd.ntmps40
    go_wp2
    go_ret
    exact ⟨rfl, rfl⟩
theorem rpk_ways (o s t : Int) :
    (Hid (pkE o s t = 2) ∧ (decide (0 ≤ o) && decide (o ≤ 4095)) = false) ∨
    (Hid (pkE o s t = 2) ∧ (decide (0 ≤ o) && decide (o ≤ 4095)) = true ∧ (decide (0 ≤ s) && decide (s ≤ 15)) = false) ∨
    (Hid (pkE o s t = 2) ∧ (decide (0 ≤ o) && decide (o ≤ 4095)) = true ∧ (decide (0 ≤ s) && decide (s ≤ 15)) = true ∧ decide (t < 0) = true) ∨
    (Hid (pkE o s t = 2) ∧ (decide (0 ≤ o) && decide (o ≤ 4095)) = true ∧ (decide (0 ≤ s) && decide (s ≤ 15)) = true ∧ decide (t < 0) = false ∧ decide (1000000000000 < t) = true) ∨
    (Hid (pkE o s t = 0) ∧ (decide (0 ≤ o) && decide (o ≤ 4095)) = true ∧ (decide (0 ≤ s) && decide (s ≤ 15)) = true ∧ decide (t < 0) = false ∧ decide (1000000000000 < t) = false) := by
  have no : ∀ a b c : Int, ¬ (a ≤ b ∧ b ≤ c) → (decide (a ≤ b) && decide (b ≤ c)) = false := fun a b c h => by
    by_cases h1 : a ≤ b
    · rw [decide_eq_false (fun h2 => h ⟨h1, h2⟩), Bool.and_false]
    · rw [decide_eq_false h1, Bool.false_and]
  have yes : ∀ a b c : Int, (a ≤ b ∧ b ≤ c) → (decide (a ≤ b) && decide (b ≤ c)) = true := fun a b c h => by
    rw [decide_eq_true h.1, decide_eq_true h.2]; rfl
  by_cases h1 : 0 ≤ o ∧ o ≤ 4095
  · by_cases h2 : 0 ≤ s ∧ s ≤ 15
    · by_cases h3 : t < 0
      · exact .inr (.inr (.inl ⟨Lib.hid (if_pos (by omega)), yes _ _ _ h1, yes _ _ _ h2, decide_eq_true h3⟩))
      · by_cases h4 : 1000000000000 < t
        · exact .inr (.inr (.inr (.inl ⟨Lib.hid (if_pos (by omega)), yes _ _ _ h1, yes _ _ _ h2, decide_eq_false h3, decide_eq_true h4⟩)))
        · exact .inr (.inr (.inr (.inr ⟨Lib.hid (if_neg (by omega)), yes _ _ _ h1, yes _ _ _ h2, decide_eq_false h3, decide_eq_false h4⟩)))
    · exact .inr (.inl ⟨Lib.hid (if_pos (by omega)), yes _ _ _ h1, no _ _ _ h2⟩)
  · exact .inl ⟨Lib.hid (if_pos (by omega)), no _ _ _ h1⟩
set_option maxRecDepth 100000 in
set_option maxHeartbeats 1600000 in
theorem rpack_ok (o s t : Int) (g : Bool) (w : World) :
    Calls Tryd.prog 14 #[dsV o s t g] w fun e w' => e = .returned (.tuple #[.int .u64 (pkV o s t g), .int .i64 (pkE o s t)]) ∧ Below w.heap.size w w' := by
  have HB := Lib.hid (below_box0 w (.cells #[.int .i64 o, .int .i64 s, .int .i64 t, .bool g] 23))
  have HO := Lib.hid (btw_ok o 0 4095)
  have HS := Lib.hid (btw_ok s 0 15)
  rcases rpk_ways o s t with ⟨HE, d1⟩ | ⟨HE, d1, d2⟩ | ⟨HE, d1, d2, d3⟩ | ⟨HE, d1, d2, d3, d4⟩ | ⟨HE, d1, d2, d3, d4⟩
  case' inr.inr.inr.inr =>
    obtain ⟨h0, h1, h2, h3, h4, h5⟩ := pkE_zero HE.out
    have w1 : IntKind.u64.wrap o = o := IntWalk.u64_in _ (by omega)
    have w2 : IntKind.u64.wrap s = s := IntWalk.u64_in _ (by omega)
    have w3 : IntKind.u64.wrap t = t := IntWalk.u64_in _ (by omega)
    have w4 : IntKind.u64.wrap (2 * o) = 2 * o := IntWalk.u64_in _ (by omega)
    have w5 : IntKind.u64.wrap (8192 * s) = 8192 * s := IntWalk.u64_in _ (by omega)
    have w6 : IntKind.u64.wrap (131072 * t) = 131072 * t := IntWalk.u64_in _ (by omega)
    have w7 : IntKind.u64.wrap (1 + 2 * o) = 1 + 2 * o := IntWalk.u64_in _ (by omega)
    have w8 : IntKind.u64.wrap (1 + 2 * o + 8192 * s) = 1 + 2 * o + 8192 * s := IntWalk.u64_in _ (by omega)
    have w9 : IntKind.u64.wrap (1 + 2 * o + 8192 * s + 131072 * t) = 1 + 2 * o + 8192 * s + 131072 * t := IntWalk.u64_in _ (by omega)
    have w10 : IntKind.u64.wrap (1 + 2 * o + 8192 * s + 131072 * t + 144115188075855872) = 1 + 2 * o + 8192 * s + 131072 * t + 144115188075855872 := IntWalk.u64_in _ (by omega)
    have HW : Hid (∀ b, pkW o s t b = 1 + 2 * o + 8192 * s + 131072 * t + (if b = true then 144115188075855872 else 0)) := Lib.hid (fun b => rfl)
    clear h0 h1 h2 h3 h4 h5
    cases g
  all_goals
    (try rw [d1] at HO)
    (try rw [d2] at HS)
    go_enter Tryd.func14, Tryd.ntmps14
    go_wp2_with fail
    refine (HO.out _).mono ?_
    rintro e w1 ⟨rfl, rfl⟩
    first
      | (go_wp2_with fail
         refine (HS.out _).mono ?_
         rintro e w1 ⟨rfl, rfl⟩
         go_wp2)
      | go_wp2
    go_ret2
    first
      | exact ⟨by rw [pkV_bad HE.out, HE.out]; rfl, HB.out⟩
      | exact ⟨by rw [pkV_ok HE.out, HE.out, HW.out, if_neg (by decide), Int.add_zero]; rfl, HB.out⟩
      | exact ⟨by rw [pkV_ok HE.out, HE.out, HW.out, if_pos rfl]; rfl, HB.out⟩
set_option maxRecDepth 100000 in
set_option maxHeartbeats 1600000 in
theorem runpack_ok (x : Int) (h0 : 0 ≤ x) (hx : x < 18446744073709551616) (w : World) :
    Calls Tryd.prog 16 #[.int .u64 x] w fun e w' => e = .returned (.tuple #[unV x, .int .i64 (unE x)]) ∧ Below w.heap.size w w' := by
  obtain ⟨r1, r2, r3, r4, r5, r6⟩ := un_rng h0
  have hH := unH_eq x
  have w1 : IntKind.i64.wrap (unO x) = unO x := IntWalk.i64_in _ (by omega)
  have w2 : IntKind.i64.wrap (unS x) = unS x := IntWalk.i64_in _ (by omega)
  have w3 : IntKind.i64.wrap (unT x) = unT x := IntWalk.i64_in _ (by omega)
  have e1 : x / 2 % 4096 = unO x := rfl
  have e2 : x / 8192 % 16 = unS x := rfl
  have e3 : x / 131072 % 1099511627776 = unT x := rfl
  have HR := Lib.hid (rpack_ok (unO x) (unS x) (unT x) (unH x))
  have hpu := pk_un h0
  have hway : (Hid (unE x = 6) ∧ (pkE (unO x) (unS x) (unT x) != 0) = true) ∨ (Hid (unE x = 6) ∧ (pkE (unO x) (unS x) (unT x) != 0) = false ∧ (pkV (unO x) (unS x) (unT x) (unH x) != x) = true) ∨ (Hid (unE x = 0) ∧ (pkE (unO x) (unS x) (unT x) != 0) = false ∧ (pkV (unO x) (unS x) (unT x) (unH x) != x) = false) := by
    have hE : unE x = 0 ∨ unE x = 6 := by unfold unE; split <;> simp
    by_cases c1 : pkE (unO x) (unS x) (unT x) = 0
    · have d1 : (pkE (unO x) (unS x) (unT x) != 0) = false := by rw [c1]; rfl
      by_cases c2 : pkW (unO x) (unS x) (unT x) (unH x) = x
      · exact .inr (.inr ⟨Lib.hid (hpu.2 ⟨c1, c2⟩), d1, by rw [pkV_ok c1, c2]; simp⟩)
      · exact .inr (.inl ⟨Lib.hid (hE.resolve_left fun h => c2 (hpu.1 h).2), d1, by rw [pkV_ok c1]; simpa using c2⟩)
    · exact .inl ⟨Lib.hid (hE.resolve_left fun h => c1 (hpu.1 h).1), by simpa using c1⟩
  have HB : Hid (∀ o' s' t' g' o s t g, Below w.heap.size w ((w.alloc (.cells #[.int .i64 o', .int .i64 s', .int .i64 t', .bool g'] 23)).alloc (.cells #[.int .i64 o, .int .i64 s, .int .i64 t, .bool g] 23))) := Lib.hid (fun o' s' t' g' o s t g => ((Below.refl _ w).alloc (Nat.le_refl _) _).alloc (by simp) _)
  obtain ⟨o, ho⟩ : ∃ z, unO x = z := ⟨_, rfl⟩
  obtain ⟨s, hs⟩ : ∃ z, unS x = z := ⟨_, rfl⟩
  obtain ⟨t, ht⟩ : ∃ z, unT x = z := ⟨_, rfl⟩
  obtain ⟨g, hg⟩ : ∃ z, unH x = z := ⟨_, rfl⟩
  have HV : Hid (unV x = if unE x = 0 then dsV o s t g else dsV 0 0 0 false) := Lib.hid (by unfold unV; rw [ho, hs, ht, hg])
  rw [ho] at w1 e1
  rw [hs] at w2 e2
  rw [ht] at w3 e3
  rw [hg] at hH
  rw [ho, hs, ht, hg] at HR hway
  obtain ⟨pe, hpe⟩ : ∃ z, pkE o s t = z := ⟨_, rfl⟩
  obtain ⟨pv, hpv⟩ : ∃ z, pkV o s t g = z := ⟨_, rfl⟩
  rw [hpe, hpv] at HR
  rw [hpe, hpv] at hway
  clear r1 r2 r3 r4 r5 r6 ho hs ht hg hpu hpe hpv
  go_enter Tryd.func16, Tryd.ntmps16
  go_wp2_with fail
  obtain ⟨w0, hw0⟩ : ∃ W, ((w.alloc (.cells #[.int .i64 0, .int .i64 0, .int .i64 0, .bool false] 23)).alloc (.cells #[.int .i64 o, .int .i64 s, .int .i64 t, .bool g] 23)) = W := ⟨_, rfl⟩
  have hb0 : w0.heap[w.heap.size]? = some (.cells #[.int .i64 0, .int .i64 0, .int .i64 0, .bool false] 23 (0, 0)) := by
    rw [← hw0]
    exact (Below.heap_alloc _ _ _ (by simp)).trans (heap_alloc_new w _)
  have hb1 : w0.heap[w.heap.size + 1]? = some (.cells #[.int .i64 o, .int .i64 s, .int .i64 t, .bool g] 23 (0, 0)) := by
    rw [← hw0]
    have := heap_alloc_new (w.alloc (.cells #[.int .i64 0, .int .i64 0, .int .i64 0, .bool false] 23)) (.cells #[.int .i64 o, .int .i64 s, .int .i64 t, .bool g] 23)
    rwa [World.size_alloc] at this
  have HW0 : Hid (Below w.heap.size w w0) := Lib.hid (by rw [← hw0]; exact HB.out _ _ _ _ _ _ _ _)
  rw [hw0]
  clear hw0 HB
  refine (HR.out w0).mono ?_
  clear HR
  rintro e v1 ⟨rfl, b1⟩
  have hc0 := (b1.block _ (blk_lt hb0)).trans hb0
  have hc1 := (b1.block _ (blk_lt hb1)).trans hb1
  have HV1 := Lib.hid (below_tr HW0.out b1)
  have x0 : v1.cell? ⟨w.heap.size + 1, 0, none⟩ = some (.int .i64 o) := by rw [cell_of_block hc1]; rfl
  have x1 : v1.cell? ⟨w.heap.size + 1, 1, none⟩ = some (.int .i64 s) := by rw [cell_of_block hc1]; rfl
  have x2 : v1.cell? ⟨w.heap.size + 1, 2, none⟩ = some (.int .i64 t) := by rw [cell_of_block hc1]; rfl
  have x3 : v1.cell? ⟨w.heap.size + 1, 3, none⟩ = some (.bool g) := by rw [cell_of_block hc1]; rfl
  have y0 : v1.cell? ⟨w.heap.size, 0, none⟩ = some (.int .i64 0) := by rw [cell_of_block hc0]; rfl
  have y1 : v1.cell? ⟨w.heap.size, 1, none⟩ = some (.int .i64 0) := by rw [cell_of_block hc0]; rfl
  have y2 : v1.cell? ⟨w.heap.size, 2, none⟩ = some (.int .i64 0) := by rw [cell_of_block hc0]; rfl
  have y3 : v1.cell? ⟨w.heap.size, 3, none⟩ = some (.bool false) := by rw [cell_of_block hc0]; rfl
  have yf : ∀ j, v1.frozen? ⟨w.heap.size, j, none⟩ = false := fun j => unfrozen_of_block hc0 j
  clear hb0 hb1 hc0 hc1 b1 HW0
  have HS4 : Hid (∀ a b c d, Below w.heap.size w ((((v1.setCell ⟨w.heap.size, 0, none⟩ a).setCell ⟨w.heap.size, 1, none⟩ b).setCell ⟨w.heap.size, 2, none⟩ c).setCell ⟨w.heap.size, 3, none⟩ d)) := Lib.hid (fun a b c d => (((HV1.out.setCell (p := ⟨w.heap.size, 0, none⟩) (Nat.le_refl _) a).setCell (p := ⟨w.heap.size, 1, none⟩) (Nat.le_refl _) b).setCell (p := ⟨w.heap.size, 2, none⟩) (Nat.le_refl _) c).setCell (p := ⟨w.heap.size, 3, none⟩) (Nat.le_refl _) d)
  rcases hway with ⟨HE, d1⟩ | ⟨HE, d1, d2⟩ | ⟨HE, d1, d2⟩
  all_goals
    go_wp2
    first
      | exact bodyPost_ret (v := .tuple #[dsV 0 0 0 false, .int .i64 6]) (by simp [results, Tryd.results16, go_sem, y0, y1, y2, y3]) rfl ⟨by rw [HV.out, HE.out]; rfl, HS4.out _ _ _ _⟩
      | exact bodyPost_ret (v := .tuple #[dsV o s t g, .int .i64 0]) (by simp [results, Tryd.results16, go_sem, y0, y1, y2, y3]) rfl ⟨by rw [HV.out, HE.out]; rfl, HS4.out _ _ _ _⟩
end Go.Proofs.YtfmclbacoffdaaaDoor

namespace Go.Proofs.YtfmclbacoffdaaaDoor
open Go.RowKit Go.Sort Go.Joins
theorem ndCells_replicate (x : Nd) : ∀ n k, k < n * 26 → (ndCells (List.replicate n x))[k]? = (ndc x)[k % 26]?
  | 0, k, h => by omega
  | n + 1, k, h => by
    have ih := fun k => ndCells_replicate x n k
    unfold ndCells at ih ⊢
    rw [List.replicate_succ, List.flatMap_cons]
    by_cases hk : k < 26
    · rw [List.getElem?_append_left (by rw [ndc_length]; exact hk), Nat.mod_eq_of_lt hk]
    · rw [List.getElem?_append_right (by rw [ndc_length]; omega), ndc_length, ih (k - 26) (by omega), show (k - 26) % 26 = k % 26 by omega]
theorem made_nodes (n : Nat) (x : Nd) : (madeCells (ndc x).toArray (n * 26)).toList = ndCells (List.replicate n x) := by
  apply List.ext_getElem?
  intro k
  by_cases hk : k < n * 26
  · rw [ndCells_replicate _ _ _ hk]
    have h3 : k % 26 < 26 := Nat.mod_lt _ (by decide)
    have hz : (ndc x).toArray.size = 26 := by rw [List.size_toArray, ndc_length]
    simp only [madeCells, Array.toList_map, Array.toList_range, List.getElem?_map, List.getElem?_range hk, Option.map_some]
    rw [hz, getElem!_pos (ndc x).toArray (k % 26) (by rw [hz]; exact h3), List.getElem?_eq_getElem (by rw [ndc_length]; exact h3)]
    rfl
  · rw [List.getElem?_eq_none (by simp [madeCells]; omega), List.getElem?_eq_none (by rw [ndCells_length, List.length_replicate]; omega)]
end Go.Proofs.YtfmclbacoffdaaaDoor

namespace Go.Proofs.YtfmclbacoffdaaaDoor
open Go.RowKit Go.Sort Go.Joins
attribute [local go_sem] cell_grow frozen_grow size_grow
theorem info_node : (Tryd.prog.info? 90).map (fun i => (i.zero, i.size, i.bytes)) = some (some (.agg (ndc (nd0 0)).toArray), 26, 208) := by kernel_rfl
theorem run_make_nodes (n : Nat) (hn : n ≤ 145) (w : World) :
    (Instr.makeSlice 91 (.int .i64 (n : Int)) (.int .i64 (n : Int))).run Tryd.prog w = .ok (.slice (some ⟨w.heap.size, 0, none⟩) n n) (w.alloc (.cells (ndCells (List.replicate n (nd0 0))).toArray 90)) := by
  obtain ⟨i0, hi, hz0, hz1, hz2⟩ := info_parts info_node
  have h := run_make (P := Tryd.prog) w 91 90 i0 _ Tryd.underlying91 hi hz0 .i64 .i64 n n (by omega) (by omega) (by rw [hz2]; omega) (by omega)
  have e : madeCells (ndc (nd0 0)).toArray (n * 26) = (ndCells (List.replicate n (nd0 0))).toArray := by rw [← made_nodes]
  rw [h, Int.toNat_natCast, hz1]
  exact congrArg (fun c => Result.ok (Value.slice (some ⟨w.heap.size, 0, none⟩) n n) (w.alloc (.cells c 90))) e
set_option maxHeartbeats 1600000 in
theorem newm_bad (N : Int) (w : World) (h : N < 1 ∨ 145 < N) :
    Calls Tryd.prog 21 #[.int .i64 N] w fun e w' => e = .returned (.tuple #[.pointer none, .int .i64 7]) ∧ w = w' := by
  by_cases h1 : N < 1
  · go_enter Tryd.func21, Tryd.ntmps21
    go_wp2
    go_ret2
    exact ⟨rfl, rfl⟩
  · have h2 : 145 < N := by omega
    clear h
    go_enter Tryd.func21, Tryd.ntmps21
    go_wp2
    go_ret2
    exact ⟨rfl, rfl⟩
set_option maxRecDepth 100000 in
set_option maxHeartbeats 1600000 in
theorem newm_ok (n : Nat) (w : World) (h1 : 1 ≤ n) (h2 : n ≤ 145) :
    Calls Tryd.prog 21 #[.int .i64 n] w fun e w' => e = .returned (.tuple #[.pointer (some ⟨w.heap.size + 1, 0, none⟩), .int .i64 0]) ∧
      TM w' w.heap.size (w.heap.size + 1) w.heap.size (newM n).st (newM n).m (newM n).r ∧ Below w.heap.size w w' := by
  have hmk := run_make_nodes n h2
  obtain ⟨cs, hcs⟩ : ∃ cs, cs = (ndCells (List.replicate n (nd0 0))).toArray := ⟨_, rfl⟩
  rw [← hcs] at hmk
  have HC := Lib.hid hcs
  clear hcs
  have HF := Lib.hid (bNew_ok n false ((w.alloc (.cells cs 90)).alloc (.cells #[.slice (some ⟨w.heap.size, 0, none⟩) n n, .int .i64 0, .slice none 0 0, .int .i64 1] 95)) (by omega))
  go_enter Tryd.func21, Tryd.ntmps21
  go_wp2_with fail
  refine HF.out.mono ?_
  rintro e w1 ⟨a, cap, rfl, hown, hb⟩
  have b1 : w1.heap[w.heap.size + 1]? = some (.cells #[.slice (some ⟨w.heap.size, 0, none⟩) n n, .int .i64 0, .slice none 0 0, .int .i64 1] 95 (0, 0)) := by
    rw [hb.block _ (by simp)]
    have := heap_alloc_new (w.alloc (.cells cs 90)) (.cells #[.slice (some ⟨w.heap.size, 0, none⟩) n n, .int .i64 0, .slice none 0 0, .int .i64 1] 95)
    rwa [World.size_alloc] at this
  have b0 : w1.heap[w.heap.size]? = some (.cells cs 90 (0, 0)) := by
    rw [hb.block _ (by simp; omega), Below.heap_alloc _ _ _ (by simp)]
    exact heap_alloc_new w _
  have p1 : w1.cell? ⟨w.heap.size + 1, 1, none⟩ = some (.int .i64 0) := by rw [cell_of_block b1]; rfl
  have p2 : w1.cell? ⟨w.heap.size + 1, 2, none⟩ = some (.slice none 0 0) := by rw [cell_of_block b1]; rfl
  have p0 : w1.cell? ⟨w.heap.size + 1, 0, none⟩ = some (.slice (some ⟨w.heap.size, 0, none⟩) n n) := by rw [cell_of_block b1]; rfl
  have p3 : ∀ j, w1.frozen? ⟨w.heap.size + 1, j, none⟩ = false := fun j => unfrozen_of_block b1 j
  have o2 := own_ne hown b1 u_map
  have hTM : TM ((w1.setCell ⟨w.heap.size + 1, 1, none⟩ (.int .i64 (n : Int))).setCell ⟨w.heap.size + 1, 2, none⟩ (.slice a ((n + 63) / 64) cap)) w.heap.size (w.heap.size + 1) w.heap.size (List.replicate n (nd0 0)) 1 (fun _ => false) := by
    refine ⟨by omega, Nat.le_refl _, by omega, by simpa using h1, by simpa using h2, ⟨a, cap, ?_, ?_⟩, ?_, fun _ _ => rfl⟩
    · rw [setCell_block (setCell_block b1 _) _]; simp
    · rw [List.length_replicate]
      have := ownsRow_setCell_other (ownsRow_setCell_other hown (a := ⟨w.heap.size + 1, 1, none⟩) o2 (.int .i64 (n : Int))) (a := ⟨w.heap.size + 1, 2, none⟩) o2 (.slice a ((n + 63) / 64) cap)
      have e : (fun i => false && decide (i < n)) = (fun _ => false : Nat → Bool) := by funext i; rfl
      rw [e] at this
      exact ownsRow_le this (by simp; omega)
    · rw [Below.heap_setCell _ _ _ _ (by dsimp only; omega), Below.heap_setCell _ _ _ _ (by dsimp only; omega), b0, HC.out]
  have HTM := Lib.hid hTM
  have HB : Hid (Below w.heap.size w ((w1.setCell ⟨w.heap.size + 1, 1, none⟩ (.int .i64 (n : Int))).setCell ⟨w.heap.size + 1, 2, none⟩ (.slice a ((n + 63) / 64) cap))) := Lib.hid (((((Below.refl w.heap.size w).alloc (Nat.le_refl _) _).alloc (by simp) _).trans (hb.mono (by simp; omega))).setCell (p := ⟨w.heap.size + 1, 1, none⟩) (by simp) _ |>.setCell (p := ⟨w.heap.size + 1, 2, none⟩) (by simp) _)
  have lpp : w.heap.size + 1 < w1.heap.size := blk_lt b1
  clear b1 b0 hown hb o2 hTM
  go_upto_region 5 with fail
  obtain ⟨W2, hW2⟩ : ∃ W, (w1.setCell ⟨w.heap.size + 1, 1, none⟩ (.int .i64 (n : Int))).setCell ⟨w.heap.size + 1, 2, none⟩ (.slice a ((n + 63) / 64) cap) = W := ⟨_, rfl⟩
  rw [hW2] at HTM HB ⊢
  clear hW2 p0 p1 p2 p3 lpp
  have d0 := HTM.out.c0
  rw [List.length_replicate] at d0
  have HD := Lib.hid d0
  clear d0
  have d0 := HD.out
  go_wp2_with fail
  clear d0
  go_loopw [29] (fun o wr => ∃ (k : Nat) (S : List Nd), o = .int .i64 k ∧ k ≤ n ∧ Hid (S.length = n) ∧ Hid (∀ j, j < n → S.getD j ndZ = if j < k then nd0 (-1) else nd0 0) ∧ Hid (TM wr w.heap.size (w.heap.size + 1) w.heap.size S 1 (fun _ => false)) ∧ Hid (Below w.heap.size w wr)) (fun o _ => n - (intOf o).toNat)
  case atStart =>
    refine ⟨0, List.replicate n (nd0 0), rfl, Nat.zero_le _, Lib.hid (List.length_replicate), Lib.hid (fun j hj => ?_), HTM, HB⟩
    rw [if_neg (by omega)]
    simp [List.getD, hj]
  case round =>
    obtain ⟨k, S, rfl, hk, HSl, HSg, HT, HBr⟩ := hrel
    have d0 := HT.out.c0
    rw [HSl.out] at d0
    by_cases hlt : k < n
    · have hk0 : (0 : Int) ≤ (k : Int) := by omega
      have hki : (k : Int) < (n : Int) := by omega
      have hkS : k < S.length := by rw [HSl.out]; exact hlt
      have s0 := HT.out.lv hkS
      have fq := HT.out.fq
      have lq := HT.out.lq
      have hx : S.getD k ndZ = nd0 0 := by rw [HSg.out k hlt, if_neg (by omega)]
      have h3 := HT.out.cellS hkS (j := 0) (v := .int .i64 (-1)) (y := nd0 (-1)) (by omega) (by rw [hx]; rfl)
      rw [Nat.add_zero] at h3
      have HT3 := Lib.hid h3.1
      have HB3 := Lib.hid (HBr.out.setCell (p := ⟨w.heap.size, k * 26, none⟩) (Nat.le_refl _) (.int .i64 (-1)))
      clear h3 hx hkS
      go_wp2
      go_roundw
      case rel =>
        refine ⟨k + 1, S.set k (nd0 (-1)), by go_num, by omega, Lib.hid (by rw [List.length_set]; exact HSl.out), Lib.hid (fun j hj => ?_), HT3, HB3⟩
        rw [N_set (by rw [HSl.out]; exact hlt)]
        by_cases e : j = k
        · rw [if_pos e, if_pos (by omega)]
        · rw [if_neg e, HSg.out j hj]
          by_cases c : j < k
          · rw [if_pos c, if_pos (by omega)]
          · rw [if_neg c, if_neg (by omega)]
      case measure => simp [intOf]; omega
    · obtain rfl : k = n := by omega
      have hS : S = List.replicate k (nd0 (-1)) := by
        refine List.ext_getElem (by rw [HSl.out, List.length_replicate]) fun j h1 h2 => ?_
        have hj : j < k := by rw [List.length_replicate] at h2; exact h2
        have := HSg.out j hj
        rw [if_pos hj, List.getD_eq_getElem?_getD, List.getElem?_eq_getElem h1] at this
        rw [List.getElem_replicate]
        simpa using this
      have HS := Lib.hid hS
      clear hS
      go_wp2_with fail
      refine (take_ok (i := 0) HT.out HBr.out.size (by rw [HSl.out]; exact h1) 0 (by omega)).mono ?_
      clear d0
      rintro e w5 ⟨rfl, h5, f5⟩
      have HM := Lib.hid (h5.many 1)
      have HB5 := Lib.hid ((Fr.below HBr.out f5 (by omega) (Nat.le_refl _) HBr.out.size).setCell (p := ⟨w.heap.size + 1, 3, none⟩) (by dsimp only; omega) (.int .i64 1))
      have p3 := h5.c3
      have pf := h5.fp
      have lpp := h5.lp
      clear h5 f5
      go_wp2
      go_ret2
      refine ⟨rfl, ?_, HB5.out⟩
      have := HM.out
      rw [HS.out] at this
      exact this
end Go.Proofs.YtfmclbacoffdaaaDoor

namespace Go.Proofs.YtfmclbacoffdaaaDoor
open Go.RowKit Go.Sort Go.Joins
attribute [local go_sem] cell_grow frozen_grow size_grow
/-- a page may be put -/
structure PutP (X : RM) (p : Nat) : Prop where
  ok : putOk X p = true
  a : mdI X.st p = 0 → frI X ≠ 0 ∧ -1 ≤ (X.N 0).lv ∧ (X.N 0).lv ≤ 2 ∧ (X.N 0).mn ≤ 1000
  b : lfI X.st p = 0 → frI (putA X p) ≠ putAI X p ∧ -1 ≤ ((putA X p).N (putAI X p)).lv ∧ ((putA X p).N (putAI X p)).lv ≤ 2 ∧ ((putA X p).N (putAI X p)).mn ≤ 1000
  c : ((putB X p).N (putBI X p)).mn ≤ 1000
  m : X.m ≤ 1000
theorem quiet_more {P : Program} {f : FuncId} {args : Array Value} {w : World} {n : Nat} {v : Value}
    (h : Calls P f args (w.drewN n) fun e w' => e = .returned v ∧ ∃ m, w' = (w.drewN n).drewN m) : Calls P f args (w.drewN n) fun e w'' => e = .returned v ∧ ∃ m, w'' = w.drewN m :=
  h.mono fun _ _ ⟨he, m, hm⟩ => ⟨he, n + m, by rw [hm, World.drewN_drewN]⟩
theorem putA_m (X : RM) (p : Nat) : (putA X p).m ≤ X.m + 1 := by
  unfold putA
  split
  · exact Nat.le_refl _
  · exact Nat.le_succ _
theorem Tab.fr {p q : Nat} {w w' : World} (h : Tab w) (k : Fr p q w w') (hp : 0 ≠ p) (hq : 0 ≠ q) : Tab w' := fun i hi => by
  have h0 := World.block_lt_of_cell? _ _ (h i hi)
  rw [World.cell?_of_block (w := w) (k.block 0 h0 hp hq)]
  exact h i hi
section
variable {w : World} {B p q : Nat}
set_option maxRecDepth 100000 in
set_option maxHeartbeats 6400000 in
theorem set_in (htp : 0 ≠ p) (htq : 0 ≠ q) (hT : Tab w) {X : RM} (h : TM w B p q X.st X.m X.r) (hB : B ≤ w.heap.size) {f t : Nat} (hft : f ≤ t) (ht : t ≤ 1024) (hk : ∀ k, k < 16 → (X.st.getD 0 ndZ).kd k < X.st.length) (o s c : Int) (g : Bool) (hE : pkE o s c = 0)
    (hroom : X.m + needF X.st (t - f) f (-1) (-1) ≤ X.st.length) (hP : ∀ j, j < t - f → PutP (setM (pkW o s c g).toNat j X f) (f + j)) (hm : X.m ≤ 1000) :
    Calls Tryd.prog 32 #[.pointer (some ⟨p, 0, none⟩), .int .i64 f, .int .i64 t, dsV o s c g] w fun e w' => e = .returned (.int .i64 0) ∧
      TM w' B p q (setM (pkW o s c g).toNat (t - f) X f).st (setM (pkW o s c g).toNat (t - f) X f).m (setM (pkW o s c g).toNat (t - f) X f).r ∧ Fr p q w w' := by
  have b0 := below_box0 w (.cells #[.int .i64 o, .int .i64 s, .int .i64 c, .bool g] 23)
  have HF0 := Lib.hid (Fr.of_below (p := p) (q := q) b0)
  have h0 := h.below b0
  have H0 := Lib.hid h0
  have HPa := Lib.hid (part_ok h0 f t)
  have hpa : paE f t = 0 := by unfold paE; rw [if_neg (by omega)]
  rw [hpa] at HPa
  have HPk := Lib.hid (pack_ok o s c g)
  rw [pkV_ok hE, hE] at HPk
  have hb := pkW_bd (h := g) hE
  obtain ⟨x, hx⟩ : ∃ x : Nat, (pkW o s c g).toNat = x := ⟨_, rfl⟩
  have hxi : pkW o s c g = (x : Int) := by omega
  rw [hx] at hP ⊢
  rw [hxi] at HPk
  have HPP := Lib.hid hP
  have HN := Lib.hid (fun (W : World) (hb : Below (w.alloc (.cells #[.int .i64 o, .int .i64 s, .int .i64 c, .bool g] 23)).heap.size (w.alloc (.cells #[.int .i64 o, .int .i64 s, .int .i64 c, .bool g] 23)) W) => needed_ok (h0.below hb) hft ht hk)
  obtain ⟨nd, hnd⟩ : ∃ z, needF X.st (t - f) f (-1) (-1) = z := ⟨_, rfl⟩
  rw [hnd] at HN hroom
  have n2 := h0.n2
  have hroomi : decide ((X.st.length : Int) < (X.m : Int) + (nd : Int)) = false := decide_eq_false (by omega)
  have hwn : IntKind.i64.wrap ((X.m : Int) + (nd : Int)) = (X.m : Int) + (nd : Int) := IntWalk.i64_in _ (by omega)
  have HK := Lib.hid hk
  have HTW := Lib.hid hT
  have HBB := Lib.hid hB
  clear b0 h0 h hpa hb hx hxi hP hnd hk hT hE hB hroom
  go_enter Tryd.func32, Tryd.ntmps32
  go_wp2_with fail
  refine HPa.out.mono ?_
  rintro e w1 ⟨rfl, rfl⟩
  go_wp2_with fail
  refine (HPk.out _).mono ?_
  rintro e w2 ⟨rfl, b2⟩
  have B2 := Lib.hid b2
  have H2 := Lib.hid (H0.out.below b2)
  have c0 := H2.out.c0
  have c3 := H2.out.c3
  clear b2
  go_wp2_with fail
  go_quiet (first | (go_at_call 54; exact quiet_more (HN.out (w2.drewN _) (below_tr B2.out (below_draw _ _)))))
  go_wp2
  go_loopw [12] (fun i wr => ∃ pg : Nat, i = .int .i64 pg ∧ f ≤ pg ∧ pg ≤ t ∧ Hid (TM wr B p q (setM x (pg - f) X f).st (setM x (pg - f) X f).m (setM x (pg - f) X f).r) ∧ Hid (Fr p q w wr)) (fun i _ => t - (intOf i).toNat)
  case atStart =>
    refine ⟨f, rfl, Nat.le_refl _, hft, Lib.hid ?_, Lib.hid ?_⟩
    · rw [Nat.sub_self]; exact H2.out.below (below_draw _ _)
    · exact HF0.out.trans (Fr.of_below (below_tr B2.out (below_draw _ _)))
  case round =>
    obtain ⟨pg, rfl, hp1, hp2, HT, HF⟩ := hrel
    by_cases hlt : pg < t
    · have hPj := HPP.out (pg - f) (by omega)
      rw [show f + (pg - f) = pg by omega] at hPj
      have HNX : Hid (setM x (pg + 1 - f) X f = putM (setM x (pg - f) X f) x pg) := Lib.hid (by
        rw [show pg + 1 - f = (pg - f) + 1 by omega]
        show putM (setM x (pg - f) X f) x (f + (pg - f)) = _
        rw [show f + (pg - f) = pg by omega])
      obtain ⟨Y, hY⟩ : ∃ Y, setM x (pg - f) X f = Y := ⟨_, rfl⟩
      rw [hY] at hPj HT HNX
      obtain ⟨o1, o2, o3, o4, o5, o6⟩ := putOk_parts hPj.ok
      have hpg : pg < 1024 := by omega
      have HL := Lib.hid (leaf_ok HT.out pg hpg o1)
      have HP := Lib.hid hPj
      have hwp : IntKind.i64.wrap ((pg : Int) + 1) = (pg : Int) + 1 := IntWalk.i64_in _ (by omega)
      have i0 : (pg : Int) < (t : Int) := by omega
      have ip0 : (0 : Int) ≤ (pg : Int) := by omega
      have hb3 := and7s hpg
      have hb7 := and7 pg hpg
      have hn2 := HT.out.n2
      have eY : (putA Y pg).st.length = Y.st.length := putA_len Y pg
      have eZ : (putB Y pg).st.length = Y.st.length := putB_len Y pg
      have hmm := hPj.m
      have hmA := putA_m Y pg
      -- the contracts of grow
      have hG1 : mdI Y.st pg = 0 → ∀ W, Fr p q w W → TM W B p q Y.st Y.m Y.r → Calls Tryd.prog 55 #[.pointer (some ⟨p, 0, none⟩), .int .i64 0, .int .i64 ((pg : Int) / 64)] W fun e w' => e = .returned (.int .i64 (putAI Y pg)) ∧ TM w' B p q (putA Y pg).st (putA Y pg).m (putA Y pg).r ∧ Fr p q w w' := fun hz W hF hW => by
        obtain ⟨a1, a2, a3, a4⟩ := HP.out.a hz
        have := grow_ok (HTW.out.fr hF htp htq) hW (Nat.le_trans HBB.out hF.size) (i := 0) (k := pg / 64) (by omega) (by omega) (o2 hz) a1 a2 a3 a4 (by omega)
        rw [show ((pg / 64 : Nat) : Int) = (pg : Int) / 64 by omega] at this
        refine this.mono ?_
        rintro e w' ⟨g1, g2, g3⟩
        refine ⟨?_, ?_, hF.trans g3⟩
        · rw [g1]; unfold putAI; rw [if_pos hz]
        · unfold putA; rw [if_pos hz]; exact g2
      have hG2 : lfI Y.st pg = 0 → ∀ W, Fr p q w W → TM W B p q (putA Y pg).st (putA Y pg).m (putA Y pg).r → Calls Tryd.prog 55 #[.pointer (some ⟨p, 0, none⟩), .int .i64 (putAI Y pg), .int .i64 ((pg : Int) / 8 % 8)] W fun e w' => e = .returned (.int .i64 (putBI Y pg)) ∧ TM w' B p q (putB Y pg).st (putB Y pg).m (putB Y pg).r ∧ Fr p q w w' := fun hz W hF hW => by
        obtain ⟨a1, a2, a3, a4⟩ := HP.out.b hz
        have := grow_ok (HTW.out.fr hF htp htq) hW (Nat.le_trans HBB.out hF.size) (i := putAI Y pg) (k := pg / 8 % 8) (by omega) (by omega) (by rw [eY]; exact o5 hz) a1 a2 a3 a4 (by omega)
        rw [show ((pg / 8 % 8 : Nat) : Int) = (pg : Int) / 8 % 8 by omega] at this
        refine this.mono ?_
        rintro e w' ⟨g1, g2, g3⟩
        refine ⟨?_, ?_, hF.trans g3⟩
        · rw [g1]; unfold putBI; rw [if_pos hz]
        · unfold putB; rw [if_pos hz]; exact g2
      have hmz : mdI Y.st pg = 0 → lfI Y.st pg = 0 := fun hz => by unfold lfI; rw [if_pos hz]
      have hA0 : mdI Y.st pg ≠ 0 → putA Y pg = Y ∧ putAI Y pg = mdI Y.st pg := fun hz => by unfold putA putAI; rw [if_neg hz, if_neg hz]; exact ⟨rfl, rfl⟩
      have hB0 : lfI Y.st pg ≠ 0 → putB Y pg = putA Y pg ∧ putBI Y pg = lfI Y.st pg := fun hz => by unfold putB putBI; rw [if_neg hz, if_neg hz]; exact ⟨rfl, rfl⟩
      have hcm := hPj.c
      obtain ⟨md, hmd⟩ : ∃ z, mdI Y.st pg = z := ⟨_, rfl⟩
      obtain ⟨lf, hlf⟩ : ∃ z, lfI Y.st pg = z := ⟨_, rfl⟩
      obtain ⟨a, hia⟩ : ∃ z, putAI Y pg = z := ⟨_, rfl⟩
      obtain ⟨l, hil⟩ : ∃ z, putBI Y pg = z := ⟨_, rfl⟩
      obtain ⟨A, hA⟩ : ∃ z, putA Y pg = z := ⟨_, rfl⟩
      obtain ⟨Z, hZ⟩ : ∃ z, putB Y pg = z := ⟨_, rfl⟩
      have hM : putM Y x pg = { Z with st := Z.st.set l (wordN (Z.N l) (pg % 8) x) } := by rw [← hZ, ← hil]; rfl
      rw [hM] at HNX
      rw [hmd, hlf] at HL
      rw [hmd, hia, hA] at hG1
      rw [hlf, hia, hil, hA, hZ] at hG2
      rw [hmd, hlf] at hmz
      rw [hmd, hA, hia] at hA0
      rw [hlf, hZ, hil, hA] at hB0
      rw [hil] at o6 hcm
      rw [hZ] at eZ hcm
      have G1 := Lib.hid hG1
      have G2 := Lib.hid hG2
      have HMZ := Lib.hid hmz
      have HA0 := Lib.hid hA0
      have HB0 := Lib.hid hB0
      have hlZ : l < Z.st.length := by omega
      clear hG1 hG2 hmz hA0 hB0 hPj HP o1 o2 o3 o4 o5 o6 hmd hlf hia hil hA hZ hM hY hmA eY hmm
      go_wp2_with fail
      refine HL.out.mono ?_
      rintro e w4 ⟨rfl, n4, hn4⟩
      have HT4 : Hid (TM w4 B p q Y.st Y.m Y.r) := Lib.hid (by rw [hn4]; exact HT.out.below (below_draw _ _))
      have HF4 : Hid (Fr p q w w4) := Lib.hid (by rw [hn4]; exact HF.out.trans (Fr.of_below (below_draw _ _)))
      clear hn4 HL
      have hways : md = 0 ∨ (md ≠ 0 ∧ lf = 0) ∨ (md ≠ 0 ∧ lf ≠ 0) := by
        by_cases h1 : md = 0
        · exact .inl h1
        · by_cases h2 : lf = 0
          · exact .inr (.inl ⟨h1, h2⟩)
          · exact .inr (.inr ⟨h1, h2⟩)
      refine hways.elim ?wa (fun hways2 => hways2.elim ?wb ?wc)
      case' wa =>
        intro hz
        clear hways
        have hl0 := HMZ.out hz
        have G1' := Lib.hid (G1.out hz _ HF4.out HT4.out)
        have dz : ((md : Int) == 0) = true := by simp; omega
        have dl : ((lf : Int) == 0) = true := by simp; omega
        have HL0 := Lib.hid hl0
        clear hz hl0
        go_wp2_with fail
        refine G1'.out.mono ?_
        rintro e w5 ⟨rfl, h5, f5⟩
        have G2' := Lib.hid (G2.out HL0.out _ f5 h5)
        clear h5 f5 G1'
        go_wp2_with fail
        refine G2'.out.mono ?_
        rintro e w6 ⟨rfl, h6, f6⟩
        have HT6 := Lib.hid h6
        have HF6 := Lib.hid f6
        clear h6 f6 G2' dz dl
        go_upto_region 17 with fail
      case' wb =>
        rintro ⟨hz, hl0⟩
        clear hways
        obtain ⟨eA, ea⟩ := HA0.out hz
        have HTA : Hid (TM w4 B p q A.st A.m A.r) := Lib.hid (by rw [eA]; exact HT4.out)
        have G2' := Lib.hid (G2.out hl0 _ HF4.out HTA.out)
        rw [ea] at G2'
        have dz : ((md : Int) == 0) = false := by simp; omega
        have dl : ((lf : Int) == 0) = true := by simp; omega
        clear hz hl0 eA ea HTA
        go_wp2_with fail
        refine G2'.out.mono ?_
        rintro e w6 ⟨rfl, h6, f6⟩
        have HT6 := Lib.hid h6
        have HF6 := Lib.hid f6
        clear h6 f6 G2' dz dl
        go_upto_region 17 with fail
      case' wc =>
        rintro ⟨hz, hl0⟩
        clear hways
        obtain ⟨eA, ea⟩ := HA0.out hz
        obtain ⟨eZ2, el⟩ := HB0.out hl0
        have HT6 : Hid (TM w4 B p q Z.st Z.m Z.r) := Lib.hid (by rw [eZ2, eA]; exact HT4.out)
        have HF6 := Lib.hid HF4.out
        subst el
        have dz : ((md : Int) == 0) = false := by simp; omega
        have dl : ((l : Int) == 0) = false := by simp; omega
        clear hz hl0 eA ea eZ2
        go_upto_region 17 with fail
        clear dz dl
      all_goals
        clear G1 G2 HMZ HA0 HB0 HT4 HF4
        have d0 := HT6.out.c0
        have s0 := HT6.out.wd hlZ (show pg % 8 < 8 by omega)
        have s1 := HT6.out.mn hlZ
        have fq := HT6.out.fq
        have lq := HT6.out.lq
        have j0 : (0 : Int) ≤ (l : Int) := by omega
        have j1 : (l : Int) < (Z.st.length : Int) := by omega
        obtain ⟨z, hzz⟩ : ∃ z, (Z.st.getD l ndZ).wd (pg % 8) = z := ⟨_, rfl⟩
        obtain ⟨mm, hmm⟩ : ∃ z, (Z.st.getD l ndZ).mn = z := ⟨_, rfl⟩
        have hcm' : mm ≤ 1000 := by rw [← hmm]; exact hcm
        rw [hzz] at s0
        rw [hmm] at s1
        have hwm : IntKind.i64.wrap ((mm : Int) + 1) = (mm : Int) + 1 := IntWalk.i64_in _ (by omega)
        have h7 := HT6.out.cellS hlZ (j := 1) (v := .int .i64 ((mm + 1 : Nat) : Int)) (y := { Z.st.getD l ndZ with mn := mm + 1 }) (by omega) (ndc_setMn _ (mm + 1))
        have hx7 : (Z.st.set l { Z.st.getD l ndZ with mn := mm + 1 }).getD l ndZ = { Z.st.getD l ndZ with mn := mm + 1 } := by rw [N_set hlZ, if_pos rfl]
        have h8 := h7.1.cellS (i := l) (j := 18 + pg % 8) (v := .int .u64 (x : Int)) (y := { Z.st.getD l ndZ with mn := mm + 1, wd := upd (Z.st.getD l ndZ).wd (pg % 8) x }) (by rw [List.length_set]; exact hlZ) (by omega) (by rw [hx7]; exact ndc_setWd _ (pg % 8) x)
        rw [List.set_set, show ((mm + 1 : Nat) : Int) = (mm : Int) + 1 by omega, ← Nat.add_assoc] at h8
        rw [show ((mm + 1 : Nat) : Int) = (mm : Int) + 1 by omega] at h7
        have h9 := HT6.out.cellS hlZ (j := 18 + pg % 8) (v := .int .u64 (x : Int)) (y := { Z.st.getD l ndZ with wd := upd (Z.st.getD l ndZ).wd (pg % 8) x }) (by omega) (ndc_setWd _ (pg % 8) x)
        rw [← Nat.add_assoc] at h9
        have K8 := Lib.hid h8.1
        have F8 := Lib.hid (HF6.out.trans (h7.2.trans h8.2))
        have K9 := Lib.hid h9.1
        have F9 := Lib.hid (HF6.out.trans h9.2)
        have HZZ := Lib.hid hzz
        have HMM := Lib.hid hmm
        clear h7 hx7 h8 h9 hzz hmm hcm hcm'
        by_cases hz0 : z = 0
        · have dw : ((z : Int) == 0) = true := by simp; omega
          have HWN : Hid (wordN (Z.N l) (pg % 8) x = { Z.st.getD l ndZ with mn := mm + 1, wd := upd (Z.st.getD l ndZ).wd (pg % 8) x }) := Lib.hid (by unfold wordN; rw [show (Z.N l).wd (pg % 8) = z from HZZ.out, if_pos hz0, show (Z.N l).mn = mm from HMM.out])
          clear hz0
          go_wp2
          go_roundw
          case rel => exact ⟨pg + 1, by go_num, by omega, by omega, Lib.hid (by rw [HNX.out, HWN.out]; exact K8.out), F8⟩
          case measure => simp [intOf]; omega
        · have dw : ((z : Int) == 0) = false := by simp; omega
          have HWN : Hid (wordN (Z.N l) (pg % 8) x = { Z.st.getD l ndZ with wd := upd (Z.st.getD l ndZ).wd (pg % 8) x }) := Lib.hid (by unfold wordN; rw [show (Z.N l).wd (pg % 8) = z from HZZ.out, if_neg hz0]; rfl)
          clear hz0
          go_wp2
          go_roundw
          case rel => exact ⟨pg + 1, by go_num, by omega, by omega, Lib.hid (by rw [HNX.out, HWN.out]; exact K9.out), F9⟩
          case measure => simp [intOf]; omega
    · obtain rfl : pg = t := by omega
      have i0 : ¬ ((pg : Int) < (pg : Int)) := by omega
      go_wp2
      go_ret
      exact ⟨rfl, HT.out, HF.out⟩
end
end Go.Proofs.YtfmclbacoffdaaaDoor
