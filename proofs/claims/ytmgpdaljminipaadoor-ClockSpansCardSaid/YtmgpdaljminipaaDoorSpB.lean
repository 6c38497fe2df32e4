/- Clocks: Span of the reference. -/
import Derived.Test.YtmgpdaljminipaaDoorSpA
import Derived.Deep.RegionHeld3
namespace Go.Proofs.YtmgpdaljminipaaDoor
open Go.RowKit Go.Sort Go.Joins Go.Shelf
attribute [local go_sem] cell_grow frozen_grow size_grow

abbrev ltrC : Array Value := #[.string ⟨#[100]⟩, .string ⟨#[104]⟩, .string ⟨#[109]⟩, .string ⟨#[115]⟩]
abbrev secC : Array Value := #[.int .i64 86400, .int .i64 3600, .int .i64 60, .int .i64 1]
/-- the rows of units of the reference -/
theorem runits_ok (w : World) : Calls Tryd.prog 28 #[] w fun e w' => ∃ a b, e = .returned (.tuple #[.slice (some ⟨a, 0, none⟩) 4 4, .slice (some ⟨b, 0, none⟩) 4 4]) ∧ Below w.heap.size w w' ∧ w'.heap[a]? = some (.cells ltrC 9 (0, 0)) ∧ w'.heap[b]? = some (.cells secC 2 (0, 0)) := by
  go_enter Tryd.func28, Tryd.ntmps28
  go_wp2_with fail
  go_ret2
  refine ⟨_, _, rfl, ?_, ?_, ?_⟩
  · exact (below_box0 w _).trans ((below_box0 _ _).mono (by simp))
  · exact ((below_box0 (w.alloc _) _).block _ (blk_lt (heap_alloc_new w _))).trans (heap_alloc_new w _)
  · have := heap_alloc_new (w.alloc (.cells ltrC 9)) (.cells secC 2)
    simpa using this
theorem ltr_cell {W : World} {a : Nat} (h : W.heap[a]? = some (.cells ltrC 9 (0, 0))) {k : Nat} (hk : k < 4) : W.cell? ⟨a, k, none⟩ = some (.string ⟨#[ltr k]⟩) := by
  rw [cell_of_block h]
  match k, hk with
  | 0, _ => rfl
  | 1, _ => rfl
  | 2, _ => rfl
  | 3, _ => rfl
theorem sec_cell {W : World} {b : Nat} (h : W.heap[b]? = some (.cells secC 2 (0, 0))) {k : Nat} (hk : k < 4) : W.cell? ⟨b, k, none⟩ = some (.int .i64 (sec k : Int)) := by
  rw [cell_of_block h]
  match k, hk with
  | 0, _ => rfl
  | 1, _ => rfl
  | 2, _ => rfl
  | 3, _ => rfl
set_option maxRecDepth 100000 in
set_option maxHeartbeats 1600000 in
theorem spanR_ok (t : Int) (w : World) : Calls Tryd.prog 7 #[.int .i64 t] w fun e w' => (∃ S : ByteArray, e = .returned (.tuple #[.string S, .int .i64 (if tmB t = true then 0 else 7)]) ∧ S.data.toList = (if tmB t = true then spanL t.toNat else [])) ∧ Below w.heap.size w w' := by
  have HT := Lib.hid (rtime_ok t)
  cases ht : tmB t
  · rw [ht] at HT
    go_enter Tryd.func7, Tryd.ntmps7
    go_wp2_with fail
    refine (HT.out _).mono ?_
    rintro e w1 ⟨rfl, rfl⟩
    go_wp2_with fail
    go_ret2
    exact ⟨⟨_, rfl, rfl⟩, Below.refl _ _⟩
  · rw [ht] at HT
    obtain ⟨t0, t1⟩ := tmB_yes.1 ht
    obtain ⟨n, rfl⟩ : ∃ n : Nat, t = (n : Int) := ⟨t.toNat, by omega⟩
    clear ht
    go_enter Tryd.func7, Tryd.ntmps7
    go_wp2_with fail
    refine (HT.out _).mono ?_
    rintro e w1 ⟨rfl, hw1⟩
    subst hw1
    go_wp2_with fail
    refine (runits_ok _).mono ?_
    rintro e w1 ⟨a, b, rfl, b1, ha, hb⟩
    have HB0 := Lib.hid b1
    have HA0 := Lib.hid ha
    have HS0 := Lib.hid hb
    clear b1 ha hb HT
    go_wp2_with fail
    go_loopw [0, 6, 7] (fun T s i wr => ∃ (k m : Nat) (S : ByteArray) (l : List UInt8), i = .int .i64 (k : Int) ∧ T = .int .i64 (m : Int) ∧ s = .string S ∧ k ≤ 4 ∧ m ≤ 1000000000000 ∧ l.length ≤ 21 * k ∧ Hid (S.data.toList = l) ∧ Hid (l ++ spF (4 - k) m = spF 4 n) ∧ Hid (Below w.heap.size w wr) ∧ Hid (wr.heap[a]? = some (.cells ltrC 9 (0, 0))) ∧ Hid (wr.heap[b]? = some (.cells secC 2 (0, 0)))) (fun _ _ i _ => 4 - (intOf i).toNat)
    case atStart => exact ⟨0, n, ⟨#[]⟩, [], rfl, rfl, rfl, by omega, by omega, by simp, Lib.hid rfl, Lib.hid rfl, HB0, HA0, HS0⟩
    case round =>
      clear HB0 HA0 HS0
      obtain ⟨k, m, S, l, rfl, rfl, rfl, hk, hm, hll, HSl, HS, HB, HLC, HSC⟩ := hrel
      by_cases hlt : k < 4
      · have hs1 := sec_pos k
        have hsm := spF_small (j := 3 - k) (t := m)
        have hst := spF_step (j := 3 - k) (t := m)
        rw [show 3 - (3 - k) = k by omega, show 3 - k + 1 = 4 - k by omega] at hsm hst
        have cs := sec_cell HSC.out hlt
        have cl := ltr_cell HLC.out hlt
        have hC : ∀ w', Below wr.heap.size wr w' → w'.cell? ⟨b, k, none⟩ = some (.int .i64 (sec k : Int)) ∧ w'.cell? ⟨a, k, none⟩ = some (.string ⟨#[ltr k]⟩) := fun w' hb => ⟨cell_later hb cs, cell_later hb cl⟩
        obtain ⟨lk, hlk⟩ : ∃ c, ltr k = c := ⟨_, rfl⟩
        obtain ⟨zs, hzs⟩ : ∃ z, sec k = z := ⟨_, rfl⟩
        rw [hzs] at hs1 hsm hst cs hC
        rw [hlk] at hst hC
        have HC := Lib.hid hC
        have hz0 : ((zs : Int) == 0) = false := by simp; omega
        have hz00 : ¬ zs = 0 := by omega
        obtain ⟨q, hq⟩ : ∃ q, m / zs = q := ⟨_, rfl⟩
        obtain ⟨r, hr⟩ : ∃ r, m % zs = r := ⟨_, rfl⟩
        have hqm : q ≤ m := by rw [← hq]; exact Nat.div_le_self _ _
        have hrm : r ≤ m := by rw [← hr]; exact Nat.mod_le _ _
        rw [hq, hr] at hst
        have e3 : (m : Int) / (zs : Int) = (q : Int) := by rw [← hq]; rfl
        have e4 : (m : Int) % (zs : Int) = (r : Int) := by rw [← hr]; rfl
        have e5 : IntKind.i64.wrap ((m : Int) / (zs : Int)) = (q : Int) := by rw [e3]; exact IntWalk.i64_in _ (by omega)
        have e1 : IntKind.i64.wrap ((m : Int).tdiv (zs : Int)) = (q : Int) := by
          rw [show ((m : Int)).tdiv (zs : Int) = ((m / zs : Nat) : Int) from rfl, hq]; exact IntWalk.i64_in _ (by omega)
        have e7 : IntKind.i64.wrap (q : Int) = (q : Int) := IntWalk.i64_in _ (by omega)
        clear hlk cl hC
        by_cases hge : zs ≤ m
        · have hq0 : 0 < q := by rw [← hq]; exact Nat.div_pos hge hs1
          have dge : decide ((zs : Int) ≤ (m : Int)) = true := decide_eq_true (by omega)
          have hS := HS.out
          rw [hst hq0] at hS
          have hS2 : (l ++ Lib.decDigits q ++ [lk]) ++ spF (4 - (k + 1)) r = spF 4 n := by
            rw [← hS, show 4 - (k + 1) = 3 - k by omega]; simp
          have HS2 := Lib.hid hS2
          have hdl := dec_len (n := q) (by omega)
          have hfd := fun W => rdig_ok (q : Int) W (by omega) (by omega)
          rw [Lib.itoa_nonneg] at hfd
          obtain ⟨D, hD⟩ : ∃ D, Lib.decDigits q = D := ⟨_, rfl⟩
          rw [hD] at hfd HS2 hdl
          have HF := Lib.hid hfd
          have hSs := len_of HSl.out
          have hz1 : (9223372036854775807 < S.size + D.length) = False := by simp; omega
          have hz2 : (9223372036854775807 < S.size + D.length + 1) = False := by simp; omega
          clear hS hS2 hst hsm hq hr hfd hD
          go_wp2_with fail
          go_region_held3 (fun w' => Below wr.heap.size wr w' ∧ w'.cell? ⟨b, k, none⟩ = some (.int .i64 (zs : Int)) ∧ w'.cell? ⟨a, k, none⟩ = some (.string ⟨#[lk]⟩))
            ((refine keepN HC ?_; first | exact (Below.refl _ _).drew | exact And.left (by assumption) | exact bel_call (by assumption) (by assumption)))
            (first
              | (go_at_call 29; (refine (HF.out _).mono ?_); rintro e w3 ⟨rfl, b3⟩; have g3 : Hid (Below wr.heap.size wr w3) := Lib.hid (bel_call (by assumption) b3)))
          rename_i hHeld
          have k3 := hHeld.2.1
          have HLC3 := Lib.hid ((g3.out.block _ (blk_lt HLC.out)).trans HLC.out)
          have HSC3 := Lib.hid ((g3.out.block _ (blk_lt HSC.out)).trans HSC.out)
          have HB3 := Lib.hid (HB.out.trans (g3.out.mono HB.out.size))
          clear hHeld b3 g3 HLC HSC HB HC cs HF
          go_wp2_with fail
          go_roundw
          case rel => exact ⟨k + 1, r, S ++ ⟨D.toArray⟩ ++ ⟨#[lk]⟩, l ++ D ++ [lk], by go_num, by rw [e4], rfl, by omega, by omega, by rw [List.length_append, List.length_append, List.length_singleton]; omega, Lib.hid (by simp [← HSl.out]), HS2, HB3, HLC3, HSC3⟩
          case measure => simp [intOf]; omega
        · have dge : decide ((zs : Int) ≤ (m : Int)) = false := decide_eq_false (by omega)
          have hS := HS.out
          rw [hsm (by omega)] at hS
          have HS2 : Hid (l ++ spF (4 - (k + 1)) m = spF 4 n) := Lib.hid (by rw [show 4 - (k + 1) = 3 - k by omega]; exact hS)
          clear hS hst hsm hq hr
          go_wp2_with fail
          go_roundw
          case rel => exact ⟨k + 1, m, S, l, by go_num, rfl, rfl, by omega, by omega, by omega, HSl, HS2, HB, HLC, HSC⟩
          case measure => simp [intOf]; omega
      · obtain rfl : k = 4 := by omega
        have h4 := HS.out
        rw [Nat.sub_self, spF_zero, List.append_nil] at h4
        have hem := empty_nil HSl.out
        have hnz : l = [] ↔ n = 0 := by
          rw [h4]
          exact ⟨fun e => spF_nil 3 e, fun e => by rw [e]; exact spF_of0 4⟩
        by_cases hn : n = 0
        · rw [decide_eq_true (hnz.2 hn)] at hem
          clear h4
          go_wp2_with fail
          go_ret2
          refine ⟨⟨_, rfl, ?_⟩, HB.out⟩
          subst hn; rfl
        · rw [decide_eq_false (fun e => hn (hnz.1 e))] at hem
          clear hnz
          go_wp2_with fail
          go_ret2
          refine ⟨⟨_, rfl, ?_⟩, HB.out⟩
          rw [HSl.out, h4]
          unfold spanL
          rw [if_neg hn]
end Go.Proofs.YtmgpdaljminipaaDoor
