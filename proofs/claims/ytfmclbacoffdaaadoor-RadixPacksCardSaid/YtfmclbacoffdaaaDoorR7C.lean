/- The radix map: needed. -/
import Derived.Test.YtfmclbacoffdaaaDoorR7B
namespace Go.Proofs.YtfmclbacoffdaaaDoor
open Go.RowKit Go.Sort Go.Joins
attribute [local go_sem] cell_grow frozen_grow size_grow
theorem needF_le (st : List Nd) : ∀ n p b s, needF st n p b s ≤ 2 * n
  | 0, _, _, _ => Nat.le_refl _
  | n + 1, p, b, s => by
    have ih := needF_le st n (p + 1) ((p / 64 : Nat) : Int) ((p / 8 : Nat) : Int)
    simp only [needF]
    split <;> split <;> omega
theorem needF_step (st : List Nd) (m p : Nat) (b s : Int) : needF st (m + 1) p b s = (if (((mdI st p : Int) == 0) && (((p : Int) / 64) != b)) = true then 1 else 0) + (if (((lfI st p : Int) == 0) && (((p : Int) / 8) != s)) = true then 1 else 0) + needF st m (p + 1) ((p : Int) / 64) ((p : Int) / 8) := by
  have e1 : ((p / 64 : Nat) : Int) = (p : Int) / 64 := by omega
  have e2 : ((p / 8 : Nat) : Int) = (p : Int) / 8 := by omega
  simp only [needF, e1, e2]
  congr 2
  · refine ite_congr' ?_
    simp
  · refine ite_congr' ?_
    simp
section
variable {w : World} {B p q : Nat} {st : List Nd} {m : Nat} {r : Nat → Bool}
set_option maxRecDepth 100000 in
set_option maxHeartbeats 3200000 in
theorem needed_ok (h : TM w B p q st m r) {f t : Nat} (hft : f ≤ t) (ht : t ≤ 1024) (hk : ∀ k, k < 16 → (st.getD 0 ndZ).kd k < st.length) :
    Calls Tryd.prog 54 #[.pointer (some ⟨p, 0, none⟩), .int .i64 f, .int .i64 t] w fun e w' => e = .returned (.int .i64 (needF st (t - f) f (-1) (-1))) ∧ ∃ n, w' = w.drewN n := by
  have H := Lib.hid h
  have hle := needF_le st (t - f) f (-1) (-1)
  obtain ⟨T, hT⟩ : ∃ T, needF st (t - f) f (-1) (-1) = T := ⟨_, rfl⟩
  rw [hT] at hle ⊢
  have HT := Lib.hid hT
  clear h hT
  go_enter Tryd.func54, Tryd.ntmps54
  go_wp2
  go_loopw [7, 8, 9, 10] (fun o b s i wr => ∃ (pg c : Nat) (bi si : Int), i = .int .i64 pg ∧ f ≤ pg ∧ pg ≤ t ∧ o = .int .i64 c ∧ b = .int .i64 bi ∧ s = .int .i64 si ∧ Hid (c + needF st (t - pg) pg bi si = T) ∧ Hid (∃ n, wr = w.drewN n)) (fun _ _ _ i _ => t - (intOf i).toNat)
  case atStart => exact ⟨f, 0, -1, -1, rfl, Nat.le_refl _, hft, rfl, rfl, rfl, Lib.hid (by rw [HT.out]; omega), Lib.hid ⟨0, rfl⟩⟩
  case round =>
    obtain ⟨pg, c, bi, si, rfl, hp1, hp2, rfl, rfl, rfl, HS, HB⟩ := hrel
    by_cases hlt : pg < t
    · have hbw : Below w.heap.size w wr := by obtain ⟨nn, hn⟩ := HB.out; rw [hn]; exact below_draw _ _
      have HLf := Lib.hid (leaf_ok (H.out.below hbw) pg (by omega) (hk (pg / 64) (by omega)))
      have hs := HS.out
      rw [show t - pg = (t - (pg + 1)) + 1 by omega, needF_step] at hs
      obtain ⟨md, hmd⟩ : ∃ z, mdI st pg = z := ⟨_, rfl⟩
      obtain ⟨lf, hlf⟩ : ∃ z, lfI st pg = z := ⟨_, rfl⟩
      rw [hmd, hlf] at HLf hs
      have i0 : (pg : Int) < (t : Int) := by omega
      obtain ⟨d1, h1⟩ : ∃ z, ((md : Int) == 0) = z := ⟨_, rfl⟩
      obtain ⟨d2, h2⟩ : ∃ z, ((pg : Int) / 64 != bi) = z := ⟨_, rfl⟩
      obtain ⟨d3, h3⟩ : ∃ z, ((lf : Int) == 0) = z := ⟨_, rfl⟩
      obtain ⟨d4, h4⟩ : ∃ z, ((pg : Int) / 8 != si) = z := ⟨_, rfl⟩
      rw [h1, h2, h3, h4] at hs
      have hw1 : IntKind.i64.wrap ((pg : Int) + 1) = (pg : Int) + 1 := IntWalk.i64_in _ (by omega)
      have hc : c ≤ T := by omega
      have hw2 : IntKind.i64.wrap ((c : Int) + 1) = (c : Int) + 1 := IntWalk.i64_in _ (by omega)
      have hw3 : IntKind.i64.wrap ((c : Int) + 1 + 1) = (c : Int) + 1 + 1 := IntWalk.i64_in _ (by omega)
      have HS2 := Lib.hid hs
      clear hs hmd hlf
      go_wp2_with fail
      refine HLf.out.mono ?_
      rintro e w1 ⟨rfl, n1, hn1⟩
      have HB1 : Hid (∃ n, w1 = w.drewN n) := Lib.hid (by obtain ⟨nn, hn⟩ := HB.out; rw [hn1]; exact drewN_of hn n1)
      clear hn1 hbw
      cases d1 <;> cases d2 <;> cases d3 <;> cases d4
      all_goals
        go_wp2
        go_roundw
        case rel =>
          first
            | exact ⟨pg + 1, c + 0, _, _, by go_num, by omega, by omega, by go_num, rfl, rfl, Lib.hid (by have := HS2.out; simp at this; omega), HB1⟩
            | exact ⟨pg + 1, c + 1, _, _, by go_num, by omega, by omega, by go_num, rfl, rfl, Lib.hid (by have := HS2.out; simp at this; omega), HB1⟩
            | exact ⟨pg + 1, c + 2, _, _, by go_num, by omega, by omega, by go_num, rfl, rfl, Lib.hid (by have := HS2.out; simp at this; omega), HB1⟩
        case measure => simp [intOf]; omega
    · obtain rfl : pg = t := by omega
      have hs := HS.out
      rw [Nat.sub_self] at hs
      have e : needF st 0 pg bi si = 0 := rfl
      have i0 : ¬ ((pg : Int) < (pg : Int)) := by omega
      have HC : Hid (c = T) := Lib.hid (by omega)
      clear hs e
      go_wp2
      go_ret
      exact ⟨by rw [← HC.out]; rfl, HB.out⟩
end
end Go.Proofs.YtfmclbacoffdaaaDoor
