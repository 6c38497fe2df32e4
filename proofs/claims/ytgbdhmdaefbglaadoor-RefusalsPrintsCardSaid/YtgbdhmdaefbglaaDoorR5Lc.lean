/- Refusals: Print of the reference; Print of a wrong plan. -/
import Derived.Test.YtgbdhmdaefbglaaDoorR5Ln
import Derived.BigRegion
import Derived.Deep.RegionHeld3
namespace Go.Proofs.YtgbdhmdaefbglaaDoor
open Go.RowKit Go.Sort Go.Joins Go.Shelf
attribute [local go_sem] cell_grow frozen_grow size_grow Oper.semAt_some

section
variable {w : World} {a : Option Addr} {n c : Nat} {R : Nat → Rl}
set_option maxRecDepth 100000 in
set_option maxHeartbeats 1600000 in
theorem print_bad (hS : SlR w a n R) (hn : n ≤ 9223372036854775807) (hp : pE n R ≠ 0) :
    Calls Tryd.prog 7 #[pV a n c] w fun e w' => e = .returned (.tuple #[.string ⟨#[]⟩, .int .i64 (pE n R)]) ∧ Below w.heap.size w w' := by
  have b0 := below_box0 w (.cells #[.slice a n c] 24)
  have HC := Lib.hid (rfchk_ok (c := c) (hS.below b0) hn)
  obtain ⟨E, hE⟩ : ∃ x, pE n R = x := ⟨_, rfl⟩
  rw [hE] at HC hp ⊢
  have d0 := bne0_true hp
  have HB := Lib.hid b0
  clear b0 hS hE
  go_enter Tryd.func7, Tryd.ntmps7
  go_wp2_with fail
  refine HC.out.mono ?_
  rintro e w1 ⟨rfl, b1⟩
  have HB1 := Lib.hid (below_tr HB.out b1)
  go_wp2_with fail
  go_ret2
  exact ⟨rfl, HB1.out⟩
set_option maxRecDepth 100000 in
set_option maxHeartbeats 1600000 in
theorem rprint_bad (hS : SlR w a n R) (hn : n ≤ 9223372036854775807) (hp : pE n R ≠ 0) :
    Calls Tryd.prog 8 #[pV a n c] w fun e w' => e = .returned (.tuple #[.string ⟨#[]⟩, .int .i64 (pE n R)]) ∧ Below w.heap.size w w' := by
  have b0 := below_box0 w (.cells #[.slice a n c] 24)
  have HC := Lib.hid (rchk_ok (c := c) (hS.below b0) hn)
  obtain ⟨E, hE⟩ : ∃ x, pE n R = x := ⟨_, rfl⟩
  rw [hE] at HC hp ⊢
  have d0 := bne0_true hp
  have HB := Lib.hid b0
  clear b0 hS hE
  go_enter Tryd.func8, Tryd.ntmps8
  go_wp2_with fail
  refine HC.out.mono ?_
  rintro e w1 ⟨rfl, b1⟩
  have HB1 := Lib.hid (below_tr HB.out b1)
  go_wp2_with fail
  go_ret2
  exact ⟨rfl, HB1.out⟩
set_option maxRecDepth 100000 in
set_option maxHeartbeats 4000000 in
theorem rprint_ok (hS : SlR w a n R) (hn : n ≤ 50) (hp : pE n R = 0) :
    Calls Tryd.prog 8 #[pV a n c] w fun e w' => e = .returned (.tuple #[.string ⟨(textB R n).toArray⟩, .int .i64 0]) ∧ Below w.heap.size w w' := by
  have b0 := below_box0 w (.cells #[.slice a n c] 24)
  have HC := Lib.hid (rchk_ok (c := c) (hS.below b0) (by omega))
  rw [hp] at HC
  have HR := Lib.hid (pE_zero hp).2
  have HS := Lib.hid hS
  have HB := Lib.hid b0
  have HP := Lib.hid (heap_alloc_new w (.cells #[.slice a n c] 24))
  clear b0 hS hp
  go_enter Tryd.func8, Tryd.ntmps8
  go_wp2_with fail
  refine HC.out.mono ?_
  rintro e w1 ⟨rfl, b1⟩
  have HB1 := Lib.hid (below_tr HB.out b1)
  have HP1 := Lib.hid ((b1.block _ (blk_lt HP.out)).trans HP.out)
  clear b1 HC HB HP
  go_wp2_with fail
  go_loopw [6, 7] (fun S i wr => ∃ (k : Nat) (T : ByteArray), i = .int .i64 (k : Int) ∧ S = .string T ∧ k ≤ n ∧ Hid (T.data.toList = textB R k) ∧ Hid (Below w.heap.size w wr) ∧ Hid (wr.heap[w.heap.size]? = some (.cells #[.slice a n c] 24 (0, 0)))) (fun _ i _ => n - (intOf i).toNat)
  case atStart => exact ⟨0, ⟨#[]⟩, rfl, rfl, Nat.zero_le _, Lib.hid rfl, HB1, HP1⟩
  case round =>
    clear HB1 HP1
    obtain ⟨k, T, rfl, rfl, hk, HT, HB, HP⟩ := hrel
    have kp : wr.cell? ⟨w.heap.size, 0, none⟩ = some (.slice a n c) := by rw [cell_of_block HP.out]; rfl
    by_cases hlt : k < n
    · obtain ⟨ba, oa, rfl, c0, c1, c2, c3⟩ := (HS.out.below HB.out).at_ hlt
      have hr := HR.out k hlt
      have htl := text_len (R := R) (k := k) (fun i hi => HR.out i (by omega))
      have hTs := len_of HT.out
      have hnext : textB R (k + 1) = textB R k ++ lineB (R k) := rfl
      obtain ⟨⟨K, F, E, M⟩, hRk⟩ : ∃ x, R k = x := ⟨_, rfl⟩
      rw [hRk] at c0 c1 c2 c3 hr hnext
      dsimp only at c0 c1 c2 c3
      obtain ⟨h1, h2, h3, h4, h5, h6, h7, h8, _⟩ := hr
      dsimp only at h1 h2 h3 h4 h5 h6 h7 h8
      obtain ⟨q, rfl⟩ := Int.eq_ofNat_of_zero_le h1
      have hq : q < 7 := by omega
      unfold lineB at hnext
      dsimp only at hnext
      rw [Int.toNat_natCast] at hnext
      have hnl := kname_len q hq
      have hNM := fun W (b : Nat) (h : W.heap[b]? = some (.cells nmRow 9 (0, 0))) => nm_cell (W := W) h hq
      obtain ⟨nm, hnm⟩ : ∃ x, kname q = x := ⟨_, rfl⟩
      rw [hnm] at hnl hNM hnext
      have hF := fun W => rdig_ok F W (by omega) (by omega)
      have hEd := fun W => rdig_ok E W (by omega) (by omega)
      have hMd := fun W => rdig_ok M W (by omega) (by omega)
      have lF := itoa_20 (n := F) (by omega) (by omega)
      have lE := itoa_20 (n := E) (by omega) (by omega)
      have lM := itoa_20 (n := M) (by omega) (by omega)
      obtain ⟨f, hf⟩ : ∃ x, Lib.itoa F = x := ⟨_, rfl⟩
      obtain ⟨e, he⟩ : ∃ x, Lib.itoa E = x := ⟨_, rfl⟩
      obtain ⟨m, hm⟩ : ∃ x, Lib.itoa M = x := ⟨_, rfl⟩
      rw [hf] at hF lF hnext
      rw [he] at hEd lE hnext
      rw [hm] at hMd lM hnext
      have HF := Lib.hid hF
      have HE := Lib.hid hEd
      have HM := Lib.hid hMd
      have HNM := Lib.hid hNM
      have HNX := Lib.hid hnext
      have z1 : (9223372036854775807 < T.size + nm.length) = False := by simp; omega
      have z2 : (9223372036854775807 < T.size + nm.length + 1) = False := by simp; omega
      have z3 : (9223372036854775807 < T.size + nm.length + 1 + f.length) = False := by simp; omega
      have z4 : (9223372036854775807 < T.size + nm.length + 1 + f.length + 1) = False := by simp; omega
      have z5 : (9223372036854775807 < T.size + nm.length + 1 + f.length + 7) = False := by simp; omega
      have z6 : (9223372036854775807 < T.size + nm.length + 1 + f.length + 7 + e.length) = False := by simp; omega
      have z7 : (9223372036854775807 < T.size + nm.length + 1 + f.length + 7 + e.length + 1) = False := by simp; omega
      have z8 : (9223372036854775807 < T.size + nm.length + 1 + f.length + 7 + e.length + 7) = False := by simp; omega
      have z9 : (9223372036854775807 < T.size + nm.length + 1 + f.length + 7 + e.length + 7 + m.length) = False := by simp; omega
      have z10 : (9223372036854775807 < T.size + nm.length + 1 + f.length + 7 + e.length + 7 + m.length + 1) = False := by simp; omega
      have bV := below_box0 wr (.cells #[.int .i64 (q : Int), .int .i64 F, .int .i64 E, .int .i64 M] 45)
      have HXB := Lib.hid (heap_alloc_new wr (.cells #[.int .i64 (q : Int), .int .i64 F, .int .i64 E, .int .i64 M] 45))
      have HBV := Lib.hid (HB.out.trans (bV.mono HB.out.size))
      have HPV := Lib.hid ((bV.block _ (blk_lt HP.out)).trans HP.out)
      clear bV hnext hF hEd hMd hf he hm hnm hNM hRk HB HP
      obtain ⟨V, hVd⟩ : ∃ W, wr.alloc (.cells #[.int .i64 (q : Int), .int .i64 F, .int .i64 E, .int .i64 M] 45) = W := ⟨_, rfl⟩
      rw [hVd] at HXB HBV HPV
      go_wp2_with fail
      clear hVd
      have v0 : V.cell? ⟨wr.heap.size, 0, none⟩ = some (.int .i64 (q : Int)) := by rw [cell_of_block HXB.out]; rfl
      have v1 : V.cell? ⟨wr.heap.size, 1, none⟩ = some (.int .i64 F) := by rw [cell_of_block HXB.out]; rfl
      have vl := blk_lt HXB.out
      go_region_with (first
        | (go_at_call 22; refine (rnames_ok _).mono ?_; rintro e w3 ⟨nb, rfl, hnb, b3⟩; have hx3 : Hid (w3.heap[wr.heap.size]? = some (.cells #[.int .i64 (q : Int), .int .i64 F, .int .i64 E, .int .i64 M] 45 (0, 0))) := Lib.hid ((b3.block wr.heap.size vl).trans HXB.out); have k0 : w3.cell? ⟨wr.heap.size, 0, none⟩ = some (.int .i64 (q : Int)) := (by rw [cell_of_block hx3.out]; rfl); have k1 : w3.cell? ⟨wr.heap.size, 1, none⟩ = some (.int .i64 F) := (by rw [cell_of_block hx3.out]; rfl); have kn := HNM.out w3 nb hnb; have g3 : Hid (Below V.heap.size V w3) := Lib.hid (below_tr (below_drew V) b3); have l3 := blk_lt hx3.out; have ln := blk_lt hnb)
        | (go_at_call 23; refine (HF.out _).mono ?_; rintro e w4 ⟨rfl, b4⟩; have hx4 : Hid (w4.heap[wr.heap.size]? = some (.cells #[.int .i64 (q : Int), .int .i64 F, .int .i64 E, .int .i64 M] 45 (0, 0))) := Lib.hid ((b4.block _ l3).trans hx3.out); have m0 : w4.cell? ⟨wr.heap.size, 0, none⟩ = some (.int .i64 (q : Int)) := (by rw [cell_of_block hx4.out]; rfl); have m1 : w4.cell? ⟨wr.heap.size, 1, none⟩ = some (.int .i64 F) := (by rw [cell_of_block hx4.out]; rfl); have kn4 := HNM.out w4 nb ((b4.block _ ln).trans hnb); have g4 : Hid (Below V.heap.size V w4) := Lib.hid (below_tr g3.out b4)))
      all_goals
        have HBc := Lib.hid (HBV.out.trans (g4.out.mono HBV.out.size))
        have HPc := Lib.hid ((g4.out.block _ (blk_lt HPV.out)).trans HPV.out)
        have hxc := (g4.out.block _ vl).trans HXB.out
        have k2 : w4.cell? ⟨wr.heap.size, 2, none⟩ = some (.int .i64 E) := by rw [cell_of_block hxc]; rfl
        have k3 : w4.cell? ⟨wr.heap.size, 3, none⟩ = some (.int .i64 M) := by rw [cell_of_block hxc]; rfl
        have HXc := Lib.hid hxc
        clear hxc
        by_cases hE0 : 0 < E
        · have dE : decide (0 < E) = true := decide_eq_true hE0
          by_cases hM0 : 0 < M
          · have dM : decide (0 < M) = true := decide_eq_true hM0
            go_wp2_with fail
            refine (HE.out _).mono ?_
            rintro e5 w5 ⟨rfl, b5⟩
            have hx5 := (b5.block _ (blk_lt HXc.out)).trans HXc.out
            have r3 : w5.cell? ⟨wr.heap.size, 3, none⟩ = some (.int .i64 M) := by rw [cell_of_block hx5]; rfl
            have HB5 := Lib.hid (below_tr HBc.out b5)
            have HP5 := Lib.hid ((b5.block _ (blk_lt HPc.out)).trans HPc.out)
            clear b5 hx5
            go_wp2_with fail
            refine (HM.out _).mono ?_
            rintro e6 w6 ⟨rfl, b6⟩
            have HB6 := Lib.hid (below_tr HB5.out b6)
            have HP6 := Lib.hid ((b6.block _ (blk_lt HP5.out)).trans HP5.out)
            clear b6
            go_wp2_with fail
            go_roundw
            case rel => exact ⟨k + 1, _, by go_num, rfl, by omega, Lib.hid (by rw [HNX.out, if_pos hE0, if_pos ⟨hE0, hM0⟩]; simp [HT.out]), HB6, HP6⟩
            case measure => simp [intOf]; omega
          · have dM : decide (0 < M) = false := decide_eq_false hM0
            go_wp2_with fail
            refine (HE.out _).mono ?_
            rintro e5 w5 ⟨rfl, b5⟩
            have hx5 := (b5.block _ (blk_lt HXc.out)).trans HXc.out
            have r3 : w5.cell? ⟨wr.heap.size, 3, none⟩ = some (.int .i64 M) := by rw [cell_of_block hx5]; rfl
            have HB5 := Lib.hid (below_tr HBc.out b5)
            have HP5 := Lib.hid ((b5.block _ (blk_lt HPc.out)).trans HPc.out)
            clear b5 hx5
            go_wp2_with fail
            go_roundw
            case rel => exact ⟨k + 1, _, by go_num, rfl, by omega, Lib.hid (by rw [HNX.out, if_pos hE0, if_neg (fun h => by omega)]; simp [HT.out]), HB5, HP5⟩
            case measure => simp [intOf]; omega
        · have dE : decide (0 < E) = false := decide_eq_false hE0
          go_wp2_with fail
          go_roundw
          case rel => exact ⟨k + 1, _, by go_num, rfl, by omega, Lib.hid (by rw [HNX.out, if_neg (by omega), if_neg (fun h => by omega)]; simp [HT.out]), HBc, HPc⟩
          case measure => simp [intOf]; omega
    · obtain rfl : k = n := by omega
      go_wp2_with fail
      go_ret2
      exact ⟨by rw [show T = ⟨(textB R k).toArray⟩ from ba_of HT.out]; rfl, HB.out⟩
end
end Go.Proofs.YtgbdhmdaefbglaaDoor
