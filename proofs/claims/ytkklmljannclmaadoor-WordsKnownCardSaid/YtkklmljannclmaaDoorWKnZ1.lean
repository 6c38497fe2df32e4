/- Words: the values of the law of the known answers. | Words: the law of the known answers. | WordsKnown returns true for every input, on every schedule; its arguments read afterwards as they read before. No condition beyond the row's own. -/
import Derived.Test.YtkklmljannclmaaDoorWHZ1
import Derived.Test.YtkklmljannclmaaDoorWZ9
namespace Go.Proofs.YtkklmljannclmaaDoor
open Go.RowKit Go.Sort Go.Joins Go.Shelf

def knL : Nat → List Int
  | 0 => [4, 4, 4, 4]
  | 1 => [1, 2]
  | 2 => [10, 10]
  | 3 => [0, 0]
  | 4 => []
  | 5 => [10000]
  | _ => [-1]
def knT : Nat → List UInt8
  | 0 => [52, 120, 52]
  | 1 => [49, 44, 50]
  | 2 => [50, 120, 49, 48]
  | 3 => [48, 44, 48]
  | _ => []
def knW : Nat → List UInt8
  | 0 => [49, 44, 44, 50]
  | 1 => [51, 45, 51]
  | 2 => [49, 120, 52]
  | 3 => [49, 48, 48, 48, 48]
  | _ => [53, 48, 49, 120, 48]
def knE : Nat → Int
  | 3 => 7
  | 4 => 3
  | _ => 6
theorem kn_list : ∀ k, k < 7 → lstL (knL k) = knT k := by decide +kernel
theorem kn_listE : ∀ k, k < 7 → lstE (knL k) = if k < 5 then 0 else 7 := by decide +kernel
theorem kn_text : ∀ k, k < 5 → plE (knW k) = knE k := by decide +kernel
theorem kn_textL : ∀ k, k < 5 → plL (knW k) = [] := by decide +kernel
theorem kn_unq : unqE [34, 97] = 6 := by decide +kernel
theorem kn_spl1 : splE [97, 32, 32, 98] = 6 := by decide +kernel
theorem kn_spl1R : splR [97, 32, 32, 98] = [] := by decide +kernel
theorem kn_spl2 : splE [97, 34, 98] = 6 := by decide +kernel
theorem kn_int : intE [53] 9 0 = 2 := by decide +kernel
theorem kn_hex : hxL [0, 10, 255] = [48, 48, 48, 97, 102, 102] := by decide +kernel
theorem kn_hexE : hxE [0, 10, 255] = 0 := by decide +kernel
theorem kn_px1 : pxE [48, 97, 70, 70] = 6 := by decide +kernel
theorem kn_px2 : pxE [48, 97, 49] = 6 := by decide +kernel
end Go.Proofs.YtkklmljannclmaaDoor

namespace Go.Proofs.YtkklmljannclmaaDoor
open Go.RowKit Go.Sort Go.Joins Go.Shelf
attribute [local go_sem] cell_grow frozen_grow size_grow

theorem heap_al {w : World} {o x : Obj} {k : Nat} (h : w.heap[k]? = some x) : (w.alloc o).heap[k]? = some x :=
  (Below.heap_alloc w o k (blk_lt h)).trans h
theorem heap_at {w : World} {o : Obj} {k : Nat} (h : k = w.heap.size) : (w.alloc o).heap[k]? = some o := by
  subst h; exact heap_alloc_new w o

def knWorld (w : World) : World := ((((((((w.alloc (.cells #[.int .i64 4, .int .i64 4, .int .i64 4, .int .i64 4] 3)).alloc (.cells #[.int .i64 1, .int .i64 2] 3)).alloc (.cells #[.int .i64 10, .int .i64 10] 3)).alloc (.cells #[.int .i64 0, .int .i64 0] 3)).alloc (.cells #[.int .i64 10000] 3)).alloc (.cells #[.int .i64 (-1)] 3)).alloc (.cells #[.slice (some ⟨w.heap.size, 0, none⟩) 4 4, .slice (some ⟨w.heap.size + 1, 0, none⟩) 2 2, .slice (some ⟨w.heap.size + 1 + 1, 0, none⟩) 2 2, .slice (some ⟨w.heap.size + 1 + 1 + 1, 0, none⟩) 2 2, .slice none 0 0, .slice (some ⟨w.heap.size + 1 + 1 + 1 + 1, 0, none⟩) 1 1, .slice (some ⟨w.heap.size + 1 + 1 + 1 + 1 + 1, 0, none⟩) 1 1] 60)).alloc (.cells #[.string ⟨#[52, 120, 52]⟩, .string ⟨#[49, 44, 50]⟩, .string ⟨#[50, 120, 49, 48]⟩, .string ⟨#[48, 44, 48]⟩, .string ⟨#[]⟩, .string ⟨#[]⟩, .string ⟨#[]⟩] 61))
def knWorld2 (w : World) : World := ((w.alloc (.cells #[.string ⟨#[49, 44, 44, 50]⟩, .string ⟨#[51, 45, 51]⟩, .string ⟨#[49, 120, 52]⟩, .string ⟨#[49, 48, 48, 48, 48]⟩, .string ⟨#[53, 48, 49, 120, 48]⟩] 62)).alloc (.cells #[.int .i64 6, .int .i64 6, .int .i64 6, .int .i64 7, .int .i64 3] 63))
set_option maxRecDepth 100000 in
theorem knWorld_at (w : World) (k : Nat) (hk : k < 7) : ∃ (a : Option Addr) (c : Nat) (S : ByteArray), (knWorld w).cell? ⟨w.heap.size + 1 + 1 + 1 + 1 + 1 + 1, k, none⟩ = some (.slice a (knL k).length c) ∧ SlN (knWorld w) a (knL k) ∧ (knL k).length ≤ c ∧ (knWorld w).cell? ⟨w.heap.size + 1 + 1 + 1 + 1 + 1 + 1 + 1, k, none⟩ = some (.string S) ∧ S.data.toList = knT k := by
  have h6 : (knWorld w).heap[w.heap.size + 1 + 1 + 1 + 1 + 1 + 1]? = some (.cells #[.slice (some ⟨w.heap.size, 0, none⟩) 4 4, .slice (some ⟨w.heap.size + 1, 0, none⟩) 2 2, .slice (some ⟨w.heap.size + 1 + 1, 0, none⟩) 2 2, .slice (some ⟨w.heap.size + 1 + 1 + 1, 0, none⟩) 2 2, .slice none 0 0, .slice (some ⟨w.heap.size + 1 + 1 + 1 + 1, 0, none⟩) 1 1, .slice (some ⟨w.heap.size + 1 + 1 + 1 + 1 + 1, 0, none⟩) 1 1] 60 (0, 0)) := heap_al (heap_at (by simp))
  have h7 : (knWorld w).heap[w.heap.size + 1 + 1 + 1 + 1 + 1 + 1 + 1]? = some (.cells #[.string ⟨#[52, 120, 52]⟩, .string ⟨#[49, 44, 50]⟩, .string ⟨#[50, 120, 49, 48]⟩, .string ⟨#[48, 44, 48]⟩, .string ⟨#[]⟩, .string ⟨#[]⟩, .string ⟨#[]⟩] 61 (0, 0)) := heap_at (by simp)
  match k, hk with
  | 0, _ => exact ⟨some ⟨w.heap.size, 0, none⟩, 4, ⟨#[52, 120, 52]⟩, (cell_of_block h6 _).trans rfl, SlN.ints_ (vs := knL 0) (heap_al (heap_al (heap_al (heap_al (heap_al (heap_al (heap_al (heap_at (by simp))))))))), by decide, (cell_of_block h7 _).trans rfl, rfl⟩
  | 1, _ => exact ⟨some ⟨w.heap.size + 1, 0, none⟩, 2, ⟨#[49, 44, 50]⟩, (cell_of_block h6 _).trans rfl, SlN.ints_ (vs := knL 1) (heap_al (heap_al (heap_al (heap_al (heap_al (heap_al (heap_at (by simp)))))))), by decide, (cell_of_block h7 _).trans rfl, rfl⟩
  | 2, _ => exact ⟨some ⟨w.heap.size + 1 + 1, 0, none⟩, 2, ⟨#[50, 120, 49, 48]⟩, (cell_of_block h6 _).trans rfl, SlN.ints_ (vs := knL 2) (heap_al (heap_al (heap_al (heap_al (heap_al (heap_at (by simp))))))), by decide, (cell_of_block h7 _).trans rfl, rfl⟩
  | 3, _ => exact ⟨some ⟨w.heap.size + 1 + 1 + 1, 0, none⟩, 2, ⟨#[48, 44, 48]⟩, (cell_of_block h6 _).trans rfl, SlN.ints_ (vs := knL 3) (heap_al (heap_al (heap_al (heap_al (heap_at (by simp)))))), by decide, (cell_of_block h7 _).trans rfl, rfl⟩
  | 4, _ => exact ⟨none, 0, ⟨#[]⟩, (cell_of_block h6 _).trans rfl, .inl rfl, by decide, (cell_of_block h7 _).trans rfl, rfl⟩
  | 5, _ => exact ⟨some ⟨w.heap.size + 1 + 1 + 1 + 1, 0, none⟩, 1, ⟨#[]⟩, (cell_of_block h6 _).trans rfl, SlN.ints_ (vs := knL 5) (heap_al (heap_al (heap_al (heap_at (by simp))))), by decide, (cell_of_block h7 _).trans rfl, rfl⟩
  | 6, _ => exact ⟨some ⟨w.heap.size + 1 + 1 + 1 + 1 + 1, 0, none⟩, 1, ⟨#[]⟩, (cell_of_block h6 _).trans rfl, SlN.ints_ (vs := knL 6) (heap_al (heap_al (heap_at (by simp)))), by decide, (cell_of_block h7 _).trans rfl, rfl⟩
set_option maxRecDepth 100000 in
theorem knWorld2_at (w : World) (k : Nat) (hk : k < 5) : ∃ (S : ByteArray), (knWorld2 w).cell? ⟨w.heap.size, k, none⟩ = some (.string S) ∧ S.data.toList = knW k ∧ (knWorld2 w).cell? ⟨w.heap.size + 1, k, none⟩ = some (.int .i64 (knE k)) := by
  have h6 : (knWorld2 w).heap[w.heap.size]? = some (.cells #[.string ⟨#[49, 44, 44, 50]⟩, .string ⟨#[51, 45, 51]⟩, .string ⟨#[49, 120, 52]⟩, .string ⟨#[49, 48, 48, 48, 48]⟩, .string ⟨#[53, 48, 49, 120, 48]⟩] 62 (0, 0)) := heap_al (heap_at (by simp))
  have h7 : (knWorld2 w).heap[w.heap.size + 1]? = some (.cells #[.int .i64 6, .int .i64 6, .int .i64 6, .int .i64 7, .int .i64 3] 63 (0, 0)) := heap_at (by simp)
  match k, hk with
  | 0, _ => exact ⟨⟨#[49, 44, 44, 50]⟩, (cell_of_block h6 _).trans rfl, rfl, (cell_of_block h7 _).trans rfl⟩
  | 1, _ => exact ⟨⟨#[51, 45, 51]⟩, (cell_of_block h6 _).trans rfl, rfl, (cell_of_block h7 _).trans rfl⟩
  | 2, _ => exact ⟨⟨#[49, 120, 52]⟩, (cell_of_block h6 _).trans rfl, rfl, (cell_of_block h7 _).trans rfl⟩
  | 3, _ => exact ⟨⟨#[49, 48, 48, 48, 48]⟩, (cell_of_block h6 _).trans rfl, rfl, (cell_of_block h7 _).trans rfl⟩
  | 4, _ => exact ⟨⟨#[53, 48, 49, 120, 48]⟩, (cell_of_block h6 _).trans rfl, rfl, (cell_of_block h7 _).trans rfl⟩
theorem knWorld_below (w : World) : Below w.heap.size w (knWorld w) := (((((((((Below.refl _ _).alloc (Nat.le_refl _) _).alloc (by simp only [World.size_alloc]; omega) _).alloc (by simp only [World.size_alloc]; omega) _).alloc (by simp only [World.size_alloc]; omega) _).alloc (by simp only [World.size_alloc]; omega) _).alloc (by simp only [World.size_alloc]; omega) _).alloc (by simp only [World.size_alloc]; omega) _).alloc (by simp only [World.size_alloc]; omega) _)
theorem knWorld2_below (w : World) : Below w.heap.size w (knWorld2 w) := (((Below.refl _ _).alloc (Nat.le_refl _) _).alloc (by simp only [World.size_alloc]; omega) _)

set_option maxRecDepth 100000 in
set_option maxHeartbeats 6400000 in
theorem law_known1 (w : World) (hT : T1 w) : Calls Tryd.prog 12 #[] w fun e w' => e = .returned (.bool true) ∧ Below w.heap.size w w' := by
  have HT := Lib.hid hT
  have HK := Lib.hid (knWorld_at w)
  have HKB := Lib.hid (knWorld_below w)
  obtain ⟨W, hW⟩ : ∃ W, knWorld w = W := ⟨_, rfl⟩
  rw [hW] at HK HKB
  unfold knWorld at hW
  have HWW := Lib.hid hW
  clear hT hW
  go_enter Tryd.func12, Tryd.ntmps12
  go_upto_region 3 with fail
  rw [HWW.out]
  obtain ⟨g6, hg6⟩ : ∃ g, w.heap.size + 1 + 1 + 1 + 1 + 1 + 1 = g := ⟨_, rfl⟩
  obtain ⟨g7, hg7⟩ : ∃ g, w.heap.size + 1 + 1 + 1 + 1 + 1 + 1 + 1 = g := ⟨_, rfl⟩
  rw [hg7, hg6]
  rw [hg7, hg6] at HK
  clear HWW hg6 hg7
  go_wp2
  go_loopw [3] (fun i wr => ∃ (k : Nat), i = .int .i64 (k : Int) ∧ k ≤ 7 ∧ Hid (Below W.heap.size W wr)) (fun i _ => 7 - (intOf i).toNat)
  case atStart => exact ⟨0, rfl, by omega, Lib.hid (Below.refl _ _)⟩
  case round =>
    obtain ⟨k, rfl, hk, HB⟩ := hrel
    by_cases hlt : k < 7
    · obtain ⟨a, c, S, g1, hs, hc, g2, hS⟩ := HK.out k hlt
      have g1 := (HB.out.cell (World.block_lt_of_cell? _ _ g1)).trans g1
      have g2 := (HB.out.cell (World.block_lt_of_cell? _ _ g2)).trans g2
      have HS := Lib.hid (hs.below HB.out)
      have HC := Lib.hid hc
      have HST := Lib.hid hS
      have hv := kn_list k hlt
      have he := kn_listE k hlt
      obtain ⟨n, hn⟩ : ∃ n, (knL k).length = n := ⟨_, rfl⟩
      have hn4 : n ≤ 4 := by rw [← hn]; exact (show ∀ k, k < 7 → (knL k).length ≤ 4 by decide) k hlt
      have HW := Lib.hid (fun W' h => wlist_ok (knL k) a c W' (HS.out.below h) HC.out (((HT.out.below HKB.out).below HB.out).below h) (by omega))
      rw [hn] at g1 HW
      rw [hv, he] at HW
      have d7 : decide ((k : Int) < 7) = true := decide_eq_true (by omega)
      have hk0 : (0 : Int) ≤ (k : Int) := by omega
      have hb1 := World.block_lt_of_cell? _ _ g1
      have hb2 := World.block_lt_of_cell? _ _ g2
      dsimp only at hb1 hb2
      clear hs hc hS hv he hn hn4 HS HC
      by_cases h5 : k < 5
      · have d5 : decide ((k : Int) < 5) = true := decide_eq_true (by omega)
        have d6 : decide ((5 : Int) ≤ (k : Int)) = false := decide_eq_false (by omega)
        rw [if_pos h5] at HW
        clear h5
        go_wp2_with fail
        refine (HW.out _ (Below.refl _ _)).mono ?_
        rintro e w1 ⟨S1, rfl, h1, b1⟩
        obtain rfl : S1 = S := by rw [ba_lit h1, ba_lit HST.out]
        have g2 := (b1.cell hb2).trans g2
        have HB1 := Lib.hid (HB.out.trans (b1.mono HB.out.size))
        clear b1 h1 g1 hb1 hb2
        go_wp2_with fail
        go_roundw
        case rel => exact ⟨k + 1, by go_num, by omega, HB1⟩
        case measure => simp [intOf]; omega
      · have d5 : decide ((k : Int) < 5) = false := decide_eq_false (by omega)
        have d6 : decide ((5 : Int) ≤ (k : Int)) = true := decide_eq_true (by omega)
        rw [if_neg h5] at HW
        clear h5
        go_wp2_with fail
        refine (HW.out _ (Below.refl _ _)).mono ?_
        rintro e w1 ⟨S1, rfl, h1, b1⟩
        obtain rfl : S1 = S := by rw [ba_lit h1, ba_lit HST.out]
        have g2 := (b1.cell hb2).trans g2
        have HB1 := Lib.hid (HB.out.trans (b1.mono HB.out.size))
        clear b1 h1 g1 hb1 hb2
        go_wp2_with fail
        go_roundw
        case rel => exact ⟨k + 1, by go_num, by omega, HB1⟩
        case measure => simp [intOf]; omega
    · have d7 : decide ((k : Int) < 7) = false := decide_eq_false (by omega)
      have HBA := Lib.hid (HKB.out.trans (HB.out.mono HKB.out.size))
      clear HB HK HKB hlt hk
      have HK := Lib.hid (knWorld2_at wr)
      have HKB := Lib.hid (knWorld2_below wr)
      obtain ⟨V, hV⟩ : ∃ W, knWorld2 wr = W := ⟨_, rfl⟩
      rw [hV] at HK HKB
      unfold knWorld2 at hV
      have HVV := Lib.hid hV
      clear hV
      go_upto_region 11 with fail
      rw [HVV.out]
      have HBV := Lib.hid (HBA.out.trans (HKB.out.mono HBA.out.size))
      obtain ⟨g6, hg6⟩ : ∃ g, wr.heap.size = g := ⟨_, rfl⟩
      rw [hg6]
      rw [hg6] at HK
      clear HVV hg6 HBA HKB
      go_wp2
      go_loopw [8] (fun i wr => ∃ (k : Nat), i = .int .i64 (k : Int) ∧ k ≤ 5 ∧ Hid (Below V.heap.size V wr)) (fun i _ => 5 - (intOf i).toNat)
      case atStart => exact ⟨0, rfl, by omega, Lib.hid (Below.refl _ _)⟩
      case round =>
        obtain ⟨k, rfl, hk, HB⟩ := hrel
        have HBW := Lib.hid (HBV.out.trans (HB.out.mono HBV.out.size))
        by_cases hlt : k < 5
        · obtain ⟨S, g1, hS, g2⟩ := HK.out k hlt
          have g1 := (HB.out.cell (World.block_lt_of_cell? _ _ g1)).trans g1
          have g2 := (HB.out.cell (World.block_lt_of_cell? _ _ g2)).trans g2
          have hsz : S.size ≤ 5 := by
            have := len_of hS
            have h5 := (show ∀ k, k < 5 → (knW k).length ≤ 5 by decide) k hlt
            omega
          have HP := Lib.hid (fun W' h => wparse_ok S (knW k) hS (by omega) W' ((HT.out.below HBW.out).below h).ml ((HT.out.below HBW.out).below h).tw)
          rw [kn_text k hlt, kn_textL k hlt] at HP
          obtain ⟨E, hE⟩ : ∃ E, knE k = E := ⟨_, rfl⟩
          rw [hE] at HP g2
          have d5 : decide ((k : Int) < 5) = true := decide_eq_true (by omega)
          have hk0 : (0 : Int) ≤ (k : Int) := by omega
          have hb2 := World.block_lt_of_cell? _ _ g2
          dsimp only at hb2
          clear hS hsz hE
          go_wp2_with fail
          refine (HP.out _ (Below.refl _ _)).mono ?_
          rintro e w1 ⟨a1, c1, rfl, _, b1⟩
          have g2 := (b1.cell hb2).trans g2
          have HB1 := Lib.hid (HB.out.trans (b1.mono HB.out.size))
          clear b1 g1 hb2
          go_wp2_with fail
          go_roundw
          case rel => exact ⟨k + 1, by go_num, by omega, HB1⟩
          case measure => simp [intOf]; omega
        · obtain rfl : k = 5 := by omega
          clear HB HK hlt hk HBV
          go_wp2_with fail
          refine (wunq_ok ⟨#[34, 97]⟩ [34, 97] rfl (by decide) _ (HT.out.below HBW.out).ml).mono ?_
          rintro e w1 ⟨S1, rfl, _, b1⟩
          rw [kn_unq]
          have HB1 := Lib.hid (HBW.out.trans (b1.mono HBW.out.size))
          clear b1 HBW
          go_wp2_with fail
          refine (wsplit_ok ⟨#[97, 32, 32, 98]⟩ [97, 32, 32, 98] rfl (by decide) _ (HT.out.below HB1.out).ml).mono ?_
          rintro e w2 ⟨a2, c2, rfl, _, b2⟩
          rw [kn_spl1, kn_spl1R]
          have HB2 := Lib.hid (HB1.out.trans (b2.mono HB1.out.size))
          clear b2 HB1
          go_wp2_with fail
          refine (wsplit_ok ⟨#[97, 34, 98]⟩ [97, 34, 98] rfl (by decide) _ (HT.out.below HB2.out).ml).mono ?_
          rintro e w3 ⟨a3, c3, rfl, _, b3⟩
          rw [kn_spl2]
          have HB3 := Lib.hid (HB2.out.trans (b3.mono HB2.out.size))
          clear b3 HB2
          go_wp2_with fail
          refine (wint_ok ⟨#[53]⟩ [53] rfl (by decide) 9 0 (by decide) (by decide) _ (HT.out.below HB3.out).tw).mono ?_
          rintro e w4 ⟨rfl, b4⟩
          rw [kn_int]
          have HB4 := Lib.hid (HB3.out.trans (b4.mono HB3.out.size))
          clear b4 HB3
          have HX := Lib.hid (whex_ok (some ⟨w4.heap.size, 0, none⟩) 3 [0, 10, 255] (w4.alloc (.cells #[.int .u8 0, .int .u8 10, .int .u8 255] 5)) (.inr ⟨_, 0, rfl, fun j hj => by
            rw [cell_of_block (heap_alloc_new w4 _)]
            match j, hj with
            | 0, _ => rfl
            | 1, _ => rfl
            | 2, _ => rfl⟩) (by decide))
          rw [kn_hex, kn_hexE] at HX
          go_wp2_with fail
          refine HX.out.mono ?_
          rintro e w5 ⟨rfl, b5⟩
          have HB5 := Lib.hid ((HB4.out.alloc HB4.out.size (.cells #[.int .u8 0, .int .u8 10, .int .u8 255] 5)).trans (b5.mono (by simp; have := HB4.out.size; omega)))
          clear b5 HB4 HX
          go_wp2_with fail
          refine (wphex_ok ⟨#[48, 97, 70, 70]⟩ [48, 97, 70, 70] rfl (by decide) _).mono ?_
          rintro e w6 ⟨a6, c6, rfl, _, b6⟩
          rw [kn_px1]
          have HB6 := Lib.hid (HB5.out.trans (b6.mono HB5.out.size))
          clear b6 HB5
          go_wp2_with fail
          refine (wphex_ok ⟨#[48, 97, 49]⟩ [48, 97, 49] rfl (by decide) _).mono ?_
          rintro e w7 ⟨a7, c7, rfl, _, b7⟩
          rw [kn_px2]
          have HB7 := Lib.hid (HB6.out.trans (b7.mono HB6.out.size))
          clear b7 HB6
          go_wp2_with fail
          refine (shown_ok _ (HT.out.below HB7.out)).mono ?_
          rintro e w8 ⟨rfl, b8⟩
          have HB8 := Lib.hid (HB7.out.trans (b8.mono HB7.out.size))
          clear b8
          go_wp2
          go_ret
          exact ⟨rfl, HB8.out⟩
end Go.Proofs.YtkklmljannclmaaDoor

namespace Go.Proofs.YtkklmljannclmaaDoor.wordsKnown
open Go.ChangeShapes Go.WideShapes Go.ChangeAt Go.RowKit

set_option maxRecDepth 100000 in
theorem contract (H : Type) (enc : TypeId × Value → H) (W : World) (base : Nat) (args : Array Value) (ds gs : List (DataW H)) (before : List MemPlace)
    (hval : ∀ (j : Nat) t v, Tryd.f12.params[j]? = some t → args[j]? = some v → Value.okWide Tryd.prog W .any base t v)
    (hW : DataW.Whole enc Tryd.prog Tryd.f12.params.toList Rows.wordsKnownSpec.vars false W args.toList ds gs before) (hL : laidMetH Tryd.prog Rows.wordsKnownRow.laid W) (hsh : W.ShapedOpen Tryd.prog) :
    Calls Tryd.prog 12 args W fun e W' => ∃ v, e = .returned v ∧ Rows.wordsKnownSpec.post enc Tryd.prog Tryd.f12 false true false false W args v W' := by
  have hW' := hW
  obtain ⟨p, q, hA0, hV, rfl, hfz, hnd⟩ := hW
  have hA : DataW.TrodAll enc Tryd.prog W 0 (fun _ => true) true Tryd.f12.params.toList args.toList ds p := hA0
  rw [Tryd.params12] at hA hval
  obtain ⟨hargs, rfl, rfl⟩ := trodAll_nil hA
  obtain rfl : args = #[] := by cases args; simp_all
  obtain ⟨rfl, rfl⟩ := trodVars_none hV
  refine (law_known1 W (t1_of hL hsh)).mono fun e W' ⟨he, hb⟩ => ?_
  exact ⟨_, he, law_post hW' rfl (by rw [Tryd.params12]; kernel_rfl) rfl rfl rfl rfl hb⟩

theorem laid_met (os : Os) : laidMet Tryd.prog Rows.wordsKnownRow.laid ((laidWorld os).forCall (fun _ _ => 0) ⟨#[], #[], []⟩).memory :=
  laidMet_of_run' 8 (by kernel_rfl) (by kernel_rfl)
theorem reads (os : Os) {H : Type} (enc : TypeId × Value → H) : ∃ places, DataW.whole enc Tryd.prog ((laidWorld os).forCall (fun _ _ => 0) ⟨#[], #[], []⟩).memory Tryd.f12.params.toList Rows.wordsKnownSpec.vars false #[].toList 8 = some ([], [], places) :=
  ⟨[], by kernel_rfl⟩

set_option maxRecDepth 100000 in
theorem lifted (os : Os) (started : os.Started) (H : Type) (enc : TypeId × Value → H) (F : Stop.Interp) :
    ReturnsInHanded {} Tryd.checked os 12 .any ((OpenSpec.ofChange Rows.wordsKnownSpec).preRow enc Tryd.prog Tryd.f12 Rows.wordsKnownRow.domain false Rows.wordsKnownRow.laid) (((OpenSpec.ofChange Rows.wordsKnownSpec).at F).post enc Tryd.prog Tryd.f12 false true false false) := by
  obtain ⟨places, hx⟩ := reads os enc
  refine returnsInHanded_of_row (C := Tryd.checked) (s := OpenSpec.ofChange Rows.wordsKnownSpec) own started (by kernel_rfl) Tryd.func12
    (witness_row_at (enc := enc) (C := Tryd.checked) false (laidWorld os) #[] rfl (by kernel_rfl) (by kernel_rfl) (by kernel_rfl)
      (OpenSpec.preRow_of_cond 8 hx (by kernel_rfl) (fun k hk => by cases hk) (by kernel_rfl) (laid_met os))) ?_
  intro W base args ds gs before hval hW _ _ _ hL hsh _
  exact contract H enc W base args ds gs before hval hW hL hsh

theorem said : Rows.WordsKnownSaid :=
  OpenClaim.holds_of_cond 12 Tryd.f12 rfl rfl rfl rfl rfl rfl rfl ⟨rfl, rfl, rfl, rfl, rfl⟩ rfl rfl rfl rfl rfl (by kernel_rfl) Tryd.func12 (by kernel_rfl)
    (of_decide_eq_true (by kernel_rfl)) (by unfold Func.isWrapper; first | (rw [if_pos (by decide +kernel)]; kernel_rfl) | (rw [if_neg (by decide +kernel)]; exact ⟨rfl, rfl⟩))
    (fun os started H enc _ F => by rw [OpenClaim.pre_eq_preRow]; exact lifted os started H enc F)

theorem plain (f : FuncId) (fn : Func) (hf : Tryd.pinned.checked.prog.funcNamed "polder/polderlaw01.WordsKnown" = some f) (hfn : Tryd.pinned.checked.prog.funcs[f]? = some fn) :
    true = Tryd.pinned.checked.prog.looks [] ∧ ∀ (j : Nat) t, fn.params[j]? = some t → Tryd.pinned.checked.prog.wantsStandIn t = false := by
  obtain rfl : f = 12 := Option.some.inj ((show Tryd.prog.funcNamed "polder/polderlaw01.WordsKnown" = some 12 by kernel_rfl).symm.trans hf) |>.symm
  obtain rfl : fn = Tryd.f12 := (Option.some.inj (Tryd.func12.symm.trans hfn)).symm
  refine ⟨by kernel_rfl, fun j t ht => ?_⟩
  rw [Tryd.params12] at ht
  simp at ht

/-- THE CARD. -/
theorem card : Rows.WordsKnownCardSaid :=
  Claim7.holds_tied_plain_at .later [] _ _ _ _ said (fun _ h => by cases h) (by kernel_rfl) (fun _ h => by cases h) wordsKnown_row_tie rfl ⟨rfl, rfl⟩ (by kernel_rfl) rfl plain (by kernel_rfl)
#print axioms card
end Go.Proofs.YtkklmljannclmaaDoor.wordsKnown
