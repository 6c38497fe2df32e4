/- Clocks: Span of a time of the examples. -/
import Derived.Test.YtmgpdaljminipaaDoorC9C
import Derived.Test.YtmgpdaljminipaaDoorTabs
namespace Go.Proofs.YtmgpdaljminipaaDoor
open Go.RowKit Go.Sort Go.Joins Go.Shelf
attribute [local go_sem] cell_grow frozen_grow size_grow

/-- the units, as cells -/
def unitL : List Value := [.int .u8 100, .int .i64 86400, .int .i64 0, .int .u8 104, .int .i64 3600, .int .i64 24, .int .u8 109, .int .i64 60, .int .i64 60, .int .u8 115, .int .i64 1, .int .i64 60]
/-- the tables that the program reads -/
structure T9 (w : World) : Prop where
  u : ∀ k, k < 12 → w.cell? ⟨0, k, none⟩ = some (unitL.getD k undef)
theorem T9.below {w w' : World} (h : T9 w) (hb : Below w.heap.size w w') : T9 w' := ⟨fun k hk => cell_later hb (h.u k hk)⟩
theorem T9.lt {w : World} (h : T9 w) : 0 < w.heap.size := World.block_lt_of_cell? _ _ (h.u 0 (by decide))
/-- a builder that holds a text -/
abbrev Bld (w : World) (b : Nat) (l : List UInt8) (wr : World) : Prop := Lib.IsBuilderF 63 5 w.heap.size b (Lib.byteCells l) wr
theorem wrStr {w wr : World} {b : Nat} {l s : List UInt8} {S : ByteArray} (hS : S.data.toList = s) (h : Bld w b l wr) (hl : l.length + s.length ≤ 1000000) (hB : Below w.heap.size w wr) :
    Calls Tryd.prog 23 #[.pointer (some ⟨b, 0, none⟩), .string S] wr fun e w' => ∃ v, e = .returned v ∧ Bld w b (l ++ s) w' ∧ Below w.heap.size wr w' ∧ Lib.OthersKept 5 (some b) wr w' := by
  have hs : S.size = s.length := by rw [← hS, Array.length_toList]; rfl
  refine (bldString w.heap.size b _ S wr h (by rw [Lib.byteCells_length]; omega) hB.size).mono ?_
  rintro e w' ⟨rfl, h1, h2, h3⟩
  refine ⟨_, rfl, .inr ?_, h2, h3⟩
  rw [Lib.byteCells_append, ← hS, ← Lib.strCells_eq]
  exact h1
theorem wrByte {w wr : World} {b : Nat} {l : List UInt8} (c : UInt8) (h : Bld w b l wr) (hl : l.length + 1 ≤ 1000000) (hB : Below w.heap.size w wr) :
    Calls Tryd.prog 25 #[.pointer (some ⟨b, 0, none⟩), .int .u8 (c.toNat : Int)] wr fun e w' => ∃ v, e = .returned v ∧ Bld w b (l ++ [c]) w' ∧ Below w.heap.size wr w' ∧ Lib.OthersKept 5 (some b) wr w' := by
  refine (bldByte w.heap.size b _ (c.toNat : Int) wr h (by rw [Lib.byteCells_length]; omega) hB.size).mono ?_
  rintro e w' ⟨rfl, h1, h2, h3⟩
  refine ⟨_, rfl, .inr ?_, h2, h3⟩
  rw [Lib.byteCells_append]
  exact h1
theorem fmt_one (w : World) : Calls Tryd.prog 24 #[.int .i64 1, .int .i64 10] w fun e w' => e = .returned (.string ⟨#[49]⟩) ∧ w = w' := by
  refine (Tryd.strconv_FormatInt_10_small 1 (by decide) w).mono ?_
  rintro e w' ⟨rfl, rfl⟩
  refine ⟨?_, rfl⟩
  rw [show Lib.decDigits 1 = [49] by decide +kernel]
abbrev unitsV : Value := .agg #[.int .u8 100, .int .i64 86400, .int .i64 0, .int .u8 104, .int .i64 3600, .int .i64 24, .int .u8 109, .int .i64 60, .int .i64 60, .int .u8 115, .int .i64 1, .int .i64 60]
theorem unit_0 (W : World) : (Instr.index 65 unitsV (.int .i64 0)).run Tryd.prog W = .ok (.agg #[.int .u8 100, .int .i64 86400, .int .i64 0]) W := by kernel_rfl
theorem unit_1 (W : World) : (Instr.index 65 unitsV (.int .i64 1)).run Tryd.prog W = .ok (.agg #[.int .u8 104, .int .i64 3600, .int .i64 24]) W := by kernel_rfl
theorem unit_2 (W : World) : (Instr.index 65 unitsV (.int .i64 2)).run Tryd.prog W = .ok (.agg #[.int .u8 109, .int .i64 60, .int .i64 60]) W := by kernel_rfl
theorem unit_3 (W : World) : (Instr.index 65 unitsV (.int .i64 3)).run Tryd.prog W = .ok (.agg #[.int .u8 115, .int .i64 1, .int .i64 60]) W := by kernel_rfl
theorem wrByteZ {w wr : World} {b : Nat} {l : List UInt8} {z : Int} (c : UInt8) (hz : (c.toNat : Int) = z) (h : Bld w b l wr) (hl : l.length + 1 ≤ 1000000) (hB : Below w.heap.size w wr) :
    Calls Tryd.prog 25 #[.pointer (some ⟨b, 0, none⟩), .int .u8 z] wr fun e w' => ∃ v, e = .returned v ∧ Bld w b (l ++ [c]) w' ∧ Below w.heap.size wr w' ∧ Lib.OthersKept 5 (some b) wr w' := by
  subst hz
  exact wrByte c h hl hB
set_option maxRecDepth 100000 in
set_option maxHeartbeats 1600000 in
theorem span_ok (w : World) (hT : T9 w) : Calls Tryd.prog 6 #[.int .i64 90061] w fun e w' => e = .returned (.tuple #[.string ⟨#[49, 100, 49, 104, 49, 109, 49, 115]⟩, .int .i64 0]) ∧ Below w.heap.size w w' := by
  have HT := Lib.hid (isTime_ok 90061)
  rw [show tmB 90061 = true by decide] at HT
  have hl := hT.lt
  have c0 : w.cell? ⟨0, 0, none⟩ = some (.int .u8 100) := hT.u 0 (by decide)
  have c1 : w.cell? ⟨0, 1, none⟩ = some (.int .i64 86400) := hT.u 1 (by decide)
  have c2 : w.cell? ⟨0, 2, none⟩ = some (.int .i64 0) := hT.u 2 (by decide)
  have c3 : w.cell? ⟨0, 3, none⟩ = some (.int .u8 104) := hT.u 3 (by decide)
  have c4 : w.cell? ⟨0, 4, none⟩ = some (.int .i64 3600) := hT.u 4 (by decide)
  have c5 : w.cell? ⟨0, 5, none⟩ = some (.int .i64 24) := hT.u 5 (by decide)
  have c6 : w.cell? ⟨0, 6, none⟩ = some (.int .u8 109) := hT.u 6 (by decide)
  have c7 : w.cell? ⟨0, 7, none⟩ = some (.int .i64 60) := hT.u 7 (by decide)
  have c8 : w.cell? ⟨0, 8, none⟩ = some (.int .i64 60) := hT.u 8 (by decide)
  have c9 : w.cell? ⟨0, 9, none⟩ = some (.int .u8 115) := hT.u 9 (by decide)
  have c10 : w.cell? ⟨0, 10, none⟩ = some (.int .i64 1) := hT.u 10 (by decide)
  have c11 : w.cell? ⟨0, 11, none⟩ = some (.int .i64 60) := hT.u 11 (by decide)
  clear hT
  go_enter Tryd.func6, Tryd.ntmps6
  go_wp2_with (go_at_call 22; refine (HT.out _).mono ?_; rintro e w1 ⟨rfl, rfl⟩)
  have HB0 := Lib.hid (below_box0 w (.cells #[.pointer none, .slice none 0 0] 63))
  have HN := Lib.hid (bldNew w w.heap.size (Nat.le_refl _))
  clear c0 c1 c2 c3 c4 c5 c6 c7 c8 c9 c10 c11 HT hl
  go_loopw [0, 14] (fun t i wr => ∃ l : List UInt8, Hid (Below w.heap.size w wr) ∧ Hid (Bld w w.heap.size l wr) ∧ w.heap.size < wr.heap.size ∧ ((i = .int .i64 0 ∧ t = .int .i64 90061 ∧ l = []) ∨ (i = .int .i64 1 ∧ t = .int .i64 3661 ∧ l = [49, 100]) ∨ (i = .int .i64 2 ∧ t = .int .i64 61 ∧ l = [49, 100, 49, 104]) ∨ (i = .int .i64 3 ∧ t = .int .i64 1 ∧ l = [49, 100, 49, 104, 49, 109]) ∨ (i = .int .i64 4 ∧ t = .int .i64 0 ∧ l = [49, 100, 49, 104, 49, 109, 49, 115]))) (fun _ i _ => 4 - (intOf i).toNat)
  case atStart => exact ⟨[], HB0, HN, by simp, .inl ⟨rfl, rfl, rfl⟩⟩
  case round =>
    clear HB0 HN
    obtain ⟨l, HB, HN, hlw, ⟨rfl, rfl, rfl⟩ | ⟨rfl, rfl, rfl⟩ | ⟨rfl, rfl, rfl⟩ | ⟨rfl, rfl, rfl⟩ | ⟨rfl, rfl, rfl⟩⟩ := hrel
    · have hix := unit_0
      have bV := below_box0 wr (.cells #[.int .u8 100, .int .i64 86400, .int .i64 0] 64)
      have h6 : (wr.alloc (.cells #[.int .u8 100, .int .i64 86400, .int .i64 0] 64)).heap[wr.heap.size]? = some (.cells #[.int .u8 100, .int .i64 86400, .int .i64 0] 64 (0, 0)) := heap_alloc_new wr _
      have HBV := Lib.hid (HB.out.trans (bV.mono HB.out.size))
      have HNV := Lib.hid (bld_below HN.out bV)
      have H6 := Lib.hid h6
      clear bV h6
      go_wp2_with fail
      refine (fmt_one _).mono ?_
      rintro e w1 ⟨rfl, hw1⟩
      rw [hw1] at HBV HNV H6
      have k1 : w1.cell? ⟨wr.heap.size, 1, none⟩ = some (.int .i64 86400) := by rw [cell_of_block H6.out]; rfl
      clear hw1 hix
      go_wp2_with fail
      refine (wrStr (s := [49]) rfl HNV.out (by decide) HBV.out).mono ?_
      rintro e w2 ⟨v2, rfl, n2, b2, o2⟩
      have h62 := cell_kept_o o2 H6.out (by omega) (by decide)
      have k0 : w2.cell? ⟨wr.heap.size, 0, none⟩ = some (.int .u8 100) := by rw [cell_of_block h62]; rfl
      have H62 := Lib.hid h62
      have HN2 := Lib.hid n2
      have HB2 := Lib.hid (HBV.out.trans b2)
      clear n2 b2 o2 h62 k1
      go_wp2_with fail
      refine (wrByteZ 100 (by decide) HN2.out (by decide) HB2.out).mono ?_
      rintro e w3 ⟨v3, rfl, n3, b3, o3⟩
      have h63 := cell_kept_o o3 H62.out (by omega) (by decide)
      have k1 : w3.cell? ⟨wr.heap.size, 1, none⟩ = some (.int .i64 86400) := by rw [cell_of_block h63]; rfl
      have HN3 := Lib.hid n3
      have HB3 := Lib.hid (HB2.out.trans b3)
      have hlw3 : w.heap.size < w3.heap.size := by
        rcases HN3.out with h | h
        · exact h.lt
        · exact h.lt
      clear n3 b3 o3 h63 k0
      go_wp2
      go_roundw
      case rel => exact ⟨_, HB3, HN3, hlw3, .inr (.inl ⟨rfl, rfl, rfl⟩)⟩
      case measure => simp [intOf]
    · have hix := unit_1
      have bV := below_box0 wr (.cells #[.int .u8 104, .int .i64 3600, .int .i64 24] 64)
      have h6 : (wr.alloc (.cells #[.int .u8 104, .int .i64 3600, .int .i64 24] 64)).heap[wr.heap.size]? = some (.cells #[.int .u8 104, .int .i64 3600, .int .i64 24] 64 (0, 0)) := heap_alloc_new wr _
      have HBV := Lib.hid (HB.out.trans (bV.mono HB.out.size))
      have HNV := Lib.hid (bld_below HN.out bV)
      have H6 := Lib.hid h6
      clear bV h6
      go_wp2_with fail
      refine (fmt_one _).mono ?_
      rintro e w1 ⟨rfl, hw1⟩
      rw [hw1] at HBV HNV H6
      have k1 : w1.cell? ⟨wr.heap.size, 1, none⟩ = some (.int .i64 3600) := by rw [cell_of_block H6.out]; rfl
      clear hw1 hix
      go_wp2_with fail
      refine (wrStr (s := [49]) rfl HNV.out (by decide) HBV.out).mono ?_
      rintro e w2 ⟨v2, rfl, n2, b2, o2⟩
      have h62 := cell_kept_o o2 H6.out (by omega) (by decide)
      have k0 : w2.cell? ⟨wr.heap.size, 0, none⟩ = some (.int .u8 104) := by rw [cell_of_block h62]; rfl
      have H62 := Lib.hid h62
      have HN2 := Lib.hid n2
      have HB2 := Lib.hid (HBV.out.trans b2)
      clear n2 b2 o2 h62 k1
      go_wp2_with fail
      refine (wrByteZ 104 (by decide) HN2.out (by decide) HB2.out).mono ?_
      rintro e w3 ⟨v3, rfl, n3, b3, o3⟩
      have h63 := cell_kept_o o3 H62.out (by omega) (by decide)
      have k1 : w3.cell? ⟨wr.heap.size, 1, none⟩ = some (.int .i64 3600) := by rw [cell_of_block h63]; rfl
      have HN3 := Lib.hid n3
      have HB3 := Lib.hid (HB2.out.trans b3)
      have hlw3 : w.heap.size < w3.heap.size := by
        rcases HN3.out with h | h
        · exact h.lt
        · exact h.lt
      clear n3 b3 o3 h63 k0
      go_wp2
      go_roundw
      case rel => exact ⟨_, HB3, HN3, hlw3, .inr (.inr (.inl ⟨rfl, rfl, rfl⟩))⟩
      case measure => simp [intOf]
    · have hix := unit_2
      have bV := below_box0 wr (.cells #[.int .u8 109, .int .i64 60, .int .i64 60] 64)
      have h6 : (wr.alloc (.cells #[.int .u8 109, .int .i64 60, .int .i64 60] 64)).heap[wr.heap.size]? = some (.cells #[.int .u8 109, .int .i64 60, .int .i64 60] 64 (0, 0)) := heap_alloc_new wr _
      have HBV := Lib.hid (HB.out.trans (bV.mono HB.out.size))
      have HNV := Lib.hid (bld_below HN.out bV)
      have H6 := Lib.hid h6
      clear bV h6
      go_wp2_with fail
      refine (fmt_one _).mono ?_
      rintro e w1 ⟨rfl, hw1⟩
      rw [hw1] at HBV HNV H6
      have k1 : w1.cell? ⟨wr.heap.size, 1, none⟩ = some (.int .i64 60) := by rw [cell_of_block H6.out]; rfl
      clear hw1 hix
      go_wp2_with fail
      refine (wrStr (s := [49]) rfl HNV.out (by decide) HBV.out).mono ?_
      rintro e w2 ⟨v2, rfl, n2, b2, o2⟩
      have h62 := cell_kept_o o2 H6.out (by omega) (by decide)
      have k0 : w2.cell? ⟨wr.heap.size, 0, none⟩ = some (.int .u8 109) := by rw [cell_of_block h62]; rfl
      have H62 := Lib.hid h62
      have HN2 := Lib.hid n2
      have HB2 := Lib.hid (HBV.out.trans b2)
      clear n2 b2 o2 h62 k1
      go_wp2_with fail
      refine (wrByteZ 109 (by decide) HN2.out (by decide) HB2.out).mono ?_
      rintro e w3 ⟨v3, rfl, n3, b3, o3⟩
      have h63 := cell_kept_o o3 H62.out (by omega) (by decide)
      have k1 : w3.cell? ⟨wr.heap.size, 1, none⟩ = some (.int .i64 60) := by rw [cell_of_block h63]; rfl
      have HN3 := Lib.hid n3
      have HB3 := Lib.hid (HB2.out.trans b3)
      have hlw3 : w.heap.size < w3.heap.size := by
        rcases HN3.out with h | h
        · exact h.lt
        · exact h.lt
      clear n3 b3 o3 h63 k0
      go_wp2
      go_roundw
      case rel => exact ⟨_, HB3, HN3, hlw3, .inr (.inr (.inr (.inl ⟨rfl, rfl, rfl⟩)))⟩
      case measure => simp [intOf]
    · have hix := unit_3
      have bV := below_box0 wr (.cells #[.int .u8 115, .int .i64 1, .int .i64 60] 64)
      have h6 : (wr.alloc (.cells #[.int .u8 115, .int .i64 1, .int .i64 60] 64)).heap[wr.heap.size]? = some (.cells #[.int .u8 115, .int .i64 1, .int .i64 60] 64 (0, 0)) := heap_alloc_new wr _
      have HBV := Lib.hid (HB.out.trans (bV.mono HB.out.size))
      have HNV := Lib.hid (bld_below HN.out bV)
      have H6 := Lib.hid h6
      clear bV h6
      go_wp2_with fail
      refine (fmt_one _).mono ?_
      rintro e w1 ⟨rfl, hw1⟩
      rw [hw1] at HBV HNV H6
      have k1 : w1.cell? ⟨wr.heap.size, 1, none⟩ = some (.int .i64 1) := by rw [cell_of_block H6.out]; rfl
      clear hw1 hix
      go_wp2_with fail
      refine (wrStr (s := [49]) rfl HNV.out (by decide) HBV.out).mono ?_
      rintro e w2 ⟨v2, rfl, n2, b2, o2⟩
      have h62 := cell_kept_o o2 H6.out (by omega) (by decide)
      have k0 : w2.cell? ⟨wr.heap.size, 0, none⟩ = some (.int .u8 115) := by rw [cell_of_block h62]; rfl
      have H62 := Lib.hid h62
      have HN2 := Lib.hid n2
      have HB2 := Lib.hid (HBV.out.trans b2)
      clear n2 b2 o2 h62 k1
      go_wp2_with fail
      refine (wrByteZ 115 (by decide) HN2.out (by decide) HB2.out).mono ?_
      rintro e w3 ⟨v3, rfl, n3, b3, o3⟩
      have h63 := cell_kept_o o3 H62.out (by omega) (by decide)
      have k1 : w3.cell? ⟨wr.heap.size, 1, none⟩ = some (.int .i64 1) := by rw [cell_of_block h63]; rfl
      have HN3 := Lib.hid n3
      have HB3 := Lib.hid (HB2.out.trans b3)
      have hlw3 : w.heap.size < w3.heap.size := by
        rcases HN3.out with h | h
        · exact h.lt
        · exact h.lt
      clear n3 b3 o3 h63 k0
      go_wp2
      go_roundw
      case rel => exact ⟨_, HB3, HN3, hlw3, .inr (.inr (.inr (.inr (⟨rfl, rfl, rfl⟩))))⟩
      case measure => simp [intOf]
    · go_wp2_with fail
      refine (Tryd.Builder_String_any_k w.heap.size w.heap.size _ _ HN.out HB.out.size).mono ?_
      rintro e' w2 ⟨rfl, h2, b2, _⟩
      have HB2 := Lib.hid (HB.out.trans b2)
      clear b2 h2
      go_wp2
      go_ret2
      exact ⟨rfl, HB2.out⟩
end Go.Proofs.YtmgpdaljminipaaDoor
