/- Clocks: Span of a time of the examples. | Clocks: shown: some calls return what the document says of them. | Clocks: append of a slice that came from a call, nil or not (the words of the kit's howto, turned to a guarded operation); a run in two parts. -/
import Derived.Test.YtjceahbikdncmaaDoorPZ8
import Derived.Below
import Derived.Laws.OwnMore
import Derived.Deep.AppendLies
import Derived.Deep.Draws
import Derived.Maps.AppendAt
import Derived.RegionTactic
import Derived.OwnWalk
namespace Go.Proofs.YtjceahbikdncmaaDoor
open Go.RowKit Go.Sort Go.Joins Go.Shelf
attribute [local go_sem] cell_grow frozen_grow size_grow

/-- the units, as cells -/
def unitL : List Value := [.int .u8 100, .int .i64 86400, .int .i64 0, .int .u8 104, .int .i64 3600, .int .i64 24, .int .u8 109, .int .i64 60, .int .i64 60, .int .u8 115, .int .i64 1, .int .i64 60]
/-- the tables that the program reads -/
structure T9 (w : World) : Prop where
  u : ∀ k, k < 12 → w.cell? ⟨0, k, none⟩ = some (unitL.getD k undef)
theorem T9.below {w w' : World} (h : T9 w) (hb : Below w.heap.size w w') : T9 w' := ⟨fun k hk => cell_later hb (h.u k hk)⟩
theorem T9.lt {w : World} (h : T9 w) : 0 < w.heap.size := World.block_lt_of_cell? _ _ (h.u 0 (by decide))
/-- a builder that holds a text -/
abbrev Bld (w : World) (b : Nat) (l : List UInt8) (wr : World) : Prop := Lib.IsBuilderF 80 5 w.heap.size b (Lib.byteCells l) wr
theorem wrStr {w wr : World} {b : Nat} {l s : List UInt8} {S : ByteArray} (hS : S.data.toList = s) (h : Bld w b l wr) (hl : l.length + s.length ≤ 1000000) (hB : Below w.heap.size w wr) :
    Calls Tryd.prog 47 #[.pointer (some ⟨b, 0, none⟩), .string S] wr fun e w' => ∃ v, e = .returned v ∧ Bld w b (l ++ s) w' ∧ Below w.heap.size wr w' ∧ Lib.OthersKept 5 (some b) wr w' := by
  have hs : S.size = s.length := by rw [← hS, Array.length_toList]; rfl
  refine (bldString w.heap.size b _ S wr h (by rw [Lib.byteCells_length]; omega) hB.size).mono ?_
  rintro e w' ⟨rfl, h1, h2, h3⟩
  refine ⟨_, rfl, .inr ?_, h2, h3⟩
  rw [Lib.byteCells_append, ← hS, ← Lib.strCells_eq]
  exact h1
theorem wrByte {w wr : World} {b : Nat} {l : List UInt8} (c : UInt8) (h : Bld w b l wr) (hl : l.length + 1 ≤ 1000000) (hB : Below w.heap.size w wr) :
    Calls Tryd.prog 49 #[.pointer (some ⟨b, 0, none⟩), .int .u8 (c.toNat : Int)] wr fun e w' => ∃ v, e = .returned v ∧ Bld w b (l ++ [c]) w' ∧ Below w.heap.size wr w' ∧ Lib.OthersKept 5 (some b) wr w' := by
  refine (bldByte w.heap.size b _ (c.toNat : Int) wr h (by rw [Lib.byteCells_length]; omega) hB.size).mono ?_
  rintro e w' ⟨rfl, h1, h2, h3⟩
  refine ⟨_, rfl, .inr ?_, h2, h3⟩
  rw [Lib.byteCells_append]
  exact h1
theorem fmt_one (w : World) : Calls Tryd.prog 48 #[.int .i64 1, .int .i64 10] w fun e w' => e = .returned (.string ⟨#[49]⟩) ∧ w = w' := by
  refine (Tryd.strconv_FormatInt_10_small 1 (by decide) w).mono ?_
  rintro e w' ⟨rfl, rfl⟩
  refine ⟨?_, rfl⟩
  rw [show Lib.decDigits 1 = [49] by decide +kernel]
abbrev unitsV : Value := .agg #[.int .u8 100, .int .i64 86400, .int .i64 0, .int .u8 104, .int .i64 3600, .int .i64 24, .int .u8 109, .int .i64 60, .int .i64 60, .int .u8 115, .int .i64 1, .int .i64 60]
theorem unit_0 (W : World) : (Instr.index 82 unitsV (.int .i64 0)).run Tryd.prog W = .ok (.agg #[.int .u8 100, .int .i64 86400, .int .i64 0]) W := by kernel_rfl
theorem unit_1 (W : World) : (Instr.index 82 unitsV (.int .i64 1)).run Tryd.prog W = .ok (.agg #[.int .u8 104, .int .i64 3600, .int .i64 24]) W := by kernel_rfl
theorem unit_2 (W : World) : (Instr.index 82 unitsV (.int .i64 2)).run Tryd.prog W = .ok (.agg #[.int .u8 109, .int .i64 60, .int .i64 60]) W := by kernel_rfl
theorem unit_3 (W : World) : (Instr.index 82 unitsV (.int .i64 3)).run Tryd.prog W = .ok (.agg #[.int .u8 115, .int .i64 1, .int .i64 60]) W := by kernel_rfl
theorem wrByteZ {w wr : World} {b : Nat} {l : List UInt8} {z : Int} (c : UInt8) (hz : (c.toNat : Int) = z) (h : Bld w b l wr) (hl : l.length + 1 ≤ 1000000) (hB : Below w.heap.size w wr) :
    Calls Tryd.prog 49 #[.pointer (some ⟨b, 0, none⟩), .int .u8 z] wr fun e w' => ∃ v, e = .returned v ∧ Bld w b (l ++ [c]) w' ∧ Below w.heap.size wr w' ∧ Lib.OthersKept 5 (some b) wr w' := by
  subst hz
  exact wrByte c h hl hB
set_option maxRecDepth 100000 in
set_option maxHeartbeats 1600000 in
theorem span_ok (w : World) (hT : T9 w) : Calls Tryd.prog 33 #[.int .i64 90061] w fun e w' => e = .returned (.tuple #[.string ⟨#[49, 100, 49, 104, 49, 109, 49, 115]⟩, .int .i64 0]) ∧ Below w.heap.size w w' := by
  have HT := Lib.hid (isTime_ok 90061)
  rw [show tmB 90061 = true by decide] at HT
  have hl := hT.lt
  have c0 : w.cell? ⟨0, 0, none⟩ = some (.int .u8 100) := hT.u 0 (by decide)
  have c1 : w.cell? ⟨0, 1, none⟩ = some (.int .i64 86400) := hT.u 1 (by decide)
  have c2 : w.cell? ⟨0, 2, none⟩ = some (.int .i64 0) := hT.u 2 (by decide)
  have c3 : w.cell? ⟨0, 3, none⟩ = some (.int .u8 104) := hT.u 3 (by decide)
  have c4 : w.cell? ⟨0, 4, none⟩ = some (.int .i64 3600) := hT.u 4 (by decide)
  have c5 : w.cell? ⟨0, 5, none⟩ = some (.int .i64 24) := hT.u 5 (by decide)
  have c6 : w.cell? ⟨0, 6, none⟩ = some (.int .u8 109) := hT.u 6 (by decide)
  have c7 : w.cell? ⟨0, 7, none⟩ = some (.int .i64 60) := hT.u 7 (by decide)
  have c8 : w.cell? ⟨0, 8, none⟩ = some (.int .i64 60) := hT.u 8 (by decide)
  have c9 : w.cell? ⟨0, 9, none⟩ = some (.int .u8 115) := hT.u 9 (by decide)
  have c10 : w.cell? ⟨0, 10, none⟩ = some (.int .i64 1) := hT.u 10 (by decide)
  have c11 : w.cell? ⟨0, 11, none⟩ = some (.int .i64 60) := hT.u 11 (by decide)
  clear hT
  go_enter Tryd.func33, Tryd.ntmps33
  go_wp2_with (go_at_call 38; refine (HT.out _).mono ?_; rintro e w1 ⟨rfl, rfl⟩)
  have HB0 := Lib.hid (below_box0 w (.cells #[.pointer none, .slice none 0 0] 80))
  have HN := Lib.hid (bldNew w w.heap.size (Nat.le_refl _))
  clear c0 c1 c2 c3 c4 c5 c6 c7 c8 c9 c10 c11 HT hl
  go_loopw [0, 14] (fun t i wr => ∃ l : List UInt8, Hid (Below w.heap.size w wr) ∧ Hid (Bld w w.heap.size l wr) ∧ w.heap.size < wr.heap.size ∧ ((i = .int .i64 0 ∧ t = .int .i64 90061 ∧ l = []) ∨ (i = .int .i64 1 ∧ t = .int .i64 3661 ∧ l = [49, 100]) ∨ (i = .int .i64 2 ∧ t = .int .i64 61 ∧ l = [49, 100, 49, 104]) ∨ (i = .int .i64 3 ∧ t = .int .i64 1 ∧ l = [49, 100, 49, 104, 49, 109]) ∨ (i = .int .i64 4 ∧ t = .int .i64 0 ∧ l = [49, 100, 49, 104, 49, 109, 49, 115]))) (fun _ i _ => 4 - (intOf i).toNat)
  case atStart => exact ⟨[], HB0, HN, by simp, .inl ⟨rfl, rfl, rfl⟩⟩
  case round =>
    clear HB0 HN
    obtain ⟨l, HB, HN, hlw, ⟨rfl, rfl, rfl⟩ | ⟨rfl, rfl, rfl⟩ | ⟨rfl, rfl, rfl⟩ | ⟨rfl, rfl, rfl⟩ | ⟨rfl, rfl, rfl⟩⟩ := hrel
    · have hix := unit_0
      have bV := below_box0 wr (.cells #[.int .u8 100, .int .i64 86400, .int .i64 0] 81)
      have h6 : (wr.alloc (.cells #[.int .u8 100, .int .i64 86400, .int .i64 0] 81)).heap[wr.heap.size]? = some (.cells #[.int .u8 100, .int .i64 86400, .int .i64 0] 81 (0, 0)) := heap_alloc_new wr _
      have HBV := Lib.hid (HB.out.trans (bV.mono HB.out.size))
      have HNV := Lib.hid (bld_below HN.out bV)
      have H6 := Lib.hid h6
      clear bV h6
      go_wp2_with fail
      refine (fmt_one _).mono ?_
      rintro e w1 ⟨rfl, hw1⟩
      rw [hw1] at HBV HNV H6
      have k1 : w1.cell? ⟨wr.heap.size, 1, none⟩ = some (.int .i64 86400) := by rw [cell_of_block H6.out]; rfl
      clear hw1 hix
      go_wp2_with fail
      refine (wrStr (s := [49]) rfl HNV.out (by decide) HBV.out).mono ?_
      rintro e w2 ⟨v2, rfl, n2, b2, o2⟩
      have h62 := cell_kept_o o2 H6.out (by omega) (by decide)
      have k0 : w2.cell? ⟨wr.heap.size, 0, none⟩ = some (.int .u8 100) := by rw [cell_of_block h62]; rfl
      have H62 := Lib.hid h62
      have HN2 := Lib.hid n2
      have HB2 := Lib.hid (HBV.out.trans b2)
      clear n2 b2 o2 h62 k1
      go_wp2_with fail
      refine (wrByteZ 100 (by decide) HN2.out (by decide) HB2.out).mono ?_
      rintro e w3 ⟨v3, rfl, n3, b3, o3⟩
      have h63 := cell_kept_o o3 H62.out (by omega) (by decide)
      have k1 : w3.cell? ⟨wr.heap.size, 1, none⟩ = some (.int .i64 86400) := by rw [cell_of_block h63]; rfl
      have HN3 := Lib.hid n3
      have HB3 := Lib.hid (HB2.out.trans b3)
      have hlw3 : w.heap.size < w3.heap.size := by
        rcases HN3.out with h | h
        · exact h.lt
        · exact h.lt
      clear n3 b3 o3 h63 k0
      go_wp2
      go_roundw
      case rel => exact ⟨_, HB3, HN3, hlw3, .inr (.inl ⟨rfl, rfl, rfl⟩)⟩
      case measure => simp [intOf]
    · have hix := unit_1
      have bV := below_box0 wr (.cells #[.int .u8 104, .int .i64 3600, .int .i64 24] 81)
      have h6 : (wr.alloc (.cells #[.int .u8 104, .int .i64 3600, .int .i64 24] 81)).heap[wr.heap.size]? = some (.cells #[.int .u8 104, .int .i64 3600, .int .i64 24] 81 (0, 0)) := heap_alloc_new wr _
      have HBV := Lib.hid (HB.out.trans (bV.mono HB.out.size))
      have HNV := Lib.hid (bld_below HN.out bV)
      have H6 := Lib.hid h6
      clear bV h6
      go_wp2_with fail
      refine (fmt_one _).mono ?_
      rintro e w1 ⟨rfl, hw1⟩
      rw [hw1] at HBV HNV H6
      have k1 : w1.cell? ⟨wr.heap.size, 1, none⟩ = some (.int .i64 3600) := by rw [cell_of_block H6.out]; rfl
      clear hw1 hix
      go_wp2_with fail
      refine (wrStr (s := [49]) rfl HNV.out (by decide) HBV.out).mono ?_
      rintro e w2 ⟨v2, rfl, n2, b2, o2⟩
      have h62 := cell_kept_o o2 H6.out (by omega) (by decide)
      have k0 : w2.cell? ⟨wr.heap.size, 0, none⟩ = some (.int .u8 104) := by rw [cell_of_block h62]; rfl
      have H62 := Lib.hid h62
      have HN2 := Lib.hid n2
      have HB2 := Lib.hid (HBV.out.trans b2)
      clear n2 b2 o2 h62 k1
      go_wp2_with fail
      refine (wrByteZ 104 (by decide) HN2.out (by decide) HB2.out).mono ?_
      rintro e w3 ⟨v3, rfl, n3, b3, o3⟩
      have h63 := cell_kept_o o3 H62.out (by omega) (by decide)
      have k1 : w3.cell? ⟨wr.heap.size, 1, none⟩ = some (.int .i64 3600) := by rw [cell_of_block h63]; rfl
      have HN3 := Lib.hid n3
      have HB3 := Lib.hid (HB2.out.trans b3)
      have hlw3 : w.heap.size < w3.heap.size := by
        rcases HN3.out with h | h
        · exact h.lt
        · exact h.lt
      clear n3 b3 o3 h63 k0
      go_wp2
      go_roundw
      case rel => exact ⟨_, HB3, HN3, hlw3, .inr (.inr (.inl ⟨rfl, rfl, rfl⟩))⟩
      case measure => simp [intOf]
    · have hix := unit_2
      have bV := below_box0 wr (.cells #[.int .u8 109, .int .i64 60, .int .i64 60] 81)
      have h6 : (wr.alloc (.cells #[.int .u8 109, .int .i64 60, .int .i64 60] 81)).heap[wr.heap.size]? = some (.cells #[.int .u8 109, .int .i64 60, .int .i64 60] 81 (0, 0)) := heap_alloc_new wr _
      have HBV := Lib.hid (HB.out.trans (bV.mono HB.out.size))
      have HNV := Lib.hid (bld_below HN.out bV)
      have H6 := Lib.hid h6
      clear bV h6
      go_wp2_with fail
      refine (fmt_one _).mono ?_
      rintro e w1 ⟨rfl, hw1⟩
      rw [hw1] at HBV HNV H6
      have k1 : w1.cell? ⟨wr.heap.size, 1, none⟩ = some (.int .i64 60) := by rw [cell_of_block H6.out]; rfl
      clear hw1 hix
      go_wp2_with fail
      refine (wrStr (s := [49]) rfl HNV.out (by decide) HBV.out).mono ?_
      rintro e w2 ⟨v2, rfl, n2, b2, o2⟩
      have h62 := cell_kept_o o2 H6.out (by omega) (by decide)
      have k0 : w2.cell? ⟨wr.heap.size, 0, none⟩ = some (.int .u8 109) := by rw [cell_of_block h62]; rfl
      have H62 := Lib.hid h62
      have HN2 := Lib.hid n2
      have HB2 := Lib.hid (HBV.out.trans b2)
      clear n2 b2 o2 h62 k1
      go_wp2_with fail
      refine (wrByteZ 109 (by decide) HN2.out (by decide) HB2.out).mono ?_
      rintro e w3 ⟨v3, rfl, n3, b3, o3⟩
      have h63 := cell_kept_o o3 H62.out (by omega) (by decide)
      have k1 : w3.cell? ⟨wr.heap.size, 1, none⟩ = some (.int .i64 60) := by rw [cell_of_block h63]; rfl
      have HN3 := Lib.hid n3
      have HB3 := Lib.hid (HB2.out.trans b3)
      have hlw3 : w.heap.size < w3.heap.size := by
        rcases HN3.out with h | h
        · exact h.lt
        · exact h.lt
      clear n3 b3 o3 h63 k0
      go_wp2
      go_roundw
      case rel => exact ⟨_, HB3, HN3, hlw3, .inr (.inr (.inr (.inl ⟨rfl, rfl, rfl⟩)))⟩
      case measure => simp [intOf]
    · have hix := unit_3
      have bV := below_box0 wr (.cells #[.int .u8 115, .int .i64 1, .int .i64 60] 81)
      have h6 : (wr.alloc (.cells #[.int .u8 115, .int .i64 1, .int .i64 60] 81)).heap[wr.heap.size]? = some (.cells #[.int .u8 115, .int .i64 1, .int .i64 60] 81 (0, 0)) := heap_alloc_new wr _
      have HBV := Lib.hid (HB.out.trans (bV.mono HB.out.size))
      have HNV := Lib.hid (bld_below HN.out bV)
      have H6 := Lib.hid h6
      clear bV h6
      go_wp2_with fail
      refine (fmt_one _).mono ?_
      rintro e w1 ⟨rfl, hw1⟩
      rw [hw1] at HBV HNV H6
      have k1 : w1.cell? ⟨wr.heap.size, 1, none⟩ = some (.int .i64 1) := by rw [cell_of_block H6.out]; rfl
      clear hw1 hix
      go_wp2_with fail
      refine (wrStr (s := [49]) rfl HNV.out (by decide) HBV.out).mono ?_
      rintro e w2 ⟨v2, rfl, n2, b2, o2⟩
      have h62 := cell_kept_o o2 H6.out (by omega) (by decide)
      have k0 : w2.cell? ⟨wr.heap.size, 0, none⟩ = some (.int .u8 115) := by rw [cell_of_block h62]; rfl
      have H62 := Lib.hid h62
      have HN2 := Lib.hid n2
      have HB2 := Lib.hid (HBV.out.trans b2)
      clear n2 b2 o2 h62 k1
      go_wp2_with fail
      refine (wrByteZ 115 (by decide) HN2.out (by decide) HB2.out).mono ?_
      rintro e w3 ⟨v3, rfl, n3, b3, o3⟩
      have h63 := cell_kept_o o3 H62.out (by omega) (by decide)
      have k1 : w3.cell? ⟨wr.heap.size, 1, none⟩ = some (.int .i64 1) := by rw [cell_of_block h63]; rfl
      have HN3 := Lib.hid n3
      have HB3 := Lib.hid (HB2.out.trans b3)
      have hlw3 : w.heap.size < w3.heap.size := by
        rcases HN3.out with h | h
        · exact h.lt
        · exact h.lt
      clear n3 b3 o3 h63 k0
      go_wp2
      go_roundw
      case rel => exact ⟨_, HB3, HN3, hlw3, .inr (.inr (.inr (.inr (⟨rfl, rfl, rfl⟩))))⟩
      case measure => simp [intOf]
    · go_wp2_with fail
      refine (Tryd.Builder_String_any_k w.heap.size w.heap.size _ _ HN.out HB.out.size).mono ?_
      rintro e' w2 ⟨rfl, h2, b2, _⟩
      have HB2 := Lib.hid (HB.out.trans b2)
      clear b2 h2
      go_wp2
      go_ret2
      exact ⟨rfl, HB2.out⟩
end Go.Proofs.YtjceahbikdncmaaDoor

namespace Go.Proofs.YtjceahbikdncmaaDoor
open Go.RowKit Go.Sort Go.Joins Go.Shelf
attribute [local go_sem] cell_grow frozen_grow size_grow

theorem ex_ok : PlOk 2 exR := cE_zero (by decide +kernel)
theorem ex_rnE : rnE 2 exR 25 = 0 := by decide +kernel
theorem ex_rst : rstA exR 25 2 = [(⟨#[97]⟩, 35, 10)] := by decide +kernel
theorem ex_run : RunOk 2 exR 25 [(5, 0), (15, 0), (15, 1), (25, 0)] := by
  have hal : ∀ i, i < 2 → AlOk (alP exR i) := ex_ok.ok
  have h1 := (RgAt.start 2 (alP exR) 25).step hal (b := 0) (by decide +kernel) (by decide +kernel)
  have h2 := h1.step hal (b := 0) (by decide +kernel) (by decide +kernel)
  have h3 := h2.step hal (b := 1) (by decide +kernel) (by decide +kernel)
  have h4 := h3.step hal (b := 0) (by decide +kernel) (by decide +kernel)
  have h5 := h4.run hal (by decide) (.inr ⟨0, by decide +kernel, by decide +kernel⟩)
  exact h5
theorem ex_alB : ∀ j, j < 2 → AlB (exR j) := fun j hj => by
  match j, hj with
  | 0, _ => exact ⟨by decide, ⟨by decide, by decide⟩, by decide, by decide⟩
  | 1, _ => exact ⟨by decide, ⟨by decide, by decide⟩, by decide, by decide⟩
/-- the rings of the example -/
def exG (j : Nat) : Rn := ([(⟨#[97]⟩, 5), (⟨#[97]⟩, 15), (⟨#[98]⟩, 15), (⟨#[97]⟩, 25)] : List Rn).getD j rn0
def exQ (j : Nat) : Al := ([(⟨#[97]⟩, 35, 10)] : List Al).getD j al0
/-- Run of the example -/
theorem exrun_ok {w : World} {b : Nat} (hS : SlA w (some ⟨b, 0, none⟩) 2 exR) :
    Calls Tryd.prog 11 #[pV (some ⟨b, 0, none⟩) 2 2, .int .i64 25] w fun e w' => ∃ (aL : Option Addr) (cL : Nat) (aR : Option Addr) (cR : Nat), e = .returned (.tuple #[.slice aL 4 cL, .agg #[.slice aR 1 cR], .int .i64 0]) ∧ SlG w' aL 4 exG ∧ SlA w' aR 1 exQ ∧ Below w.heap.size w w' := by
  refine (run_good hS (by decide) ex_alB ex_rnE).mono ?_
  rintro e w' ⟨aL, cL, aR, cR, L, rfl, h1, h2, h3, _, h5⟩
  obtain rfl := h3.eq ex_run
  rw [ex_rst] at h2 ⊢
  refine ⟨aL, cL, aR, cR, rfl, h1.congr fun j hj => ?_, h2, h5⟩
  have hj4 : j = 0 ∨ j = 1 ∨ j = 2 ∨ j = 3 := by simp at hj; omega
  rcases hj4 with rfl | rfl | rfl | rfl <;> rfl
set_option maxRecDepth 100000 in
set_option maxHeartbeats 3200000 in
theorem shown_ok (w : World) (hT : T9 w) : Calls Tryd.prog 10 #[] w fun e w' => e = .returned (.bool true) ∧ Below w.heap.size w w' := by
  have HS := Lib.hid (set_ok 7 5)
  rw [show setV 7 5 = 7 by decide, show setE 7 5 = 0 by decide] at HS
  have HT := Lib.hid hT
  clear hT
  go_enter Tryd.func10, Tryd.ntmps10
  go_wp2_with fail
  refine (HS.out _).mono ?_
  rintro e w1 ⟨rfl, b1⟩
  have b2 := below_box0 w1 (.cells #[.int .i64 7] 38)
  have h1 : (w1.alloc (.cells #[.int .i64 7] 38)).heap[w1.heap.size]? = some (.cells #[.int .i64 7] 38 (0, 0)) := heap_alloc_new w1 _
  have HB2 := Lib.hid (below_tr b1 b2)
  have H1 := Lib.hid h1
  clear b1 b2 h1
  go_wp2_with fail
  refine (example_ok _).mono ?_
  rintro e w3 ⟨be, rfl, hE, b3⟩
  have HB3 := Lib.hid (below_tr HB2.out b3)
  have H13 := Lib.hid ((b3.block _ (blk_lt H1.out)).trans H1.out)
  have HE := Lib.hid hE
  clear b3 hE
  go_wp2_with fail
  refine (exrun_ok HE.out).mono ?_
  rintro e w4 ⟨aL, cL, aR, cR, rfl, hL, hR, b4⟩
  have b5 := below_box0 w4 (.cells #[.slice aR 1 cR] 24)
  have h4 : (w4.alloc (.cells #[.slice aR 1 cR] 24)).heap[w4.heap.size]? = some (.cells #[.slice aR 1 cR] 24 (0, 0)) := heap_alloc_new w4 _
  have HB5 := Lib.hid (below_tr (below_tr HB3.out b4) b5)
  have H15 := Lib.hid ((b5.block _ (Nat.lt_of_lt_of_le (blk_lt H13.out) b4.size)).trans ((b4.block _ (blk_lt H13.out)).trans H13.out))
  have H45 := Lib.hid h4
  have HL5 := Lib.hid (hL.below b5)
  have HR5 := Lib.hid (hR.below b5)
  clear b4 b5 h4 hL hR
  go_wp2_with fail
  refine (span_ok _ (HT.out.below HB5.out)).mono ?_
  rintro e w6 ⟨rfl, b6⟩
  have HB6 := Lib.hid (below_tr HB5.out b6)
  have H16 := Lib.hid ((b6.block _ (blk_lt H15.out)).trans H15.out)
  have H46 := Lib.hid ((b6.block _ (blk_lt H45.out)).trans H45.out)
  have HL6 := Lib.hid (HL5.out.below b6)
  have HR6 := Lib.hid (HR5.out.below b6)
  have k1 : w6.cell? ⟨w1.heap.size, 0, none⟩ = some (.int .i64 7) := by rw [cell_of_block H16.out]; rfl
  clear b6
  go_wp2_with fail
  have b7 := below_box0 w6 (.cells #[.string ⟨#[97]⟩, .int .i64 5, .string ⟨#[97]⟩, .int .i64 15, .string ⟨#[98]⟩, .int .i64 15, .string ⟨#[97]⟩, .int .i64 25] 45)
  have hlit : SlG (w6.alloc (.cells #[.string ⟨#[97]⟩, .int .i64 5, .string ⟨#[97]⟩, .int .i64 15, .string ⟨#[98]⟩, .int .i64 15, .string ⟨#[97]⟩, .int .i64 25] 45)) (some ⟨w6.heap.size, 0, none⟩) 4 exG := by
    refine .inr ⟨_, _, rfl, fun j hj => ?_⟩
    have hj4 : j = 0 ∨ j = 1 ∨ j = 2 ∨ j = 3 := by omega
    rcases hj4 with rfl | rfl | rfl | rfl <;> refine ⟨?_, ?_⟩ <;> simp [go_sem, exG]
  have HQ := Lib.hid (ringsEq_ok (c := cL) (d := 4) (HL6.out.below b7) (by decide) hlit (by decide))
  rw [sqB_yes (fun _ _ => rfl)] at HQ
  have HB7 := Lib.hid (below_tr HB6.out b7)
  have H47 := Lib.hid ((b7.block _ (blk_lt H46.out)).trans H46.out)
  have HR7 := Lib.hid (HR6.out.below b7)
  clear b7 hlit
  refine HQ.out.mono ?_
  clear k1
  rintro e w8 ⟨rfl, b8⟩
  have HB8 := Lib.hid (below_tr HB7.out b8)
  have h48 := (b8.block _ (blk_lt H47.out)).trans H47.out
  have k4 : w8.cell? ⟨w4.heap.size, 0, none⟩ = some (.slice aR 1 cR) := by rw [cell_of_block h48]; rfl
  have HR8 := Lib.hid (HR7.out.below b8)
  clear b8 h48
  go_wp2_with fail
  have b9 := below_box0 w8 (.cells #[.string ⟨#[97]⟩, .int .i64 35, .int .i64 10] 47)
  have hlit : SlA (w8.alloc (.cells #[.string ⟨#[97]⟩, .int .i64 35, .int .i64 10] 47)) (some ⟨w8.heap.size, 0, none⟩) 1 exQ := by
    refine .inr ⟨_, _, rfl, fun j hj => ?_⟩
    obtain rfl : j = 0 := by omega
    refine ⟨?_, ?_, ?_⟩ <;> simp [go_sem, exQ]
  have HQ2 := Lib.hid (samePlan_ok (c := cR) (d := 1) (HR8.out.below b9) (by decide) hlit (by decide))
  rw [sqB_yes (fun _ _ => rfl)] at HQ2
  have HB9 := Lib.hid (below_tr HB8.out b9)
  clear b9 hlit k4
  refine HQ2.out.mono ?_
  rintro e w10 ⟨rfl, b10⟩
  have HB10 := Lib.hid (below_tr HB9.out b10)
  clear b10
  go_wp2
  go_ret
  exact ⟨rfl, HB10.out⟩
end Go.Proofs.YtjceahbikdncmaaDoor

namespace Go.Proofs.YtjceahbikdncmaaDoor
open Go.RowKit Go.Sort Go.Joins Go.Shelf
theorem block_of_add (a : Addr) (n : Nat) : (a.add n).block = a.block := by unfold Addr.add; split <;> rfl
theorem add_of_add (a : Addr) (i j : Nat) : (a.add i).add j = a.add (i + j) := by
  unfold Addr.add
  by_cases hi : i = 0 <;> by_cases hj : j = 0 <;> simp [hi, hj, Nat.add_assoc]

def Reads (w : World) (B size : Nat) (A : Option Addr) (n : Nat) (xs : List Value) : Prop :=
  xs.length = n * size ∧ (0 < n → ∃ ad, A = some ad ∧ ad.block < B ∧ ∀ j u, xs[j]? = some u → w.cell? (ad.add j) = some u)

section
variable {w w' : World} {B B' size n : Nat} {A : Option Addr} {xs : List Value}
theorem Reads.none_ : Reads w B size A 0 [] := ⟨by simp, fun h => absurd h (by omega)⟩
theorem Reads.at_ {k : Nat} (h : Reads w B 1 A n xs) (hk : k < n) : ∃ ad u, A = some ad ∧ ad.block < B ∧ xs[k]? = some u ∧ w.cell? (ad.add k) = some u := by
  obtain ⟨ad, e, hb, hc⟩ := h.2 (by omega)
  have hl : k < xs.length := by have := h.1; omega
  exact ⟨ad, xs[k], e, hb, List.getElem?_eq_getElem hl, hc k _ (List.getElem?_eq_getElem hl)⟩
theorem Reads.keep (h : Reads w B size A n xs) (hk : ∀ p : Addr, p.block < B → w'.cell? p = w.cell? p) : Reads w' B size A n xs :=
  ⟨h.1, fun hn => by
    obtain ⟨ad, e, hb, hc⟩ := h.2 hn
    exact ⟨ad, e, hb, fun j u hu => (hk _ (by rw [block_of_add]; exact hb)).trans (hc j u hu)⟩⟩
theorem Reads.more (h : Reads w B size A n xs) (hB : B ≤ B') : Reads w B' size A n xs :=
  ⟨h.1, fun hn => by
    obtain ⟨ad, e, hb, hc⟩ := h.2 hn
    exact ⟨ad, e, by omega, hc⟩⟩
theorem Reads.below (h : Reads w B size A n xs) (hb : Below B w w') : Reads w' B size A n xs := h.keep fun _ hp => hb.cell hp
theorem Reads.drew (h : Reads w B size A n xs) : Reads w.drew B size A n xs := h
theorem Reads.drewN (h : Reads w B size A n xs) (k : Nat) : Reads (w.drewN k) B size A n xs := h
theorem Reads.alloc (h : Reads w B size A n xs) (hB : B ≤ w.heap.size) (o : Obj) : Reads (w.alloc o) B size A n xs := h.keep fun p hp => World.cell?_alloc_lt w o p (by omega)
theorem Reads.setCell (h : Reads w B size A n xs) {p : Addr} (hB : B ≤ p.block) (u : Value) : Reads (w.setCell p u) B size A n xs :=
  h.keep fun q hq => World.cell?_setCell_other w p q u (fun e => by subst e; omega)
theorem Reads.grown (h : Reads w B size A n xs) {row : Option Nat} (hg : w.grownBy w' row) (hB : B ≤ w.heap.size) (hr : ∀ g, row = some g → B ≤ g) : Reads w' B size A n xs :=
  h.keep fun p hp => World.cell?_of_block (hg.block p.block (by omega) (fun e => by have := hr _ e.symm; omega))
theorem Reads.cut (h : Reads w B size A n xs) {k cap : Nat} (hk : k ≤ n) (hc : n ≤ cap) :
    Reads w B size (if cap = k then A else A.map (·.add (k * size))) (n - k) (xs.drop (k * size)) := by
  refine ⟨by rw [List.length_drop, h.1, Nat.sub_mul], fun hn => ?_⟩
  obtain ⟨ad, rfl, hb, hcell⟩ := h.2 (by omega)
  rw [if_neg (by omega)]
  refine ⟨ad.add (k * size), rfl, by rw [block_of_add]; exact hb, fun j u hu => ?_⟩
  rw [add_of_add]
  exact hcell _ u (by rw [← hu, List.getElem?_drop])
theorem Reads.of_own {base : Nat} {e : TypeId} {c : Nat} (h : w.ownsRow base e size (.slice A n c) n xs) : Reads w w.heap.size size A n xs := by
  refine ⟨h.1, fun hn => ?_⟩
  obtain ⟨g, cap, hv, _, hlt⟩ := h.form hn
  have hA : A = some ⟨g, 0, none⟩ := by injection hv
  subst hA
  exact ⟨_, rfl, hlt, h.cells (g := g) rfl⟩
end
section
variable {P : Program} (w : World)

theorem run_append_of_nil (base : Nat) (t ty e : TypeId) (i : TypeInfo) (size : Nat) (ht : P.underlying t = some (.slice e)) (hi : P.info? e = some i)
    (v : Value) (n : Nat) (xs : List Value) (hown : w.ownsRow base e size v n xs) (c : Nat) : (Builtin.append_ #[t, t] ty #[v, .slice none 0 c]).run P w = .ok v w := by
  rcases hown.2 with ⟨rfl, rfl⟩ | ⟨g, cap, cur, rfl, _, _, hnc, _⟩
  · simp [Builtin.append_, run_underlying ht, sizeOf, typeInfo, hi, Builtin.lenOf, Builtin.firstCells]
  · simp [Builtin.append_, run_underlying ht, sizeOf, typeInfo, hi, Builtin.lenOf, Builtin.firstCells, hnc, storeCells]

theorem run_append_any (base : Nat) (t ty e : TypeId) (i : TypeInfo) (z : Value) (size bytes : Nat) (ht : P.underlying t = some (.slice e)) (hi : P.info? e = some i) (hz : i.zero = some z)
    (hsize : i.size = size) (hby : i.bytes = bytes) (hzs : z.cells.size = size) (hsz : 0 < size)
    (v : Value) (n : Nat) (xs : List Value) (hown : w.ownsRow base e size v n xs)
    (B : Nat) (A : Option Addr) (m c : Nat) (news : List Value) (hr : Reads w B size A m news) (h1 : ∀ u ∈ news, u.oneCell' = true)
    (h63 : n + m ≤ maxLen) (hbytes : (n + m) * bytes ≤ 140737488355328) (hbase : base ≤ w.heap.size) :
    ∃ v' w', (Builtin.append_ #[t, t] ty #[v, .slice A m c]).run P w = .ok v' w' ∧ w'.ownsRow base e size v' (n + m) (xs ++ news) ∧ w.grownBy w' v.ownBlock ∧
      (v'.ownBlock = v.ownBlock ∨ v'.ownBlock = some w.heap.size) := by
  rcases A with _ | ad
  · have hm : m = 0 := by
      rcases Nat.eq_zero_or_pos m with h0 | h0
      · exact h0
      · obtain ⟨ad, h, _⟩ := hr.2 h0
        cases h
    subst hm
    have hn : news = [] := List.eq_nil_of_length_eq_zero (by simpa using hr.1)
    subst hn
    exact ⟨v, w, run_append_of_nil w base t ty e i size ht hi v n xs hown c, by simpa using hown, World.grownBy.refl w _, .inl rfl⟩
  · have hcells : ∀ j u, news[j]? = some u → w.cell? (ad.add j) = some u := by
      intro j u hu
      rcases Nat.eq_zero_or_pos m with h0 | h0
      · subst h0
        have hn : news = [] := List.eq_nil_of_length_eq_zero (by simpa using hr.1)
        subst hn
        simp at hu
      · obtain ⟨ad', h, _, hc⟩ := hr.2 h0
        injection h with h
        subst h
        exact hc j u hu
    obtain ⟨v', w', hrun, h2, h3, _, h5⟩ := run_append_own_at (P := P) w base t ty e i z size bytes ht hi hz hsize hby hzs hsz v n xs hown ad m c news hr.1 hcells h1 h63 hbytes hbase
    exact ⟨v', w', hrun, h2, h3, h5⟩

theorem wp_append_any {o : Oper} {a : Act} {K : Act → World → Prop} {Q : Exit → Act → World → Prop} (s x : Operand) (t : TypeId)
    (ho : o.op = .call { callee := .builtin .append, args := #[s, x], argTypes := #[t, t] })
    (base : Nat) (e : TypeId) (i : TypeInfo) (z : Value) (size bytes : Nat) (ht : P.underlying t = some (.slice e)) (hi : P.info? e = some i) (hz : i.zero = some z)
    (hsize : i.size = size) (hby : i.bytes = bytes) (hzs : z.cells.size = size) (hsz : 0 < size)
    (v : Value) (n : Nat) (xs : List Value) (hs : a.eval s = v) (hown : w.ownsRow base e size v n xs)
    (B : Nat) (A : Option Addr) (m c : Nat) (news : List Value) (hx : a.eval x = .slice A m c) (hr : Reads w B size A m news) (h1 : ∀ u ∈ news, u.oneCell' = true)
    (h63 : n + m ≤ maxLen) (hbytes : (n + m) * bytes ≤ 140737488355328) (hbase : base ≤ w.heap.size)
    (h : ∀ v' w', w'.ownsRow base e size v' (n + m) (xs ++ news) → w.grownBy w' v.ownBlock → (v'.ownBlock = v.ownBlock ∨ v'.ownBlock = some w.heap.size) → K (a.put o.dst v') w') : o.wp P a w K Q := by
  obtain ⟨v', w', hrun, h2, h3, h4⟩ := run_append_any (P := P) w base t o.type e i z size bytes ht hi hz hsize hby hzs hsz v n xs hown B A m c news hr h1 h63 hbytes hbase
  unfold Oper.wp execOp
  simp only [ho, resolve, invoke, builtin, Sem.run_bind, Sem.run_pure, Result.andThen_ok, List.map_toArray, List.map_cons, List.map_nil, hs, hx, hrun]
  exact h v' w' h2 h3 h4

theorem wpList_append_any {ops : Array Oper} {rest : List Oper} {o : Oper} {a : Act} {Q : Exit → Act → World → Prop} (hgd : Region.wanted o (yielded ops a.tmps) = true) (s x : Operand) (t : TypeId)
    (ho : o.op = .call { callee := .builtin .append, args := #[s, x], argTypes := #[t, t] })
    (base : Nat) (e : TypeId) (i : TypeInfo) (z : Value) (size bytes : Nat) (ht : P.underlying t = some (.slice e)) (hi : P.info? e = some i) (hz : i.zero = some z)
    (hsize : i.size = size) (hby : i.bytes = bytes) (hzs : z.cells.size = size) (hsz : 0 < size)
    (v : Value) (n : Nat) (xs : List Value) (hs : a.eval s = v) (hown : w.ownsRow base e size v n xs)
    (B : Nat) (A : Option Addr) (m c : Nat) (news : List Value) (hx : a.eval x = .slice A m c) (hr : Reads w B size A m news) (h1 : ∀ u ∈ news, u.oneCell' = true)
    (h63 : n + m ≤ maxLen) (hbytes : (n + m) * bytes ≤ 140737488355328) (hbase : base ≤ w.heap.size)
    (h : ∀ v' w', w'.ownsRow base e size v' (n + m) (xs ++ news) → w.grownBy w' v.ownBlock → (v'.ownBlock = v.ownBlock ∨ v'.ownBlock = some w.heap.size) → wpList P ops Q rest (a.put o.dst v') w') : wpList P ops Q (o :: rest) a w :=
  wpList_step fun _ hK => by
    rw [if_pos hgd]
    exact wp_append_any w s x t ho base e i z size bytes ht hi hz hsize hby hzs hsz v n xs hs hown B A m c news hx hr h1 h63 hbytes hbase fun v' w' h2 h3 h4 => hK _ _ (h v' w' h2 h3 h4)

end

theorem SlG.reads {w : World} {a : Option Addr} {n : Nat} {G : Nat → Rn} (h : SlG w a n G) : Reads w w.heap.size 2 a n (rgc ((List.range n).map G)) := by
  have hl : (rgc ((List.range n).map G)).length = n * 2 := by rw [rgc_length]; simp
  refine ⟨hl, fun hn => ?_⟩
  obtain ⟨b, o, rfl, hc⟩ := h.resolve_left (by omega)
  refine ⟨_, rfl, World.block_lt_of_cell? _ _ (hc 0 hn).1, fun j u hu => ?_⟩
  have hj : j < n * 2 := by rw [← hl]; exact (List.getElem?_eq_some_iff.1 hu).1
  have hk : j / 2 < ((List.range n).map G).length := by simp; omega
  obtain ⟨e0, e1⟩ := rgc_get _ (j / 2) hk
  have hg : ((List.range n).map G).getD (j / 2) rn0 = G (j / 2) := by
    have : j / 2 < n := by omega
    simp [List.getD, this]
  rw [hg] at e0 e1
  obtain ⟨c0, c1⟩ := hc (j / 2) (by omega)
  rw [Go.WideShapes.add_plain]
  rcases Nat.mod_two_eq_zero_or_one j with hm | hm
  · have ej : j = j / 2 * 2 := by omega
    rw [ej, e0] at hu
    rw [ej, ← hu]
    simpa using c0
  · have ej : j = j / 2 * 2 + 1 := by omega
    rw [ej, e1] at hu
    rw [ej, ← hu, ← Nat.add_assoc]
    simpa using c1
section
variable {n : Nat} {R : Nat → Alm} {f u : Int}
theorem alB_of {x : Al} (h : nmB x.1 = true) (ha : AlOk x.2) : AlB x := by
  have hs := nmB_size h
  have a0 := ha.a0
  have a1 := ha.a1
  have e0 := ha.e0
  have e1 := ha.e1
  rw [MT_eq] at *
  have hm : maxLen = 9223372036854775807 := by decide
  unfold AlB I64r
  refine ⟨?_, ⟨?_, ?_⟩, ?_, ?_⟩ <;> omega
/-- the plan that is left -/
def rsR (R : Nat → Alm) (f : Int) (n : Nat) (j : Nat) : Alm := (rstA R f n).getD j al0
theorem rsR_al (h : PlOk n R) (h0 : 0 ≤ f) (h1 : f ≤ MT) {j : Nat} (hj : j < (rstA R f n).length) : AlB (rsR R f n j) := by
  have hp := rst_ok h h0 h1
  exact alB_of (hp.nm j hj) (hp.ok j hj)
/-- both runs are done -/
theorem parts_E (h : rnE n R u = 0) (h0 : 0 ≤ f) (h1 : f ≤ u) : rnE n R f = 0 ∧ rnE (rstA R f n).length (rsR R f n) u = 0 := by
  obtain ⟨hct, hsum⟩ := rnE_zero h
  obtain ⟨hce, hu0, hu1⟩ := ctE_zero hct
  have hp := cE_zero hce
  have hfM : f ≤ MT := by rw [MT_eq]; omega
  have huM : u ≤ MT := by rw [MT_eq]; omega
  have hq := rst_ok hp h0 hfM
  have s1 := sum_rst h1 h0 huM hp.ok
  have s2 := sumA_list (u := u) (rstA R f n)
  have g1 := sumA_ge huM hq.ok
  have g2 := sumA_ge hfM hp.ok
  have e : sumA (rsR R f n) u (rstA R f n).length = sumA (fun j => (rstA R f n).getD j alm0) u (rstA R f n).length := rfl
  refine ⟨rnE_of (ctE_of hce h0 (by omega)) (by omega), rnE_of (ctE_of hq.zero hu0 hu1) (by rw [e]; omega)⟩
/-- THE LAW: the rings of a run in two parts -/
theorem parts_rings (h : rnE n R u = 0) (h0 : 0 ≤ f) (h1 : f ≤ u) {K L M : List (Int × Nat)} (hK : RunOk n R u K) (hL : RunOk n R f L) (hM : RunOk (rstA R f n).length (rsR R f n) u M) :
    L.map (rgN R) ++ M.map (rgN (rsR R f n)) = K.map (rgN R) ∧ rstA (rsR R f n) u (rstA R f n).length = rstA R u n := by
  obtain ⟨hct, hsum⟩ := rnE_zero h
  obtain ⟨hce, hu0, hu1⟩ := ctE_zero hct
  have hp := cE_zero hce
  have huM : u ≤ MT := by rw [MT_eq]; omega
  have e := (run_two hp h1 h0 huM hL hM).eq hK
  refine ⟨?_, rst_rst h1 h0 huM hp.ok⟩
  rw [← e, List.map_append, List.map_map]
  congr 1
  refine List.map_congr_left fun x hx => ?_
  obtain ⟨hx2, _⟩ := (hM.mem x).1 hx
  unfold rgN rsR
  dsimp only [Function.comp]
  have := rst_at (R := R) (f := f) (n := n) hx2
  unfold alm0 at this
  rw [this]
  rfl
end
theorem range_getD {α : Type} (d : α) (l : List α) : (List.range l.length).map (fun j => l.getD j d) = l := by
  refine List.ext_getElem (by simp) fun i h1 h2 => ?_
  simp [List.getD, h2]
theorem SlG.readsL {w : World} {a : Option Addr} {l : List Rn} (h : SlG w a l.length (fun j => l.getD j rn0)) : Reads w w.heap.size 2 a l.length (rgc l) := by
  have := h.reads
  rwa [range_getD] at this
/-- Run of a plan that is done, in lists -/
theorem run_list {a : Option Addr} {n c : Nat} {R : Nat → Al} {u : Int} {w : World} (hS : SlA w a n R) (hn : n ≤ 9223372036854775807) (hR : ∀ j, j < n → AlB (R j)) (hE : rnE n R u = 0) :
    Calls Tryd.prog 11 #[pV a n c, .int .i64 u] w fun e w' => ∃ (aL : Option Addr) (cL : Nat) (aR : Option Addr) (cR : Nat) (L : List Rn) (nR : Nat), e = .returned (.tuple #[.slice aL L.length cL, .agg #[.slice aR nR cR], .int .i64 0]) ∧
      SlG w' aL L.length (fun j => L.getD j rn0) ∧ SlA w' aR nR (rsR R u n) ∧ Hid (nR = (rstA R u n).length) ∧ Hid (∃ K, RunOk n R u K ∧ L = K.map (rgN R)) ∧ L.length ≤ 1000 ∧ nR ≤ n ∧ Below w.heap.size w w' := by
  refine (run_good (c := c) hS hn hR hE).mono ?_
  rintro e w' ⟨aL, cL, aR, cR, L, rfl, h1, h2, h3, h4, h5⟩
  have hl : (L.map (rgN R)).length = L.length := by simp
  exact ⟨aL, cL, aR, cR, L.map (rgN R), _, by rw [hl], by rw [hl]; exact h1, h2, Lib.hid rfl, Lib.hid ⟨L, h3, rfl⟩, by rw [hl]; exact h4, rstA_len R u n, h5⟩
end Go.Proofs.YtjceahbikdncmaaDoor
