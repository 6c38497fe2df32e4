/- The tables and the error values that the rows of chapter 01 list. | Words: what all laws of the chapter lean on. | Words: the law of List and ParseList. | The argument of type []int, as a row hands it. | WordsLists returns true for every input, on every schedule; its arguments read afterwards as they read before. No condition beyond the row's own. -/
import Derived.Test.YthmknaoelmeniaaGreatDoorWYZ13
import Derived.Test.YthmknaoelmeniaaGreatDoorWYZ5
import Derived.Test.YthmknaoelmeniaaGreatDoorWYZ9
import Derived.Test.YthmknaoelmeniaaGreatDoorWYZ3
import Derived.Stop.LaidErr
import Derived.Test.YthmknaoelmeniaaGreatDoorWYZ12
import Derived.Test.YthmknaoelmeniaaGreatDoorWYZ11
import Derived.OpenShut
import Derived.Lib.SmallJoins
import Derived.Deep.Grids
import Derived.ChangeSame
namespace Go.Proofs.YthmknaoelmeniaaGreatDoor
open Go.ChangeShapes Go.WideShapes Go.ChangeAt Go.RowKit

theorem gPow : Tryz.prog.globalNamed "internal/strconv.uint64pow10" = some 4 := by kernel_rfl
theorem gPowType : (Tryz.prog.globals[4]?).map (·.type) = some 127 := by kernel_rfl
theorem cellsPow : Tryz.prog.cellsOf 127 = 20 := by kernel_rfl
theorem cellsU64 : Tryz.prog.cellsOf 115 = 1 := by kernel_rfl
theorem gNm : Tryz.prog.globalNamed "polder/words.tens" = some 0 := by kernel_rfl
theorem gNmType : (Tryz.prog.globals[0]?).map (·.type) = some 79 := by kernel_rfl
theorem cellsNm : Tryz.prog.cellsOf 79 = 3 := by kernel_rfl
theorem cellsInt1 : Tryz.prog.cellsOf 3 = 1 := by kernel_rfl
theorem var_cell {W : World} {name : String} {g : Nat} {cs : Array Value} (hg : Tryz.prog.globalNamed name = some g) (h : W.var? Tryz.prog name = some cs) (i : Nat) : W.cell? ⟨g, i, none⟩ = cs[i]? := World.var?_cell hg h i
theorem gRng : Tryz.prog.globalNamed "strconv.ErrRange" = some 6 := by kernel_rfl
theorem gRngType : (Tryz.prog.globals[6]?).map (·.type) = some 51 := by kernel_rfl
theorem cellsErrS : Tryz.prog.cellsOf 149 = 1 := by kernel_rfl
theorem cellsStrE : Tryz.prog.cellsOf 9 = 1 := by kernel_rfl
theorem starErr : "*" ++ "errors.errorString" = "*errors.errorString" := by decide
theorem rowErr (u : TypeId) (h : Tryz.prog.typeName? 3 u = some "*errors.errorString") : u = 147 :=
  typeName_ptr_named (nm := "errors.errorString") (by rw [starErr]; kernel_rfl) (by kernel_rfl) (by decide) u (by rw [starErr]; exact h)
theorem t1_of {W : World} (h : laidMetH Tryz.prog [("math/bits.deBruijn32tab", Rows.laid_math_bits_deBruijn32tab), ("math/bits.deBruijn64tab", Rows.laid_math_bits_deBruijn64tab), ("internal/strconv.uint64pow10", Rows.laid_internal_strconv_uint64pow10), ("unicode/utf8.acceptRanges", Rows.laid_unicode_utf8_acceptRanges), ("strconv.ErrRange", Rows.laid_strconv_ErrRange), ("strconv.ErrSyntax", Rows.laid_strconv_ErrSyntax), ("polder/words.tens", Rows.laid_polder_words_tens), ("unicode/utf8.first", Rows.laid_unicode_utf8_first)] W) (hsh : W.ShapedOpen Tryz.prog) : T1 W := by
  have hh : laidMet Tryz.prog [("math/bits.deBruijn32tab", Rows.laid_math_bits_deBruijn32tab), ("math/bits.deBruijn64tab", Rows.laid_math_bits_deBruijn64tab), ("internal/strconv.uint64pow10", Rows.laid_internal_strconv_uint64pow10), ("unicode/utf8.acceptRanges", Rows.laid_unicode_utf8_acceptRanges), ("strconv.ErrRange", Rows.laid_strconv_ErrRange), ("strconv.ErrSyntax", Rows.laid_strconv_ErrSyntax), ("polder/words.tens", Rows.laid_polder_words_tens), ("unicode/utf8.first", Rows.laid_unicode_utf8_first)] W := h
  have hR := laid_sentinel (laidMet.tail (laidMet.tail (laidMet.tail (laidMet.tail hh)))) gRng gRngType Tryz.underlying51 rowErr Tryz.underlying147 Tryz.underlying149 rfl rfl Tryz.underlying9 cellsErrS cellsStrE
  obtain ⟨ps, hl, _⟩ := hh
  obtain ⟨g0, t0, cs0, f0, p0, q0, hg0, ht0, hv0, hd0, ⟨g1, t1, cs1, f1, p1, q1, hg1, ht1, hv1, hd1, ⟨g2, t2, cs2, f2, p2, q2, hg2, ht2, hv2, hd2, ⟨g3, t3, cs3, f3, p3, q3, hg3, ht3, hv3, hd3, ⟨g4, t4, cs4, f4, p4, q4, hg4, ht4, hv4, hd4, ⟨g5, t5, cs5, f5, p5, q5, hg5, ht5, hv5, hd5, ⟨g6, t6, cs6, f6, p6, q6, hg6, ht6, hv6, hd6, ⟨g7, t7, cs7, f7, p7, q7, hg7, ht7, hv7, hd7, _, _⟩, _⟩, _⟩, _⟩, _⟩, _⟩, _⟩, _⟩ := hl
  obtain rfl := Option.some.inj (gPow.symm.trans hg2)
  obtain rfl := Option.some.inj (gPowType.symm.trans ht2)
  obtain rfl := Option.some.inj (gNm.symm.trans hg6)
  obtain rfl := Option.some.inj (gNmType.symm.trans ht6)
  have hpow : Lib.TabIs Tryz.prog W "internal/strconv.uint64pow10" .u64 Lib.pow10Tab := by
    unfold Lib.TabIs
    rw [hv2, ← Lib.cells_of_tab (zs := Lib.pow10Tab) (k := .u64) Tryz.underlying127 Tryz.underlying115 cellsU64 cellsPow hd2]
  refine ⟨⟨hpow, ?_⟩, Tryz.laysM143.s1_3 W hsh, ?_⟩
  · obtain ⟨a, _, hv, _⟩ := hR
    exact ⟨_, _, hv⟩
  · have e := Lib.cells_of_tab (zs := [10, 100, 1000]) (k := .i64) Tryz.underlying79 Tryz.underlying3 cellsInt1 cellsNm hd6
    intro i hi
    rw [var_cell gNm hv6, ← Array.getElem?_toList, e]
    match i, hi with
    | 0, _ => rfl
    | 1, _ => rfl
    | 2, _ => rfl
/-- where the error values lie -/
noncomputable def low : Nat := (World.holding Tryz.prog default ⟨#[], #[], []⟩).heap.size
/-- A world for the witness: the settled one, the tables holding what their initialisers lay. -/
noncomputable def laidWorld (os : Os) : World :=
  { World.holding Tryz.prog os ⟨#[.cells #[.string ⟨#[118, 97, 108, 117, 101, 32, 111, 117, 116, 32, 111, 102, 32, 114, 97, 110, 103, 101]⟩] 149, .cells #[.string ⟨#[105, 110, 118, 97, 108, 105, 100, 32, 115, 121, 110, 116, 97, 120]⟩] 149], #[], []⟩ with heap := (((((((((World.holding Tryz.prog os ⟨#[.cells #[.string ⟨#[118, 97, 108, 117, 101, 32, 111, 117, 116, 32, 111, 102, 32, 114, 97, 110, 103, 101]⟩] 149, .cells #[.string ⟨#[105, 110, 118, 97, 108, 105, 100, 32, 115, 121, 110, 116, 97, 120]⟩] 149], #[], []⟩).heap.modify 7 fun
      | .cells _ t frozen => .cells #[.int .u8 0, .int .u8 1, .int .u8 28, .int .u8 2, .int .u8 29, .int .u8 14, .int .u8 24, .int .u8 3, .int .u8 30, .int .u8 22, .int .u8 20, .int .u8 15, .int .u8 25, .int .u8 17, .int .u8 4, .int .u8 8, .int .u8 31, .int .u8 27, .int .u8 13, .int .u8 23, .int .u8 21, .int .u8 19, .int .u8 16, .int .u8 7, .int .u8 26, .int .u8 12, .int .u8 18, .int .u8 6, .int .u8 11, .int .u8 5, .int .u8 10, .int .u8 9] t frozen
      | o => o).modify 8 fun
      | .cells _ t frozen => .cells #[.int .u8 0, .int .u8 1, .int .u8 56, .int .u8 2, .int .u8 57, .int .u8 49, .int .u8 28, .int .u8 3, .int .u8 61, .int .u8 58, .int .u8 42, .int .u8 50, .int .u8 38, .int .u8 29, .int .u8 17, .int .u8 4, .int .u8 62, .int .u8 47, .int .u8 59, .int .u8 36, .int .u8 45, .int .u8 43, .int .u8 51, .int .u8 22, .int .u8 53, .int .u8 39, .int .u8 33, .int .u8 30, .int .u8 24, .int .u8 18, .int .u8 12, .int .u8 5, .int .u8 63, .int .u8 55, .int .u8 48, .int .u8 27, .int .u8 60, .int .u8 41, .int .u8 37, .int .u8 16, .int .u8 46, .int .u8 35, .int .u8 44, .int .u8 21, .int .u8 52, .int .u8 32, .int .u8 23, .int .u8 11, .int .u8 54, .int .u8 26, .int .u8 40, .int .u8 15, .int .u8 34, .int .u8 20, .int .u8 31, .int .u8 10, .int .u8 25, .int .u8 14, .int .u8 19, .int .u8 9, .int .u8 13, .int .u8 8, .int .u8 7, .int .u8 6] t frozen
      | o => o).modify 4 fun
      | .cells _ t frozen => .cells #[.int .u64 1, .int .u64 10, .int .u64 100, .int .u64 1000, .int .u64 10000, .int .u64 100000, .int .u64 1000000, .int .u64 10000000, .int .u64 100000000, .int .u64 1000000000, .int .u64 10000000000, .int .u64 100000000000, .int .u64 1000000000000, .int .u64 10000000000000, .int .u64 100000000000000, .int .u64 1000000000000000, .int .u64 10000000000000000, .int .u64 100000000000000000, .int .u64 1000000000000000000, .int .u64 10000000000000000000] t frozen
      | o => o).modify 3 fun
      | .cells _ t frozen => .cells #[.int .u8 128, .int .u8 191, .int .u8 160, .int .u8 191, .int .u8 128, .int .u8 159, .int .u8 144, .int .u8 191, .int .u8 128, .int .u8 143, .int .u8 0, .int .u8 0, .int .u8 0, .int .u8 0, .int .u8 0, .int .u8 0, .int .u8 0, .int .u8 0, .int .u8 0, .int .u8 0, .int .u8 0, .int .u8 0, .int .u8 0, .int .u8 0, .int .u8 0, .int .u8 0, .int .u8 0, .int .u8 0, .int .u8 0, .int .u8 0, .int .u8 0, .int .u8 0] t frozen
      | o => o).modify 6 fun
      | .cells _ t frozen => .cells #[.iface 147 (.pointer (some ⟨low, 0, none⟩))] t frozen
      | o => o).modify 5 fun
      | .cells _ t frozen => .cells #[.iface 147 (.pointer (some ⟨low + 1, 0, none⟩))] t frozen
      | o => o).modify 0 fun
      | .cells _ t frozen => .cells #[.int .i64 10, .int .i64 100, .int .i64 1000] t frozen
      | o => o).modify 2 fun
      | .cells _ t frozen => .cells (Go.Pinned.utf8FirstZ.map fun (z : Nat) => Value.int .u8 z).toArray t frozen
      | o => o) }

end Go.Proofs.YthmknaoelmeniaaGreatDoor

namespace Go.Proofs.YthmknaoelmeniaaGreatDoor
theorem wbase_here : True := trivial
end Go.Proofs.YthmknaoelmeniaaGreatDoor

namespace Go.Proofs.YthmknaoelmeniaaGreatDoor
open Go.RowKit Go.Sort Go.Joins Go.Shelf
attribute [local go_sem] cell_grow frozen_grow size_grow

theorem ba_same {x y : ByteArray} {l : List UInt8} (hx : x.data.toList = l) (hy : y.data.toList = l) : y = x := by
  cases x; cases y
  exact congrArg ByteArray.mk (Array.toList_inj.1 (hy.trans hx.symm))
/-- what List writes is read as the list -/
theorem lst_back {I : List Int} (h : lstE I = 0) : plE (lstL I) = 0 ∧ ints (plL (lstL I)) = I ∧ (lstL I).length ≤ 2500 := by
  have h5 : ¬ 500 < I.length := fun k => by unfold lstE at h; rw [if_pos k] at h; cases h
  have hany : I.any lsBad = false := by
    cases k : I.any lsBad
    · rfl
    · unfold lstE at h; rw [if_neg h5, k] at h; cases h
  have hl : (nats I).length ≤ 500 := by unfold nats; rw [List.length_map]; omega
  obtain ⟨p1, p2⟩ := pl_best (nats_le hany) hl
  have e : lstL I = bestS (nats I) := by unfold lstL; rw [if_pos h]
  rw [e]
  refine ⟨p1, by rw [p2, ints_nats hany], ?_⟩
  have := best_size (nats_le hany) hl 0
  rwa [List.drop_zero] at this
set_option maxRecDepth 100000 in
set_option maxHeartbeats 3200000 in
theorem law_lists (I : List Int) (a : Option Addr) (c : Nat) (s : ByteArray) (w : World) (hI : SlN w a I) (hc : I.length ≤ c) (hT : T1 w) : Calls Tryz.prog 3 #[.slice a I.length c, .string s] w fun e w' => e = .returned (.bool true) ∧ Below w.heap.size w w' := by
  have HT := Lib.hid hT
  have HS := Lib.hid hI
  clear hT hI
  have hways : 520 < I.length ∨ (¬ 520 < I.length ∧ 3000 < s.size) ∨ (¬ 520 < I.length ∧ ¬ 3000 < s.size) := by omega
  rcases hways with k1 | ⟨k1, k2⟩ | ⟨k1, k2⟩
  · have d1 : decide ((520 : Int) < (I.length : Int)) = true := decide_eq_true (by omega)
    clear k1 hc
    go_enter Tryz.func3, Tryz.ntmps3
    go_wp2_with fail
    refine (shown_ok _ (HT.out)).mono ?_
    rintro e w7 ⟨rfl, b7⟩
    have HB7 := Lib.hid b7
    clear b7
    go_wp2
    go_ret
    exact ⟨rfl, HB7.out⟩
  · have d1 : decide ((520 : Int) < (I.length : Int)) = false := decide_eq_false (by omega)
    have d2 : decide ((3000 : Int) < (s.size : Int)) = true := decide_eq_true (by omega)
    clear k1 k2 hc
    go_enter Tryz.func3, Tryz.ntmps3
    go_wp2_with fail
    refine (shown_ok _ (HT.out)).mono ?_
    rintro e w7 ⟨rfl, b7⟩
    have HB7 := Lib.hid b7
    clear b7
    go_wp2
    go_ret
    exact ⟨rfl, HB7.out⟩
  · have d1 : decide ((520 : Int) < (I.length : Int)) = false := decide_eq_false (by omega)
    have d2 : decide ((3000 : Int) < (s.size : Int)) = false := decide_eq_false (by omega)
    have HLI := Lib.hid (fun W (h : SlN W a I) hT => wlist_ok I a c W h hc hT (by omega))
    have HRI := Lib.hid (fun W (h : SlN W a I) => rlist_ok I a c W h hc (by omega))
    have HP := Lib.hid (fun W hM hT => wparse_ok s _ rfl (by omega) W hM hT)
    have HR := Lib.hid (fun W => rparse_ok s _ rfl (by omega) W)
    have HBK := Lib.hid (fun h => lst_back (I := I) h)
    obtain ⟨L, hL⟩ : ∃ L, s.data.toList = L := ⟨_, rfl⟩
    rw [hL] at HP HR
    obtain ⟨N, hN⟩ : ∃ N, plL L = N := ⟨_, rfl⟩
    obtain ⟨G, hG⟩ : ∃ G, plE L = G := ⟨_, rfl⟩
    rw [hN, hG] at HP HR
    obtain ⟨X, hX⟩ : ∃ X, lstL I = X := ⟨_, rfl⟩
    obtain ⟨E, hE⟩ : ∃ E, lstE I = E := ⟨_, rfl⟩
    rw [hX, hE] at HLI HRI HBK
    have HII := Lib.hid (fun W a1 c1 a2 c2 (h1 : SlN W a1 (ints N)) (h2 : SlN W a2 (ints N)) (hb : N.length ≤ 4611686018427387904) => ints_okL a1 a2 c1 c2 (ints N) (ints N) W h1 h2 (by rw [ints_len]; exact hb))
    have HJJ := Lib.hid (fun W a1 c1 (h1 : SlN W a1 I) (h2 : SlN W a I) => ints_okL a1 a c1 c I I W h1 h2 (by omega))
    rw [decide_eq_true rfl] at HJJ
    rw [decide_eq_true rfl, ints_len] at HII
    have HNB : Hid (N.length ≤ 4611686018427387904) := Lib.hid (by
      rw [← hN]
      by_cases h0 : plE L = 0
      · by_cases h : L = []
        · rw [h]; exact Nat.zero_le _
        · rw [plL_ok h0 h, sumP_len]
          have := (pl_good h0 h).2.2.2
          omega
      · rw [plL_bad h0]; exact Nat.zero_le _)
    obtain ⟨n, hn⟩ : ∃ n, I.length = n := ⟨_, rfl⟩
    have HLN := Lib.hid hn
    rw [hn] at HLI HRI HJJ d1 ⊢
    obtain ⟨m, hm⟩ : ∃ m, N.length = m := ⟨_, rfl⟩
    have HM := Lib.hid hm
    rw [hm] at HII HNB
    clear k1 k2 hL hN hG hX hE hn hm hc
    go_enter Tryz.func3, Tryz.ntmps3
    go_wp2_with fail
    refine (HLI.out _ HS.out HT.out).mono ?_
    rintro e w1 ⟨S1, rfl, q1, b1⟩
    have HB1 := Lib.hid b1
    have HS1 := Lib.hid (HS.out.below b1)
    have HQ1 := Lib.hid q1
    clear b1 q1 HLI
    go_wp2_with fail
    refine (HRI.out _ HS1.out).mono ?_
    rintro e w2 ⟨S2, rfl, q2, b2⟩
    obtain rfl := ba_same HQ1.out q2
    have HB2 := Lib.hid (HB1.out.trans (b2.mono HB1.out.size))
    clear b2 q2 HRI HS1 HB1
    go_wp2_with fail
    refine (HP.out _ (HT.out.below HB2.out).ml (HT.out.below HB2.out).tw).mono ?_
    rintro e w3 ⟨a3, c3, rfl, s3, b3⟩
    rw [HM.out]
    have HB3 := Lib.hid (HB2.out.trans (b3.mono HB2.out.size))
    have HS3 := Lib.hid s3
    clear b3 s3 HB2
    go_wp2_with fail
    refine (HR.out _).mono ?_
    rintro e w4 ⟨a4, c4, rfl, s4, b4⟩
    rw [HM.out]
    have HB4 := Lib.hid (HB3.out.trans (b4.mono HB3.out.size))
    have HS34 := Lib.hid (HS3.out.below b4)
    have HS4 := Lib.hid s4
    clear b4 s4 HS3 HB3
    go_wp2_with fail
    refine (HII.out _ _ _ _ _ HS34.out HS4.out HNB.out).mono ?_
    rintro e w5 ⟨rfl, b5⟩
    have HB5 := Lib.hid (HB4.out.trans (b5.mono HB4.out.size))
    clear b5 HS34 HS4 HB4
    rcases Classical.em (E = 0) with e0 | e0
    · subst e0
      obtain ⟨f1, f2, f3⟩ := HBK.out rfl
      have HPX := Lib.hid (fun W hM hT => wparse_ok S2 X HQ1.out (by have := len_of HQ1.out; omega) W hM hT)
      rw [f1] at HPX
      have HF2 := Lib.hid f2
      clear f1 f2 f3 HBK
      go_wp2_with fail
      refine (HPX.out _ (HT.out.below HB5.out).ml (HT.out.below HB5.out).tw).mono ?_
      rintro e w6 ⟨a6, c6, rfl, s6, b6⟩
      rw [HF2.out] at s6
      have hl6 : (plL X).length = n := by rw [← ints_len, HF2.out, HLN.out]
      rw [hl6]
      have HB6 := Lib.hid (HB5.out.trans (b6.mono HB5.out.size))
      have HS6 := Lib.hid s6
      have HS0 := Lib.hid (HS.out.below HB6.out)
      clear b6 s6 hl6 HB5
      go_wp2_with fail
      refine (HJJ.out _ _ _ HS6.out HS0.out).mono ?_
      rintro e w7 ⟨rfl, b7⟩
      have HB7 := Lib.hid (HB6.out.trans (b7.mono HB6.out.size))
      clear b7 HB6
      go_wp2_with fail
      refine (shown_ok _ (HT.out.below HB7.out)).mono ?_
      rintro e w8 ⟨rfl, b8⟩
      have HB8 := Lib.hid (HB7.out.trans (b8.mono HB7.out.size))
      clear b8
      go_wp2
      go_ret
      exact ⟨rfl, HB8.out⟩
    · have d5 : (E == 0) = false := by simpa using e0
      clear e0
      go_wp2_with fail
      refine (shown_ok _ (HT.out.below HB5.out)).mono ?_
      rintro e w8 ⟨rfl, b8⟩
      have HB8 := Lib.hid (HB5.out.trans (b8.mono HB5.out.size))
      clear b8
      go_wp2
      go_ret
      exact ⟨rfl, HB8.out⟩
end Go.Proofs.YthmknaoelmeniaaGreatDoor

namespace Go.Proofs.YthmknaoelmeniaaGreatDoor
open Go.ChangeShapes Go.WideShapes Go.ChangeAt Go.RowKit Go.Joins
section
variable {H : Type} {enc : TypeId × Value → H} {W : World} {base : Nat}
set_option maxRecDepth 100000 in
theorem open_ns {v : Value} {d : DataW H} {p : List MemPlace} (hv : Value.okWide Tryz.prog W .any base 22 v) (h : DataW.Trod enc Tryz.prog W 0 (fun _ => true) true 22 v d p) :
    ∃ (a : Option Addr) (c : Nat) (I : List Int), v = .slice a I.length c ∧ SlN W a I ∧ I.length ≤ c := by
  obtain ⟨a, l, c, rfl⟩ := okWide_slice Tryz.underlying22 hv
  obtain ⟨fuel, hf⟩ := h
  rcases open_ints Tryz.underlying22 Tryz.underlying3 (by kernel_rfl) hf with ⟨h, _⟩ | ⟨A, len, cap, zs, h, _, hl, hm, hz, _, hcl, hwf⟩
  · cases h
    exact ⟨none, 0, [], rfl, .inl rfl, Nat.le_refl _⟩
  · cases h
    have hz' : zs.length = c := by simpa using hz
    have hlc : l ≤ c := by omega
    have hlt : (zs.take l).length = l := by rw [List.length_take]; omega
    refine ⟨some A, c, zs.take l, by rw [hlt], ?_, by rw [hlt]; exact hlc⟩
    by_cases h0 : l = 0
    · exact .inl (by rw [h0, List.take_zero])
    · obtain ⟨b, off, rfl, hc'⟩ := Go.ints_at hcl (by omega)
      refine .inr ⟨b, off, rfl, fun j hj => ?_⟩
      rw [hlt] at hj
      rw [List.getD_eq_getElem?_getD, List.getElem?_take_of_lt hj, ← List.getD_eq_getElem?_getD]
      exact hc' j (by omega)
end
end Go.Proofs.YthmknaoelmeniaaGreatDoor

namespace Go.Proofs.YthmknaoelmeniaaGreatDoor.wordsLists
open Go.ChangeShapes Go.WideShapes Go.ChangeAt Go.RowKit

set_option maxRecDepth 100000 in
theorem contract (H : Type) (enc : TypeId × Value → H) (W : World) (base : Nat) (args : Array Value) (ds gs : List (DataW H)) (before : List MemPlace)
    (hval : ∀ (j : Nat) t v, Tryz.f3.params[j]? = some t → args[j]? = some v → Value.okWide Tryz.prog W .any base t v)
    (hW : DataW.Whole enc Tryz.prog Tryz.f3.params.toList Rows.wordsListsSpec.vars false W args.toList ds gs before) (hL : laidMetH Tryz.prog Rows.wordsListsRow.laid W) (hsh : W.ShapedOpen Tryz.prog) :
    Calls Tryz.prog 3 args W fun e W' => ∃ v, e = .returned v ∧ Rows.wordsListsSpec.post enc Tryz.prog Tryz.f3 false true false false W args v W' := by
  have hW' := hW
  obtain ⟨p, q, hA0, hV, rfl, hfz, hnd⟩ := hW
  have hA : DataW.TrodAll enc Tryz.prog W 0 (fun _ => true) true Tryz.f3.params.toList args.toList ds p := hA0
  rw [Tryz.params3] at hA hval
  obtain ⟨v0, vs0, d0, ds0, p0, q0, hargs, rfl, rfl, h0, r0⟩ := trodAll_cons hA
  obtain ⟨v1, vs1, d1, ds1, p1, q1, rfl, rfl, rfl, h1, r1⟩ := trodAll_cons r0
  obtain ⟨rfl, rfl, rfl⟩ := trodAll_nil r1
  obtain rfl : args = #[v0, v1] := by cases args; simp_all
  obtain ⟨rfl, rfl⟩ := trodVars_none hV
  obtain ⟨a0, c0, I0, rfl, hI0, hl0⟩ := open_ns (hval 0 22 v0 rfl rfl) h0
  obtain ⟨s1, rfl⟩ := okWide_string Tryz.underlying9 (hval 1 9 v1 rfl rfl)
  refine (law_lists I0 a0 c0 s1 W hI0 hl0 (t1_of hL hsh)).mono fun e W' ⟨he, hb⟩ => ?_
  exact ⟨_, he, law_post hW' rfl (by rw [Tryz.params3]; kernel_rfl) rfl rfl rfl rfl hb⟩

theorem laid_met (os : Os) : laidMet Tryz.prog Rows.wordsListsRow.laid ((laidWorld os).forCall (fun _ _ => 0) ⟨#[], #[.slice none 0 0, .string ⟨#[]⟩], []⟩).memory :=
  laidMet_of_run' 8 (by kernel_rfl) (by kernel_rfl)
theorem reads (os : Os) {H : Type} (enc : TypeId × Value → H) : ∃ places, DataW.whole enc Tryz.prog ((laidWorld os).forCall (fun _ _ => 0) ⟨#[], #[.slice none 0 0, .string ⟨#[]⟩], []⟩).memory Tryz.f3.params.toList Rows.wordsListsSpec.vars false #[Value.slice none 0 0, Value.string ⟨#[]⟩].toList 8 = some ([.nil, .lit (.string [])], [], places) :=
  ⟨[], by kernel_rfl⟩

set_option maxRecDepth 100000 in
theorem lifted (os : Os) (started : os.Started) (H : Type) (enc : TypeId × Value → H) (F : Stop.Interp) :
    ReturnsInHanded {} Tryz.checked os 3 .any ((OpenSpec.ofChange Rows.wordsListsSpec).preRow enc Tryz.prog Tryz.f3 Rows.wordsListsRow.domain false Rows.wordsListsRow.laid) (((OpenSpec.ofChange Rows.wordsListsSpec).at F).post enc Tryz.prog Tryz.f3 false true false false) := by
  obtain ⟨places, hx⟩ := reads os enc
  refine returnsInHanded_of_row (C := Tryz.checked) (s := OpenSpec.ofChange Rows.wordsListsSpec) own started (by kernel_rfl) Tryz.func3
    (witness_row_at (enc := enc) (C := Tryz.checked) false (laidWorld os) #[.slice none 0 0, .string ⟨#[]⟩] rfl (by kernel_rfl) (by kernel_rfl) (by kernel_rfl)
      (OpenSpec.preRow_of_cond 8 hx (by kernel_rfl) (fun k hk => by cases hk) (by kernel_rfl) (laid_met os))) ?_
  intro W base args ds gs before hval hW _ _ _ hL hsh _
  exact contract H enc W base args ds gs before hval hW hL hsh

theorem said : Rows.WordsListsSaid :=
  OpenClaim.holds_of_cond 3 Tryz.f3 rfl rfl rfl rfl rfl rfl rfl ⟨rfl, rfl, rfl, rfl, rfl⟩ rfl rfl rfl rfl rfl (by kernel_rfl) Tryz.func3 (by kernel_rfl)
    (of_decide_eq_true (by kernel_rfl)) (by unfold Func.isWrapper; first | (rw [if_pos (by decide +kernel)]; kernel_rfl) | (rw [if_neg (by decide +kernel)]; exact ⟨rfl, rfl⟩))
    (fun os started H enc _ F => by rw [OpenClaim.pre_eq_preRow]; exact lifted os started H enc F)

theorem plain (f : FuncId) (fn : Func) (hf : Tryz.pinned.checked.prog.funcNamed "polder/polderlaw01.WordsLists" = some f) (hfn : Tryz.pinned.checked.prog.funcs[f]? = some fn) :
    true = Tryz.pinned.checked.prog.looks [] ∧ ∀ (j : Nat) t, fn.params[j]? = some t → Tryz.pinned.checked.prog.wantsStandIn t = false := by
  obtain rfl : f = 3 := Option.some.inj ((show Tryz.prog.funcNamed "polder/polderlaw01.WordsLists" = some 3 by kernel_rfl).symm.trans hf) |>.symm
  obtain rfl : fn = Tryz.f3 := (Option.some.inj (Tryz.func3.symm.trans hfn)).symm
  refine ⟨by kernel_rfl, fun j t ht => ?_⟩
  rw [Tryz.params3] at ht
  have hm : t ∈ [22, 9] := by simpa using Array.mem_of_getElem? ht
  have hall : ([22, 9].all fun u => !Tryz.prog.wantsStandIn u) = true := by kernel_rfl
  exact (show Tryz.prog.wantsStandIn t = false by simpa using List.all_eq_true.1 hall t hm)

/-- THE CARD. -/
theorem card : Rows.WordsListsCardSaid :=
  Claim7.holds_tied_plain_at .later [] _ _ _ _ said (fun _ h => by cases h) (by kernel_rfl) (fun _ h => by cases h) wordsLists_row_tie rfl ⟨rfl, rfl⟩ (by kernel_rfl) rfl plain (by kernel_rfl)
#print axioms card
end Go.Proofs.YthmknaoelmeniaaGreatDoor.wordsLists
