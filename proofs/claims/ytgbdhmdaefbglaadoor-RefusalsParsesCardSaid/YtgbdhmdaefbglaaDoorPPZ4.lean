/- Refusals: the text of a plan: Print. | Refusals: the example, and what is shown of it. | Words: digits, whole numbers, Int. No program. | Words: a text cut at each instance of one byte. No program. | Refusals: a text of rules, read. No program. -/
import Derived.Test.YtgbdhmdaefbglaaDoorPPZ3
import Derived.Deep.RegionHeld3
import Derived.Deep.DrawnRows
import Derived.Lib.ParseIntBTie
import Derived.Lib.ItoaMem
import Derived.Lib.SplitLaws
namespace Go.Proofs.YtgbdhmdaefbglaaDoor
open Go.RowKit Go.Sort Go.Joins Go.Shelf
attribute [local go_sem] cell_grow frozen_grow size_grow
attribute [local go_sem ↓] Go.wp_at_zero Go.wp_at_succ

/-- the names of the kinds -/
def knames : List (List UInt8) := [[114, 101, 115, 101, 114, 118, 101], [114, 101, 108, 101, 97, 115, 101], [99, 111, 109, 109, 105, 116], [100, 101, 99, 111, 109, 109, 105, 116], [112, 114, 111, 116, 101, 99, 116], [106, 111, 105, 110], [115, 112, 108, 105, 116]]
def kname (k : Nat) : List UInt8 := knames.getD k []
theorem kname_len : ∀ k, k < 7 → (kname k).length ≤ 8 := by decide
/-- the tables that the program reads -/
structure T5 (w : World) : Prop where
  pow : Lib.TabIs Tryd.prog w "internal/strconv.uint64pow10" .u64 Lib.pow10Tab
  nm : ∀ k, k < 7 → w.cell? ⟨0, k, none⟩ = some (.string ⟨(kname k).toArray⟩)
theorem T5.below {w w' : World} (h : T5 w) (hb : Below w.heap.size w w') : T5 w' := ⟨tabIs_below h.pow hb, fun k hk => cell_later hb (h.nm k hk)⟩
theorem T5.lt {w : World} (h : T5 w) : 0 < w.heap.size := World.block_lt_of_cell? _ _ (h.nm 0 (by decide))
/-- the line of a rule -/
def lineB (x : Rl) : List UInt8 :=
  kname x.1.toNat ++ [32] ++ Lib.itoa x.2.1 ++ ((if 0 < x.2.2.1 then [32, 101, 118, 101, 114, 121, 32] ++ Lib.itoa x.2.2.1 else []) ++ ((if 0 < x.2.2.1 ∧ 0 < x.2.2.2 then [32, 116, 105, 109, 101, 115, 32] ++ Lib.itoa x.2.2.2 else []) ++ [10]))
/-- the text of the first rules of a plan -/
def textB (R : Nat → Rl) : Nat → List UInt8
  | 0 => []
  | k + 1 => textB R k ++ lineB (R k)
theorem line_len {x : Rl} (h : RlOk x) : (lineB x).length ≤ 50 := by
  have h1 := kname_len x.1.toNat (by have := h.k0; have := h.k1; omega)
  have h2 := itoa_len (n := x.2.1) (k := 4) (by have := h.f0; omega) (by have := h.f1; omega)
  have h3 := itoa_len (n := x.2.2.1) (k := 4) h.e0 (by have := h.e1; omega)
  have h4 := itoa_len (n := x.2.2.2) (k := 4) h.t0 (by have := h.t1; omega)
  unfold lineB
  simp only [List.length_append, List.length_cons, List.length_nil]
  split <;> split <;> simp only [List.length_append, List.length_cons, List.length_nil] <;> omega
theorem text_len {R : Nat → Rl} : ∀ {k : Nat}, (∀ i, i < k → RlOk (R i)) → (textB R k).length ≤ 50 * k
  | 0, _ => Nat.le_refl _
  | k + 1, h => by
    have h1 := text_len (k := k) fun i hi => h i (by omega)
    have h2 := line_len (h k (by omega))
    simp only [textB, List.length_append]
    omega
theorem itoa_small {n : Int} {w : World} (h0 : 0 ≤ n) (h1 : n ≤ 10000) (hT : T5 w) :
    Calls Tryd.prog 18 #[.int .i64 n] w fun e w' => e = .returned (.string ⟨(Lib.itoa n).toArray⟩) ∧ Below w.heap.size w w' := by
  refine (Tryd.strconv_Itoa n (by omega) (by omega) w hT.pow).mono ?_
  rintro e w' ⟨rfl, k, os, rfl⟩
  exact ⟨rfl, below_regrown w _ os⟩
/-- a builder that holds a text -/
abbrev Bld (w : World) (b : Nat) (l : List UInt8) (wr : World) : Prop := Lib.IsBuilderF 43 5 w.heap.size b (Lib.byteCells l) wr
theorem str_size (l : List UInt8) : (⟨l.toArray⟩ : ByteArray).size = l.length := by simp [ByteArray.size]
theorem wrStr {w wr : World} {b : Nat} {l s : List UInt8} {S : ByteArray} (hS : S.data.toList = s) (h : Bld w b l wr) (hl : l.length + s.length ≤ 1000000) (hB : Below w.heap.size w wr) :
    Calls Tryd.prog 17 #[.pointer (some ⟨b, 0, none⟩), .string S] wr fun e w' => ∃ v, e = .returned v ∧ Bld w b (l ++ s) w' ∧ Below w.heap.size wr w' ∧ Lib.OthersKept 5 (some b) wr w' := by
  have hs : S.size = s.length := by rw [← hS, Array.length_toList]; rfl
  refine (bldString w.heap.size b _ S wr h (by rw [Lib.byteCells_length]; omega) hB.size).mono ?_
  rintro e w' ⟨rfl, h1, h2, h3⟩
  refine ⟨_, rfl, .inr ?_, h2, h3⟩
  rw [Lib.byteCells_append, ← hS, ← Lib.strCells_eq]
  exact h1
theorem wrByte {w wr : World} {b : Nat} {l : List UInt8} (c : UInt8) (h : Bld w b l wr) (hl : l.length + 1 ≤ 1000000) (hB : Below w.heap.size w wr) :
    Calls Tryd.prog 19 #[.pointer (some ⟨b, 0, none⟩), .int .u8 (c.toNat : Int)] wr fun e w' => ∃ v, e = .returned v ∧ Bld w b (l ++ [c]) w' ∧ Below w.heap.size wr w' ∧ Lib.OthersKept 5 (some b) wr w' := by
  refine (bldByte w.heap.size b _ (c.toNat : Int) wr h (by rw [Lib.byteCells_length]; omega) hB.size).mono ?_
  rintro e w' ⟨rfl, h1, h2, h3⟩
  refine ⟨_, rfl, .inr ?_, h2, h3⟩
  rw [Lib.byteCells_append]
  exact h1

/-- a rule in a box of the call's own, the old memory as it was -/
structure QP (w : World) (bx kn : Nat) (F E T : Int) (W : World) : Prop where
  k : Below w.heap.size w W
  b : W.heap[bx]? = some (.cells #[.int .i64 (kn : Int), .int .i64 F, .int .i64 E, .int .i64 T] 45 (0, 0))
section
variable {w W W' : World} {bx kn bb : Nat} {F E T : Int}
theorem QP.drew (h : QP w bx kn F E T W) : QP w bx kn F E T W.drew := ⟨h.k.trans (Below.refl _ _).drew, h.b⟩
theorem QP.call (h : QP w bx kn F E T W) (hb : Below W.heap.size W W') : QP w bx kn F E T W' := ⟨h.k.trans (hb.mono h.k.size), (hb.block _ (blk_lt h.b)).trans h.b⟩
theorem QP.str (h : QP w bx kn F E T W) (hb : Below w.heap.size W W') (ho : Lib.OthersKept 5 (some bb) W W') (hne : bx ≠ bb) : QP w bx kn F E T W' := ⟨h.k.trans hb, cell_kept_o ho h.b hne (by decide)⟩
theorem QP.c0 (h : QP w bx kn F E T W) : W.cell? ⟨bx, 0, none⟩ = some (.int .i64 (kn : Int)) := by rw [cell_of_block h.b]; rfl
theorem QP.c1 (h : QP w bx kn F E T W) : W.cell? ⟨bx, 1, none⟩ = some (.int .i64 F) := by rw [cell_of_block h.b]; rfl
theorem QP.c2 (h : QP w bx kn F E T W) : W.cell? ⟨bx, 2, none⟩ = some (.int .i64 E) := by rw [cell_of_block h.b]; rfl
theorem QP.c3 (h : QP w bx kn F E T W) : W.cell? ⟨bx, 3, none⟩ = some (.int .i64 T) := by rw [cell_of_block h.b]; rfl
theorem keepQ {x : Value} {o : Nat} (hn : Hid (w.cell? ⟨0, o, none⟩ = some x)) (h : QP w bx kn F E T W) : QP w bx kn F E T W ∧ W.cell? ⟨bx, 0, none⟩ = some (.int .i64 (kn : Int)) ∧ W.cell? ⟨bx, 1, none⟩ = some (.int .i64 F) ∧ W.cell? ⟨0, o, none⟩ = some x :=
  ⟨h, h.c0, h.c1, (h.k.cell (p := ⟨0, o, none⟩) (World.block_lt_of_cell? _ _ hn.out)).trans hn.out⟩
end
theorem below_drew (W : World) : Below W.heap.size W W.drew := (Below.refl _ _).drew

section
variable {w : World} {a : Option Addr} {n c : Nat} {R : Nat → Rl}
set_option maxRecDepth 100000 in
set_option maxHeartbeats 3200000 in
theorem print_ok (hS : SlR w a n R) (hn : n ≤ 50) (hp : pE n R = 0) (hT : T5 w) :
    Calls Tryd.prog 7 #[pV a n c] w fun e w' => e = .returned (.tuple #[.string ⟨(textB R n).toArray⟩, .int .i64 0]) ∧ Below w.heap.size w w' := by
  have b0 := below_box0 w (.cells #[.slice a n c] 24)
  have HC := Lib.hid (rfchk_ok (c := c) (hS.below b0) (by omega))
  rw [hp] at HC
  have HR := Lib.hid (pE_zero hp).2
  have HS := Lib.hid hS
  have HT := Lib.hid hT
  have HB := Lib.hid b0
  clear b0 hS hp hT
  go_enter Tryd.func7, Tryd.ntmps7
  go_wp2_with fail
  refine HC.out.mono ?_
  rintro e' w1 ⟨rfl, b1⟩
  have k0 : w1.cell? ⟨w.heap.size, 0, none⟩ = some (.slice a n c) := cell_later b1 (by simp [go_sem])
  have hl0 := World.block_lt_of_cell? _ _ k0
  dsimp only at hl0
  have HB1 := Lib.hid (below_tr HB.out b1)
  clear b1
  go_wp2
  have hbn := bldNew w1 w.heap.size HB1.out.size
  have HN := Lib.hid hbn
  clear hbn
  go_loopw [20] (fun i wr => ∃ k : Nat, i = .int .i64 k ∧ k ≤ n ∧ Hid (Bld w w1.heap.size (textB R k) wr) ∧ Hid (Below w.heap.size w wr)) (fun i _ => n - (intOf i).toNat)
  case atStart => exact ⟨0, rfl, Nat.zero_le _, HN, Lib.hid (HB1.out.alloc HB1.out.size _)⟩
  case round =>
    obtain ⟨k, rfl, hk, HBl, HBr⟩ := hrel
    clear k0
    by_cases hlt : k < n
    · obtain ⟨b, o, rfl, g0, g1, g2, g3⟩ := (HS.out.below HBr.out).at_ hlt
      have hbl := World.block_lt_of_cell? _ _ g0
      dsimp only at hbl
      have HX := Lib.hid (HR.out k hlt)
      have HTr := Lib.hid (HT.out.below HBr.out)
      obtain ⟨K, F, E, T, hX⟩ : ∃ K F E T, R k = (K, F, E, T) := ⟨_, _, _, _, rfl⟩
      have hx := HR.out k hlt
      rw [hX] at g0 g1 g2 g3 hx
      dsimp only at g0 g1 g2 g3
      have x1 := hx.k0
      have x2 := hx.k1
      have x3 := hx.f0
      have x4 := hx.f1
      have x5 := hx.e0
      have x6 := hx.e1
      have x7 := hx.t0
      have x8 := hx.t1
      dsimp only at x1 x2 x3 x4 x5 x6 x7 x8
      clear hx
      obtain ⟨kn, rfl⟩ := Int.eq_ofNat_of_zero_le x1
      have hkn : kn < 7 := by omega
      have HNm := Lib.hid (HT.out.nm kn hkn)
      have HXX := Lib.hid hX
      clear hX
      go_wp2_with fail
      obtain ⟨W, hW⟩ : ∃ W, wr.alloc (.cells #[.int .i64 (kn : Int), .int .i64 F, .int .i64 E, .int .i64 T] 45) = W := ⟨_, rfl⟩
      have bW := below_box0 wr (.cells #[.int .i64 (kn : Int), .int .i64 F, .int .i64 E, .int .i64 T] 45)
      have hbk : W.heap[wr.heap.size]? = some (.cells #[.int .i64 (kn : Int), .int .i64 F, .int .i64 E, .int .i64 T] 45 (0, 0)) := by rw [← hW]; exact heap_alloc_new wr _
      rw [hW] at bW ⊢
      have HBW := Lib.hid (bld_below HBl.out bW)
      have hQ : QP w wr.heap.size kn F E T W := ⟨HBr.out.trans (bW.mono HBr.out.size), hbk⟩
      have HQ := Lib.hid hQ
      have hne : wr.heap.size ≠ w1.heap.size := by
        have h := HBl.out
        rcases h with h | h
        · have := h.lt; omega
        · have := h.lt; omega
      have hk0 : (0 : Int) ≤ (kn : Int) := by omega
      have hk7 : (kn : Int) < 7 := by omega
      obtain ⟨nm, hnm⟩ : ∃ nm, kname kn = nm := ⟨_, rfl⟩
      obtain ⟨fs, hfs⟩ : ∃ fs, Lib.itoa F = fs := ⟨_, rfl⟩
      have hnl := kname_len kn hkn
      have hfl := itoa_len (n := F) (k := 4) (by omega) (by omega)
      rw [hnm] at HNm hnl
      rw [hfs] at hfl
      have hz1 : (9223372036854775807 < nm.length + 1) = False := by simp; omega
      have hz2 : (9223372036854775807 < nm.length + 1 + fs.length) = False := by simp; omega
      have htl := text_len (R := R) (k := k) (fun i hi => HR.out i (by omega))
      have H2l : Hid ((textB R k).length + (nm ++ [32] ++ fs).length ≤ 1000000) := Lib.hid (by simp; omega)
      have H2l' : Hid ((textB R k).length + (nm.length + 1 + fs.length) ≤ 1000 * 1000 - 1000) := Lib.hid (by omega)
      have HFs := Lib.hid hfs
      have HNM := Lib.hid hnm
      clear hW bW hbk hQ hfs hnm hnl hfl htl
      go_region_held3 (fun w' => QP w wr.heap.size kn F E T w' ∧ w'.cell? ⟨wr.heap.size, 0, none⟩ = some (.int .i64 (kn : Int)) ∧ w'.cell? ⟨wr.heap.size, 1, none⟩ = some (.int .i64 F) ∧ w'.cell? ⟨0, kn, none⟩ = some (.string ⟨nm.toArray⟩))
        ((refine keepQ HNm ?_; first | exact HQ.out.drew | exact And.left (by assumption) | exact QP.call (And.left (by assumption)) (by assumption) | exact QP.str (And.left (by assumption)) (by assumption) (by assumption) hne))
        (first
          | (go_at_call 18; (refine (itoa_small (by omega) x4 (HT.out.below (QP.k (And.left (by assumption))))).mono ?_); rw [HFs.out]; rintro e w3 ⟨rfl, b3⟩; have g3 : Hid (Below W.heap.size W w3) := Lib.hid (below_tr (below_drew W) b3))
          | (go_at_call 17; (refine (wrStr (s := nm ++ [32] ++ fs) (cat3 _ _ _) (bld_below HBW.out g3.out) H2l.out (QP.k (And.left (by assumption)))).mono ?_); rintro e w4 ⟨v4, rfl, h4, b4, o4⟩))
      have H4 := Lib.hid h4
      have Q4 := Lib.hid ((HQ.out.call g3.out).str b4 o4 hne)
      have c4 := Q4.out.c2
      have d4 := Q4.out.c3
      have HLn : Hid ((textB R k).length + (nm.length + 1 + fs.length) ≤ 1000 * 1000 - 1000) := H2l'
      clear h4 b4 o4
      by_cases hE : 0 < E
      · have eE : decide (0 < E) = true := by simpa using hE
        by_cases hTT : 0 < T
        · have eT : decide (0 < T) = true := by simpa using hTT
          obtain ⟨f5, hf5⟩ : ∃ fs, Lib.itoa E = fs := ⟨_, rfl⟩
          have hfl5 := itoa_len (n := E) (k := 4) (by omega) (by omega)
          rw [hf5] at hfl5
          have HF5 := Lib.hid hf5
          have hz5 : (9223372036854775807 < 7 + f5.length) = False := by simp; omega
          clear hf5
          go_wp2_with fail
          refine (itoa_small (by omega) (by omega) (HT.out.below Q4.out.k)).mono ?_
          rw [HF5.out]
          rintro e w5a ⟨rfl, b5a⟩
          have H5a := Lib.hid (bld_below H4.out b5a)
          have Q5a := Lib.hid (Q4.out.call b5a)
          have c5a := Q5a.out.c2
          have d5a := Q5a.out.c3
          clear b5a
          go_wp2_with fail
          refine (wrStr (s := [32, 101, 118, 101, 114, 121, 32] ++ f5) (cat2 _ _) H5a.out (by have := HLn.out; simp only [List.length_append, List.length_cons, List.length_nil] at this ⊢; omega) Q5a.out.k).mono ?_
          rintro e w5 ⟨v5, rfl, h5, b5, o5⟩
          have H5 := Lib.hid h5
          have Q5 := Lib.hid (Q5a.out.str b5 o5 hne)
          have c5 := Q5.out.c2
          have d5 := Q5.out.c3
          clear b5 o5 h5
          obtain ⟨f6, hf6⟩ : ∃ fs, Lib.itoa T = fs := ⟨_, rfl⟩
          have hfl6 := itoa_len (n := T) (k := 4) (by omega) (by omega)
          rw [hf6] at hfl6
          have HF6 := Lib.hid hf6
          have hz6 : (9223372036854775807 < 7 + f6.length) = False := by simp; omega
          clear hf6
          go_wp2_with fail
          refine (itoa_small (by omega) (by omega) (HT.out.below Q5.out.k)).mono ?_
          rw [HF6.out]
          rintro e w6a ⟨rfl, b6a⟩
          have H6a := Lib.hid (bld_below H5.out b6a)
          have Q6a := Lib.hid (Q5.out.call b6a)
          have c6a := Q6a.out.c2
          have d6a := Q6a.out.c3
          clear b6a
          go_wp2_with fail
          refine (wrStr (s := [32, 116, 105, 109, 101, 115, 32] ++ f6) (cat2 _ _) H6a.out (by have := HLn.out; simp only [List.length_append, List.length_cons, List.length_nil] at this ⊢; omega) Q6a.out.k).mono ?_
          rintro e w6 ⟨v6, rfl, h6, b6, o6⟩
          have H6 := Lib.hid h6
          have Q6 := Lib.hid (Q6a.out.str b6 o6 hne)
          have c6 := Q6.out.c2
          have d6 := Q6.out.c3
          clear b6 o6 h6
          go_wp2_with fail
          refine (wrByte 10 H6.out (by have := HLn.out; simp only [List.length_append, List.length_cons, List.length_nil] at this ⊢; omega) Q6.out.k).mono ?_
          rintro e w9 ⟨v9, rfl, h9, b9, o9⟩
          have H9 := Lib.hid h9
          have Q9 := Lib.hid (Q6.out.k.trans b9)
          clear b9 o9 h9
          go_wp2
          go_roundw
          case rel => exact ⟨k + 1, by go_num, by omega, Lib.hid (by
            have h := H9.out
            have e : textB R (k + 1) = textB R k ++ (nm ++ [32] ++ fs) ++ ([32, 101, 118, 101, 114, 121, 32] ++ f5) ++ ([32, 116, 105, 109, 101, 115, 32] ++ f6) ++ [10] := by
              simp only [textB, HXX.out, lineB, Int.toNat_natCast]
              rw [HNM.out, HFs.out]
              rw [if_pos hE, if_pos ⟨hE, hTT⟩, HF5.out, HF6.out]; simp only [List.append_assoc]
            rw [e]; exact h), Q9⟩
          case measure => simp [intOf]; omega
        · have eT : decide (0 < T) = false := by simpa using hTT
          obtain ⟨f5, hf5⟩ : ∃ fs, Lib.itoa E = fs := ⟨_, rfl⟩
          have hfl5 := itoa_len (n := E) (k := 4) (by omega) (by omega)
          rw [hf5] at hfl5
          have HF5 := Lib.hid hf5
          have hz5 : (9223372036854775807 < 7 + f5.length) = False := by simp; omega
          clear hf5
          go_wp2_with fail
          refine (itoa_small (by omega) (by omega) (HT.out.below Q4.out.k)).mono ?_
          rw [HF5.out]
          rintro e w5a ⟨rfl, b5a⟩
          have H5a := Lib.hid (bld_below H4.out b5a)
          have Q5a := Lib.hid (Q4.out.call b5a)
          have c5a := Q5a.out.c2
          have d5a := Q5a.out.c3
          clear b5a
          go_wp2_with fail
          refine (wrStr (s := [32, 101, 118, 101, 114, 121, 32] ++ f5) (cat2 _ _) H5a.out (by have := HLn.out; simp only [List.length_append, List.length_cons, List.length_nil] at this ⊢; omega) Q5a.out.k).mono ?_
          rintro e w5 ⟨v5, rfl, h5, b5, o5⟩
          have H5 := Lib.hid h5
          have Q5 := Lib.hid (Q5a.out.str b5 o5 hne)
          have c5 := Q5.out.c2
          have d5 := Q5.out.c3
          clear b5 o5 h5
          go_wp2_with fail
          refine (wrByte 10 H5.out (by have := HLn.out; simp only [List.length_append, List.length_cons, List.length_nil] at this ⊢; omega) Q5.out.k).mono ?_
          rintro e w9 ⟨v9, rfl, h9, b9, o9⟩
          have H9 := Lib.hid h9
          have Q9 := Lib.hid (Q5.out.k.trans b9)
          clear b9 o9 h9
          go_wp2
          go_roundw
          case rel => exact ⟨k + 1, by go_num, by omega, Lib.hid (by
            have h := H9.out
            have e : textB R (k + 1) = textB R k ++ (nm ++ [32] ++ fs) ++ ([32, 101, 118, 101, 114, 121, 32] ++ f5) ++ [10] := by
              simp only [textB, HXX.out, lineB, Int.toNat_natCast]
              rw [HNM.out, HFs.out]
              rw [if_pos hE, if_neg (by omega), HF5.out]; simp only [List.append_assoc, List.nil_append]
            rw [e]; exact h), Q9⟩
          case measure => simp [intOf]; omega
      · have eE : decide (0 < E) = false := by simpa using hE
        go_wp2_with fail
        refine (wrByte 10 H4.out (by have := HLn.out; simp only [List.length_append, List.length_cons, List.length_nil] at this ⊢; omega) Q4.out.k).mono ?_
        rintro e w9 ⟨v9, rfl, h9, b9, o9⟩
        have H9 := Lib.hid h9
        have Q9 := Lib.hid (Q4.out.k.trans b9)
        clear b9 o9 h9
        go_wp2
        go_roundw
        case rel => exact ⟨k + 1, by go_num, by omega, Lib.hid (by
          have h := H9.out
          have e : textB R (k + 1) = textB R k ++ (nm ++ [32] ++ fs) ++ [10] := by
            simp only [textB, HXX.out, lineB, Int.toNat_natCast]
            rw [HNM.out, HFs.out]
            rw [if_neg (show ¬ 0 < E by omega), if_neg (show ¬ (0 < E ∧ 0 < T) by omega)]; simp only [List.append_assoc, List.nil_append]
          rw [e]; exact h), Q9⟩
        case measure => simp [intOf]; omega
    · obtain rfl : k = n := by omega
      go_wp2_with fail
      refine (Tryd.Builder_String_any_k w.heap.size w1.heap.size _ _ HBl.out HBr.out.size).mono ?_
      rintro e' w2 ⟨rfl, h2, b2, _⟩
      have HB2 := Lib.hid (HBr.out.trans b2)
      clear b2 h2
      go_wp2
      go_ret2
      exact ⟨rfl, HB2.out⟩
end
end Go.Proofs.YtgbdhmdaefbglaaDoor

namespace Go.Proofs.YtgbdhmdaefbglaaDoor
open Go.RowKit Go.Sort Go.Joins Go.Shelf
attribute [local go_sem] cell_grow frozen_grow size_grow

def exL : List Rl := [(2, 3, 2, 0), (2, 4, 0, 1), (0, 1, 3, 2)]
def exR (j : Nat) : Rl := exL.getD j rl0
theorem ex_pE : pE 3 exR = 0 := by decide +kernel
theorem ex_text : textB exR 3 = [99, 111, 109, 109, 105, 116, 32, 51, 32, 101, 118, 101, 114, 121, 32, 50, 10, 99, 111, 109, 109, 105, 116, 32, 52, 10, 114, 101, 115, 101, 114, 118, 101, 32, 49, 32, 101, 118, 101, 114, 121, 32, 51, 32, 116, 105, 109, 101, 115, 32, 50, 10] := by decide +kernel
theorem ex_after : afV 3 exR 2 5 = 7 ∧ afE 3 exR 2 5 = 0 := by decide +kernel
theorem ex_hits : htV 3 exR 0 10 = 2 ∧ askE 3 exR 0 10 0 = 0 := by decide +kernel
theorem ex_refused : rfdV 3 exR 2 4 = true ∧ askE 3 exR 2 4 1 = 0 := by decide +kernel
set_option maxRecDepth 100000 in
theorem example_ok (w : World) : Calls Tryd.prog 12 #[] w fun e w' => ∃ b, e = .returned (pV (some ⟨b, 0, none⟩) 3 3) ∧ SlR w' (some ⟨b, 0, none⟩) 3 exR ∧ Below w.heap.size w w' := by
  go_enter Tryd.func12, Tryd.ntmps12
  go_wp2
  refine bodyPost_ret (v := pV (some ⟨w.heap.size + 1, 0, none⟩) 3 3) (by simp [results, Tryd.results12, go_sem]) rfl ⟨_, rfl, .inr ⟨_, _, rfl, fun j hj => ?_⟩, ((Below.refl _ w).alloc (Nat.le_refl _) _).alloc (by simp) _⟩
  match j, hj with
  | 0, _ => refine ⟨?_, ?_, ?_, ?_⟩ <;> simp [go_sem, exR, exL]
  | 1, _ => refine ⟨?_, ?_, ?_, ?_⟩ <;> simp [go_sem, exR, exL]
  | 2, _ => refine ⟨?_, ?_, ?_, ?_⟩ <;> simp [go_sem, exR, exL]
/-- the text of the example -/
def exT : ByteArray := ⟨[99, 111, 109, 109, 105, 116, 32, 51, 32, 101, 118, 101, 114, 121, 32, 50, 10, 99, 111, 109, 109, 105, 116, 32, 52, 10, 114, 101, 115, 101, 114, 118, 101, 32, 49, 32, 101, 118, 101, 114, 121, 32, 51, 32, 116, 105, 109, 101, 115, 32, 50, 10].toArray⟩
set_option maxRecDepth 100000 in
set_option maxHeartbeats 1600000 in
theorem shown_ok (w : World) (hT : T5 w) : Calls Tryd.prog 6 #[] w fun e w' => e = .returned (.bool true) ∧ Below w.heap.size w w' := by
  have HT := Lib.hid hT
  clear hT
  have HX : Hid (textB exR 3 = _) := Lib.hid ex_text
  go_enter Tryd.func6, Tryd.ntmps6
  go_wp2_with fail
  refine (example_ok _).mono ?_
  rintro e w1 ⟨g1, rfl, s1, b1⟩
  have HB1 := Lib.hid b1
  have HS1 := Lib.hid s1
  clear s1 b1
  go_wp2_with fail
  refine (print_ok HS1.out (by decide) ex_pE (HT.out.below HB1.out)).mono ?_
  rintro e w2 ⟨rfl, b2⟩
  rw [HX.out]
  have HB2 := Lib.hid (below_tr HB1.out b2)
  clear b2
  go_wp2_with fail
  refine (example_ok _).mono ?_
  rintro e w3 ⟨g3, rfl, s3, b3⟩
  have HB3 := Lib.hid (below_tr HB2.out b3)
  have HS3 := Lib.hid s3
  clear s3 b3
  go_wp2_with fail
  refine (After_ok HS3.out (by decide) 2 5).mono ?_
  rintro e w4 ⟨rfl, b4⟩
  rw [ex_after.1, ex_after.2]
  have HB4 := Lib.hid (below_tr HB3.out b4)
  clear b4
  go_wp2_with fail
  refine (example_ok _).mono ?_
  rintro e w5 ⟨g5, rfl, s5, b5⟩
  have HB5 := Lib.hid (below_tr HB4.out b5)
  have HS5 := Lib.hid s5
  clear s5 b5
  go_wp2_with fail
  refine (Hits_ok HS5.out (by decide) 0 10).mono ?_
  rintro e w6 ⟨rfl, b6⟩
  rw [ex_hits.1, ex_hits.2]
  have HB6 := Lib.hid (below_tr HB5.out b6)
  clear b6
  go_wp2_with fail
  refine (example_ok _).mono ?_
  rintro e w7 ⟨g7, rfl, s7, b7⟩
  have HB7 := Lib.hid (below_tr HB6.out b7)
  have HS7 := Lib.hid s7
  clear s7 b7
  go_wp2_with fail
  refine (Refused_ok HS7.out (by decide) 2 4).mono ?_
  rintro e w8 ⟨rfl, b8⟩
  rw [ex_refused.1, ex_refused.2]
  have HB8 := Lib.hid (below_tr HB7.out b8)
  clear b8
  go_wp2
  go_ret
  exact ⟨rfl, HB8.out⟩
end Go.Proofs.YtgbdhmdaefbglaaDoor

namespace Go.Proofs.YtgbdhmdaefbglaaDoor

/-- is that a digit? -/
def dgC (c : UInt8) : Bool := decide (48 ≤ c.toNat) && decide (c.toNat ≤ 57)
theorem dgC_yes {c : UInt8} : dgC c = true ↔ 48 ≤ c.toNat ∧ c.toNat ≤ 57 := by unfold dgC; simp
/-- the number that digits spell -/
def valN (acc : Nat) (l : List UInt8) : Nat := l.foldl (fun a c => 10 * a + (c.toNat - 48)) acc
theorem valN_nil (a : Nat) : valN a [] = a := by unfold valN; rw [List.foldl_nil]
theorem valN_cons (a : Nat) (c : UInt8) (r : List UInt8) : valN a (c :: r) = valN (10 * a + (c.toNat - 48)) r := by unfold valN; rw [List.foldl_cons]
theorem valN_snoc (c : UInt8) : ∀ (l : List UInt8) (a : Nat), valN a (l ++ [c]) = 10 * valN a l + (c.toNat - 48)
  | [], _ => by rw [List.nil_append, valN_cons, valN_nil, valN_nil]
  | x :: r, a => by rw [List.cons_append, valN_cons, valN_cons]; exact valN_snoc c r _
theorem valN_ge : ∀ (l : List UInt8) (a : Nat), a ≤ valN a l
  | [], _ => Nat.le_refl _
  | x :: r, a => Nat.le_trans (by omega) (valN_ge r (10 * a + (x.toNat - 48)))
theorem valN_pow : ∀ (l : List UInt8) (a : Nat), a * 10 ^ l.length ≤ valN a l
  | [], a => by rw [valN_nil, List.length_nil, Nat.pow_zero, Nat.mul_one]; exact Nat.le_refl _
  | x :: r, a => by
    have h := valN_pow r (10 * a + (x.toNat - 48))
    rw [valN_cons]
    refine Nat.le_trans ?_ h
    rw [List.length_cons, Nat.pow_succ, Nat.mul_comm (10 ^ r.length) 10, ← Nat.mul_assoc]
    exact Nat.mul_le_mul_right _ (by omega)
theorem valN_lt : ∀ (l : List UInt8) (a : Nat), l.all dgC = true → valN a l < (a + 1) * 10 ^ l.length
  | [], a, _ => by rw [valN_nil, List.length_nil, Nat.pow_zero, Nat.mul_one]; exact Nat.lt_succ_self _
  | x :: r, a, h => by
    simp only [List.all_cons, Bool.and_eq_true] at h
    have h1 := dgC_yes.1 h.1
    have h2 := valN_lt r (10 * a + (x.toNat - 48)) h.2
    rw [valN_cons]
    refine Nat.lt_of_lt_of_le h2 ?_
    rw [List.length_cons, Nat.pow_succ, Nat.mul_comm (10 ^ r.length) 10, ← Nat.mul_assoc]
    exact Nat.mul_le_mul_right _ (by omega)
/-- the digits of a number from 0 on, as it is written -/
def natB (l : List UInt8) : Bool := l.all dgC && (decide (l ≠ []) && (decide (l.length = 1) || decide (l.head? ≠ some 48)))
theorem natB_dig {l : List UInt8} (h : natB l = true) : l.all dgC = true := by
  unfold natB at h; simp only [Bool.and_eq_true] at h; exact h.1
theorem natB_ne {l : List UInt8} (h : natB l = true) : l ≠ [] := by
  unfold natB at h; simp only [Bool.and_eq_true, decide_eq_true_eq] at h; exact h.2.1
theorem natB_head {l : List UInt8} (h : natB l = true) (k : 2 ≤ l.length) : l.head? ≠ some 48 := by
  unfold natB at h
  simp only [Bool.and_eq_true, decide_eq_true_eq, Bool.or_eq_true] at h
  rcases h.2.2 with h | h
  · omega
  · exact h
theorem natB_of {l : List UInt8} (h1 : l.all dgC = true) (h2 : l ≠ []) (h3 : l.length = 1 ∨ l.head? ≠ some 48) : natB l = true := by
  unfold natB
  simp only [Bool.and_eq_true, decide_eq_true_eq, Bool.or_eq_true]
  exact ⟨h1, h2, h3⟩
/-- digits that do not begin with 0 spell a great number -/
theorem val_big {l : List UInt8} (h : l.all dgC = true) (h0 : l ≠ []) (h1 : l.head? ≠ some 48) : 10 ^ (l.length - 1) ≤ valN 0 l := by
  cases l with
  | nil => exact absurd rfl h0
  | cons x r =>
    simp only [List.all_cons, Bool.and_eq_true] at h
    have hx := dgC_yes.1 h.1
    have hne : x.toNat ≠ 48 := fun e => h1 (by rw [List.head?_cons]; congr 1; exact UInt8.toNat_inj.1 e)
    have := valN_pow r (10 * 0 + (x.toNat - 48))
    rw [valN_cons]
    refine Nat.le_trans ?_ this
    rw [List.length_cons, Nat.add_sub_cancel]
    exact Nat.le_mul_of_pos_left _ (by omega)
theorem toNat_dg {d : Nat} (h : d < 10) : (UInt8.ofNat (48 + d)).toNat = 48 + d := by
  rw [UInt8.toNat_ofNat']; omega
theorem dec_dig : ∀ n : Nat, (Lib.decDigits n).all dgC = true := by
  intro n
  induction n using Nat.strongRecOn with
  | ind n ih =>
    rw [Lib.decDigits]
    by_cases h : n < 10
    · rw [dif_pos h]
      simp only [List.all_cons, List.all_nil, Bool.and_true]
      rw [dgC_yes, toNat_dg h]; omega
    · rw [dif_neg h, List.all_append, ih (n / 10) (by omega)]
      simp only [List.all_cons, List.all_nil, Bool.and_true, Bool.true_and]
      rw [dgC_yes, toNat_dg (by omega)]; omega
theorem dec_val : ∀ n : Nat, valN 0 (Lib.decDigits n) = n := by
  intro n
  induction n using Nat.strongRecOn with
  | ind n ih =>
    rw [Lib.decDigits]
    by_cases h : n < 10
    · rw [dif_pos h]
      show 10 * 0 + ((UInt8.ofNat (48 + n)).toNat - 48) = n
      rw [toNat_dg h]; omega
    · rw [dif_neg h, valN_snoc, ih (n / 10) (by omega), toNat_dg (by omega)]
      omega
theorem dec_ne (n : Nat) : Lib.decDigits n ≠ [] := by
  rw [Lib.decDigits]
  by_cases h : n < 10
  · rw [dif_pos h]; simp
  · rw [dif_neg h]; simp
theorem hd_app {a b : List UInt8} (h : a ≠ []) : (a ++ b).head? = a.head? := by
  cases a with
  | nil => exact absurd rfl h
  | cons x r => rfl
theorem dec_head : ∀ n : Nat, 1 ≤ n → (Lib.decDigits n).head? ≠ some 48 := by
  intro n
  induction n using Nat.strongRecOn with
  | ind n ih =>
    intro h1
    rw [Lib.decDigits]
    by_cases h : n < 10
    · rw [dif_pos h, List.head?_cons]
      intro e
      have := congrArg (fun x => x.toNat) (Option.some.inj e)
      rw [toNat_dg h] at this
      have h48 : (48 : UInt8).toNat = 48 := rfl
      omega
    · rw [dif_neg h, hd_app (dec_ne _)]
      exact ih (n / 10) (by omega) (by omega)
theorem dec_natB (n : Nat) : natB (Lib.decDigits n) = true := by
  refine natB_of (dec_dig n) (dec_ne n) ?_
  by_cases h : n < 10
  · left; rw [Lib.decDigits, dif_pos h]; rfl
  · right; exact dec_head n (by omega)
theorem val_pos {l : List UInt8} (h : l.all dgC = true) (h0 : l ≠ []) (h1 : l.head? ≠ some 48) : 1 ≤ valN 0 l :=
  Nat.le_trans (Nat.pow_pos (by decide)) (val_big h h0 h1)
theorem dec_of : ∀ (k : Nat) (l : List UInt8), l.length = k → natB l = true → Lib.decDigits (valN 0 l) = l
  | 0, l, hk, h => absurd (List.length_eq_zero_iff.1 hk) (natB_ne h)
  | 1, l, hk, h => by
    match l, hk with
    | [c], _ => ?_
    have h1 := natB_dig h
    simp only [List.all_cons, List.all_nil, Bool.and_true] at h1
    have h1 := dgC_yes.1 h1
    show Lib.decDigits (10 * 0 + (c.toNat - 48)) = [c]
    rw [Lib.decDigits, dif_pos (by omega)]
    congr 1
    apply UInt8.toNat_inj.1
    rw [toNat_dg (by omega)]; omega
  | k + 2, l, hk, h => by
    have hne : l ≠ [] := natB_ne h
    have hd := natB_dig h
    have hh := natB_head h (by omega)
    obtain ⟨r, c, rfl⟩ : ∃ r c, l = r ++ [c] := ⟨l.dropLast, l.getLast hne, (List.dropLast_concat_getLast hne).symm⟩
    simp only [List.length_append, List.length_cons, List.length_nil] at hk
    have hr : r ≠ [] := by intro e; rw [e] at hk; simp at hk
    rw [hd_app hr] at hh
    simp only [List.all_append, List.all_cons, List.all_nil, Bool.and_true, Bool.and_eq_true] at hd
    have hc := dgC_yes.1 hd.2
    have hv := val_pos hd.1 hr hh
    have ih := dec_of (k + 1) r (by omega) (natB_of hd.1 hr (.inr hh))
    rw [valN_snoc, Lib.decDigits, dif_neg (by omega)]
    rw [show (10 * valN 0 r + (c.toNat - 48)) / 10 = valN 0 r by omega, show (10 * valN 0 r + (c.toNat - 48)) % 10 = c.toNat - 48 by omega, ih]
    congr 2
    apply UInt8.toNat_inj.1
    rw [toNat_dg (by omega)]; omega

/-- a minus in front? -/
def ngB (l : List UInt8) : Bool := decide (l.head? = some 45)
def absL (l : List UInt8) : List UInt8 := if ngB l then l.tail else l
/-- the digits of a whole number, as it is written -/
def wholeB (l : List UInt8) : Bool := natB (absL l) && !(ngB l && decide (absL l = [48]))
def valZ (l : List UInt8) : Int := if ngB l then -(valN 0 (absL l) : Int) else valN 0 (absL l)
theorem ngB_cons (c : UInt8) (r : List UInt8) : ngB (c :: r) = decide (c.toNat = 45) := by
  unfold ngB
  rw [List.head?_cons, Bool.eq_iff_iff]
  simp only [decide_eq_true_eq, Option.some.injEq]
  constructor
  · rintro rfl; rfl
  · intro h; exact UInt8.toNat_inj.1 h
theorem ngB_dig {l : List UInt8} (h : l.all dgC = true) : ngB l = false := by
  cases l with
  | nil => rfl
  | cons c r =>
    rw [ngB_cons]
    simp only [List.all_cons, Bool.and_eq_true] at h
    have := dgC_yes.1 h.1
    exact decide_eq_false (by omega)
theorem absL_nat {l : List UInt8} (h : natB l = true) : absL l = l := by unfold absL; rw [ngB_dig (natB_dig h)]; rfl
theorem whole_nat {l : List UInt8} (h : natB l = true) : wholeB l = true := by
  unfold wholeB; rw [absL_nat h, h, ngB_dig (natB_dig h)]; rfl
theorem valZ_nat {l : List UInt8} (h : natB l = true) : valZ l = valN 0 l := by
  unfold valZ; rw [absL_nat h, ngB_dig (natB_dig h)]; rfl
/-- a whole number's digits are its digits -/
theorem itoa_valZ {l : List UInt8} (h : wholeB l = true) : Lib.itoa (valZ l) = l := by
  unfold wholeB at h
  simp only [Bool.and_eq_true, Bool.not_eq_true', Bool.and_eq_false_iff, decide_eq_false_iff_not] at h
  obtain ⟨h1, h2⟩ := h
  unfold valZ
  cases hn : ngB l
  · have ha : absL l = l := by unfold absL; rw [hn]; rfl
    rw [ha] at h1 ⊢
    rw [if_neg (by simp), Lib.itoa_nonneg]
    exact dec_of _ l rfl h1
  · have ha : absL l = l.tail := by unfold absL; rw [hn]; rfl
    have h3 : absL l ≠ [48] := by
      rcases h2 with h2 | h2
      · rw [hn] at h2; cases h2
      · exact h2
    rw [if_pos rfl]
    have hpos : 1 ≤ valN 0 (absL l) := by
      by_cases hl : (absL l).length = 1
      · match h4 : absL l, hl with
        | [c], _ => ?_
        rw [h4] at h1 h3
        have h5 := natB_dig h1
        simp only [List.all_cons, List.all_nil, Bool.and_true] at h5
        have h5 := dgC_yes.1 h5
        show 1 ≤ 10 * 0 + (c.toNat - 48)
        have : c.toNat ≠ 48 := fun e => h3 (by congr 1; exact UInt8.toNat_inj.1 e)
        omega
      · have h4 : 2 ≤ (absL l).length := by
          have := List.length_pos_iff.2 (natB_ne h1)
          omega
        exact val_pos (natB_dig h1) (natB_ne h1) (natB_head h1 h4)
    rw [Lib.itoa_neg _ hpos, dec_of _ _ rfl h1, ha]
    cases l with
    | nil => cases hn
    | cons c r =>
      rw [ngB_cons] at hn
      have : c.toNat = 45 := by simpa using hn
      rw [List.tail_cons]
      congr 1
      exact UInt8.toNat_inj.1 this.symm
theorem ngB_45 (r : List UInt8) : ngB (45 :: r) = true := rfl
theorem itoa_whole (n : Int) : wholeB (Lib.itoa n) = true := by
  rcases (show n < 0 ∨ 0 ≤ n by omega) with h | h
  · obtain ⟨u, hu, rfl⟩ : ∃ u : Nat, 1 ≤ u ∧ n = -(u : Int) := ⟨n.natAbs, by omega, by omega⟩
    rw [Lib.itoa_neg u hu]
    unfold wholeB
    rw [show absL (45 :: Lib.decDigits u) = Lib.decDigits u from rfl, dec_natB, ngB_45]
    simp only [Bool.true_and, Bool.not_eq_true', decide_eq_false_iff_not]
    intro e
    exact dec_head u hu (by rw [e]; rfl)
  · obtain ⟨u, rfl⟩ : ∃ u : Nat, n = (u : Int) := ⟨n.toNat, by omega⟩
    rw [Lib.itoa_nonneg]
    exact whole_nat (dec_natB u)
theorem valZ_itoa (n : Int) : valZ (Lib.itoa n) = n := by
  rcases (show n < 0 ∨ 0 ≤ n by omega) with h | h
  · obtain ⟨u, hu, rfl⟩ : ∃ u : Nat, 1 ≤ u ∧ n = -(u : Int) := ⟨n.natAbs, by omega, by omega⟩
    rw [Lib.itoa_neg u hu]
    unfold valZ
    rw [ngB_45, if_pos rfl, show absL (45 :: Lib.decDigits u) = Lib.decDigits u from rfl, dec_val]
  · obtain ⟨u, rfl⟩ : ∃ u : Nat, n = (u : Int) := ⟨n.toNat, by omega⟩
    rw [Lib.itoa_nonneg, valZ_nat (dec_natB u), dec_val]
theorem itoa_inj {l : List UInt8} (h : wholeB l = true) (n : Int) : Lib.itoa n = l ↔ n = valZ l := by
  constructor
  · intro e; rw [← e, valZ_itoa]
  · rintro rfl; exact itoa_valZ h

/-- strconv.ParseUint of digits -/
theorem puM {M : Nat} (hM : M = 18446744073709551615) : ∀ (l : List UInt8) (a : Nat), l.all dgC = true → a ≤ M → Lib.parseUintM M a l = if valN a l ≤ M then .ok (valN a l) else .range
  | [], a, _, h => by rw [Lib.parseUintM, valN_nil, if_pos h]
  | c :: r, a, hd, h => by
    simp only [List.all_cons, Bool.and_eq_true] at hd
    have hc := dgC_yes.1 hd.1
    have hge := valN_ge r (10 * a + (c.toNat - 48))
    rw [Lib.parseUintM, if_pos hc]
    rw [valN_cons]
    by_cases h1 : 1844674407370955162 ≤ a
    · rw [if_pos h1, if_neg (by omega)]
    · rw [if_neg h1]
      by_cases h2 : M < a * 10 + (c.toNat - 48)
      · rw [if_pos h2, if_neg (by omega)]
      · rw [if_neg h2, puM hM r _ hd.2 (by omega), Nat.mul_comm a 10]
theorem pi64 {l : List UInt8} (h : wholeB l = true) : Lib.parseIntB 64 l = if -9223372036854775808 ≤ valZ l ∧ valZ l ≤ 9223372036854775807 then .ok (valZ l) else .range := by
  have e1 : (2 : Nat) ^ (64 - 1) = 9223372036854775808 := by decide
  have e2 : (2 : Nat) ^ 64 - 1 = 18446744073709551615 := by decide
  have h' := h
  unfold wholeB at h'
  simp only [Bool.and_eq_true] at h'
  have hd := natB_dig h'.1
  have hne := natB_ne h'.1
  cases l with
  | nil => exact absurd rfl hne
  | cons c r =>
    have hU : Lib.parseUintB 64 (absL (c :: r)) = if valN 0 (absL (c :: r)) ≤ 18446744073709551615 then .ok (valN 0 (absL (c :: r))) else .range := by
      unfold Lib.parseUintB
      rw [if_neg hne, e2, puM rfl _ _ hd (by omega)]
    by_cases h45 : c.toNat = 45
    · have hc : c = 45 := UInt8.toNat_inj.1 h45
      subst hc
      rw [Lib.parseIntB_minus, e1]
      rw [show absL (45 :: r) = r from rfl] at hU
      rw [hU, show valZ (45 :: r) = -(valN 0 r : Int) from rfl]
      by_cases h1 : valN 0 r ≤ 18446744073709551615
      · rw [if_pos h1]
        unfold Lib.signedC
        by_cases h2 : 9223372036854775808 < valN 0 r
        · rw [if_neg (by omega)]; simp [h2]
        · rw [if_pos (by omega)]; simp [h2]
      · rw [if_neg h1, if_neg (by omega)]; rfl
    · have hn : ngB (c :: r) = false := by rw [ngB_cons]; exact decide_eq_false h45
      have ha : absL (c :: r) = c :: r := by unfold absL; rw [hn]; rfl
      rw [ha] at hU hd
      have hd0 := hd
      simp only [List.all_cons, Bool.and_eq_true] at hd0
      have hc := dgC_yes.1 hd0.1
      rw [Lib.parseIntB_plain 64 c r (by omega) h45, e1, hU]
      have hv : valZ (c :: r) = valN 0 (c :: r) := by unfold valZ; rw [hn, ha]; rfl
      rw [hv]
      by_cases h1 : valN 0 (c :: r) ≤ 18446744073709551615
      · rw [if_pos h1]
        unfold Lib.signlessC
        by_cases h2 : 9223372036854775808 ≤ valN 0 (c :: r)
        · rw [if_neg (by omega)]; simp [h2]
        · rw [if_pos (by omega)]; simp; omega
      · rw [if_neg h1, if_neg (by omega)]; rfl
/-- what Int answers -/
def intE (l : List UInt8) (lo hi : Int) : Int := if hi < lo then 2 else if wholeB l = false then 6 else if lo ≤ valZ l ∧ valZ l ≤ hi then 0 else 7
def intV (l : List UInt8) (lo hi : Int) : Int := if intE l lo hi = 0 then valZ l else 0
theorem intE_arg {l : List UInt8} {lo hi : Int} (h : hi < lo) : intE l lo hi = 2 := by unfold intE; rw [if_pos h]
theorem intE_form {l : List UInt8} {lo hi : Int} (h : lo ≤ hi) (k : wholeB l = false) : intE l lo hi = 6 := by unfold intE; rw [if_neg (by omega), if_pos k]
theorem intE_whole {l : List UInt8} {lo hi : Int} (h : lo ≤ hi) (k : wholeB l = true) : intE l lo hi = if lo ≤ valZ l ∧ valZ l ≤ hi then 0 else 7 := by unfold intE; rw [if_neg (by omega), if_neg (by simp [k])]
theorem intV_ok {l : List UInt8} {lo hi : Int} (h : intE l lo hi = 0) : intV l lo hi = valZ l := by unfold intV; rw [if_pos h]
theorem intV_no {l : List UInt8} {lo hi : Int} (h : intE l lo hi ≠ 0) : intV l lo hi = 0 := by unfold intV; rw [if_neg h]
/-- a whole number of more than 20 bytes does not fit -/
theorem val_long {l : List UInt8} (h : wholeB l = true) (k : 20 < l.length) : ¬ (-9223372036854775808 ≤ valZ l ∧ valZ l ≤ 9223372036854775807) := by
  unfold wholeB at h
  simp only [Bool.and_eq_true] at h
  have hn := h.1
  have hl : 20 ≤ (absL l).length := by
    unfold absL
    split
    · rw [List.length_tail]; omega
    · omega
  have h1 := val_big (natB_dig hn) (natB_ne hn) (natB_head hn (by omega))
  have h2 : (10 : Nat) ^ 19 ≤ 10 ^ ((absL l).length - 1) := Nat.pow_le_pow_right (by decide) (by omega)
  have h3 : (10 : Nat) ^ 19 = 10000000000000000000 := by decide
  unfold valZ
  split <;> omega
end Go.Proofs.YtgbdhmdaefbglaaDoor

namespace Go.Proofs.YtgbdhmdaefbglaaDoor

/-- the pieces between the bytes c -/
def spl (c : UInt8) : List UInt8 → List (List UInt8)
  | [] => [[]]
  | x :: r => if x = c then [] :: spl c r else (x :: (spl c r).headD []) :: (spl c r).tail
theorem spl_nil (c : UInt8) : spl c [] = [[]] := rfl
theorem spl_ne (c : UInt8) (l : List UInt8) : spl c l ≠ [] := by
  cases l with
  | nil => simp [spl]
  | cons x r =>
    rw [spl]
    split <;> simp
theorem spl_hit (c : UInt8) (r : List UInt8) : spl c (c :: r) = [] :: spl c r := by rw [spl, if_pos rfl]
theorem spl_miss {c x : UInt8} {r : List UInt8} (h : x ≠ c) : spl c (x :: r) = (x :: (spl c r).headD []) :: (spl c r).tail := by rw [spl, if_neg h]
theorem hd_mem {l : List (List UInt8)} (h : l ≠ []) : l.headD [] ∈ l := by
  cases l with
  | nil => exact absurd rfl h
  | cons p q => exact List.mem_cons_self ..
/-- a text without the byte is one piece -/
theorem spl_one {c : UInt8} : ∀ {l : List UInt8}, c ∉ l → spl c l = [l]
  | [], _ => rfl
  | x :: r, h => by
    have h1 : x ≠ c := fun e => h (by rw [e]; exact List.mem_cons_self ..)
    have h2 := spl_one (l := r) (fun k => h (List.mem_cons_of_mem _ k))
    rw [spl_miss h1]
    simp [h2]
theorem spl_cut {c : UInt8} : ∀ {a r : List UInt8}, c ∉ a → spl c (a ++ c :: r) = a :: spl c r
  | [], r, _ => by rw [List.nil_append, spl_hit]
  | x :: a, r, h => by
    have h1 : x ≠ c := fun e => h (by rw [e]; exact List.mem_cons_self ..)
    have h2 := spl_cut (a := a) (r := r) (fun k => h (List.mem_cons_of_mem _ k))
    rw [List.cons_append, spl_miss h1]
    simp [h2]
theorem spl_mem {c : UInt8} : ∀ {l p : List UInt8}, p ∈ spl c l → c ∉ p
  | [], p, h => by
    rw [spl_nil] at h
    have : p = [] := by simpa using h
    subst this; simp
  | x :: r, p, h => by
    by_cases e : x = c
    · subst e
      rw [spl_hit] at h
      rcases List.mem_cons.1 h with rfl | h
      · simp
      · exact spl_mem h
    · rw [spl_miss e] at h
      rcases List.mem_cons.1 h with rfl | h
      · intro k
        rcases List.mem_cons.1 k with k | k
        · exact e k.symm
        · exact spl_mem (hd_mem (spl_ne c r)) k
      · exact spl_mem (List.mem_of_mem_tail h)
/-- the pieces, joined -/
def jn (c : UInt8) : List (List UInt8) → List UInt8
  | [] => []
  | [p] => p
  | p :: q :: r => p ++ c :: jn c (q :: r)
theorem jn_cons {c : UInt8} {p : List UInt8} {l : List (List UInt8)} (h : l ≠ []) : jn c (p :: l) = p ++ c :: jn c l := by
  cases l with
  | nil => exact absurd rfl h
  | cons q r => rfl
theorem jn_spl (c : UInt8) : ∀ l : List UInt8, jn c (spl c l) = l
  | [] => rfl
  | x :: r => by
    have ih := jn_spl c r
    by_cases e : x = c
    · subst e; rw [spl_hit, jn_cons (spl_ne x r), ih]; rfl
    · rw [spl_miss e]
      have hn := spl_ne c r
      cases hs : spl c r with
      | nil => exact absurd hs hn
      | cons p q =>
        rw [hs] at ih
        simp only [List.headD_cons, List.tail_cons]
        cases q with
        | nil =>
          rw [show jn c [p] = p from rfl] at ih
          rw [show jn c [x :: p] = x :: p from rfl, ih]
        | cons q1 q2 =>
          rw [jn_cons (by simp)] at ih ⊢
          rw [List.cons_append, ih]
theorem spl_jn {c : UInt8} : ∀ {l : List (List UInt8)}, l ≠ [] → (∀ p, p ∈ l → c ∉ p) → spl c (jn c l) = l
  | [], h, _ => absurd rfl h
  | [p], _, h => spl_one (h p (List.mem_cons_self ..))
  | p :: q :: r, _, h => by
    rw [jn_cons (by simp), spl_cut (h p (List.mem_cons_self ..)), spl_jn (by simp) (fun a ha => h a (List.mem_cons_of_mem _ ha))]
theorem spl_len (c : UInt8) : ∀ l : List UInt8, (spl c l).length = l.count c + 1
  | [] => rfl
  | x :: r => by
    have ih := spl_len c r
    by_cases e : x = c
    · subst e; rw [spl_hit, List.length_cons, ih, List.count_cons_self]
    · rw [spl_miss e, List.length_cons, List.length_tail, ih, List.count_cons_of_ne (by simpa using e)]; omega
/-- the kit's own cutting, at one byte -/
theorem splK_one (c : UInt8) : ∀ (n : Nat) (l : List UInt8), l.length ≤ n → Lib.splitK [c] 0 (Lib.count l [c]) l = spl c l
  | n, l, hn => by
    by_cases hm : c ∈ l
    · obtain ⟨a, r, rfl, ha⟩ := cut_first hm
      have hix : Lib.index (a ++ c :: r) [c] = (a.length : Int) := ix_cut ha
      have hd : (a ++ c :: r).drop (a.length + 1) = r := by rw [List.drop_append]; simp
      have hct : Lib.count (a ++ c :: r) [c] = Lib.count r [c] + 1 := by
        rw [Lib.count_hit (by simp) hix]
        rw [List.length_singleton, hd, Nat.add_comm]
      rw [hct, Lib.splitK, if_neg (by rw [hix]; simp), hix, Int.toNat_natCast, List.length_singleton, hd, spl_cut ha]
      congr 1
      · simp
      · match n, hn with
        | 0, hn => simp at hn
        | n + 1, hn => exact splK_one c n r (by simp at hn; omega)
    · have hix : Lib.index l [c] = -1 := ix_none hm
      rw [Lib.count_miss hix, Lib.splitK, spl_one hm]
where
  cut_first {c : UInt8} : ∀ {l : List UInt8}, c ∈ l → ∃ a r, l = a ++ c :: r ∧ c ∉ a
    | [], h => by cases h
    | x :: l, h => by
      by_cases e : x = c
      · subst e; exact ⟨[], l, rfl, by simp⟩
      · obtain ⟨a, r, e1, e2⟩ := cut_first (l := l) ((List.mem_cons.1 h).resolve_left (fun k => e k.symm))
        exact ⟨x :: a, r, by rw [e1]; rfl, fun k => (List.mem_cons.1 k).elim (fun k => e k.symm) e2⟩
  ix_cut {c : UInt8} {r : List UInt8} : ∀ {a : List UInt8}, c ∉ a → Lib.index (a ++ c :: r) [c] = (a.length : Int)
    | [], _ => by rw [List.nil_append, Lib.index]; simp [List.isPrefixOf]
    | x :: a, h => by
      have hx : x ≠ c := fun e => h (by rw [e]; exact List.mem_cons_self ..)
      have ih := ix_cut (r := r) (a := a) (fun k => h (List.mem_cons_of_mem _ k))
      have hp : ([c] : List UInt8).isPrefixOf (x :: (a ++ c :: r)) = false := by simp [List.isPrefixOf, Ne.symm hx]
      rw [List.cons_append, Lib.index, hp, ih]
      have : ((a.length : Int) == -1) = false := by simp
      rw [this]; simp
  ix_none {c : UInt8} : ∀ {l : List UInt8}, c ∉ l → Lib.index l [c] = -1
    | [], _ => rfl
    | x :: l, h => by
      have hx : x ≠ c := fun e => h (by rw [e]; exact List.mem_cons_self ..)
      have ih := ix_none (l := l) (fun k => h (List.mem_cons_of_mem _ k))
      have hp : ([c] : List UInt8).isPrefixOf (x :: l) = false := by simp [List.isPrefixOf, Ne.symm hx]
      rw [Lib.index, hp, ih]; rfl
theorem splB_one (c : UInt8) (s : ByteArray) : (Lib.splitB ⟨#[c]⟩ 0 (Lib.countB s ⟨#[c]⟩) s).map (·.data.toList) = spl c s.data.toList := by
  rw [Lib.splitB_data]
  exact splK_one c _ _ (Nat.le_refl _)
theorem cntB_one (c : UInt8) (s : ByteArray) : Lib.countB s ⟨#[c]⟩ = s.data.toList.count c := Lib.count_one c _
/-- the lines of a text -/
def lnsE (l : List UInt8) : Int := if 1048576 < l.length then 3 else if l = [] then 0 else if l.getLast? ≠ some 10 then 6 else if 5000 < l.count 10 then 3 else 0
def lnsL (l : List UInt8) : List (List UInt8) := if lnsE l ≠ 0 ∨ l = [] then [] else spl 10 l.dropLast
end Go.Proofs.YtgbdhmdaefbglaaDoor

namespace Go.Proofs.YtgbdhmdaefbglaaDoor

def everyL : List UInt8 := [101, 118, 101, 114, 121]
def timesL : List UInt8 := [116, 105, 109, 101, 115]
def numE (l : List UInt8) : Int := intE l 0 1000000000
def numV (l : List UInt8) : Int := intV l 0 1000000000
theorem num_ways (l : List UInt8) : (numE l = 0 ∧ wholeB l = true ∧ numV l = valZ l ∧ 0 ≤ numV l ∧ numV l ≤ 1000000000) ∨ (numE l ≠ 0 ∧ numV l = 0) := by
  unfold numE numV
  by_cases h : intE l 0 1000000000 = 0
  · left
    have h2 := intV_ok h
    cases hw : wholeB l
    · rw [intE_form (by decide) hw] at h; cases h
    · rw [intE_whole (by decide) hw] at h
      by_cases h3 : 0 ≤ valZ l ∧ valZ l ≤ 1000000000
      · rw [h2]
        exact ⟨by rw [intE_whole (by decide) hw, if_pos h3], rfl, rfl, h3.1, h3.2⟩
      · rw [if_neg h3] at h; cases h
  · exact .inr ⟨h, intV_no h⟩
theorem num_itoa {n : Int} (h0 : 0 ≤ n) (h1 : n ≤ 1000000000) : numE (Lib.itoa n) = 0 ∧ numV (Lib.itoa n) = n := by
  have hw := itoa_whole n
  have hE : numE (Lib.itoa n) = 0 := by
    unfold numE
    rw [intE_whole (by decide) hw, valZ_itoa, if_pos ⟨h0, h1⟩]
  refine ⟨hE, ?_⟩
  unfold numV
  rw [intV_ok hE, valZ_itoa]
theorem itoa_num {l : List UInt8} (h : numE l = 0) : Lib.itoa (numV l) = l := by
  rcases num_ways l with ⟨_, hw, hv, _⟩ | ⟨h', _⟩
  · rw [hv]; exact itoa_valZ hw
  · exact absurd h h'
/-- the number of a name; -1: none -/
def knI (l : List UInt8) : Int := if l ∈ knames then (knames.idxOf l : Int) else -1
theorem knI_hit {k : Nat} (h : k < 7) : knI (kname k) = k := by
  have : ∀ k, k < 7 → knI (kname k) = k := by decide +kernel
  exact this k h
theorem knI_none {l : List UInt8} (h : ∀ k, k < 7 → kname k ≠ l) : knI l = -1 := by
  unfold knI
  rw [if_neg]
  intro hm
  obtain ⟨i, hi⟩ := List.mem_iff_getElem?.1 hm
  have hlt : i < 7 := by
    rcases Nat.lt_or_ge i 7 with h' | h'
    · exact h'
    · rw [List.getElem?_eq_none (by exact h')] at hi; cases hi
  refine h i hlt ?_
  unfold kname
  rw [List.getD_eq_getElem?_getD, hi]; rfl
theorem knI_ways (l : List UInt8) : (∃ k, k < 7 ∧ l = kname k ∧ knI l = k) ∨ ((∀ k, k < 7 → kname k ≠ l) ∧ knI l = -1) := by
  by_cases h : ∃ k, k < 7 ∧ l = kname k
  · obtain ⟨k, hk, rfl⟩ := h
    exact .inl ⟨k, hk, rfl, knI_hit hk⟩
  · have h' : ∀ k, k < 7 → kname k ≠ l := fun k hk e => h ⟨k, hk, e.symm⟩
    exact .inr ⟨h', knI_none h'⟩
/-- the rule of a line's words -/
def wdP : List (List UInt8) → Option Rl
  | [a, b] => if 0 ≤ knI a ∧ numE b = 0 then some (knI a, numV b, 0, 1) else none
  | [a, b, c, d] => if 0 ≤ knI a ∧ numE b = 0 ∧ numE d = 0 ∧ numV d ≠ 0 ∧ c = everyL then some (knI a, numV b, numV d, 0) else none
  | [a, b, c, d, e, f] => if 0 ≤ knI a ∧ numE b = 0 ∧ numE d = 0 ∧ numV d ≠ 0 ∧ c = everyL ∧ numE f = 0 ∧ numV f ≠ 0 ∧ e = timesL then some (knI a, numV b, numV d, numV f) else none
  | _ => none
theorem wdP_2 (a b : List UInt8) : wdP [a, b] = if 0 ≤ knI a ∧ numE b = 0 then some (knI a, numV b, 0, 1) else none := rfl
theorem wdP_4 (a b c d : List UInt8) : wdP [a, b, c, d] = if 0 ≤ knI a ∧ numE b = 0 ∧ numE d = 0 ∧ numV d ≠ 0 ∧ c = everyL then some (knI a, numV b, numV d, 0) else none := rfl
theorem wdP_6 (a b c d e f : List UInt8) : wdP [a, b, c, d, e, f] = if 0 ≤ knI a ∧ numE b = 0 ∧ numE d = 0 ∧ numV d ≠ 0 ∧ c = everyL ∧ numE f = 0 ∧ numV f ≠ 0 ∧ e = timesL then some (knI a, numV b, numV d, numV f) else none := rfl
def lnP (l : List UInt8) : Option Rl := wdP (spl 32 l)
theorem wdP_odd {P : List (List UInt8)} (h : P.length % 2 ≠ 0 ∨ 6 < P.length) (h0 : P ≠ []) : wdP P = none := by
  match P, h, h0 with
  | [], _, h0 => exact absurd rfl h0
  | [_], _, _ => rfl
  | [_, _], h, _ => simp at h
  | [_, _, _], _, _ => rfl
  | [_, _, _, _], h, _ => simp at h
  | [_, _, _, _, _], _, _ => rfl
  | [_, _, _, _, _, _], h, _ => simp at h
  | _ :: _ :: _ :: _ :: _ :: _ :: _ :: _, _, _ => rfl
theorem wdP_kind {P : List (List UInt8)} (h : knI (P.headD []) < 0) : wdP P = none := by
  match P, h with
  | [], _ => rfl
  | [_], _ => rfl
  | [a, _], h => rw [wdP_2, if_neg]; intro k; exact absurd k.1 (by have : knI a < 0 := h; omega)
  | [_, _, _], _ => rfl
  | [a, _, _, _], h => rw [wdP_4, if_neg]; intro k; exact absurd k.1 (by have : knI a < 0 := h; omega)
  | [_, _, _, _, _], _ => rfl
  | [a, _, _, _, _, _], h => rw [wdP_6, if_neg]; intro k; exact absurd k.1 (by have : knI a < 0 := h; omega)
  | _ :: _ :: _ :: _ :: _ :: _ :: _ :: _, _ => rfl
/-- a rule's line, without its end -/
def line0 (x : Rl) : List UInt8 :=
  kname x.1.toNat ++ [32] ++ Lib.itoa x.2.1 ++ ((if 0 < x.2.2.1 then [32, 101, 118, 101, 114, 121, 32] ++ Lib.itoa x.2.2.1 else []) ++ (if 0 < x.2.2.1 ∧ 0 < x.2.2.2 then [32, 116, 105, 109, 101, 115, 32] ++ Lib.itoa x.2.2.2 else []))
theorem line_0 (x : Rl) : lineB x = line0 x ++ [10] := by unfold lineB line0; simp
theorem itoa_no {n : Int} {c : UInt8} (hc : dgC c = false) (h45 : c ≠ 45) : c ∉ Lib.itoa n := by
  intro h
  rcases (show n < 0 ∨ 0 ≤ n by omega) with hn | hn
  · obtain ⟨u, hu, rfl⟩ : ∃ u : Nat, 1 ≤ u ∧ n = -(u : Int) := ⟨n.natAbs, by omega, by omega⟩
    rw [Lib.itoa_neg u hu] at h
    rcases List.mem_cons.1 h with h | h
    · exact h45 h
    · have := List.all_eq_true.1 (dec_dig u) c h
      rw [hc] at this; cases this
  · obtain ⟨u, rfl⟩ : ∃ u : Nat, n = (u : Int) := ⟨n.toNat, by omega⟩
    rw [Lib.itoa_nonneg] at h
    have := List.all_eq_true.1 (dec_dig u) c h
    rw [hc] at this; cases this
theorem kname_no {k : Nat} (h : k < 7) : (32 : UInt8) ∉ kname k ∧ (10 : UInt8) ∉ kname k := by
  have : ∀ k, k < 7 → (32 : UInt8) ∉ kname k ∧ (10 : UInt8) ∉ kname k := by decide +kernel
  exact this k h
/-- the words of a rule -/
def words (x : Rl) : List (List UInt8) :=
  [kname x.1.toNat, Lib.itoa x.2.1] ++ ((if 0 < x.2.2.1 then [everyL, Lib.itoa x.2.2.1] else []) ++ (if 0 < x.2.2.1 ∧ 0 < x.2.2.2 then [timesL, Lib.itoa x.2.2.2] else []))
theorem line0_jn (x : Rl) : line0 x = jn 32 (words x) := by
  unfold line0 words
  by_cases h1 : 0 < x.2.2.1
  · by_cases h2 : 0 < x.2.2.2
    · rw [if_pos h1, if_pos ⟨h1, h2⟩, if_pos h1, if_pos ⟨h1, h2⟩]
      simp [jn, everyL, timesL]
    · rw [if_pos h1, if_neg (fun h => h2 h.2), if_pos h1, if_neg (fun h => h2 h.2)]
      simp [jn, everyL]
  · rw [if_neg h1, if_neg (fun h => h1 h.1), if_neg h1, if_neg (fun h => h1 h.1)]
    simp [jn]
theorem words_no {x : Rl} (hk : x.1.toNat < 7) {p : List UInt8} (h : p ∈ words x) : (32 : UInt8) ∉ p := by
  have hi : ∀ n : Int, (32 : UInt8) ∉ Lib.itoa n := fun n => itoa_no rfl (by decide)
  unfold words at h
  simp only [List.mem_append, List.mem_cons, List.not_mem_nil, or_false] at h
  rcases h with (rfl | rfl) | h | h
  · exact (kname_no hk).1
  · exact hi _
  · split at h
    · simp only [List.mem_cons, List.not_mem_nil, or_false] at h
      rcases h with rfl | rfl
      · decide
      · exact hi _
    · cases h
  · split at h
    · simp only [List.mem_cons, List.not_mem_nil, or_false] at h
      rcases h with rfl | rfl
      · decide
      · exact hi _
    · cases h
theorem spl_line {x : Rl} (hk : x.1.toNat < 7) : spl 32 (line0 x) = words x := by
  rw [line0_jn]
  exact spl_jn (by unfold words; simp) (fun p hp => words_no hk hp)
/-- a rule's line is read -/
theorem ln_line {x : Rl} (h : RlOk x) : lnP (line0 x) = some x := by
  have hk0 := h.k0
  have hk1 := h.k1
  have hk : x.1.toNat < 7 := by omega
  have hkn : knI (kname x.1.toNat) = x.1 := by rw [knI_hit hk]; omega
  have hF := num_itoa (n := x.2.1) (by have := h.f0; omega) (by have := h.f1; omega)
  have hE := num_itoa (n := x.2.2.1) h.e0 (by have := h.e1; omega)
  have hT := num_itoa (n := x.2.2.2) h.t0 (by have := h.t1; omega)
  unfold lnP
  rw [spl_line hk]
  unfold words
  by_cases h1 : 0 < x.2.2.1
  · by_cases h2 : 0 < x.2.2.2
    · rw [if_pos h1, if_pos ⟨h1, h2⟩]
      show wdP [_, _, _, _, _, _] = _
      rw [wdP_6, hkn, hF.1, hF.2, hE.1, hE.2, hT.1, hT.2, if_pos ⟨hk0, rfl, rfl, by omega, rfl, rfl, by omega, rfl⟩]
    · rw [if_pos h1, if_neg (fun h => h2 h.2)]
      show wdP [_, _, _, _] = _
      have ht := h.t0
      rw [wdP_4, hkn, hF.1, hF.2, hE.1, hE.2, if_pos ⟨hk0, rfl, rfl, by omega, rfl⟩, show (0 : Int) = x.2.2.2 by omega]
  · rw [if_neg h1, if_neg (fun h => h1 h.1)]
    show wdP [_, _] = _
    have he := h.e0
    have hz : x.2.2.1 = 0 := by omega
    have ht := h.et hz
    rw [wdP_2, hkn, hF.1, hF.2, if_pos ⟨hk0, rfl⟩]
    obtain ⟨a, b, c, d⟩ := x
    dsimp only at hz ht
    rw [hz, ht]
/-- what is read is the line -/
theorem line_ln {l : List UInt8} {x : Rl} (h : lnP l = some x) : line0 x = l := by
  have hj := jn_spl 32 l
  unfold lnP at h
  have kk : ∀ a : List UInt8, 0 ≤ knI a → kname (knI a).toNat = a := fun a ha => by
    rcases knI_ways a with ⟨k, _, rfl, e⟩ | ⟨_, e⟩
    · rw [e, Int.toNat_natCast]
    · omega
  rw [line0_jn, ← hj]
  congr 1
  match hs : spl 32 l, h with
  | [a, b], h =>
    rw [wdP_2] at h
    split at h
    · rename_i hc
      cases h
      unfold words
      have hz : ¬ 0 < (0 : Int) := by decide
      rw [if_neg hz, if_neg (fun h => hz h.1)]
      show [_, _] = [_, _]
      rw [kk a hc.1, itoa_num hc.2]
    · cases h
  | [a, b, c, d], h =>
    rw [wdP_4] at h
    split at h
    · rename_i hc
      obtain ⟨h1, h2, h3, h4, rfl⟩ := hc
      cases h
      have hp : 0 < numV d := by
        rcases num_ways d with ⟨_, _, _, h5, _⟩ | ⟨h5, _⟩
        · omega
        · exact absurd h3 h5
      unfold words
      have hz : ¬ 0 < (0 : Int) := by decide
      rw [if_pos hp, if_neg (fun h => hz h.2)]
      show [_, _, _, _] = [_, _, _, _]
      rw [kk a h1, itoa_num h2, itoa_num h3]
    · cases h
  | [a, b, c, d, e, f], h =>
    rw [wdP_6] at h
    split at h
    · rename_i hc
      obtain ⟨h1, h2, h3, h4, rfl, h6, h7, rfl⟩ := hc
      cases h
      have hp : ∀ d : List UInt8, numE d = 0 → numV d ≠ 0 → 0 < numV d := fun d h3 h4 => by
        rcases num_ways d with ⟨_, _, _, h5, _⟩ | ⟨h5, _⟩
        · omega
        · exact absurd h3 h5
      unfold words
      rw [if_pos (hp d h3 h4), if_pos ⟨hp d h3 h4, hp f h6 h7⟩]
      show [_, _, _, _, _, _] = [_, _, _, _, _, _]
      rw [kk a h1, itoa_num h2, itoa_num h3, itoa_num h6]
    · cases h
  | [], h => cases h
  | [_], h => cases h
  | [_, _, _], h => cases h
  | [_, _, _, _, _], h => cases h
  | _ :: _ :: _ :: _ :: _ :: _ :: _ :: _, h => cases h

theorem jn_end {L : List (List UInt8)} (h : L ≠ []) : (L.map (· ++ [10])).flatten = jn 10 L ++ [10] := by
  induction L with
  | nil => exact absurd rfl h
  | cons p q ih =>
    cases q with
    | nil => simp [jn]
    | cons a b =>
      have := ih (by simp)
      rw [jn_cons (by simp), List.map_cons, List.flatten_cons, this]
      simp
theorem line0_no {x : Rl} (hk : x.1.toNat < 7) : (10 : UInt8) ∉ line0 x := by
  have hi : ∀ n : Int, (10 : UInt8) ∉ Lib.itoa n := fun n => itoa_no rfl (by decide)
  unfold line0
  simp only [List.mem_append, not_or]
  refine ⟨⟨⟨(kname_no hk).2, by decide⟩, hi _⟩, ?_, ?_⟩
  · split
    · simp only [List.mem_append, not_or]; exact ⟨by decide, hi _⟩
    · simp
  · split
    · simp only [List.mem_append, not_or]; exact ⟨by decide, hi _⟩
    · simp
theorem text_flat (R : Nat → Rl) : ∀ n, textB R n = (((List.range n).map fun i => line0 (R i)).map (· ++ [10])).flatten
  | 0 => rfl
  | n + 1 => by
    rw [textB, text_flat R n, List.range_succ, List.map_append, List.map_append, List.flatten_append, line_0]
    simp
theorem text_lines {n : Nat} {R : Nat → Rl} (hn : n ≤ 50) (h : ∀ i, i < n → RlOk (R i)) : lnsE (textB R n) = 0 ∧ lnsL (textB R n) = (List.range n).map fun i => line0 (R i) := by
  have hlen := text_len (R := R) (k := n) h
  by_cases h0 : n = 0
  · subst h0
    exact ⟨rfl, rfl⟩
  · have hL : ((List.range n).map fun i => line0 (R i)) ≠ [] := by simp [h0]
    have ht := text_flat R n
    rw [jn_end hL] at ht
    have hno : ∀ p, p ∈ ((List.range n).map fun i => line0 (R i)) → (10 : UInt8) ∉ p := by
      intro p hp
      obtain ⟨i, hi, rfl⟩ := List.mem_map.1 hp
      have hr := h i (List.mem_range.1 hi)
      exact line0_no (by have := hr.k0; have := hr.k1; omega)
    have hne : textB R n ≠ [] := by rw [ht]; simp
    have hsp := spl_jn hL hno
    have hct : (textB R n).count 10 = n := by
      have := spl_len 10 (jn 10 ((List.range n).map fun i => line0 (R i)))
      rw [hsp, List.length_map, List.length_range] at this
      rw [ht, List.count_append]
      simp only [List.count_cons_self, List.count_nil]
      omega
    have hE : lnsE (textB R n) = 0 := by
      unfold lnsE
      rw [if_neg (by omega), if_neg hne, if_neg (by rw [ht]; simp), hct, if_neg (by omega)]
    refine ⟨hE, ?_⟩
    unfold lnsL
    rw [if_neg (by simp [hE, hne]), ht, List.dropLast_concat, hsp]
end Go.Proofs.YtgbdhmdaefbglaaDoor
