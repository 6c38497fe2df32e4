/- Refusals: the text of a plan: Print. -/
import Derived.Test.YtgbdhmdaefbglaaDoorR5H
import Derived.Test.YtgbdhmdaefbglaaDoorTabs
import Derived.Deep.RegionHeld3
import Derived.Deep.DrawnRows
namespace Go.Proofs.YtgbdhmdaefbglaaDoor
open Go.RowKit Go.Sort Go.Joins Go.Shelf
attribute [local go_sem] cell_grow frozen_grow size_grow
attribute [local go_sem ↓] Go.wp_at_zero Go.wp_at_succ

/-- the names of the kinds -/
def knames : List (List UInt8) := [[114, 101, 115, 101, 114, 118, 101], [114, 101, 108, 101, 97, 115, 101], [99, 111, 109, 109, 105, 116], [100, 101, 99, 111, 109, 109, 105, 116], [112, 114, 111, 116, 101, 99, 116], [106, 111, 105, 110], [115, 112, 108, 105, 116]]
def kname (k : Nat) : List UInt8 := knames.getD k []
theorem kname_len : ∀ k, k < 7 → (kname k).length ≤ 8 := by decide
/-- the tables that the program reads -/
structure T5 (w : World) : Prop where
  pow : Lib.TabIs Tryd.prog w "internal/strconv.uint64pow10" .u64 Lib.pow10Tab
  nm : ∀ k, k < 7 → w.cell? ⟨0, k, none⟩ = some (.string ⟨(kname k).toArray⟩)
theorem T5.below {w w' : World} (h : T5 w) (hb : Below w.heap.size w w') : T5 w' := ⟨tabIs_below h.pow hb, fun k hk => cell_later hb (h.nm k hk)⟩
theorem T5.lt {w : World} (h : T5 w) : 0 < w.heap.size := World.block_lt_of_cell? _ _ (h.nm 0 (by decide))
/-- the line of a rule -/
def lineB (x : Rl) : List UInt8 :=
  kname x.1.toNat ++ [32] ++ Lib.itoa x.2.1 ++ ((if 0 < x.2.2.1 then [32, 101, 118, 101, 114, 121, 32] ++ Lib.itoa x.2.2.1 else []) ++ ((if 0 < x.2.2.1 ∧ 0 < x.2.2.2 then [32, 116, 105, 109, 101, 115, 32] ++ Lib.itoa x.2.2.2 else []) ++ [10]))
/-- the text of the first rules of a plan -/
def textB (R : Nat → Rl) : Nat → List UInt8
  | 0 => []
  | k + 1 => textB R k ++ lineB (R k)
theorem line_len {x : Rl} (h : RlOk x) : (lineB x).length ≤ 50 := by
  have h1 := kname_len x.1.toNat (by have := h.k0; have := h.k1; omega)
  have h2 := itoa_len (n := x.2.1) (k := 4) (by have := h.f0; omega) (by have := h.f1; omega)
  have h3 := itoa_len (n := x.2.2.1) (k := 4) h.e0 (by have := h.e1; omega)
  have h4 := itoa_len (n := x.2.2.2) (k := 4) h.t0 (by have := h.t1; omega)
  unfold lineB
  simp only [List.length_append, List.length_cons, List.length_nil]
  split <;> split <;> simp only [List.length_append, List.length_cons, List.length_nil] <;> omega
theorem text_len {R : Nat → Rl} : ∀ {k : Nat}, (∀ i, i < k → RlOk (R i)) → (textB R k).length ≤ 50 * k
  | 0, _ => Nat.le_refl _
  | k + 1, h => by
    have h1 := text_len (k := k) fun i hi => h i (by omega)
    have h2 := line_len (h k (by omega))
    simp only [textB, List.length_append]
    omega
theorem itoa_small {n : Int} {w : World} (h0 : 0 ≤ n) (h1 : n ≤ 10000) (hT : T5 w) :
    Calls Tryd.prog 18 #[.int .i64 n] w fun e w' => e = .returned (.string ⟨(Lib.itoa n).toArray⟩) ∧ Below w.heap.size w w' := by
  refine (Tryd.strconv_Itoa n (by omega) (by omega) w hT.pow).mono ?_
  rintro e w' ⟨rfl, k, os, rfl⟩
  exact ⟨rfl, below_regrown w _ os⟩
/-- a builder that holds a text -/
abbrev Bld (w : World) (b : Nat) (l : List UInt8) (wr : World) : Prop := Lib.IsBuilderF 43 5 w.heap.size b (Lib.byteCells l) wr
theorem str_size (l : List UInt8) : (⟨l.toArray⟩ : ByteArray).size = l.length := by simp [ByteArray.size]
theorem wrStr {w wr : World} {b : Nat} {l s : List UInt8} {S : ByteArray} (hS : S.data.toList = s) (h : Bld w b l wr) (hl : l.length + s.length ≤ 1000000) (hB : Below w.heap.size w wr) :
    Calls Tryd.prog 17 #[.pointer (some ⟨b, 0, none⟩), .string S] wr fun e w' => ∃ v, e = .returned v ∧ Bld w b (l ++ s) w' ∧ Below w.heap.size wr w' ∧ Lib.OthersKept 5 (some b) wr w' := by
  have hs : S.size = s.length := by rw [← hS, Array.length_toList]; rfl
  refine (bldString w.heap.size b _ S wr h (by rw [Lib.byteCells_length]; omega) hB.size).mono ?_
  rintro e w' ⟨rfl, h1, h2, h3⟩
  refine ⟨_, rfl, .inr ?_, h2, h3⟩
  rw [Lib.byteCells_append, ← hS, ← Lib.strCells_eq]
  exact h1
theorem wrByte {w wr : World} {b : Nat} {l : List UInt8} (c : UInt8) (h : Bld w b l wr) (hl : l.length + 1 ≤ 1000000) (hB : Below w.heap.size w wr) :
    Calls Tryd.prog 19 #[.pointer (some ⟨b, 0, none⟩), .int .u8 (c.toNat : Int)] wr fun e w' => ∃ v, e = .returned v ∧ Bld w b (l ++ [c]) w' ∧ Below w.heap.size wr w' ∧ Lib.OthersKept 5 (some b) wr w' := by
  refine (bldByte w.heap.size b _ (c.toNat : Int) wr h (by rw [Lib.byteCells_length]; omega) hB.size).mono ?_
  rintro e w' ⟨rfl, h1, h2, h3⟩
  refine ⟨_, rfl, .inr ?_, h2, h3⟩
  rw [Lib.byteCells_append]
  exact h1

/-- a rule in a box of the call's own, the old memory as it was -/
structure QP (w : World) (bx kn : Nat) (F E T : Int) (W : World) : Prop where
  k : Below w.heap.size w W
  b : W.heap[bx]? = some (.cells #[.int .i64 (kn : Int), .int .i64 F, .int .i64 E, .int .i64 T] 45 (0, 0))
section
variable {w W W' : World} {bx kn bb : Nat} {F E T : Int}
theorem QP.drew (h : QP w bx kn F E T W) : QP w bx kn F E T W.drew := ⟨h.k.trans (Below.refl _ _).drew, h.b⟩
theorem QP.call (h : QP w bx kn F E T W) (hb : Below W.heap.size W W') : QP w bx kn F E T W' := ⟨h.k.trans (hb.mono h.k.size), (hb.block _ (blk_lt h.b)).trans h.b⟩
theorem QP.str (h : QP w bx kn F E T W) (hb : Below w.heap.size W W') (ho : Lib.OthersKept 5 (some bb) W W') (hne : bx ≠ bb) : QP w bx kn F E T W' := ⟨h.k.trans hb, cell_kept_o ho h.b hne (by decide)⟩
theorem QP.c0 (h : QP w bx kn F E T W) : W.cell? ⟨bx, 0, none⟩ = some (.int .i64 (kn : Int)) := by rw [cell_of_block h.b]; rfl
theorem QP.c1 (h : QP w bx kn F E T W) : W.cell? ⟨bx, 1, none⟩ = some (.int .i64 F) := by rw [cell_of_block h.b]; rfl
theorem QP.c2 (h : QP w bx kn F E T W) : W.cell? ⟨bx, 2, none⟩ = some (.int .i64 E) := by rw [cell_of_block h.b]; rfl
theorem QP.c3 (h : QP w bx kn F E T W) : W.cell? ⟨bx, 3, none⟩ = some (.int .i64 T) := by rw [cell_of_block h.b]; rfl
theorem keepQ {x : Value} {o : Nat} (hn : Hid (w.cell? ⟨0, o, none⟩ = some x)) (h : QP w bx kn F E T W) : QP w bx kn F E T W ∧ W.cell? ⟨bx, 0, none⟩ = some (.int .i64 (kn : Int)) ∧ W.cell? ⟨bx, 1, none⟩ = some (.int .i64 F) ∧ W.cell? ⟨0, o, none⟩ = some x :=
  ⟨h, h.c0, h.c1, (h.k.cell (p := ⟨0, o, none⟩) (World.block_lt_of_cell? _ _ hn.out)).trans hn.out⟩
end
theorem below_drew (W : World) : Below W.heap.size W W.drew := (Below.refl _ _).drew

section
variable {w : World} {a : Option Addr} {n c : Nat} {R : Nat → Rl}
set_option maxRecDepth 100000 in
set_option maxHeartbeats 3200000 in
theorem print_ok (hS : SlR w a n R) (hn : n ≤ 50) (hp : pE n R = 0) (hT : T5 w) :
    Calls Tryd.prog 7 #[pV a n c] w fun e w' => e = .returned (.tuple #[.string ⟨(textB R n).toArray⟩, .int .i64 0]) ∧ Below w.heap.size w w' := by
  have b0 := below_box0 w (.cells #[.slice a n c] 24)
  have HC := Lib.hid (rfchk_ok (c := c) (hS.below b0) (by omega))
  rw [hp] at HC
  have HR := Lib.hid (pE_zero hp).2
  have HS := Lib.hid hS
  have HT := Lib.hid hT
  have HB := Lib.hid b0
  clear b0 hS hp hT
  go_enter Tryd.func7, Tryd.ntmps7
  go_wp2_with fail
  refine HC.out.mono ?_
  rintro e' w1 ⟨rfl, b1⟩
  have k0 : w1.cell? ⟨w.heap.size, 0, none⟩ = some (.slice a n c) := cell_later b1 (by simp [go_sem])
  have hl0 := World.block_lt_of_cell? _ _ k0
  dsimp only at hl0
  have HB1 := Lib.hid (below_tr HB.out b1)
  clear b1
  go_wp2
  have hbn := bldNew w1 w.heap.size HB1.out.size
  have HN := Lib.hid hbn
  clear hbn
  go_loopw [20] (fun i wr => ∃ k : Nat, i = .int .i64 k ∧ k ≤ n ∧ Hid (Bld w w1.heap.size (textB R k) wr) ∧ Hid (Below w.heap.size w wr)) (fun i _ => n - (intOf i).toNat)
  case atStart => exact ⟨0, rfl, Nat.zero_le _, HN, Lib.hid (HB1.out.alloc HB1.out.size _)⟩
  case round =>
    obtain ⟨k, rfl, hk, HBl, HBr⟩ := hrel
    clear k0
    by_cases hlt : k < n
    · obtain ⟨b, o, rfl, g0, g1, g2, g3⟩ := (HS.out.below HBr.out).at_ hlt
      have hbl := World.block_lt_of_cell? _ _ g0
      dsimp only at hbl
      have HX := Lib.hid (HR.out k hlt)
      have HTr := Lib.hid (HT.out.below HBr.out)
      obtain ⟨K, F, E, T, hX⟩ : ∃ K F E T, R k = (K, F, E, T) := ⟨_, _, _, _, rfl⟩
      have hx := HR.out k hlt
      rw [hX] at g0 g1 g2 g3 hx
      dsimp only at g0 g1 g2 g3
      have x1 := hx.k0
      have x2 := hx.k1
      have x3 := hx.f0
      have x4 := hx.f1
      have x5 := hx.e0
      have x6 := hx.e1
      have x7 := hx.t0
      have x8 := hx.t1
      dsimp only at x1 x2 x3 x4 x5 x6 x7 x8
      clear hx
      obtain ⟨kn, rfl⟩ := Int.eq_ofNat_of_zero_le x1
      have hkn : kn < 7 := by omega
      have HNm := Lib.hid (HT.out.nm kn hkn)
      have HXX := Lib.hid hX
      clear hX
      go_wp2_with fail
      obtain ⟨W, hW⟩ : ∃ W, wr.alloc (.cells #[.int .i64 (kn : Int), .int .i64 F, .int .i64 E, .int .i64 T] 45) = W := ⟨_, rfl⟩
      have bW := below_box0 wr (.cells #[.int .i64 (kn : Int), .int .i64 F, .int .i64 E, .int .i64 T] 45)
      have hbk : W.heap[wr.heap.size]? = some (.cells #[.int .i64 (kn : Int), .int .i64 F, .int .i64 E, .int .i64 T] 45 (0, 0)) := by rw [← hW]; exact heap_alloc_new wr _
      rw [hW] at bW ⊢
      have HBW := Lib.hid (bld_below HBl.out bW)
      have hQ : QP w wr.heap.size kn F E T W := ⟨HBr.out.trans (bW.mono HBr.out.size), hbk⟩
      have HQ := Lib.hid hQ
      have hne : wr.heap.size ≠ w1.heap.size := by
        have h := HBl.out
        rcases h with h | h
        · have := h.lt; omega
        · have := h.lt; omega
      have hk0 : (0 : Int) ≤ (kn : Int) := by omega
      have hk7 : (kn : Int) < 7 := by omega
      obtain ⟨nm, hnm⟩ : ∃ nm, kname kn = nm := ⟨_, rfl⟩
      obtain ⟨fs, hfs⟩ : ∃ fs, Lib.itoa F = fs := ⟨_, rfl⟩
      have hnl := kname_len kn hkn
      have hfl := itoa_len (n := F) (k := 4) (by omega) (by omega)
      rw [hnm] at HNm hnl
      rw [hfs] at hfl
      have hz1 : (9223372036854775807 < nm.length + 1) = False := by simp; omega
      have hz2 : (9223372036854775807 < nm.length + 1 + fs.length) = False := by simp; omega
      have htl := text_len (R := R) (k := k) (fun i hi => HR.out i (by omega))
      have H2l : Hid ((textB R k).length + (nm ++ [32] ++ fs).length ≤ 1000000) := Lib.hid (by simp; omega)
      have H2l' : Hid ((textB R k).length + (nm.length + 1 + fs.length) ≤ 1000 * 1000 - 1000) := Lib.hid (by omega)
      have HFs := Lib.hid hfs
      have HNM := Lib.hid hnm
      clear hW bW hbk hQ hfs hnm hnl hfl htl
      go_region_held3 (fun w' => QP w wr.heap.size kn F E T w' ∧ w'.cell? ⟨wr.heap.size, 0, none⟩ = some (.int .i64 (kn : Int)) ∧ w'.cell? ⟨wr.heap.size, 1, none⟩ = some (.int .i64 F) ∧ w'.cell? ⟨0, kn, none⟩ = some (.string ⟨nm.toArray⟩))
        ((refine keepQ HNm ?_; first | exact HQ.out.drew | exact And.left (by assumption) | exact QP.call (And.left (by assumption)) (by assumption) | exact QP.str (And.left (by assumption)) (by assumption) (by assumption) hne))
        (first
          | (go_at_call 18; (refine (itoa_small (by omega) x4 (HT.out.below (QP.k (And.left (by assumption))))).mono ?_); rw [HFs.out]; rintro e w3 ⟨rfl, b3⟩; have g3 : Hid (Below W.heap.size W w3) := Lib.hid (below_tr (below_drew W) b3))
          | (go_at_call 17; (refine (wrStr (s := nm ++ [32] ++ fs) (cat3 _ _ _) (bld_below HBW.out g3.out) H2l.out (QP.k (And.left (by assumption)))).mono ?_); rintro e w4 ⟨v4, rfl, h4, b4, o4⟩))
      have H4 := Lib.hid h4
      have Q4 := Lib.hid ((HQ.out.call g3.out).str b4 o4 hne)
      have c4 := Q4.out.c2
      have d4 := Q4.out.c3
      have HLn : Hid ((textB R k).length + (nm.length + 1 + fs.length) ≤ 1000 * 1000 - 1000) := H2l'
      clear h4 b4 o4
      by_cases hE : 0 < E
      · have eE : decide (0 < E) = true := by simpa using hE
        by_cases hTT : 0 < T
        · have eT : decide (0 < T) = true := by simpa using hTT
          obtain ⟨f5, hf5⟩ : ∃ fs, Lib.itoa E = fs := ⟨_, rfl⟩
          have hfl5 := itoa_len (n := E) (k := 4) (by omega) (by omega)
          rw [hf5] at hfl5
          have HF5 := Lib.hid hf5
          have hz5 : (9223372036854775807 < 7 + f5.length) = False := by simp; omega
          clear hf5
          go_wp2_with fail
          refine (itoa_small (by omega) (by omega) (HT.out.below Q4.out.k)).mono ?_
          rw [HF5.out]
          rintro e w5a ⟨rfl, b5a⟩
          have H5a := Lib.hid (bld_below H4.out b5a)
          have Q5a := Lib.hid (Q4.out.call b5a)
          have c5a := Q5a.out.c2
          have d5a := Q5a.out.c3
          clear b5a
          go_wp2_with fail
          refine (wrStr (s := [32, 101, 118, 101, 114, 121, 32] ++ f5) (cat2 _ _) H5a.out (by have := HLn.out; simp only [List.length_append, List.length_cons, List.length_nil] at this ⊢; omega) Q5a.out.k).mono ?_
          rintro e w5 ⟨v5, rfl, h5, b5, o5⟩
          have H5 := Lib.hid h5
          have Q5 := Lib.hid (Q5a.out.str b5 o5 hne)
          have c5 := Q5.out.c2
          have d5 := Q5.out.c3
          clear b5 o5 h5
          obtain ⟨f6, hf6⟩ : ∃ fs, Lib.itoa T = fs := ⟨_, rfl⟩
          have hfl6 := itoa_len (n := T) (k := 4) (by omega) (by omega)
          rw [hf6] at hfl6
          have HF6 := Lib.hid hf6
          have hz6 : (9223372036854775807 < 7 + f6.length) = False := by simp; omega
          clear hf6
          go_wp2_with fail
          refine (itoa_small (by omega) (by omega) (HT.out.below Q5.out.k)).mono ?_
          rw [HF6.out]
          rintro e w6a ⟨rfl, b6a⟩
          have H6a := Lib.hid (bld_below H5.out b6a)
          have Q6a := Lib.hid (Q5.out.call b6a)
          have c6a := Q6a.out.c2
          have d6a := Q6a.out.c3
          clear b6a
          go_wp2_with fail
          refine (wrStr (s := [32, 116, 105, 109, 101, 115, 32] ++ f6) (cat2 _ _) H6a.out (by have := HLn.out; simp only [List.length_append, List.length_cons, List.length_nil] at this ⊢; omega) Q6a.out.k).mono ?_
          rintro e w6 ⟨v6, rfl, h6, b6, o6⟩
          have H6 := Lib.hid h6
          have Q6 := Lib.hid (Q6a.out.str b6 o6 hne)
          have c6 := Q6.out.c2
          have d6 := Q6.out.c3
          clear b6 o6 h6
          go_wp2_with fail
          refine (wrByte 10 H6.out (by have := HLn.out; simp only [List.length_append, List.length_cons, List.length_nil] at this ⊢; omega) Q6.out.k).mono ?_
          rintro e w9 ⟨v9, rfl, h9, b9, o9⟩
          have H9 := Lib.hid h9
          have Q9 := Lib.hid (Q6.out.k.trans b9)
          clear b9 o9 h9
          go_wp2
          go_roundw
          case rel => exact ⟨k + 1, by go_num, by omega, Lib.hid (by
            have h := H9.out
            have e : textB R (k + 1) = textB R k ++ (nm ++ [32] ++ fs) ++ ([32, 101, 118, 101, 114, 121, 32] ++ f5) ++ ([32, 116, 105, 109, 101, 115, 32] ++ f6) ++ [10] := by
              simp only [textB, HXX.out, lineB, Int.toNat_natCast]
              rw [HNM.out, HFs.out]
              rw [if_pos hE, if_pos ⟨hE, hTT⟩, HF5.out, HF6.out]; simp only [List.append_assoc]
            rw [e]; exact h), Q9⟩
          case measure => simp [intOf]; omega
        · have eT : decide (0 < T) = false := by simpa using hTT
          obtain ⟨f5, hf5⟩ : ∃ fs, Lib.itoa E = fs := ⟨_, rfl⟩
          have hfl5 := itoa_len (n := E) (k := 4) (by omega) (by omega)
          rw [hf5] at hfl5
          have HF5 := Lib.hid hf5
          have hz5 : (9223372036854775807 < 7 + f5.length) = False := by simp; omega
          clear hf5
          go_wp2_with fail
          refine (itoa_small (by omega) (by omega) (HT.out.below Q4.out.k)).mono ?_
          rw [HF5.out]
          rintro e w5a ⟨rfl, b5a⟩
          have H5a := Lib.hid (bld_below H4.out b5a)
          have Q5a := Lib.hid (Q4.out.call b5a)
          have c5a := Q5a.out.c2
          have d5a := Q5a.out.c3
          clear b5a
          go_wp2_with fail
          refine (wrStr (s := [32, 101, 118, 101, 114, 121, 32] ++ f5) (cat2 _ _) H5a.out (by have := HLn.out; simp only [List.length_append, List.length_cons, List.length_nil] at this ⊢; omega) Q5a.out.k).mono ?_
          rintro e w5 ⟨v5, rfl, h5, b5, o5⟩
          have H5 := Lib.hid h5
          have Q5 := Lib.hid (Q5a.out.str b5 o5 hne)
          have c5 := Q5.out.c2
          have d5 := Q5.out.c3
          clear b5 o5 h5
          go_wp2_with fail
          refine (wrByte 10 H5.out (by have := HLn.out; simp only [List.length_append, List.length_cons, List.length_nil] at this ⊢; omega) Q5.out.k).mono ?_
          rintro e w9 ⟨v9, rfl, h9, b9, o9⟩
          have H9 := Lib.hid h9
          have Q9 := Lib.hid (Q5.out.k.trans b9)
          clear b9 o9 h9
          go_wp2
          go_roundw
          case rel => exact ⟨k + 1, by go_num, by omega, Lib.hid (by
            have h := H9.out
            have e : textB R (k + 1) = textB R k ++ (nm ++ [32] ++ fs) ++ ([32, 101, 118, 101, 114, 121, 32] ++ f5) ++ [10] := by
              simp only [textB, HXX.out, lineB, Int.toNat_natCast]
              rw [HNM.out, HFs.out]
              rw [if_pos hE, if_neg (by omega), HF5.out]; simp only [List.append_assoc, List.nil_append]
            rw [e]; exact h), Q9⟩
          case measure => simp [intOf]; omega
      · have eE : decide (0 < E) = false := by simpa using hE
        go_wp2_with fail
        refine (wrByte 10 H4.out (by have := HLn.out; simp only [List.length_append, List.length_cons, List.length_nil] at this ⊢; omega) Q4.out.k).mono ?_
        rintro e w9 ⟨v9, rfl, h9, b9, o9⟩
        have H9 := Lib.hid h9
        have Q9 := Lib.hid (Q4.out.k.trans b9)
        clear b9 o9 h9
        go_wp2
        go_roundw
        case rel => exact ⟨k + 1, by go_num, by omega, Lib.hid (by
          have h := H9.out
          have e : textB R (k + 1) = textB R k ++ (nm ++ [32] ++ fs) ++ [10] := by
            simp only [textB, HXX.out, lineB, Int.toNat_natCast]
            rw [HNM.out, HFs.out]
            rw [if_neg (show ¬ 0 < E by omega), if_neg (show ¬ (0 < E ∧ 0 < T) by omega)]; simp only [List.append_assoc, List.nil_append]
          rw [e]; exact h), Q9⟩
        case measure => simp [intOf]; omega
    · obtain rfl : k = n := by omega
      go_wp2_with fail
      refine (Tryd.Builder_String_any_k w.heap.size w1.heap.size _ _ HBl.out HBr.out.size).mono ?_
      rintro e' w2 ⟨rfl, h2, b2, _⟩
      have HB2 := Lib.hid (HBr.out.trans b2)
      clear b2 h2
      go_wp2
      go_ret2
      exact ⟨rfl, HB2.out⟩
end
end Go.Proofs.YtgbdhmdaefbglaaDoor
