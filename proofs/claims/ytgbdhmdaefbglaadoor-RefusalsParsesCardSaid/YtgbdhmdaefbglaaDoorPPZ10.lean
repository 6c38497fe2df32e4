/- Refusals: a line of a rule, by the reference. | Words: Lines of the reference. | Refusals: rules as cells of a row. -/
import Derived.Test.YtgbdhmdaefbglaaDoorPPZ8
import Derived.Test.YtgbdhmdaefbglaaDoorPPZ9
import Derived.Test.YtgbdhmdaefbglaaDoorPPZ7
import Derived.Test.YtgbdhmdaefbglaaDoorPPZ1
import Derived.Laws.OwnMore
namespace Go.Proofs.YtgbdhmdaefbglaaDoor
open Go.RowKit Go.Sort Go.Joins Go.Shelf
attribute [local go_sem] cell_grow frozen_grow size_grow

/-- what a line's fields are like -/
theorem splF_fl : ∀ (n : Nat) (l : List UInt8) (fs : List Fl), splF n l = some fs → ∀ x, x ∈ fs → flB x = true
  | n, [], fs, h, x, hx => by
    rw [splF_nil] at h
    cases h
    cases hx
  | 0, c :: r, fs, h, _, _ => by cases h
  | n + 1, c :: r, fs, h, y, hy => by
    rw [splF] at h
    cases hx : fld1 ((c :: r).take (fend (c :: r))) with
    | none => rw [hx] at h; cases h
    | some x =>
      obtain ⟨f1, _, _⟩ := fld1_some hx
      rw [hx] at h
      dsimp only at h
      cases hd : (c :: r).drop (fend (c :: r)) with
      | nil =>
        rw [hd] at h
        cases h
        rw [List.mem_singleton] at hy
        subst hy; exact f1
      | cons d t =>
        cases t with
        | nil => rw [hd] at h; cases h
        | cons e t =>
          rw [hd] at h
          dsimp only at h
          by_cases h32 : d = 32
          · rw [if_pos h32] at h
            cases hs : splF n (e :: t) with
            | none => rw [hs] at h; cases h
            | some gs =>
              rw [hs] at h
              cases h
              rcases List.mem_cons.1 hy with rfl | hy
              · exact f1
              · exact splF_fl n (e :: t) gs hs y hy
          · rw [if_neg h32] at h; cases h
theorem flB_len {x : Fl} (h : flB x = true) : x.2.length ≤ 200 := by
  unfold flB at h
  split at h
  · exact (txB_yes.1 h).2
  · exact (txB_yes.1 (rtB_yes.1 h).2.2).2
theorem splR_fl {l : List UInt8} {x : Fl} (hx : x ∈ splR l) : flB x = true := by
  unfold splR at hx
  split at hx
  · cases hs : splF l.length l with
    | none => rw [hs] at hx; cases hx
    | some fs =>
      rw [hs] at hx
      exact splF_fl _ _ _ hs x hx
  · cases hx
set_option maxRecDepth 100000 in
set_option maxHeartbeats 6400000 in
theorem rline_ok (s : ByteArray) (L : List UInt8) (hL : s.data.toList = L) (hs : s.size ≤ 4611686018427387904) (w : World) :
    Calls Tryd.prog 29 #[.string s] w (LinePost w (lnP L)) := by
  have b0 := below_box0 w (.cells #[.int .i64 0, .int .i64 0, .int .i64 0, .int .i64 0] 45)
  have HX0 : Hid (RB (w.alloc (.cells #[.int .i64 0, .int .i64 0, .int .i64 0, .int .i64 0] 45)) w.heap.size 0 0 0 0) := Lib.hid (heap_alloc_new w _)
  have HSP := Lib.hid (rsplit_ok s L hL hs (w.alloc (.cells #[.int .i64 0, .int .i64 0, .int .i64 0, .int .i64 0] 45)))
  have HB0 := Lib.hid b0
  have hlf := ln_fields L
  have good : splE L = 0 → ((splR L).length = 2 ∨ (splR L).length = 4 ∨ (splR L).length = 6) → Calls Tryd.prog 29 #[.string s] w (LinePost w (lnP L)) := by
    intro hE hl
    obtain ⟨fs, hfs⟩ : ∃ x, splR L = x := ⟨_, rfl⟩
    have hsz : ∀ j, j < fs.length → (fqP fs j).length ≤ 9223372036854775806 := by
      intro j hj
      unfold fqP
      rw [List.getD_eq_getElem?_getD, List.getElem?_eq_getElem hj]
      have : fs[j] ∈ splR L := by rw [hfs]; exact List.getElem_mem hj
      have := flB_len (splR_fl this)
      show fs[j].2.length ≤ _
      omega
    rw [hfs] at hl
    rcases hl with hn | hn | hn
    · exact (rln2A s L w fs).2 (fun W b o c z S1 u38 u39 u40 u41 u42 u43 u44 u45 u46 u47 u48 u49 u50 u51 hA => rln2T s L w fs hE hfs hn W b o c z S1 u38 u39 u40 u41 u42 u43 u44 u45 u46 u47 u48 u49 u50 u51 hA) hL hs hE hfs hn (fun j hj => hsz j (by omega))
    · exact (rln4A s L w fs).2 (fun W b o c z S1 u38 u39 u40 u41 u42 u43 u44 u45 u46 u47 u48 u49 u50 u51 hA => rln4T s L w fs hE hfs hn W b o c z S1 u38 u39 u40 u41 u42 u43 u44 u45 u46 u47 u48 u49 u50 u51 hA) hL hs hE hfs hn (fun j hj => hsz j (by omega))
    · exact (rln6A s L w fs).2 (fun W b o c z S1 u38 u39 u40 u41 u42 u43 u44 u45 u46 u47 u48 u49 u50 u51 hA => rln6T s L w fs hE hfs hn W b o c z S1 u38 u39 u40 u41 u42 u43 u44 u45 u46 u47 u48 u49 u50 u51 hA) hL hs hE hfs hn (fun j hj => hsz j (by omega))
  by_cases hg : splE L = 0 ∧ ((splR L).length = 2 ∨ (splR L).length = 4 ∨ (splR L).length = 6)
  · exact good hg.1 hg.2
  clear good
  obtain ⟨E, hE⟩ : ∃ x, splE L = x := ⟨_, rfl⟩
  obtain ⟨fs, hfs⟩ : ∃ x, splR L = x := ⟨_, rfl⟩
  obtain ⟨O, hO⟩ : ∃ x, lnP L = x := ⟨_, rfl⟩
  rw [hE, hfs] at HSP hlf hg
  rw [hO] at hlf ⊢
  have HLF := Lib.hid hlf
  have HGD := Lib.hid hg
  clear b0 hL hE hfs hO hlf hg
  go_enter Tryd.func29, Tryd.ntmps29
  go_wp2_with fail
  refine HSP.out.mono ?_
  rintro e w1 ⟨fa, fc, rfl, hF, b1⟩
  have HX1 : Hid (RB w1 w.heap.size 0 0 0 0) := Lib.hid ((b1.block _ (blk_lt HX0.out)).trans HX0.out)
  have HB1 := Lib.hid (below_tr HB0.out b1)
  have HF := Lib.hid hF
  clear b1 HX0 HB0 HSP hF
  have hlf := HLF.out
  clear HLF
  by_cases hE : E = 0
  · subst hE
    rw [if_pos rfl] at hlf
    obtain ⟨n, hn⟩ : ∃ n, fs.length = n := ⟨_, rfl⟩
    have hlen : ¬ (n = 2 ∨ n = 4 ∨ n = 6) := fun h => HGD.out ⟨rfl, by rw [hn]; exact h⟩
    have hO := hlf.trans (lnF_len (by omega))
    rw [hn]
    subst hO
    have x0 : w1.cell? ⟨w.heap.size, 0, none⟩ = some (.int .i64 0) := by rw [cell_of_block HX1.out]; rfl
    have x1 : w1.cell? ⟨w.heap.size, 1, none⟩ = some (.int .i64 0) := by rw [cell_of_block HX1.out]; rfl
    have x2 : w1.cell? ⟨w.heap.size, 2, none⟩ = some (.int .i64 0) := by rw [cell_of_block HX1.out]; rfl
    have x3 : w1.cell? ⟨w.heap.size, 3, none⟩ = some (.int .i64 0) := by rw [cell_of_block HX1.out]; rfl
    have fx := unfrozen_of_block HX1.out
    have lx := blk_lt HX1.out
    obtain ⟨z0, z1, z2, z3⟩ := put4c HX1.out (.int .i64 0) (.int .i64 0) (.int .i64 0) (.int .i64 0)
    have d2 : ((n : Int) != 2) = true := bne_iff_ne.2 (by omega)
    have d4 : ((n : Int) != 4) = true := bne_iff_ne.2 (by omega)
    have d6 : ((n : Int) != 6) = true := bne_iff_ne.2 (by omega)
    clear hlf hlen
    go_wp2
    exact bodyPost_ret (v := .tuple #[.agg #[.int .i64 0, .int .i64 0, .int .i64 0, .int .i64 0], .bool false]) (by simp [results, Tryd.results29, go_sem, z0, z1, z2, z3]) rfl (LinePost.none (below4 HB1.out _ _ _ _))
  · rw [if_neg hE] at hlf
    subst hlf
    have x0 : w1.cell? ⟨w.heap.size, 0, none⟩ = some (.int .i64 0) := by rw [cell_of_block HX1.out]; rfl
    have x1 : w1.cell? ⟨w.heap.size, 1, none⟩ = some (.int .i64 0) := by rw [cell_of_block HX1.out]; rfl
    have x2 : w1.cell? ⟨w.heap.size, 2, none⟩ = some (.int .i64 0) := by rw [cell_of_block HX1.out]; rfl
    have x3 : w1.cell? ⟨w.heap.size, 3, none⟩ = some (.int .i64 0) := by rw [cell_of_block HX1.out]; rfl
    have fx := unfrozen_of_block HX1.out
    have lx := blk_lt HX1.out
    obtain ⟨z0, z1, z2, z3⟩ := put4c HX1.out (.int .i64 0) (.int .i64 0) (.int .i64 0) (.int .i64 0)
    have d0 : (E != 0) = true := bne0_true hE
    go_wp2
    exact bodyPost_ret (v := .tuple #[.agg #[.int .i64 0, .int .i64 0, .int .i64 0, .int .i64 0], .bool false]) (by simp [results, Tryd.results29, go_sem, z0, z1, z2, z3]) rfl (LinePost.none (below4 HB1.out _ _ _ _))
end Go.Proofs.YtgbdhmdaefbglaaDoor

namespace Go.Proofs.YtgbdhmdaefbglaaDoor
open Go.RowKit Go.Sort Go.Joins
attribute [local go_sem] cell_grow frozen_grow size_grow

/-- texts as cells -/
def sts (X : List ByteArray) : List (List UInt8) := X.map (·.data.toList)
theorem sts_len (X : List ByteArray) : (sts X).length = X.length := by unfold sts; rw [List.length_map]
theorem sts_snoc (X : List ByteArray) (x : ByteArray) : sts (X ++ [x]) = sts X ++ [x.data.toList] := by unfold sts; simp
theorem stv_snoc (X : List ByteArray) (x : ByteArray) : (X ++ [x]).map Value.string = X.map Value.string ++ [.string x] := by simp
theorem SlT.of_own {w : World} {base len cap : Nat} {e : TypeId} {a : Option Addr} {X : List ByteArray} (h : w.ownsRow base e 1 (.slice a len cap) X.length (X.map Value.string)) : SlT w a (sts X) := by
  by_cases h0 : X.length = 0
  · left
    have : X = [] := List.length_eq_zero_iff.1 h0
    rw [this]; rfl
  · obtain ⟨g, cap', hv⟩ := ownsRow_form h (by omega)
    cases hv
    refine .inr ⟨g, 0, rfl, fun j hj => ?_⟩
    rw [sts_len] at hj
    have c0 := h.cellAt j (by omega)
    rw [List.getElem?_map, List.getElem?_eq_getElem hj] at c0
    refine ⟨X[j], ?_, ?_⟩
    · rw [Nat.zero_add]; exact c0
    · unfold sts
      rw [List.getD_eq_getElem?_getD, List.getElem?_map, List.getElem?_eq_getElem hj]; rfl
theorem info_str : (Tryd.prog.info? 9).map (fun i => (i.zero, i.size, i.bytes)) = some (some (.string ⟨#[]⟩), 1, 16) := by kernel_rfl
theorem spl_snoc (c : UInt8) : ∀ l : List UInt8, spl c (l ++ [c]) = spl c l ++ [[]]
  | [] => by rw [List.nil_append, spl_hit, spl_nil]; rfl
  | x :: r => by
    have ih := spl_snoc c r
    by_cases e : x = c
    · subst e; rw [List.cons_append, spl_hit, spl_hit, ih]; rfl
    · rw [List.cons_append, spl_miss e, spl_miss e, ih]
      cases hs : spl c r with
      | nil => exact absurd hs (spl_ne c r)
      | cons p q => rfl
/-- the piece that ends at k -/
theorem spl_piece {L : List UInt8} {f k : Nat} (hf : f ≤ k) (hk : k < L.length) (h : ∀ j, f ≤ j → j < k → bt L j ≠ 10) (h10 : bt L k = 10) : spl 10 (L.drop f) = (L.drop f).take (k - f) :: spl 10 (L.drop (k + 1)) := by
  have e : L.drop f = (L.drop f).take (k - f) ++ 10 :: L.drop (k + 1) := by
    conv => lhs; rw [← List.take_append_drop (k - f) (L.drop f)]
    rw [List.drop_drop, show f + (k - f) = k by omega, drop_bt hk, h10]
  have hno : (10 : UInt8) ∉ (L.drop f).take (k - f) := by
    intro hm
    obtain ⟨i, hi⟩ := List.mem_iff_getElem?.1 hm
    have hik : i < k - f := by
      rcases Nat.lt_or_ge i (k - f) with h' | h'
      · exact h'
      · rw [List.getElem?_eq_none (by rw [List.length_take]; omega)] at hi; cases hi
    rw [List.getElem?_take, if_pos hik, List.getElem?_drop, bt_at (by omega)] at hi
    exact h (f + i) (by omega) (by omega) (Option.some.inj hi)
  conv => lhs; rw [e]
  exact spl_cut hno
theorem lns_long {l : List UInt8} (h : 1048576 < l.length) : lnsE l = 3 ∧ lnsL l = [] := by
  have he : lnsE l = 3 := by unfold lnsE; rw [if_pos h]
  exact ⟨he, by unfold lnsL; rw [if_pos (.inl (by rw [he]; decide))]⟩
theorem lns_nil : lnsE [] = 0 ∧ lnsL [] = [] := ⟨rfl, rfl⟩
theorem lns_form {l : List UInt8} (h : ¬ 1048576 < l.length) (h0 : l ≠ []) (h1 : l.getLast? ≠ some 10) : lnsE l = 6 ∧ lnsL l = [] := by
  have he : lnsE l = 6 := by unfold lnsE; rw [if_neg h, if_neg h0, if_pos h1]
  exact ⟨he, by unfold lnsL; rw [if_pos (.inl (by rw [he]; decide))]⟩
theorem lns_split {l : List UInt8} (h : ¬ 1048576 < l.length) (h1 : l.getLast? = some 10) {P : List (List UInt8)} (hP : spl 10 l = P ++ [[]]) :
    (5000 < P.length → lnsE l = 3 ∧ lnsL l = []) ∧ (¬ 5000 < P.length → lnsE l = 0 ∧ lnsL l = P) := by
  have h0 : l ≠ [] := by rintro rfl; cases h1
  have hd : l = l.dropLast ++ [10] := by
    rw [List.getLast?_eq_some_getLast h0] at h1
    rw [← Option.some.inj h1]
    exact (List.dropLast_concat_getLast h0).symm
  have hs : spl 10 l.dropLast = P := by
    rw [hd, spl_snoc] at hP
    exact List.append_cancel_right hP
  have hc : l.count 10 = P.length := by
    have := spl_len 10 l
    rw [hP, List.length_append, List.length_singleton] at this
    omega
  constructor
  · intro h5
    have he : lnsE l = 3 := by unfold lnsE; rw [if_neg h, if_neg h0, if_neg (by simp [h1]), if_pos (by rw [hc]; exact h5)]
    exact ⟨he, by unfold lnsL; rw [if_pos (.inl (by rw [he]; decide))]⟩
  · intro h5
    have he : lnsE l = 0 := by unfold lnsE; rw [if_neg h, if_neg h0, if_neg (by simp [h1]), if_neg (by rw [hc]; exact h5)]
    exact ⟨he, by unfold lnsL; rw [if_neg (by rintro (h | h); exact h he; exact h0 h)]; exact hs⟩
/-- what Lines hands back -/
def LnPost (w : World) (ls : List (List UInt8)) (E : Int) (x : Ending) (w' : World) : Prop :=
  ∃ a c, x = .returned (.tuple #[.slice a ls.length c, .int .i64 E]) ∧ SlT w' a ls ∧ Below w.heap.size w w'
theorem LnPost.none {w w' : World} {E : Int} (h : Below w.heap.size w w') : LnPost w [] E (.returned (.tuple #[.slice none 0 0, .int .i64 E])) w' := ⟨_, _, rfl, .inl rfl, h⟩
theorem last_bt {L : List UInt8} {m : Nat} (h : L.length = m + 1) : L.getLast? = some (bt L m) := by
  rw [List.getLast?_eq_getElem?, h, ← bt_at (by omega)]; rfl
set_option maxRecDepth 100000 in
set_option maxHeartbeats 1600000 in
theorem rlines_ok (s : ByteArray) (L : List UInt8) (hL : s.data.toList = L) (hs : s.size ≤ 4611686018427387904) (w : World) :
    Calls Tryd.prog 28 #[.string s] w (LnPost w (lnsL L) (lnsE L)) := by
  obtain ⟨i0, hi, hz0, hz1, hz2⟩ := info_parts info_str
  have hlen := len_of hL
  have HL := Lib.hid hL
  by_cases h1 : 1048576 < s.size
  · have d1 : decide ((1048576 : Int) < (s.size : Int)) = true := decide_eq_true (by omega)
    obtain ⟨hE, hR⟩ := lns_long (l := L) (by omega)
    rw [hE, hR]
    clear hL hE hR
    go_enter Tryd.func28, Tryd.ntmps28
    go_wp2_with fail
    go_ret2
    exact LnPost.none (Below.refl _ _)
  · have d1 : decide ((1048576 : Int) < (s.size : Int)) = false := decide_eq_false (by omega)
    by_cases h0 : s.size = 0
    · have d0 : decide ((0 : Int) < (s.size : Int)) = false := decide_eq_false (by omega)
      obtain rfl : L = [] := List.length_eq_zero_iff.1 (by omega)
      rw [lns_nil.1, lns_nil.2]
      clear hL
      go_enter Tryd.func28, Tryd.ntmps28
      go_wp2_with fail
      go_loopw [4, 5, 6] (fun o f i wr => ∃ z : Nat, z = 0 ∧ i = .int .i64 (z : Int) ∧ o = .slice none 0 0 ∧ wr = w) (fun _ _ _ _ => 0)
      case atStart => exact ⟨0, rfl, rfl, rfl, rfl⟩
      case round =>
        obtain ⟨z, rfl, rfl, rfl, rfl⟩ := hrel
        have d2 : decide ((0 : Int) < (s.size : Int)) = false := decide_eq_false (by omega)
        have hs0 : ¬ 0 < s.size := by omega
        go_wp2
        go_ret2
        exact LnPost.none (Below.refl _ _)
    · have d0 : decide ((0 : Int) < (s.size : Int)) = true := decide_eq_true (by omega)
      obtain ⟨m, hm⟩ : ∃ m, s.size = m + 1 := ⟨s.size - 1, by omega⟩
      have hlast := last_bt (L := L) (m := m) (by omega)
      have hs1 : (s.size : Int) - 1 = (m : Int) := by omega
      have hlt1 : m < s.size := by omega
      have HMS := Lib.hid hm
      clear hm
      have hb1 := bt_get HL.out hlt1
      have hz1' := (bt L m).toNat_lt
      by_cases h10 : (bt L m).toNat = 10
      · rw [h10] at hb1
        have d2 : (((10 : Nat) : Int) != 10) = false := rfl
        rw [u8_of h10 (by decide)] at hlast
        have hsp := fun P => @lns_split L (by omega) hlast P
        obtain ⟨E, hE⟩ : ∃ x, lnsE L = x := ⟨_, rfl⟩
        obtain ⟨R, hR⟩ : ∃ x, lnsL L = x := ⟨_, rfl⟩
        rw [hE, hR] at hsp ⊢
        have HSP := Lib.hid hsp
        have HT10 := Lib.hid (UInt8.toNat_inj.1 h10 : bt L m = 10)
        clear hL hE hR hsp hlast h10 hz1'
        go_enter Tryd.func28, Tryd.ntmps28
        go_wp2_with fail
        clear hb1 d2 hs1
        go_loopw [4, 5, 6] (fun o fr i wr => ∃ (k f : Nat) (va : Option Addr) (vc : Nat) (X : List ByteArray), i = .int .i64 (k : Int) ∧ fr = .int .i64 (f : Int) ∧ o = .slice va X.length vc ∧ f ≤ k ∧ k ≤ s.size ∧ X.length ≤ k ∧ Hid (spl 10 L = sts X ++ spl 10 (L.drop f)) ∧ Hid (∀ j, f ≤ j → j < k → bt L j ≠ 10) ∧ Hid (wr.ownsRow w.heap.size 9 1 (.slice va X.length vc) X.length (X.map Value.string)) ∧ Hid (Below w.heap.size w wr)) (fun _ _ i _ => s.size - (intOf i).toNat)
        case atStart => exact ⟨0, 0, none, 0, [], rfl, rfl, rfl, Nat.le_refl _, Nat.zero_le _, Nat.zero_le _, Lib.hid (by rw [List.drop_zero]; rfl), Lib.hid (fun j _ hj => by omega), Lib.hid (World.ownsRow_nil _ _ _ _), Lib.hid (Below.refl _ _)⟩
        case round =>
          obtain ⟨k, f, va, vc, X, rfl, rfl, rfl, hfk, hk, hXk, HQ, HA, HO, HB⟩ := hrel
          by_cases hlt : k < s.size
          · have hb := bt_get HL.out hlt
            have hb2 := (bt L k).toNat_lt
            by_cases hk10 : (bt L k).toNat = 10
            · rw [hk10] at hb
              have d3 : (((10 : Nat) : Int) == 10) = true := rfl
              have hpc := spl_piece hfk (by omega : k < L.length) HA.out (UInt8.toNat_inj.1 hk10)
              have hext := ext_list HL.out f k
              rw [← hext] at hpc
              have hesz : (s.extract f k).size ≤ s.size := by rw [ByteArray.size_extract]; omega
              have HPC := Lib.hid hpc
              have hX0 := HB.out.size
              clear hb2 hk10 hpc hext
              go_wp2_with (at_builtin; refine wpList_append_own _ rfl (.tmp 31) (.tmp 36) 54 rfl w.heap.size 9 i0 (.string ⟨#[]⟩) 1 16 Tryd.underlying54 hi hz0 hz1 hz2 rfl (by decide) _ _ _ rfl (HO.out.alloc _) ⟨wr.heap.size, 0, none⟩ 1 1 [.string (s.extract f k)] rfl rfl ?c1 ?c2 ?c3 ?c4 ?c5 ?_)
              case c1 => intro j q hq; match j with | 0 => (simp at hq; subst hq; simp [go_sem]) | j + 1 => simp at hq
              case c2 => intro q hq; simp at hq; subst hq; rfl
              case c3 => unfold maxLen; omega
              case c4 => omega
              case c5 => first | omega | (simp; omega)
              intro v' w3 hown hg _
              obtain ⟨va', vc', rfl⟩ := own_slice hown
              have hB3 := Lib.hid ((HB.out.alloc HB.out.size (.cells #[.string (s.extract f k)] 9)).grown hg (by simp; omega) (by intro r hr; exact (HO.out.lt r hr).1))
              have HW : Hid (w3.ownsRow w.heap.size 9 1 (.slice va' (X ++ [s.extract f k]).length vc') (X ++ [s.extract f k]).length ((X ++ [s.extract f k]).map Value.string)) := Lib.hid (by rw [stv_snoc, List.length_append, List.length_singleton]; exact hown)
              clear hown hg
              go_wp2
              go_roundw
              case rel => exact ⟨k + 1, k + 1, va', vc', X ++ [s.extract f k], by go_num, by go_num, by rw [List.length_append, List.length_singleton], Nat.le_refl _, by omega, by rw [List.length_append, List.length_singleton]; omega, Lib.hid (by rw [sts_snoc, HQ.out, HPC.out]; simp), Lib.hid (fun j h1 h2 => by omega), HW, hB3⟩
              case measure => simp [intOf]; omega
            · have HN := Lib.hid hk10
              obtain ⟨c, hcd⟩ : ∃ c, (bt L k).toNat = c := ⟨_, rfl⟩
              rw [hcd] at hb hb2 hk10
              have d3 : ((c : Int) == 10) = false := beq_eq_false_iff_ne.2 (by omega)
              clear hcd
              go_wp2
              go_roundw
              case rel => exact ⟨k + 1, f, va, vc, X, by go_num, rfl, rfl, by omega, by omega, by omega, HQ, Lib.hid (fun j h1 h2 => by
                by_cases ej : j = k
                · rw [ej]; exact fun e => HN.out (by rw [e]; rfl)
                · exact HA.out j h1 (by omega)), HO, HB⟩
              case measure => simp [intOf]; omega
          · obtain rfl : k = s.size := by omega
            have hfs : f = s.size := by
              rcases Nat.lt_or_ge m f with h | h
              · have := HMS.out; omega
              · exact absurd HT10.out (HA.out m h hlt1)
            obtain ⟨g3, g0⟩ := HSP.out (sts X) (by rw [HQ.out, List.drop_eq_nil_of_le (by omega), spl_nil])
            rw [sts_len] at g3 g0
            clear HA HQ
            by_cases h5 : 5000 < X.length
            · have d6 : decide ((5000 : Int) < (X.length : Int)) = true := decide_eq_true (by omega)
              obtain ⟨rfl, rfl⟩ := g3 h5
              clear g0 g3
              go_wp2
              go_ret2
              exact LnPost.none HB.out
            · have d6 : decide ((5000 : Int) < (X.length : Int)) = false := decide_eq_false (by omega)
              obtain ⟨rfl, rfl⟩ := g0 h5
              clear g0 g3
              go_wp2
              go_ret2
              exact ⟨va, vc, by rw [sts_len]; rfl, SlT.of_own HO.out, HB.out⟩
      · obtain ⟨hE, hR⟩ := lns_form (l := L) (by omega) (fun e => by rw [e, List.length_nil] at hlen; omega) (by rw [hlast]; intro e; exact h10 (by rw [Option.some.inj e]; rfl))
        rw [hE, hR]
        obtain ⟨c, hcd⟩ : ∃ c, (bt L m).toNat = c := ⟨_, rfl⟩
        rw [hcd] at hb1 hz1' h10
        have d2 : ((c : Int) != 10) = true := bne_iff_ne.2 (by omega)
        clear hL hE hR hlast hcd
        go_enter Tryd.func28, Tryd.ntmps28
        go_wp2_with fail
        go_ret2
        exact LnPost.none (Below.refl _ _)
end Go.Proofs.YtgbdhmdaefbglaaDoor

namespace Go.Proofs.YtgbdhmdaefbglaaDoor
open Go.RowKit Go.Sort Go.Joins
attribute [local go_sem] cell_grow frozen_grow size_grow

/-- rules as cells -/
def rlc (L : List Rl) : List Value := L.flatMap fun x => [.int .i64 x.1, .int .i64 x.2.1, .int .i64 x.2.2.1, .int .i64 x.2.2.2]
theorem rlc_snoc (L : List Rl) (x : Rl) : rlc (L ++ [x]) = rlc L ++ [.int .i64 x.1, .int .i64 x.2.1, .int .i64 x.2.2.1, .int .i64 x.2.2.2] := by simp [rlc]
theorem rlc_length (L : List Rl) : (rlc L).length = L.length * 4 := by
  induction L with
  | nil => rfl
  | cons x L ih =>
    have e : rlc (x :: L) = [.int .i64 x.1, .int .i64 x.2.1, .int .i64 x.2.2.1, .int .i64 x.2.2.2] ++ rlc L := rfl
    rw [e, List.length_append, ih]; simp; omega
theorem rlc_get (L : List Rl) (k : Nat) (h : k < L.length) : (rlc L)[k * 4]? = some (.int .i64 (L.getD k rl0).1) ∧ (rlc L)[k * 4 + 1]? = some (.int .i64 (L.getD k rl0).2.1) ∧ (rlc L)[k * 4 + 2]? = some (.int .i64 (L.getD k rl0).2.2.1) ∧ (rlc L)[k * 4 + 3]? = some (.int .i64 (L.getD k rl0).2.2.2) := by
  induction L generalizing k with
  | nil => simp at h
  | cons x L ih =>
    cases k with
    | zero => simp [rlc]
    | succ k =>
      have := ih k (by simpa using h)
      simp only [rlc, List.flatMap_cons] at this ⊢
      rw [List.getElem?_append_right (by simp; omega), List.getElem?_append_right (by simp; omega), List.getElem?_append_right (by simp; omega), List.getElem?_append_right (by simp; omega)]
      simpa [show (k + 1) * 4 - 4 = k * 4 by omega, show (k + 1) * 4 + 1 - 4 = k * 4 + 1 by omega, show (k + 1) * 4 + 2 - 4 = k * 4 + 2 by omega, show (k + 1) * 4 + 3 - 4 = k * 4 + 3 by omega] using this
theorem rlc_one (L : List Rl) : ∀ u ∈ rlc L, u.oneCell' = true := by
  intro u hu
  obtain ⟨x, _, hx⟩ := List.mem_flatMap.1 hu
  simp at hx
  rcases hx with rfl | rfl | rfl | rfl <;> rfl
theorem info_rule : (Tryd.prog.info? 45).map (fun i => (i.zero, i.size, i.bytes)) = some (some (.agg #[.int .i64 0, .int .i64 0, .int .i64 0, .int .i64 0]), 4, 32) := by kernel_rfl
theorem SlR.of_own {w : World} {base len cap : Nat} {e : TypeId} {a : Option Addr} {L : List Rl} (h : w.ownsRow base e 4 (.slice a len cap) L.length (rlc L)) : SlR w a L.length (fun j => L.getD j rl0) := by
  by_cases h0 : L.length = 0
  · exact .inl h0
  · obtain ⟨g, cap', hv⟩ := ownsRow_form h (by omega)
    cases hv
    refine .inr ⟨g, 0, rfl, fun j hj => ?_⟩
    obtain ⟨e0, e1, e2, e3⟩ := rlc_get L j hj
    have c0 := h.cellAt (j * 4) (by omega)
    have c1 := h.cellAt (j * 4 + 1) (by omega)
    have c2 := h.cellAt (j * 4 + 2) (by omega)
    have c3 := h.cellAt (j * 4 + 3) (by omega)
    rw [e0] at c0
    rw [e1] at c1
    rw [e2] at c2
    rw [e3] at c3
    rw [Nat.zero_add]
    exact ⟨c0, c1, c2, c3⟩
theorem SlR.congr {w : World} {a : Option Addr} {n : Nat} {R Q : Nat → Rl} (h : SlR w a n R) (hr : ∀ j, j < n → R j = Q j) : SlR w a n Q := by
  rcases h with h | ⟨b, o, ha, hc⟩
  · exact .inl h
  · exact .inr ⟨b, o, ha, fun j hj => by rw [← hr j hj]; exact hc j hj⟩
theorem getD_map {R : Nat → Rl} {n j : Nat} (hj : j < n) : ((List.range n).map R).getD j rl0 = R j := by simp [List.getD, hj]
end Go.Proofs.YtgbdhmdaefbglaaDoor
