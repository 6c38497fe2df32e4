/- Words: a text split at a byte; Lines of the program. -/
import Derived.Test.YtgbdhmdaefbglaaDoorWSpl
import Derived.Test.YtgbdhmdaefbglaaDoorWDig
import Derived.Test.YtgbdhmdaefbglaaDoorShelf
namespace Go.Proofs.YtgbdhmdaefbglaaDoor
open Go.RowKit Go.Sort Go.Joins Go.Shelf
attribute [local go_sem] cell_grow frozen_grow size_grow

/-- the number that the library reads is there -/
def ML (w : World) : Prop := ∃ m : Int, w.cell? ⟨1, 0, none⟩ = some (.int .i64 m)
theorem ML.below {w w' : World} (h : ML w) (hb : Below w.heap.size w w') : ML w' := h.elim fun m hm => ⟨m, cell_later hb hm⟩
/-- a slice that reads as texts -/
def SlT (w : World) (a : Option Addr) (ls : List (List UInt8)) : Prop := ls = [] ∨ ∃ b o, a = some ⟨b, o, none⟩ ∧ ∀ j, j < ls.length → ∃ S : ByteArray, w.cell? ⟨b, o + j, none⟩ = some (.string S) ∧ S.data.toList = ls.getD j []
theorem SlT.below {w w' : World} {a : Option Addr} {ls : List (List UInt8)} (h : SlT w a ls) (hb : Below w.heap.size w w') : SlT w' a ls := by
  rcases h with h | ⟨b, o, ha, hc⟩
  · exact .inl h
  · refine .inr ⟨b, o, ha, fun j hj => ?_⟩
    obtain ⟨S, h1, h2⟩ := hc j hj
    exact ⟨S, cell_later hb h1, h2⟩
theorem SlT.at_ {w : World} {a : Option Addr} {ls : List (List UInt8)} (h : SlT w a ls) {j : Nat} (hj : j < ls.length) : ∃ b o S, a = some ⟨b, o, none⟩ ∧ w.cell? ⟨b, o + j, none⟩ = some (.string S) ∧ S.data.toList = ls.getD j [] := by
  rcases h with rfl | ⟨b, o, ha, hc⟩
  · simp at hj
  · obtain ⟨S, h1, h2⟩ := hc j hj
    exact ⟨b, o, S, ha, h1, h2⟩
theorem split_ok (s : ByteArray) (L : List UInt8) (hL : s.data.toList = L) (c : UInt8) (hs : s.size < 4294967281) (w : World) (hM : ML w) :
    Calls Tryd.prog 25 #[.string s, .string ⟨#[c]⟩] w fun e w' => ∃ b, e = .returned (.slice (some ⟨b, 0, none⟩) (spl c L).length (spl c L).length) ∧ SlT w' (some ⟨b, 0, none⟩) (spl c L) ∧ Below w.heap.size w w' := by
  obtain ⟨m, hm⟩ := hM
  have hsp := splB_one c s
  rw [hL] at hsp
  have hct : Lib.countB s ⟨#[c]⟩ + 1 = (spl c L).length := by rw [cntB_one, hL, spl_len]
  refine (Tryd.strings_Split s ⟨#[c]⟩ m w hs hm (Nat.le_refl 1)).mono ?_
  rintro e w' ⟨rfl, rfl⟩
  refine ⟨w.heap.size, by rw [hct], ?_, below_box0 w _⟩
  refine .inr ⟨_, _, rfl, fun j hj => ?_⟩
  obtain ⟨B, hB⟩ : ∃ B, Lib.splitB ⟨#[c]⟩ 0 (Lib.countB s ⟨#[c]⟩) s = B := ⟨_, rfl⟩
  rw [hB] at hsp ⊢
  have hBl : B.length = (spl c L).length := by rw [← hsp, List.length_map]
  have hj2 : j < B.length := by omega
  refine ⟨B[j], ?_, ?_⟩
  · rw [Nat.zero_add, cell_of_block (heap_alloc_new w _)]
    simp [hj2]
  · rw [← hsp, List.getD_eq_getElem?_getD, List.getElem?_map, List.getElem?_eq_getElem hj2]; rfl
theorem suf_one (l : List UInt8) (c : UInt8) : Lib.hasSuffix l [c] = decide (l.getLast? = some c) := by
  unfold Lib.hasSuffix
  rw [Bool.eq_iff_iff, List.isSuffixOf_iff_suffix, decide_eq_true_eq]
  constructor
  · rintro ⟨t, rfl⟩
    simp
  · intro h
    have hne : l ≠ [] := by rintro rfl; cases h
    rw [List.getLast?_eq_some_getLast hne] at h
    refine ⟨l.dropLast, ?_⟩
    rw [← Option.some.inj h]
    exact List.dropLast_concat_getLast hne
set_option maxRecDepth 100000 in
set_option maxHeartbeats 1600000 in
theorem lines_ok (s : ByteArray) (L : List UInt8) (hL : s.data.toList = L) (w : World) (hM : ML w) :
    Calls Tryd.prog 24 #[.string s] w fun e w' => ∃ a c, e = .returned (.tuple #[.slice a (lnsL L).length c, .int .i64 (lnsE L)]) ∧ SlT w' a (lnsL L) ∧ Below w.heap.size w w' := by
  have hlen := len_of hL
  have hbad : ∀ E : Int, lnsE L = E → E ≠ 0 → lnsL L = [] := fun E h h0 => by unfold lnsL; rw [if_pos (.inl (by rw [h]; exact h0))]
  by_cases h1 : 1048576 < s.size
  · have d1 : decide ((1048576 : Int) < (s.size : Int)) = true := decide_eq_true (by omega)
    have hE : lnsE L = 3 := by unfold lnsE; rw [if_pos (by omega)]
    have HE := Lib.hid hE
    have HN := Lib.hid (hbad 3 hE (by decide))
    clear hL hM hE hbad
    go_enter Tryd.func24, Tryd.ntmps24
    go_wp2_with fail
    go_ret2
    exact ⟨none, 0, by rw [HE.out, HN.out]; rfl, .inl HN.out, Below.refl _ _⟩
  · have d1 : decide ((1048576 : Int) < (s.size : Int)) = false := decide_eq_false (by omega)
    have hem := empty_nil hL
    by_cases h2 : L = []
    · rw [decide_eq_true h2] at hem
      have hE : lnsE L = 0 := by unfold lnsE; rw [if_neg (by omega), if_pos h2]
      have HE := Lib.hid hE
      have HN : Hid (lnsL L = []) := Lib.hid (by unfold lnsL; rw [if_pos (.inr h2)])
      clear hL hM hE hbad
      go_enter Tryd.func24, Tryd.ntmps24
      go_wp2_with fail
      go_ret2
      exact ⟨none, 0, by rw [HE.out, HN.out]; rfl, .inl HN.out, Below.refl _ _⟩
    · rw [decide_eq_false h2] at hem
      have hsuf := Tryd.strings_HasSuffix s ⟨#[10]⟩
      rw [hL, show (⟨#[10]⟩ : ByteArray).data.toList = [10] from rfl, suf_one] at hsuf
      have HSF := Lib.hid (fun W => hsuf W (by omega))
      by_cases h3 : L.getLast? = some 10
      · rw [decide_eq_true h3] at HSF
        have hct := Tryd.strings_Count_one s 10
        rw [hL, show Lib.countByte L 10 = L.count 10 from rfl] at hct
        have HCT := Lib.hid hct
        by_cases h4 : 5000 < L.count 10
        · have d4 : decide ((5000 : Int) < (L.count 10 : Int)) = true := decide_eq_true (by omega)
          have hE : lnsE L = 3 := by unfold lnsE; rw [if_neg (by omega), if_neg h2, if_neg (by simp [h3]), if_pos h4]
          have HE := Lib.hid hE
          have HN := Lib.hid (hbad 3 hE (by decide))
          obtain ⟨ct, hctd⟩ : ∃ x, L.count 10 = x := ⟨_, rfl⟩
          rw [hctd] at d4 h4 HCT
          clear hL hM hE hbad hsuf hct h3 hctd
          go_enter Tryd.func24, Tryd.ntmps24
          go_wp2_with fail
          refine (HSF.out _).mono ?_
          rintro e w1 ⟨rfl, hw1⟩
          subst hw1
          go_wp2_with fail
          refine (HCT.out _).mono ?_
          rintro e w1 ⟨rfl, hw1⟩
          subst hw1
          go_wp2_with fail
          go_ret2
          exact ⟨none, 0, by rw [HE.out, HN.out]; rfl, .inl HN.out, Below.refl _ _⟩
        · have d4 : decide ((5000 : Int) < (L.count 10 : Int)) = false := decide_eq_false (by omega)
          have hE : lnsE L = 0 := by unfold lnsE; rw [if_neg (by omega), if_neg h2, if_neg (by simp [h3]), if_neg h4]
          have hN : lnsL L = spl 10 L.dropLast := by unfold lnsL; rw [if_neg (by simp [hE, h2])]
          have hpos : 0 < s.size := by
            rcases Nat.eq_zero_or_pos s.size with h | h
            · exact absurd (List.length_eq_zero_iff.1 (by omega)) h2
            · exact h
          have hdl : (s.extract 0 (s.size - 1)).data.toList = L.dropLast := by
            rw [Lib.extract_from_zero, hL, List.dropLast_eq_take, hlen]
          have HSP := Lib.hid (fun W (h : ML W) => split_ok (s.extract 0 (s.size - 1)) _ hdl 10 (by rw [ByteArray.size_extract]; omega) W h)
          have HE := Lib.hid hE
          rw [← hN] at HSP
          obtain ⟨ct, hctd⟩ : ∃ x, L.count 10 = x := ⟨_, rfl⟩
          rw [hctd] at d4 h4 HCT
          have HM := Lib.hid hM
          have hsz : (s.size : Int) - 1 = ((s.size - 1 : Nat) : Int) := by omega
          have hle : s.size - 1 ≤ s.size := by omega
          clear hL hM hE hbad hsuf hct h3 hctd hN hdl
          go_enter Tryd.func24, Tryd.ntmps24
          go_wp2_with fail
          refine (HSF.out _).mono ?_
          rintro e w1 ⟨rfl, hw1⟩
          subst hw1
          go_wp2_with fail
          refine (HCT.out _).mono ?_
          rintro e w1 ⟨rfl, hw1⟩
          subst hw1
          go_wp2_with fail
          refine (HSP.out _ HM.out).mono ?_
          rintro e w2 ⟨b, rfl, h5, h6⟩
          have H5 := Lib.hid h5
          clear h5
          go_wp2_with fail
          go_ret2
          exact ⟨_, _, by rw [HE.out]; rfl, H5.out, h6⟩
      · rw [decide_eq_false h3] at HSF
        have hE : lnsE L = 6 := by unfold lnsE; rw [if_neg (by omega), if_neg h2, if_pos h3]
        have HE := Lib.hid hE
        have HN := Lib.hid (hbad 6 hE (by decide))
        clear hL hM hE hbad hsuf
        go_enter Tryd.func24, Tryd.ntmps24
        go_wp2_with fail
        refine (HSF.out _).mono ?_
        rintro e w1 ⟨rfl, hw1⟩
        subst hw1
        go_wp2_with fail
        go_ret2
        exact ⟨none, 0, by rw [HE.out, HN.out]; rfl, .inl HN.out, Below.refl _ _⟩
end Go.Proofs.YtgbdhmdaefbglaaDoor
