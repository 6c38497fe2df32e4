/- Refusals: a text of rules, read. No program. -/
import Derived.Test.YtgbdhmdaefbglaaDoorR5I
import Derived.Test.YtgbdhmdaefbglaaDoorWInt
import Derived.Test.YtgbdhmdaefbglaaDoorWSpl
namespace Go.Proofs.YtgbdhmdaefbglaaDoor

def everyL : List UInt8 := [101, 118, 101, 114, 121]
def timesL : List UInt8 := [116, 105, 109, 101, 115]
def numE (l : List UInt8) : Int := intE l 0 1000000000
def numV (l : List UInt8) : Int := intV l 0 1000000000
theorem num_ways (l : List UInt8) : (numE l = 0 ∧ wholeB l = true ∧ numV l = valZ l ∧ 0 ≤ numV l ∧ numV l ≤ 1000000000) ∨ (numE l ≠ 0 ∧ numV l = 0) := by
  unfold numE numV
  by_cases h : intE l 0 1000000000 = 0
  · left
    have h2 := intV_ok h
    cases hw : wholeB l
    · rw [intE_form (by decide) hw] at h; cases h
    · rw [intE_whole (by decide) hw] at h
      by_cases h3 : 0 ≤ valZ l ∧ valZ l ≤ 1000000000
      · rw [h2]
        exact ⟨by rw [intE_whole (by decide) hw, if_pos h3], rfl, rfl, h3.1, h3.2⟩
      · rw [if_neg h3] at h; cases h
  · exact .inr ⟨h, intV_no h⟩
theorem num_itoa {n : Int} (h0 : 0 ≤ n) (h1 : n ≤ 1000000000) : numE (Lib.itoa n) = 0 ∧ numV (Lib.itoa n) = n := by
  have hw := itoa_whole n
  have hE : numE (Lib.itoa n) = 0 := by
    unfold numE
    rw [intE_whole (by decide) hw, valZ_itoa, if_pos ⟨h0, h1⟩]
  refine ⟨hE, ?_⟩
  unfold numV
  rw [intV_ok hE, valZ_itoa]
theorem itoa_num {l : List UInt8} (h : numE l = 0) : Lib.itoa (numV l) = l := by
  rcases num_ways l with ⟨_, hw, hv, _⟩ | ⟨h', _⟩
  · rw [hv]; exact itoa_valZ hw
  · exact absurd h h'
/-- the number of a name; -1: none -/
def knI (l : List UInt8) : Int := if l ∈ knames then (knames.idxOf l : Int) else -1
theorem knI_hit {k : Nat} (h : k < 7) : knI (kname k) = k := by
  have : ∀ k, k < 7 → knI (kname k) = k := by decide +kernel
  exact this k h
theorem knI_none {l : List UInt8} (h : ∀ k, k < 7 → kname k ≠ l) : knI l = -1 := by
  unfold knI
  rw [if_neg]
  intro hm
  obtain ⟨i, hi⟩ := List.mem_iff_getElem?.1 hm
  have hlt : i < 7 := by
    rcases Nat.lt_or_ge i 7 with h' | h'
    · exact h'
    · rw [List.getElem?_eq_none (by exact h')] at hi; cases hi
  refine h i hlt ?_
  unfold kname
  rw [List.getD_eq_getElem?_getD, hi]; rfl
theorem knI_ways (l : List UInt8) : (∃ k, k < 7 ∧ l = kname k ∧ knI l = k) ∨ ((∀ k, k < 7 → kname k ≠ l) ∧ knI l = -1) := by
  by_cases h : ∃ k, k < 7 ∧ l = kname k
  · obtain ⟨k, hk, rfl⟩ := h
    exact .inl ⟨k, hk, rfl, knI_hit hk⟩
  · have h' : ∀ k, k < 7 → kname k ≠ l := fun k hk e => h ⟨k, hk, e.symm⟩
    exact .inr ⟨h', knI_none h'⟩
/-- the rule of a line's words -/
def wdP : List (List UInt8) → Option Rl
  | [a, b] => if 0 ≤ knI a ∧ numE b = 0 then some (knI a, numV b, 0, 1) else none
  | [a, b, c, d] => if 0 ≤ knI a ∧ numE b = 0 ∧ numE d = 0 ∧ numV d ≠ 0 ∧ c = everyL then some (knI a, numV b, numV d, 0) else none
  | [a, b, c, d, e, f] => if 0 ≤ knI a ∧ numE b = 0 ∧ numE d = 0 ∧ numV d ≠ 0 ∧ c = everyL ∧ numE f = 0 ∧ numV f ≠ 0 ∧ e = timesL then some (knI a, numV b, numV d, numV f) else none
  | _ => none
theorem wdP_2 (a b : List UInt8) : wdP [a, b] = if 0 ≤ knI a ∧ numE b = 0 then some (knI a, numV b, 0, 1) else none := rfl
theorem wdP_4 (a b c d : List UInt8) : wdP [a, b, c, d] = if 0 ≤ knI a ∧ numE b = 0 ∧ numE d = 0 ∧ numV d ≠ 0 ∧ c = everyL then some (knI a, numV b, numV d, 0) else none := rfl
theorem wdP_6 (a b c d e f : List UInt8) : wdP [a, b, c, d, e, f] = if 0 ≤ knI a ∧ numE b = 0 ∧ numE d = 0 ∧ numV d ≠ 0 ∧ c = everyL ∧ numE f = 0 ∧ numV f ≠ 0 ∧ e = timesL then some (knI a, numV b, numV d, numV f) else none := rfl
def lnP (l : List UInt8) : Option Rl := wdP (spl 32 l)
theorem wdP_odd {P : List (List UInt8)} (h : P.length % 2 ≠ 0 ∨ 6 < P.length) (h0 : P ≠ []) : wdP P = none := by
  match P, h, h0 with
  | [], _, h0 => exact absurd rfl h0
  | [_], _, _ => rfl
  | [_, _], h, _ => simp at h
  | [_, _, _], _, _ => rfl
  | [_, _, _, _], h, _ => simp at h
  | [_, _, _, _, _], _, _ => rfl
  | [_, _, _, _, _, _], h, _ => simp at h
  | _ :: _ :: _ :: _ :: _ :: _ :: _ :: _, _, _ => rfl
theorem wdP_kind {P : List (List UInt8)} (h : knI (P.headD []) < 0) : wdP P = none := by
  match P, h with
  | [], _ => rfl
  | [_], _ => rfl
  | [a, _], h => rw [wdP_2, if_neg]; intro k; exact absurd k.1 (by have : knI a < 0 := h; omega)
  | [_, _, _], _ => rfl
  | [a, _, _, _], h => rw [wdP_4, if_neg]; intro k; exact absurd k.1 (by have : knI a < 0 := h; omega)
  | [_, _, _, _, _], _ => rfl
  | [a, _, _, _, _, _], h => rw [wdP_6, if_neg]; intro k; exact absurd k.1 (by have : knI a < 0 := h; omega)
  | _ :: _ :: _ :: _ :: _ :: _ :: _ :: _, _ => rfl
/-- a rule's line, without its end -/
def line0 (x : Rl) : List UInt8 :=
  kname x.1.toNat ++ [32] ++ Lib.itoa x.2.1 ++ ((if 0 < x.2.2.1 then [32, 101, 118, 101, 114, 121, 32] ++ Lib.itoa x.2.2.1 else []) ++ (if 0 < x.2.2.1 ∧ 0 < x.2.2.2 then [32, 116, 105, 109, 101, 115, 32] ++ Lib.itoa x.2.2.2 else []))
theorem line_0 (x : Rl) : lineB x = line0 x ++ [10] := by unfold lineB line0; simp
theorem itoa_no {n : Int} {c : UInt8} (hc : dgC c = false) (h45 : c ≠ 45) : c ∉ Lib.itoa n := by
  intro h
  rcases (show n < 0 ∨ 0 ≤ n by omega) with hn | hn
  · obtain ⟨u, hu, rfl⟩ : ∃ u : Nat, 1 ≤ u ∧ n = -(u : Int) := ⟨n.natAbs, by omega, by omega⟩
    rw [Lib.itoa_neg u hu] at h
    rcases List.mem_cons.1 h with h | h
    · exact h45 h
    · have := List.all_eq_true.1 (dec_dig u) c h
      rw [hc] at this; cases this
  · obtain ⟨u, rfl⟩ : ∃ u : Nat, n = (u : Int) := ⟨n.toNat, by omega⟩
    rw [Lib.itoa_nonneg] at h
    have := List.all_eq_true.1 (dec_dig u) c h
    rw [hc] at this; cases this
theorem kname_no {k : Nat} (h : k < 7) : (32 : UInt8) ∉ kname k ∧ (10 : UInt8) ∉ kname k := by
  have : ∀ k, k < 7 → (32 : UInt8) ∉ kname k ∧ (10 : UInt8) ∉ kname k := by decide +kernel
  exact this k h
/-- the words of a rule -/
def words (x : Rl) : List (List UInt8) :=
  [kname x.1.toNat, Lib.itoa x.2.1] ++ ((if 0 < x.2.2.1 then [everyL, Lib.itoa x.2.2.1] else []) ++ (if 0 < x.2.2.1 ∧ 0 < x.2.2.2 then [timesL, Lib.itoa x.2.2.2] else []))
theorem line0_jn (x : Rl) : line0 x = jn 32 (words x) := by
  unfold line0 words
  by_cases h1 : 0 < x.2.2.1
  · by_cases h2 : 0 < x.2.2.2
    · rw [if_pos h1, if_pos ⟨h1, h2⟩, if_pos h1, if_pos ⟨h1, h2⟩]
      simp [jn, everyL, timesL]
    · rw [if_pos h1, if_neg (fun h => h2 h.2), if_pos h1, if_neg (fun h => h2 h.2)]
      simp [jn, everyL]
  · rw [if_neg h1, if_neg (fun h => h1 h.1), if_neg h1, if_neg (fun h => h1 h.1)]
    simp [jn]
theorem words_no {x : Rl} (hk : x.1.toNat < 7) {p : List UInt8} (h : p ∈ words x) : (32 : UInt8) ∉ p := by
  have hi : ∀ n : Int, (32 : UInt8) ∉ Lib.itoa n := fun n => itoa_no rfl (by decide)
  unfold words at h
  simp only [List.mem_append, List.mem_cons, List.not_mem_nil, or_false] at h
  rcases h with (rfl | rfl) | h | h
  · exact (kname_no hk).1
  · exact hi _
  · split at h
    · simp only [List.mem_cons, List.not_mem_nil, or_false] at h
      rcases h with rfl | rfl
      · decide
      · exact hi _
    · cases h
  · split at h
    · simp only [List.mem_cons, List.not_mem_nil, or_false] at h
      rcases h with rfl | rfl
      · decide
      · exact hi _
    · cases h
theorem spl_line {x : Rl} (hk : x.1.toNat < 7) : spl 32 (line0 x) = words x := by
  rw [line0_jn]
  exact spl_jn (by unfold words; simp) (fun p hp => words_no hk hp)
/-- a rule's line is read -/
theorem ln_line {x : Rl} (h : RlOk x) : lnP (line0 x) = some x := by
  have hk0 := h.k0
  have hk1 := h.k1
  have hk : x.1.toNat < 7 := by omega
  have hkn : knI (kname x.1.toNat) = x.1 := by rw [knI_hit hk]; omega
  have hF := num_itoa (n := x.2.1) (by have := h.f0; omega) (by have := h.f1; omega)
  have hE := num_itoa (n := x.2.2.1) h.e0 (by have := h.e1; omega)
  have hT := num_itoa (n := x.2.2.2) h.t0 (by have := h.t1; omega)
  unfold lnP
  rw [spl_line hk]
  unfold words
  by_cases h1 : 0 < x.2.2.1
  · by_cases h2 : 0 < x.2.2.2
    · rw [if_pos h1, if_pos ⟨h1, h2⟩]
      show wdP [_, _, _, _, _, _] = _
      rw [wdP_6, hkn, hF.1, hF.2, hE.1, hE.2, hT.1, hT.2, if_pos ⟨hk0, rfl, rfl, by omega, rfl, rfl, by omega, rfl⟩]
    · rw [if_pos h1, if_neg (fun h => h2 h.2)]
      show wdP [_, _, _, _] = _
      have ht := h.t0
      rw [wdP_4, hkn, hF.1, hF.2, hE.1, hE.2, if_pos ⟨hk0, rfl, rfl, by omega, rfl⟩, show (0 : Int) = x.2.2.2 by omega]
  · rw [if_neg h1, if_neg (fun h => h1 h.1)]
    show wdP [_, _] = _
    have he := h.e0
    have hz : x.2.2.1 = 0 := by omega
    have ht := h.et hz
    rw [wdP_2, hkn, hF.1, hF.2, if_pos ⟨hk0, rfl⟩]
    obtain ⟨a, b, c, d⟩ := x
    dsimp only at hz ht
    rw [hz, ht]
/-- what is read is the line -/
theorem line_ln {l : List UInt8} {x : Rl} (h : lnP l = some x) : line0 x = l := by
  have hj := jn_spl 32 l
  unfold lnP at h
  have kk : ∀ a : List UInt8, 0 ≤ knI a → kname (knI a).toNat = a := fun a ha => by
    rcases knI_ways a with ⟨k, _, rfl, e⟩ | ⟨_, e⟩
    · rw [e, Int.toNat_natCast]
    · omega
  rw [line0_jn, ← hj]
  congr 1
  match hs : spl 32 l, h with
  | [a, b], h =>
    rw [wdP_2] at h
    split at h
    · rename_i hc
      cases h
      unfold words
      have hz : ¬ 0 < (0 : Int) := by decide
      rw [if_neg hz, if_neg (fun h => hz h.1)]
      show [_, _] = [_, _]
      rw [kk a hc.1, itoa_num hc.2]
    · cases h
  | [a, b, c, d], h =>
    rw [wdP_4] at h
    split at h
    · rename_i hc
      obtain ⟨h1, h2, h3, h4, rfl⟩ := hc
      cases h
      have hp : 0 < numV d := by
        rcases num_ways d with ⟨_, _, _, h5, _⟩ | ⟨h5, _⟩
        · omega
        · exact absurd h3 h5
      unfold words
      have hz : ¬ 0 < (0 : Int) := by decide
      rw [if_pos hp, if_neg (fun h => hz h.2)]
      show [_, _, _, _] = [_, _, _, _]
      rw [kk a h1, itoa_num h2, itoa_num h3]
    · cases h
  | [a, b, c, d, e, f], h =>
    rw [wdP_6] at h
    split at h
    · rename_i hc
      obtain ⟨h1, h2, h3, h4, rfl, h6, h7, rfl⟩ := hc
      cases h
      have hp : ∀ d : List UInt8, numE d = 0 → numV d ≠ 0 → 0 < numV d := fun d h3 h4 => by
        rcases num_ways d with ⟨_, _, _, h5, _⟩ | ⟨h5, _⟩
        · omega
        · exact absurd h3 h5
      unfold words
      rw [if_pos (hp d h3 h4), if_pos ⟨hp d h3 h4, hp f h6 h7⟩]
      show [_, _, _, _, _, _] = [_, _, _, _, _, _]
      rw [kk a h1, itoa_num h2, itoa_num h3, itoa_num h6]
    · cases h
  | [], h => cases h
  | [_], h => cases h
  | [_, _, _], h => cases h
  | [_, _, _, _, _], h => cases h
  | _ :: _ :: _ :: _ :: _ :: _ :: _ :: _, h => cases h

theorem jn_end {L : List (List UInt8)} (h : L ≠ []) : (L.map (· ++ [10])).flatten = jn 10 L ++ [10] := by
  induction L with
  | nil => exact absurd rfl h
  | cons p q ih =>
    cases q with
    | nil => simp [jn]
    | cons a b =>
      have := ih (by simp)
      rw [jn_cons (by simp), List.map_cons, List.flatten_cons, this]
      simp
theorem line0_no {x : Rl} (hk : x.1.toNat < 7) : (10 : UInt8) ∉ line0 x := by
  have hi : ∀ n : Int, (10 : UInt8) ∉ Lib.itoa n := fun n => itoa_no rfl (by decide)
  unfold line0
  simp only [List.mem_append, not_or]
  refine ⟨⟨⟨(kname_no hk).2, by decide⟩, hi _⟩, ?_, ?_⟩
  · split
    · simp only [List.mem_append, not_or]; exact ⟨by decide, hi _⟩
    · simp
  · split
    · simp only [List.mem_append, not_or]; exact ⟨by decide, hi _⟩
    · simp
theorem text_flat (R : Nat → Rl) : ∀ n, textB R n = (((List.range n).map fun i => line0 (R i)).map (· ++ [10])).flatten
  | 0 => rfl
  | n + 1 => by
    rw [textB, text_flat R n, List.range_succ, List.map_append, List.map_append, List.flatten_append, line_0]
    simp
theorem text_lines {n : Nat} {R : Nat → Rl} (hn : n ≤ 50) (h : ∀ i, i < n → RlOk (R i)) : lnsE (textB R n) = 0 ∧ lnsL (textB R n) = (List.range n).map fun i => line0 (R i) := by
  have hlen := text_len (R := R) (k := n) h
  by_cases h0 : n = 0
  · subst h0
    exact ⟨rfl, rfl⟩
  · have hL : ((List.range n).map fun i => line0 (R i)) ≠ [] := by simp [h0]
    have ht := text_flat R n
    rw [jn_end hL] at ht
    have hno : ∀ p, p ∈ ((List.range n).map fun i => line0 (R i)) → (10 : UInt8) ∉ p := by
      intro p hp
      obtain ⟨i, hi, rfl⟩ := List.mem_map.1 hp
      have hr := h i (List.mem_range.1 hi)
      exact line0_no (by have := hr.k0; have := hr.k1; omega)
    have hne : textB R n ≠ [] := by rw [ht]; simp
    have hsp := spl_jn hL hno
    have hct : (textB R n).count 10 = n := by
      have := spl_len 10 (jn 10 ((List.range n).map fun i => line0 (R i)))
      rw [hsp, List.length_map, List.length_range] at this
      rw [ht, List.count_append]
      simp only [List.count_cons_self, List.count_nil]
      omega
    have hE : lnsE (textB R n) = 0 := by
      unfold lnsE
      rw [if_neg (by omega), if_neg hne, if_neg (by rw [ht]; simp), hct, if_neg (by omega)]
    refine ⟨hE, ?_⟩
    unfold lnsL
    rw [if_neg (by simp [hE, hne]), ht, List.dropLast_concat, hsp]
end Go.Proofs.YtgbdhmdaefbglaaDoor
