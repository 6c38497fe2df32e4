/- Words: a line's fields, one step; a slice that reads as fields. | Refusals: a line by its fields. No program. | Words: Split of the reference. | Refusals: a number of a line, by the reference. | Words: Int of the program. | Refusals: the kind with a name. | Refusals: the names of the reference. -/
import Derived.Test.YtgbdhmdaefbglaaDoorPPZ6
import Derived.Test.YtgbdhmdaefbglaaDoorPPZ5
import Derived.WalkMore
import Derived.BigRegion
import Derived.Deep.RegionLaw
import Derived.Test.YtgbdhmdaefbglaaDoorPPZ3
import Derived.Lib.AtoiErrMem
import Derived.Test.YtgbdhmdaefbglaaDoorPPZ4
namespace Go.Proofs.YtgbdhmdaefbglaaDoor
open Go.RowKit Go.Sort Go.Joins

def splT (l : List UInt8) : Option (List Fl) := splF l.length l
theorem splT_nil : splT [] = some [] := rfl
/-- one step -/
theorem splT_cons (c : UInt8) (r : List UInt8) : splT (c :: r) = match fld1 ((c :: r).take (fend (c :: r))) with
    | none => none
    | some x =>
      match (c :: r).drop (fend (c :: r)) with
      | [] => some [x]
      | [_] => none
      | d :: e :: t => if d = 32 then (splT (e :: t)).map (x :: ·) else none := by
  unfold splT
  rw [List.length_cons, splF]
  cases hx : fld1 ((c :: r).take (fend (c :: r))) with
  | none => rfl
  | some x =>
    have hp := fend_pos (c := c) (r := r) (by rw [hx]; simp)
    dsimp only
    cases hd : (c :: r).drop (fend (c :: r)) with
    | nil => rfl
    | cons d t =>
      cases t with
      | nil => rfl
      | cons e t =>
        have hl := congrArg List.length hd
        simp only [List.length_drop, List.length_cons] at hl
        dsimp only
        rw [splF_more r.length (e :: t) (by simp only [List.length_cons]; omega) _ (Nat.le_refl _)]
section
variable {L : List UInt8} {f : Nat}
theorem spl_none (hf : f < L.length) (h : fld1 ((L.drop f).take (fend (L.drop f))) = none) : splT (L.drop f) = none := by
  rw [drop_bt hf] at h ⊢
  rw [splT_cons, h]
theorem spl_last (hf : f < L.length) {x : Fl} (h : fld1 ((L.drop f).take (fend (L.drop f))) = some x) (hk : L.length ≤ f + fend (L.drop f)) : splT (L.drop f) = some [x] := by
  have hd : (L.drop f).drop (fend (L.drop f)) = [] := by rw [List.drop_drop]; exact List.drop_eq_nil_of_le hk
  rw [drop_bt hf] at h hd ⊢
  rw [splT_cons, h, hd]
theorem spl_bad (hf : f < L.length) {x : Fl} (h : fld1 ((L.drop f).take (fend (L.drop f))) = some x) {z : Nat} (hz : f + fend (L.drop f) = z) (hk : z < L.length) (hb : bt L z ≠ 32 ∨ z + 1 = L.length) : splT (L.drop f) = none := by
  have hd : (L.drop f).drop (fend (L.drop f)) = bt L z :: L.drop (z + 1) := by rw [List.drop_drop, hz]; exact drop_bt hk
  rw [drop_bt hf] at h hd ⊢
  rw [splT_cons, h, hd]
  rcases hb with hb | hb
  · cases L.drop (z + 1) with
    | nil => rfl
    | cons e t => dsimp only; rw [if_neg hb]
  · rw [List.drop_eq_nil_of_le (by omega)]
theorem spl_go (hf : f < L.length) {x : Fl} (h : fld1 ((L.drop f).take (fend (L.drop f))) = some x) {z : Nat} (hz : f + fend (L.drop f) = z) (hk : z + 1 < L.length) (hb : bt L z = 32) : splT (L.drop f) = (splT (L.drop (z + 1))).map (x :: ·) := by
  have hd : (L.drop f).drop (fend (L.drop f)) = bt L z :: L.drop (z + 1) := by rw [List.drop_drop, hz]; exact drop_bt (by omega)
  rw [drop_bt hf] at h hd ⊢
  rw [splT_cons, h, hd, drop_bt hk]
  dsimp only
  rw [if_pos hb]
end
theorem map_snoc (o : Option (List Fl)) (X : List Fl) (x : Fl) : (o.map (x :: ·)).map (X ++ ·) = o.map ((X ++ [x]) ++ ·) := by
  cases o with
  | none => rfl
  | some u => simp
theorem splE_eq (l : List UInt8) : splE l = if 4096 < l.length then 3 else match splT l with | none => 6 | some f => if 64 < f.length then 3 else 0 := rfl
theorem splE_long {l : List UInt8} (h : 4096 < l.length) : splE l = 3 ∧ splR l = [] := by
  have he : splE l = 3 := by rw [splE_eq, if_pos h]
  refine ⟨he, ?_⟩
  unfold splR; rw [if_neg (by rw [he]; decide)]
theorem splE_form {l : List UInt8} (h : ¬ 4096 < l.length) (h2 : splT l = none) : splE l = 6 ∧ splR l = [] := by
  have he : splE l = 6 := by rw [splE_eq, if_neg h, h2]
  refine ⟨he, ?_⟩
  unfold splR; rw [if_neg (by rw [he]; decide)]
theorem splE_many {l : List UInt8} (h : ¬ 4096 < l.length) {fs : List Fl} (h2 : splT l = some fs) (h3 : 64 < fs.length) : splE l = 3 ∧ splR l = [] := by
  have he : splE l = 3 := by rw [splE_eq, if_neg h, h2]; exact if_pos h3
  refine ⟨he, ?_⟩
  unfold splR; rw [if_neg (by rw [he]; decide)]
theorem splE_ok {l : List UInt8} (h : ¬ 4096 < l.length) {fs : List Fl} (h2 : splT l = some fs) (h3 : ¬ 64 < fs.length) : splE l = 0 ∧ splR l = fs := by
  have he : splE l = 0 := by rw [splE_eq, if_neg h, h2]; exact if_neg h3
  refine ⟨he, ?_⟩
  unfold splR; rw [if_pos he]
  show (splT l).getD [] = fs
  rw [h2]; rfl
/-- a slice that reads as fields -/
def SlF (w : World) (a : Option Addr) (fs : List Fl) : Prop := fs = [] ∨ ∃ b o, a = some ⟨b, o, none⟩ ∧ ∀ j, j < fs.length → w.cell? ⟨b, o + 2 * j, none⟩ = some (.bool (fs.getD j (false, [])).1) ∧ ∃ S : ByteArray, w.cell? ⟨b, o + 2 * j + 1, none⟩ = some (.string S) ∧ S.data.toList = (fs.getD j (false, [])).2
theorem SlF.below {w w' : World} {a : Option Addr} {fs : List Fl} (h : SlF w a fs) (hb : Below w.heap.size w w') : SlF w' a fs := by
  rcases h with h | ⟨b, o, ha, hc⟩
  · exact .inl h
  · refine .inr ⟨b, o, ha, fun j hj => ?_⟩
    obtain ⟨h1, S, h2, h3⟩ := hc j hj
    exact ⟨cell_later hb h1, S, cell_later hb h2, h3⟩
/-- fields as cells -/
def flc (X : List (Bool × ByteArray)) : List Value := X.flatMap fun x => [.bool x.1, .string x.2]
theorem flc_snoc (X : List (Bool × ByteArray)) (x : Bool × ByteArray) : flc (X ++ [x]) = flc X ++ [.bool x.1, .string x.2] := by simp [flc]
theorem flc_get (X : List (Bool × ByteArray)) (k : Nat) (h : k < X.length) : (flc X)[2 * k]? = some (.bool X[k].1) ∧ (flc X)[2 * k + 1]? = some (.string X[k].2) := by
  induction X generalizing k with
  | nil => simp at h
  | cons x X ih =>
    cases k with
    | zero => simp [flc]
    | succ k =>
      have := ih k (by simpa using h)
      simp only [flc, List.flatMap_cons] at this ⊢
      rw [List.getElem?_append_right (by simp; omega), List.getElem?_append_right (by simp; omega)]
      simpa [show 2 * (k + 1) - 2 = 2 * k by omega, show 2 * (k + 1) + 1 - 2 = 2 * k + 1 by omega] using this
theorem flc_length (X : List (Bool × ByteArray)) : (flc X).length = X.length * 2 := by
  induction X with
  | nil => rfl
  | cons x X ih => show ([_, _] ++ flc X).length = _; rw [List.length_append, ih]; simp; omega
/-- what they say -/
def fls (X : List (Bool × ByteArray)) : List Fl := X.map fun x => (x.1, x.2.data.toList)
theorem SlF.of_own {w : World} {base len cap : Nat} {e : TypeId} {a : Option Addr} {X : List (Bool × ByteArray)} (h : w.ownsRow base e 2 (.slice a len cap) X.length (flc X)) : SlF w a (fls X) := by
  by_cases h0 : X.length = 0
  · left
    have : X = [] := List.length_eq_zero_iff.1 h0
    rw [this]; rfl
  · obtain ⟨g, cap', hv⟩ := ownsRow_form h (by omega)
    cases hv
    refine .inr ⟨g, 0, rfl, fun j hj => ?_⟩
    have hj' : j < X.length := by unfold fls at hj; rwa [List.length_map] at hj
    obtain ⟨e0, e1⟩ := flc_get X j hj'
    have hl := flc_length X
    have c0 := h.cellAt (2 * j) (by omega)
    have c1 := h.cellAt (2 * j + 1) (by omega)
    rw [e0] at c0
    rw [e1] at c1
    have hg : (fls X).getD j (false, []) = (X[j].1, X[j].2.data.toList) := by
      unfold fls
      rw [List.getD_eq_getElem?_getD, List.getElem?_map, List.getElem?_eq_getElem hj']; rfl
    rw [Nat.zero_add, hg]
    exact ⟨c0, X[j].2, c1, rfl⟩
theorem info_field : (Tryd.prog.info? 86).map (fun i => (i.zero, i.size, i.bytes)) = some (some (.agg #[.bool false, .string ⟨#[]⟩]), 2, 24) := by kernel_rfl
end Go.Proofs.YtgbdhmdaefbglaaDoor

namespace Go.Proofs.YtgbdhmdaefbglaaDoor

theorem kname_tx {k : Nat} (h : k < 7) : rtB (kname k) = true := by
  have : ∀ k, k < 7 → rtB (kname k) = true := by decide +kernel
  exact this k h
theorem kname_le {k : Nat} (h : k < 7) : (kname k).length ≤ 8 := by
  have : ∀ k, k < 7 → (kname k).length ≤ 8 := by decide +kernel
  exact this k h
theorem dig_rt {l : List UInt8} (h : l.all dgC = true) (h0 : l ≠ []) (hl : l.length ≤ 200) : rtB l = true := by
  have key : ∀ c, c ∈ l → 48 ≤ c.toNat ∧ c.toNat ≤ 57 := fun c hc => dgC_yes.1 (List.all_eq_true.1 h c hc)
  refine rtB_yes.2 ⟨h0, ⟨fun hm => ?_, fun hm => ?_⟩, txB_yes.2 ⟨?_, hl⟩⟩
  · have := (key _ hm).1; exact absurd this (by decide)
  · have := (key _ hm).1; exact absurd this (by decide)
  · unfold prB
    rw [List.all_eq_true]
    intro c hc
    have := key c hc
    simp only [Bool.and_eq_true, decide_eq_true_eq]
    omega
theorem itoa_rt {n : Int} (h0 : 0 ≤ n) (h1 : n ≤ 1000000000) : rtB (Lib.itoa n) = true ∧ (Lib.itoa n).length ≤ 20 := by
  have h20 := itoa_20 (n := n) (by omega) (by omega)
  obtain ⟨u, rfl⟩ : ∃ u : Nat, n = (u : Int) := ⟨n.toNat, by omega⟩
  rw [Lib.itoa_nonneg] at h20 ⊢
  exact ⟨dig_rt (dec_dig u) (dec_ne u) (by omega), h20⟩
theorem num_rt {l : List UInt8} (h : numE l = 0) : rtB l = true ∧ l.length ≤ 20 := by
  rcases num_ways l with ⟨_, hw, hv, h0, h1⟩ | ⟨h', _⟩
  · have := itoa_rt h0 h1
    rw [itoa_num h] at this
    exact this
  · exact absurd h h'
/-- the words of a line that is a rule -/
theorem ln_words {l : List UInt8} {x : Rl} (h : lnP l = some x) : (∀ p, p ∈ spl 32 l → rtB p = true ∧ p.length ≤ 20) ∧ ((spl 32 l).length = 2 ∨ (spl 32 l).length = 4 ∨ (spl 32 l).length = 6) := by
  unfold lnP at h
  have kk : ∀ a : List UInt8, 0 ≤ knI a → rtB a = true ∧ a.length ≤ 20 := fun a ha => by
    rcases knI_ways a with ⟨k, hk, rfl, e⟩ | ⟨_, e⟩
    · exact ⟨kname_tx hk, Nat.le_trans (kname_le hk) (by decide)⟩
    · omega
  have ke : rtB everyL = true ∧ everyL.length ≤ 20 := by decide +kernel
  have kt : rtB timesL = true ∧ timesL.length ≤ 20 := by decide +kernel
  match hs : spl 32 l, h with
  | [a, b], h =>
    rw [wdP_2] at h
    split at h
    · rename_i hc
      refine ⟨fun p hp => ?_, .inl rfl⟩
      simp only [List.mem_cons, List.not_mem_nil, or_false] at hp
      rcases hp with rfl | rfl
      · exact kk _ hc.1
      · exact num_rt hc.2
    · cases h
  | [a, b, c, d], h =>
    rw [wdP_4] at h
    split at h
    · rename_i hc
      obtain ⟨h1, h2, h3, _, rfl⟩ := hc
      refine ⟨fun p hp => ?_, .inr (.inl rfl)⟩
      simp only [List.mem_cons, List.not_mem_nil, or_false] at hp
      rcases hp with rfl | rfl | rfl | rfl
      · exact kk _ h1
      · exact num_rt h2
      · exact ke
      · exact num_rt h3
    · cases h
  | [a, b, c, d, e, f], h =>
    rw [wdP_6] at h
    split at h
    · rename_i hc
      obtain ⟨h1, h2, h3, _, rfl, h6, _, rfl⟩ := hc
      refine ⟨fun p hp => ?_, .inr (.inr rfl)⟩
      simp only [List.mem_cons, List.not_mem_nil, or_false] at hp
      rcases hp with rfl | rfl | rfl | rfl | rfl | rfl
      · exact kk _ h1
      · exact num_rt h2
      · exact ke
      · exact num_rt h3
      · exact kt
      · exact num_rt h6
    · cases h
  | [], h => cases h
  | [_], h => cases h
  | [_, _, _], h => cases h
  | [_, _, _, _, _], h => cases h
  | _ :: _ :: _ :: _ :: _ :: _ :: _ :: _, h => cases h
theorem jn_len {c : UInt8} {m : Nat} : ∀ {P : List (List UInt8)}, (∀ p, p ∈ P → p.length ≤ m) → (jn c P).length ≤ P.length * (m + 1)
  | [], _ => Nat.zero_le _
  | [p], h => by
    have := h p (by simp)
    show p.length ≤ 1 * (m + 1)
    omega
  | p :: q :: P, h => by
    have h1 := h p (by simp)
    have h2 := jn_len (c := c) (P := q :: P) (fun a ha => h a (List.mem_cons_of_mem _ ha))
    rw [jn_cons (by simp), List.length_append, List.length_cons]
    rw [List.length_cons, Nat.succ_mul]
    omega
theorem ln_spl {l : List UInt8} {x : Rl} (h : lnP l = some x) : splE l = 0 ∧ splR l = (spl 32 l).map (fun p => (false, p)) := by
  obtain ⟨h1, h2⟩ := ln_words h
  have hj := jn_spl 32 l
  have hne := spl_ne 32 l
  have hlen := jn_len (c := 32) (m := 20) (fun p hp => (h1 p hp).2)
  rw [hj] at hlen
  have hsp : splT l = some ((spl 32 l).map (fun p => (false, p))) := by
    have := splF_jn (spl 32 l) l.length hne (fun p hp => (h1 p hp).1) (by rw [hj]; exact Nat.le_refl _)
    rw [hj] at this
    exact this
  exact splE_ok (by omega) hsp (by rw [List.length_map]; omega)
/-- the rule of a line's fields -/
def lnF (fs : List Fl) : Option Rl := if fs.all (fun x => !x.1) then wdP (fs.map (·.2)) else none
theorem ln_fields (l : List UInt8) : lnP l = if splE l = 0 then lnF (splR l) else none := by
  by_cases hE : splE l = 0
  · rw [if_pos hE]
    unfold lnF
    by_cases hq : (splR l).all (fun x => !x.1) = true
    · rw [if_pos hq]
      have hlen : ¬ 4096 < l.length := fun h => by have := (splE_long h).1; omega
      cases hs : splT l with
      | none => have := (splE_form hlen hs).1; omega
      | some fs =>
        have h64 : ¬ 64 < fs.length := fun h => by have := (splE_many hlen hs h).1; omega
        have hR := (splE_ok hlen hs h64).2
        rw [hR] at hq ⊢
        obtain ⟨e1, e2, e3⟩ := splF_un _ _ _ hs (fun x hx => by have := List.all_eq_true.1 hq x hx; simpa using this)
        by_cases hl : l = []
        · subst hl
          cases hs
          rfl
        · unfold lnP
          have hn : fs.map (·.2) ≠ [] := by simpa using e3 hl
          conv => lhs; rw [e1, spl_jn hn (fun p hp => by
            obtain ⟨x, hx, rfl⟩ := List.mem_map.1 hp
            exact (rtB_yes.1 (e2 x hx)).2.1.1)]
    · rw [if_neg hq]
      cases hl : lnP l with
      | none => rfl
      | some x =>
        exfalso
        apply hq
        rw [(ln_spl hl).2, List.all_eq_true]
        intro y hy
        obtain ⟨p, _, rfl⟩ := List.mem_map.1 hy
        rfl
  · rw [if_neg hE]
    cases hl : lnP l with
    | none => rfl
    | some x => exact absurd (ln_spl hl).1 hE
/-- the stages of a line, by its fields -/
theorem lnF_ways {fs : List Fl} (hl : fs.length = 2 ∨ fs.length = 4 ∨ fs.length = 6) :
    ((∃ j, j < fs.length ∧ (fs.getD j (false, [])).1 = true) → lnF fs = none) ∧
    ((∀ j, j < fs.length → (fs.getD j (false, [])).1 = false) → lnF fs = wdP (fs.map (·.2))) ∧ (fs.map (·.2)).length = fs.length ∧ ∀ j, j < fs.length → (fs.map (·.2)).getD j [] = (fs.getD j (false, [])).2 := by
  have hg : ∀ j (h : j < fs.length), fs.getD j (false, []) = fs[j] := fun j h => by rw [List.getD_eq_getElem?_getD, List.getElem?_eq_getElem h]; rfl
  refine ⟨?_, ?_, by rw [List.length_map], ?_⟩
  · rintro ⟨j, hj, hb⟩
    rw [hg j hj] at hb
    unfold lnF
    rw [if_neg]
    intro h
    have := List.all_eq_true.1 h fs[j] (List.getElem_mem hj)
    rw [hb] at this
    cases this
  · intro h
    unfold lnF
    rw [if_pos]
    rw [List.all_eq_true]
    intro x hx
    obtain ⟨j, hj, rfl⟩ := List.mem_iff_getElem.1 hx
    have := h j hj
    rw [hg j hj] at this
    rw [this]; rfl
  · intro j hj
    rw [hg j hj, List.getD_eq_getElem?_getD, List.getElem?_map, List.getElem?_eq_getElem hj]; rfl
theorem lnF_len {fs : List Fl} (h : fs.length ≠ 2 ∧ fs.length ≠ 4 ∧ fs.length ≠ 6) : lnF fs = none := by
  unfold lnF
  split
  · by_cases h0 : fs = []
    · subst h0; rfl
    · by_cases h6 : 6 < fs.length ∨ fs.length % 2 ≠ 0
      · exact wdP_odd (by rw [List.length_map]; rcases h6 with h | h; exact .inr h; exact .inl h) (by simpa using h0)
      · have : fs.length = 0 := by omega
        exact absurd (List.length_eq_zero_iff.1 this) h0
  · rfl
end Go.Proofs.YtgbdhmdaefbglaaDoor

namespace Go.Proofs.YtgbdhmdaefbglaaDoor
open Go.RowKit Go.Sort Go.Joins
attribute [local go_sem] cell_grow frozen_grow size_grow

theorem ext_list {s : ByteArray} {L : List UInt8} (hL : s.data.toList = L) (f z : Nat) : (s.extract f z).data.toList = (L.drop f).take (z - f) := by
  rw [ByteArray.data_extract, Array.toList_extract, hL, List.extract_eq_take_drop]
theorem fld1_q {L : List UInt8} {f : Nat} (hf : f < L.length) (h : (bt L f).toNat = 34) : fld1 ((L.drop f).take (fend (L.drop f))) = (unq ((L.drop f).take (fend (L.drop f)))).map (fun u => (true, u)) := by
  have hb : bt L f = 34 := UInt8.toNat_inj.1 h
  rw [drop_bt hf, hb]
  unfold fld1
  rw [if_pos]
  rw [fend_q, Nat.add_comm, List.take_succ_cons]; rfl
theorem fld1_u {L : List UInt8} {f : Nat} (hf : f < L.length) (h : (bt L f).toNat ≠ 34) : fld1 ((L.drop f).take (fend (L.drop f))) = if rtB ((L.drop f).take (fend (L.drop f))) then some (false, (L.drop f).take (fend (L.drop f))) else none := by
  have hb : bt L f ≠ 34 := fun e => h (by rw [e]; rfl)
  rw [drop_bt hf]
  have : ((bt L f :: L.drop (f + 1)).take (fend (bt L f :: L.drop (f + 1)))).head? ≠ some 34 := by
    cases fend (bt L f :: L.drop (f + 1)) with
    | zero => simp
    | succ n => rw [List.take_succ_cons]; simpa using hb
  generalize (bt L f :: L.drop (f + 1)).take (fend (bt L f :: L.drop (f + 1))) = T at *
  unfold fld1
  rw [if_neg this]
theorem unq_len {l u : List UInt8} (h : unq l = some u) : u.length ≤ l.length := by
  obtain ⟨_, h2⟩ := unq_some h
  have := dbl_len u
  rw [← h2]
  unfold qtL
  simp only [List.length_cons, List.length_append, List.length_nil]
  omega
theorem fls_len (X : List (Bool × ByteArray)) : (fls X).length = X.length := by unfold fls; rw [List.length_map]
theorem own_belowS {w w' : World} {base : Nat} {e : TypeId} {size : Nat} {v : Value} {n : Nat} {xs : List Value} (h : w.ownsRow base e size v n xs) (hb : Below w.heap.size w w') : w'.ownsRow base e size v n xs := own_below h hb
/-- what Split hands back -/
def SplPost (w : World) (fs : List Fl) (E : Int) (x : Ending) (w' : World) : Prop :=
  ∃ a c, x = .returned (.tuple #[.slice a fs.length c, .int .i64 E]) ∧ SlF w' a fs ∧ Below w.heap.size w w'
theorem SplPost.none {w w' : World} {E : Int} (h : Below w.heap.size w w') : SplPost w [] E (.returned (.tuple #[.slice none 0 0, .int .i64 E])) w' := ⟨_, _, rfl, .inl rfl, h⟩
abbrev FB (W : World) (g : Nat) (b : Bool) (S : ByteArray) : Prop := W.heap[g]? = some (.cells #[.bool b, .string S] 86 (0, 0))
set_option maxRecDepth 100000 in
set_option maxHeartbeats 3200000 in
theorem rsplit_ok (s : ByteArray) (L : List UInt8) (hL : s.data.toList = L) (hs : s.size ≤ 4611686018427387904) (w : World) :
    Calls Tryd.prog 44 #[.string s] w (SplPost w (splR L) (splE L)) := by
  obtain ⟨i0, hi, hz0, hz1, hz2⟩ := info_parts info_field
  have hlen := len_of hL
  have HL := Lib.hid hL
  by_cases h1 : 4096 < s.size
  · have d1 : decide ((4096 : Int) < (s.size : Int)) = true := decide_eq_true (by omega)
    obtain ⟨hE, hR⟩ := splE_long (l := L) (by omega)
    rw [hE, hR]
    clear hL hE hR
    go_enter Tryd.func44, Tryd.ntmps44
    go_wp2_with fail
    go_ret2
    exact SplPost.none (Below.refl _ _)
  · have d1 : decide ((4096 : Int) < (s.size : Int)) = false := decide_eq_false (by omega)
    have hE6 := @splE_form L (by omega)
    have hE3 := @splE_many L (by omega)
    have hE0 := @splE_ok L (by omega)
    obtain ⟨E, hE⟩ : ∃ x, splE L = x := ⟨_, rfl⟩
    obtain ⟨R, hR⟩ : ∃ x, splR L = x := ⟨_, rfl⟩
    rw [hE, hR] at hE6 hE3 hE0 ⊢
    have H6 := Lib.hid hE6
    have H3 := Lib.hid (fun fs => @hE3 fs)
    have H0 := Lib.hid (fun fs => @hE0 fs)
    clear hL hE hR hE6 hE3 hE0
    go_enter Tryd.func44, Tryd.ntmps44
    go_wp2_with fail
    go_loopw [4, 5] (fun o i wr => ∃ (f : Nat) (va : Option Addr) (vc : Nat) (X : List (Bool × ByteArray)), i = .int .i64 (f : Int) ∧ o = .slice va X.length vc ∧ f ≤ s.size + 1 ∧ X.length ≤ f ∧ Hid (splT L = (splT (L.drop f)).map (fls X ++ ·)) ∧ Hid (wr.ownsRow w.heap.size 86 2 (.slice va X.length vc) X.length (flc X)) ∧ Hid (Below w.heap.size w wr)) (fun _ i _ => s.size + 1 - (intOf i).toNat)
    case atStart => exact ⟨0, none, 0, [], rfl, rfl, by omega, Nat.le_refl _, Lib.hid (by rw [List.drop_zero]; cases splT L <;> rfl), Lib.hid (World.ownsRow_nil _ _ _ _), Lib.hid (Below.refl _ _)⟩
    case round =>
      obtain ⟨f, va, vc, X, rfl, rfl, hf, hX, HQ, HO, HB⟩ := hrel
      by_cases hlt : f < s.size
      · have hfe := fend_le (L.drop f)
        rw [List.length_drop] at hfe
        have HEND := Lib.hid (rend_ok s L HL.out (by omega) f hlt)
        have hext := ext_list HL.out f (f + fend (L.drop f))
        rw [Nat.add_sub_cancel_left] at hext
        have hFq := @fld1_q L f (by omega)
        have hFu := @fld1_u L f (by omega)
        have hSn := @spl_none L f (by omega)
        have hSl := fun x => @spl_last L f (by omega) x
        have hSb := fun x h => @spl_bad L f (by omega) x h (f + fend (L.drop f)) rfl
        have hSg := fun x h => @spl_go L f (by omega) x h (f + fend (L.drop f)) rfl
        obtain ⟨z, hz⟩ : ∃ z, f + fend (L.drop f) = z := ⟨_, rfl⟩
        rw [hz] at hext HEND hSl hSb hSg
        have hzs : z ≤ s.size := by omega
        have hfz : f ≤ z := by omega
        obtain ⟨T, hT⟩ : ∃ T, (L.drop f).take (fend (L.drop f)) = T := ⟨_, rfl⟩
        rw [hT] at hext hFq hFu hSn hSl hSb hSg
        have hb := bt_get HL.out hlt
        have hb2 := (bt L f).toNat_lt
        have HSn := Lib.hid hSn
        have HSl := Lib.hid hSl
        have HSb := Lib.hid hSb
        have HSg := Lib.hid hSg
        have HT := Lib.hid hext
        have HFq := Lib.hid hFq
        have HFu := Lib.hid hFu
        have HX0 : Hid (FB (wr.alloc (.cells #[.bool false, .string (s.extract f z)] 86)) wr.heap.size false (s.extract f z)) := Lib.hid (heap_alloc_new wr _)
        have hesz : (s.extract f z).size ≤ s.size := by rw [ByteArray.size_extract]; omega
        obtain ⟨es, hes⟩ : ∃ x, s.extract f z = x := ⟨_, rfl⟩
        rw [hes] at HX0 HT hesz
        clear hfe hz hT hext hFq hFu hSn hSl hSb hSg
        by_cases h34 : (bt L f).toNat = 34
        · have hF := HFq.out h34
          rw [h34] at hb
          have d2 : (((34 : Nat) : Int) == 34) = true := rfl
          have HUQ := Lib.hid (runq_ok es T HT.out (by omega))
          clear HFq HFu hb2 h34
          go_wp2_with fail
          refine (HEND.out _).mono ?_
          rintro e w1 ⟨rfl, rfl⟩
          clear HEND
          go_wp2_with fail
          refine (HUQ.out _).mono ?_
          rintro e w1 ⟨S, rfl, hS, rfl⟩
          cases hu : unq T with
          | none =>
            have hE := (unq_6 hu).1
            rw [hE]
            rw [hu] at hF
            obtain ⟨rfl, rfl⟩ := H6.out (by rw [HQ.out, HSn.out hF]; rfl)
            clear hF hS hE hu
            go_wp2_with fail
            go_ret2
            exact SplPost.none (HB.out.alloc HB.out.size _)
          | some u =>
            have hE := unq_0 hu
            rw [hE.1]
            rw [hE.2] at hS
            rw [hu] at hF
            have hF : fld1 T = some (true, u) := hF
            have hfl := (fld1_some hF).1
            have HF := Lib.hid hF
            have HS := Lib.hid hS
            have hSz : S.size ≤ s.size := by
              have h1 := len_of hS
              have h2 := unq_len hu
              have h3 := len_of HT.out
              omega
            clear hF hS hE hu
            go_wp2_with fail
            -- TAILQ begin
            have HRT := Lib.hid (rright_ok true S u HS.out (by omega) (wr.alloc (.cells #[.bool true, .string S] 86)))
            rw [hfl] at HRT
            clear hfl
            refine HRT.out.mono ?_
            rintro e w2 ⟨rfl, b2⟩
            clear HRT
            have HX2 : Hid (FB w2 wr.heap.size true S) := Lib.hid ((b2.block _ (by simp)).trans (heap_alloc_new wr _))
            have HB2 := Lib.hid (below_tr (HB.out.alloc HB.out.size _) b2)
            have HO2 := Lib.hid (own_belowS HO.out ((below_box0 wr (.cells #[.bool true, .string S] 86)).trans (b2.mono (by simp))))
            have x0 : w2.cell? ⟨wr.heap.size, 0, none⟩ = some (.bool true) := by rw [cell_of_block HX2.out]; rfl
            have x1 : w2.cell? ⟨wr.heap.size, 1, none⟩ = some (.string S) := by rw [cell_of_block HX2.out]; rfl
            have hX0 := HB.out.size
            clear b2
            by_cases hzs2 : z < s.size
            · have d3 : decide ((z : Int) < (s.size : Int)) = true := decide_eq_true (by omega)
              have hc := bt_get HL.out hzs2
              have hc2 := (bt L z).toNat_lt
              by_cases h32 : (bt L z).toNat = 32
              · rw [h32] at hc
                have d4 : (((32 : Nat) : Int) != 32) = false := rfl
                by_cases hz1s : z + 1 = s.size
                · have d5 : (((z : Int) + 1) == (s.size : Int)) = true := beq_iff_eq.2 (by omega)
                  obtain ⟨rfl, rfl⟩ := H6.out (by rw [HQ.out, HSb.out _ HF.out (by omega) (.inr (by omega))]; rfl)
                  clear hc2 h32
                  go_wp2
                  go_ret2
                  exact SplPost.none HB2.out
                · have d5 : (((z : Int) + 1) == (s.size : Int)) = false := beq_eq_false_iff_ne.2 (by omega)
                  have HQN : Hid (splT L = (splT (L.drop (z + 1))).map (fls (X ++ [(true, S)]) ++ ·)) := Lib.hid (by
                    rw [HQ.out, HSg.out _ HF.out (by omega) (UInt8.toNat_inj.1 h32), map_snoc]
                    unfold fls
                    rw [List.map_append, List.map_singleton]
                    rw [HS.out])
                  clear hc2 h32
                  go_wp2_with (at_builtin; refine wpList_append_own _ rfl (.tmp 61) (.tmp 63) 82 rfl w.heap.size 86 i0 (.agg #[.bool false, .string ⟨#[]⟩]) 2 24 Tryd.underlying82 hi hz0 hz1 hz2 rfl (by decide) _ _ _ rfl (HO2.out.alloc _) ⟨w2.heap.size, 0, none⟩ 1 1 [.bool true, .string S] rfl rfl ?c1 ?c2 ?c3 ?c4 ?c5 ?_)
                  case c1 => intro j q hq; match j with | 0 => (simp at hq; subst hq; simp [go_sem]) | 1 => (simp at hq; subst hq; simp [go_sem]) | j + 2 => simp at hq
                  case c2 => intro q hq; simp at hq; rcases hq with rfl | rfl <;> rfl
                  case c3 => unfold maxLen; omega
                  case c4 => omega
                  case c5 => have := HB2.out.size; first | omega | (simp; omega)
                  intro v' w3 hown hg _
                  obtain ⟨va', vc', rfl⟩ := own_slice hown
                  have hB3 := Lib.hid ((HB2.out.alloc HB2.out.size (.cells #[.bool true, .string S] 86)).grown hg (by have := HB2.out.size; simp; omega) (by intro r hr; exact (HO2.out.lt r hr).1))
                  have HW : Hid (w3.ownsRow w.heap.size 86 2 (.slice va' (X ++ [(true, S)]).length vc') (X ++ [(true, S)]).length (flc (X ++ [(true, S)]))) := Lib.hid (by rw [flc_snoc, List.length_append, List.length_singleton]; exact hown)
                  clear hown hg
                  go_wp2
                  go_roundw
                  case rel => exact ⟨z + 1, va', vc', X ++ [(true, S)], by go_num, by rw [List.length_append, List.length_singleton], by omega, by rw [List.length_append, List.length_singleton]; omega, HQN, HW, hB3⟩
                  case measure => simp [intOf]; omega
              · obtain ⟨rfl, rfl⟩ := H6.out (by rw [HQ.out, HSb.out _ HF.out (by omega) (.inl (fun e => h32 (by rw [e]; rfl)))]; rfl)
                obtain ⟨cz, hcz⟩ : ∃ c, (bt L z).toNat = c := ⟨_, rfl⟩
                rw [hcz] at hc hc2 h32
                have d4 : ((cz : Int) != 32) = true := bne_iff_ne.2 (by omega)
                clear hcz
                go_wp2
                go_ret2
                exact SplPost.none HB2.out
            · have d3 : decide ((z : Int) < (s.size : Int)) = false := decide_eq_false (by omega)
              have HQN : Hid (splT L = (splT (L.drop (z + 1))).map (fls (X ++ [(true, S)]) ++ ·)) := Lib.hid (by
                rw [HQ.out, HSl.out _ HF.out (by omega), List.drop_eq_nil_of_le (show L.length ≤ z + 1 by omega), splT_nil]
                unfold fls
                rw [List.map_append, List.map_singleton]
                rw [HS.out]
                simp)
              go_wp2_with (at_builtin; refine wpList_append_own _ rfl (.tmp 61) (.tmp 63) 82 rfl w.heap.size 86 i0 (.agg #[.bool false, .string ⟨#[]⟩]) 2 24 Tryd.underlying82 hi hz0 hz1 hz2 rfl (by decide) _ _ _ rfl (HO2.out.alloc _) ⟨w2.heap.size, 0, none⟩ 1 1 [.bool true, .string S] rfl rfl ?c1 ?c2 ?c3 ?c4 ?c5 ?_)
              case c1 => intro j q hq; match j with | 0 => (simp at hq; subst hq; simp [go_sem]) | 1 => (simp at hq; subst hq; simp [go_sem]) | j + 2 => simp at hq
              case c2 => intro q hq; simp at hq; rcases hq with rfl | rfl <;> rfl
              case c3 => unfold maxLen; omega
              case c4 => omega
              case c5 => have := HB2.out.size; first | omega | (simp; omega)
              intro v' w3 hown hg _
              obtain ⟨va', vc', rfl⟩ := own_slice hown
              have hB3 := Lib.hid ((HB2.out.alloc HB2.out.size (.cells #[.bool true, .string S] 86)).grown hg (by have := HB2.out.size; simp; omega) (by intro r hr; exact (HO2.out.lt r hr).1))
              have HW : Hid (w3.ownsRow w.heap.size 86 2 (.slice va' (X ++ [(true, S)]).length vc') (X ++ [(true, S)]).length (flc (X ++ [(true, S)]))) := Lib.hid (by rw [flc_snoc, List.length_append, List.length_singleton]; exact hown)
              clear hown hg
              go_wp2
              go_roundw
              case rel => exact ⟨z + 1, va', vc', X ++ [(true, S)], by go_num, by rw [List.length_append, List.length_singleton], by omega, by rw [List.length_append, List.length_singleton]; omega, HQN, HW, hB3⟩
              case measure => simp [intOf]; omega
            -- TAILQ end
        · have hF := HFu.out h34
          obtain ⟨c, hcd⟩ : ∃ c, (bt L f).toNat = c := ⟨_, rfl⟩
          rw [hcd] at hb hb2 h34
          have d2 : ((c : Int) == 34) = false := by simp; omega
          clear HFq HFu hcd
          go_wp2_with fail
          refine (HEND.out _).mono ?_
          rintro e w1 ⟨rfl, rfl⟩
          clear HEND
          go_wp2_with fail
          -- TAILU begin
          have HRT := Lib.hid (rright_ok false es T HT.out (by omega) (wr.alloc (.cells #[.bool false, .string es] 86)))
          have hft : flB (false, T) = rtB T := rfl
          rw [hft] at HRT
          obtain ⟨r, hr⟩ : ∃ r, rtB T = r := ⟨_, rfl⟩
          rw [hr] at HRT hF
          clear hft hr
          refine HRT.out.mono ?_
          rintro e w2 ⟨rfl, b2⟩
          clear HRT
          cases r
          · obtain ⟨rfl, rfl⟩ := H6.out (by rw [HQ.out, HSn.out hF]; rfl)
            have HB2 := Lib.hid (below_tr (HB.out.alloc HB.out.size _) b2)
            clear b2 hF
            go_wp2
            go_ret2
            exact SplPost.none HB2.out
          · have HF : Hid (fld1 T = some (false, T)) := Lib.hid hF
            have HS := HT
            clear hF
            have HX2 : Hid (FB w2 wr.heap.size false es) := Lib.hid ((b2.block _ (by simp)).trans (heap_alloc_new wr _))
            have HB2 := Lib.hid (below_tr (HB.out.alloc HB.out.size _) b2)
            have HO2 := Lib.hid (own_belowS HO.out ((below_box0 wr (.cells #[.bool false, .string es] 86)).trans (b2.mono (by simp))))
            have x0 : w2.cell? ⟨wr.heap.size, 0, none⟩ = some (.bool false) := by rw [cell_of_block HX2.out]; rfl
            have x1 : w2.cell? ⟨wr.heap.size, 1, none⟩ = some (.string es) := by rw [cell_of_block HX2.out]; rfl
            have hX0 := HB.out.size
            clear b2
            by_cases hzs2 : z < s.size
            · have d3 : decide ((z : Int) < (s.size : Int)) = true := decide_eq_true (by omega)
              have hc := bt_get HL.out hzs2
              have hc2 := (bt L z).toNat_lt
              by_cases h32 : (bt L z).toNat = 32
              · rw [h32] at hc
                have d4 : (((32 : Nat) : Int) != 32) = false := rfl
                by_cases hz1s : z + 1 = s.size
                · have d5 : (((z : Int) + 1) == (s.size : Int)) = true := beq_iff_eq.2 (by omega)
                  obtain ⟨rfl, rfl⟩ := H6.out (by rw [HQ.out, HSb.out _ HF.out (by omega) (.inr (by omega))]; rfl)
                  clear hc2 h32
                  go_wp2
                  go_ret2
                  exact SplPost.none HB2.out
                · have d5 : (((z : Int) + 1) == (s.size : Int)) = false := beq_eq_false_iff_ne.2 (by omega)
                  have HQN : Hid (splT L = (splT (L.drop (z + 1))).map (fls (X ++ [(false, es)]) ++ ·)) := Lib.hid (by
                    rw [HQ.out, HSg.out _ HF.out (by omega) (UInt8.toNat_inj.1 h32), map_snoc]
                    unfold fls
                    rw [List.map_append, List.map_singleton]
                    rw [HS.out])
                  clear hc2 h32
                  go_wp2_with (at_builtin; refine wpList_append_own _ rfl (.tmp 61) (.tmp 63) 82 rfl w.heap.size 86 i0 (.agg #[.bool false, .string ⟨#[]⟩]) 2 24 Tryd.underlying82 hi hz0 hz1 hz2 rfl (by decide) _ _ _ rfl (HO2.out.alloc _) ⟨w2.heap.size, 0, none⟩ 1 1 [.bool false, .string es] rfl rfl ?c1 ?c2 ?c3 ?c4 ?c5 ?_)
                  case c1 => intro j q hq; match j with | 0 => (simp at hq; subst hq; simp [go_sem]) | 1 => (simp at hq; subst hq; simp [go_sem]) | j + 2 => simp at hq
                  case c2 => intro q hq; simp at hq; rcases hq with rfl | rfl <;> rfl
                  case c3 => unfold maxLen; omega
                  case c4 => omega
                  case c5 => have := HB2.out.size; first | omega | (simp; omega)
                  intro v' w3 hown hg _
                  obtain ⟨va', vc', rfl⟩ := own_slice hown
                  have hB3 := Lib.hid ((HB2.out.alloc HB2.out.size (.cells #[.bool false, .string es] 86)).grown hg (by have := HB2.out.size; simp; omega) (by intro r hr; exact (HO2.out.lt r hr).1))
                  have HW : Hid (w3.ownsRow w.heap.size 86 2 (.slice va' (X ++ [(false, es)]).length vc') (X ++ [(false, es)]).length (flc (X ++ [(false, es)]))) := Lib.hid (by rw [flc_snoc, List.length_append, List.length_singleton]; exact hown)
                  clear hown hg
                  go_wp2
                  go_roundw
                  case rel => exact ⟨z + 1, va', vc', X ++ [(false, es)], by go_num, by rw [List.length_append, List.length_singleton], by omega, by rw [List.length_append, List.length_singleton]; omega, HQN, HW, hB3⟩
                  case measure => simp [intOf]; omega
              · obtain ⟨rfl, rfl⟩ := H6.out (by rw [HQ.out, HSb.out _ HF.out (by omega) (.inl (fun e => h32 (by rw [e]; rfl)))]; rfl)
                obtain ⟨cz, hcz⟩ : ∃ c, (bt L z).toNat = c := ⟨_, rfl⟩
                rw [hcz] at hc hc2 h32
                have d4 : ((cz : Int) != 32) = true := bne_iff_ne.2 (by omega)
                clear hcz
                go_wp2
                go_ret2
                exact SplPost.none HB2.out
            · have d3 : decide ((z : Int) < (s.size : Int)) = false := decide_eq_false (by omega)
              have HQN : Hid (splT L = (splT (L.drop (z + 1))).map (fls (X ++ [(false, es)]) ++ ·)) := Lib.hid (by
                rw [HQ.out, HSl.out _ HF.out (by omega), List.drop_eq_nil_of_le (show L.length ≤ z + 1 by omega), splT_nil]
                unfold fls
                rw [List.map_append, List.map_singleton]
                rw [HS.out]
                simp)
              go_wp2_with (at_builtin; refine wpList_append_own _ rfl (.tmp 61) (.tmp 63) 82 rfl w.heap.size 86 i0 (.agg #[.bool false, .string ⟨#[]⟩]) 2 24 Tryd.underlying82 hi hz0 hz1 hz2 rfl (by decide) _ _ _ rfl (HO2.out.alloc _) ⟨w2.heap.size, 0, none⟩ 1 1 [.bool false, .string es] rfl rfl ?c1 ?c2 ?c3 ?c4 ?c5 ?_)
              case c1 => intro j q hq; match j with | 0 => (simp at hq; subst hq; simp [go_sem]) | 1 => (simp at hq; subst hq; simp [go_sem]) | j + 2 => simp at hq
              case c2 => intro q hq; simp at hq; rcases hq with rfl | rfl <;> rfl
              case c3 => unfold maxLen; omega
              case c4 => omega
              case c5 => have := HB2.out.size; first | omega | (simp; omega)
              intro v' w3 hown hg _
              obtain ⟨va', vc', rfl⟩ := own_slice hown
              have hB3 := Lib.hid ((HB2.out.alloc HB2.out.size (.cells #[.bool false, .string es] 86)).grown hg (by have := HB2.out.size; simp; omega) (by intro r hr; exact (HO2.out.lt r hr).1))
              have HW : Hid (w3.ownsRow w.heap.size 86 2 (.slice va' (X ++ [(false, es)]).length vc') (X ++ [(false, es)]).length (flc (X ++ [(false, es)]))) := Lib.hid (by rw [flc_snoc, List.length_append, List.length_singleton]; exact hown)
              clear hown hg
              go_wp2
              go_roundw
              case rel => exact ⟨z + 1, va', vc', X ++ [(false, es)], by go_num, by rw [List.length_append, List.length_singleton], by omega, by rw [List.length_append, List.length_singleton]; omega, HQN, HW, hB3⟩
              case measure => simp [intOf]; omega
          -- TAILU end
      · have hT : splT L = some (fls X) := by
          rw [HQ.out, List.drop_eq_nil_of_le (by omega), splT_nil]
          simp
        by_cases h64 : 64 < X.length
        · have d6 : decide ((64 : Int) < (X.length : Int)) = true := decide_eq_true (by omega)
          obtain ⟨rfl, rfl⟩ := H3.out _ hT (by rw [fls_len]; exact h64)
          clear hT
          go_wp2
          go_ret2
          exact SplPost.none HB.out
        · have d6 : decide ((64 : Int) < (X.length : Int)) = false := decide_eq_false (by omega)
          obtain ⟨rfl, rfl⟩ := H0.out _ hT (by rw [fls_len]; exact h64)
          clear hT
          go_wp2
          go_ret2
          exact ⟨va, vc, by rw [fls_len]; rfl, SlF.of_own HO.out, HB.out⟩
end Go.Proofs.YtgbdhmdaefbglaaDoor

namespace Go.Proofs.YtgbdhmdaefbglaaDoor
open Go.RowKit Go.Sort Go.Joins
attribute [local go_sem] cell_grow frozen_grow size_grow

/-- is that field a number? -/
def vB (b : Bool) (l : List UInt8) : Bool := decide (numE l = 0) && !b
set_option maxRecDepth 100000 in
set_option maxHeartbeats 1600000 in
theorem rvalue_ok (b : Bool) (s : ByteArray) (L : List UInt8) (hL : s.data.toList = L) (hs : s.size ≤ 9223372036854775806) (w : World) :
    Calls Tryd.prog 45 #[.agg #[.bool b, .string s]] w fun e w' => e = .returned (.tuple #[.int .i64 (numV L), .bool (vB b L)]) ∧ Below w.heap.size w w' := by
  have b0 := below_box0 w (.cells #[.bool b, .string s] 86)
  have HI := Lib.hid (show Calls Tryd.prog 63 #[.string s, .int .i64 0, .int .i64 1000000000] _ fun e w' => e = .returned (.tuple #[.int .i64 (numV L), .int .i64 (numE L)]) ∧ Below _ _ w' from rint_ok s L hL hs 0 1000000000 (by decide) (by decide) (w.alloc (.cells #[.bool b, .string s] 86)))
  have HX := Lib.hid (heap_alloc_new w (.cells #[.bool b, .string s] 86))
  have HB := Lib.hid b0
  unfold vB
  obtain ⟨V, hV⟩ : ∃ x, numV L = x := ⟨_, rfl⟩
  obtain ⟨E, hE⟩ : ∃ x, numE L = x := ⟨_, rfl⟩
  rw [hV, hE] at HI ⊢
  clear b0 hL hV hE
  have go : ∀ r, decide (E = 0) = r → (E == 0) = r → Calls Tryd.prog 45 #[.agg #[.bool b, .string s]] w fun e w' => e = .returned (.tuple #[.int .i64 V, .bool (r && !b)]) ∧ Below w.heap.size w w' := by
    intro r _ d0
    cases r <;> cases b
    all_goals
      go_enter Tryd.func45, Tryd.ntmps45
      go_wp2_with fail
      refine HI.out.mono ?_
      rintro e w1 ⟨rfl, b1⟩
      have hx1 := (b1.block _ (blk_lt HX.out)).trans HX.out
      first
        | (have k0 : w1.cell? ⟨w.heap.size, 0, none⟩ = some (.bool true) := (by rw [cell_of_block hx1]; rfl))
        | (have k0 : w1.cell? ⟨w.heap.size, 0, none⟩ = some (.bool false) := (by rw [cell_of_block hx1]; rfl))
      have HB1 := Lib.hid (below_tr HB.out b1)
      clear b1 hx1
      go_wp2_with fail
      go_quiet (fail)
      go_wp2
      all_goals
        go_ret2
        first | exact ⟨rfl, HB1.out⟩ | exact ⟨rfl, HB1.out.trans ((below_draw _ _).mono HB1.out.size)⟩
  exact go _ rfl (by rw [Bool.eq_iff_iff]; simp)
end Go.Proofs.YtgbdhmdaefbglaaDoor

namespace Go.Proofs.YtgbdhmdaefbglaaDoor
open Go.RowKit Go.Sort Go.Joins Go.Shelf
attribute [local go_sem] cell_grow frozen_grow size_grow

/-- the tables that numbers need -/
structure TW (w : World) : Prop where
  pow : Lib.TabIs Tryd.prog w "internal/strconv.uint64pow10" .u64 Lib.pow10Tab
  rng : ∃ tp p, w.var? Tryd.prog "strconv.ErrRange" = some #[.iface tp p]
theorem var_below {P : Program} {w w' : World} {nm : String} {cs : Array Value} (h : w.var? P nm = some cs) (hb : Below w.heap.size w w') : w'.var? P nm = some cs := by
  unfold World.var? at *
  cases hg : P.globalNamed nm with
  | none => rw [hg] at h; cases h
  | some g =>
    rw [hg] at h
    simp only [Option.bind_some] at h ⊢
    cases hh : w.heap[g]? with
    | none => rw [hh] at h; cases h
    | some o =>
      rw [hh] at h
      rw [hb.block g (blk_lt hh), hh]
      exact h
theorem TW.below {w w' : World} (h : TW w) (hb : Below w.heap.size w w') : TW w' := ⟨tabIs_below h.pow hb, h.rng.elim fun tp h => h.elim fun p h => ⟨tp, p, var_below h hb⟩⟩
theorem pref45 (l : List UInt8) : Lib.hasPrefix l [45] = ngB l := by
  cases l with
  | nil => rfl
  | cons c r =>
    rw [ngB_cons]
    unfold Lib.hasPrefix
    rw [Bool.eq_iff_iff]
    simp only [List.isPrefixOf, Bool.and_true, beq_iff_eq, decide_eq_true_eq]
    constructor
    · intro h; rw [← h]; rfl
    · intro h; exact (UInt8.toNat_inj.1 h).symm
theorem trim45 (l : List UInt8) : Lib.trimPrefix l [45] = absL l := by
  unfold Lib.trimPrefix absL
  rw [pref45]
  cases ngB l
  · rfl
  · cases l <;> rfl
theorem whole_bad {A : List UInt8} {g : Bool} (h : A = [] ∨ (bt A 0 = 48 ∧ (1 < A.length ∨ g = true))) : (natB A && !(g && decide (A = [48]))) = false := by
  rcases h with rfl | ⟨h1, h2⟩
  · rfl
  · cases hn : natB A
    · rfl
    · have hne := natB_ne hn
      cases A with
      | nil => exact absurd rfl hne
      | cons c r =>
        have hc : c = 48 := h1
        subst hc
        by_cases hr : r = []
        · subst hr
          have hg : g = true := h2.resolve_left (by simp)
          subst hg; rfl
        · have := natB_head hn (by have := List.length_pos_iff.2 hr; simp only [List.length_cons]; omega)
          exact absurd rfl this
theorem whole_good {A : List UInt8} {g : Bool} (h : A.all dgC = true) (h0 : A ≠ []) (h1 : bt A 0 = 48 → A.length = 1 ∧ g = false) : (natB A && !(g && decide (A = [48]))) = true := by
  cases A with
  | nil => exact absurd rfl h0
  | cons c r =>
    have hb : bt (c :: r) 0 = c := rfl
    rw [hb] at h1
    by_cases hc : c = 48
    · obtain ⟨h2, rfl⟩ := h1 hc
      rw [natB_of h h0 (.inl h2)]; rfl
    · rw [natB_of h h0 (.inr (by rw [List.head?_cons]; intro e; exact hc (Option.some.inj e)))]
      rw [decide_eq_false (fun e => hc (List.cons.inj e).1)]; simp
/-- ParseInt of a whole number -/
theorem parseInt_ok (s : ByteArray) (L : List UInt8) (hL : s.data.toList = L) (hw : wholeB L = true) (hs : s.size ≤ 281474976710656) (w : World) (hT : TW w) :
    Calls Tryd.prog 43 #[.string s, .int .i64 10, .int .i64 64] w fun e w' => Below w.heap.size w w' ∧ ((-9223372036854775808 ≤ valZ L ∧ valZ L ≤ 9223372036854775807 ∧ e = .returned (.tuple #[.int .i64 (valZ L), .nilIface])) ∨ (¬ (-9223372036854775808 ≤ valZ L ∧ valZ L ≤ 9223372036854775807) ∧ ∃ v N, e = .returned (.tuple #[.int .i64 v, .iface 119 (.pointer (some ⟨N, 0, none⟩))]))) := by
  have hp := pi64 hw
  by_cases h : -9223372036854775808 ≤ valZ L ∧ valZ L ≤ 9223372036854775807
  · rw [if_pos h] at hp
    refine (Tryd.strconv_ParseInt_10_at64_ok s (by omega) _ (by rw [hL]; exact hp) w).mono ?_
    rintro e w' ⟨rfl, h1⟩
    refine ⟨?_, .inl ⟨h.1, h.2, rfl⟩⟩
    rcases h1 with rfl | ⟨t, rfl⟩
    · exact Below.refl _ _
    · exact Lib.bytesWorld_below _ _ _
  · rw [if_neg h] at hp
    obtain ⟨tp, p, hv⟩ := hT.rng
    refine (Tryd.strconv_ParseInt_10_at64_range_var s hs (by rw [hL]; exact hp) tp p w hv).mono ?_
    rintro e w' ⟨N, rfl, _, _, h1⟩
    exact ⟨h1, .inr ⟨h, _, N, rfl⟩⟩
set_option maxRecDepth 100000 in
set_option maxHeartbeats 1000000 in
theorem wint_ok (s : ByteArray) (L : List UInt8) (hL : s.data.toList = L) (hs : s.size ≤ 281474976710656) (lo hi : Int) (hlo0 : -9223372036854775808 ≤ lo) (hhi0 : hi ≤ 9223372036854775807) (w : World) (hT : TW w) : Calls Tryd.prog 27 #[.string s, .int .i64 lo, .int .i64 hi] w fun e w' => e = .returned (.tuple #[.int .i64 (intV L lo hi), .int .i64 (intE L lo hi)]) ∧ Below w.heap.size w w' := by
  have hlen := len_of hL
  by_cases hlo : hi < lo
  · have d1 : decide (hi < lo) = true := decide_eq_true hlo
    have HE := Lib.hid (intE_arg (l := L) hlo)
    clear hL hT
    go_enter Tryd.func27, Tryd.ntmps27
    go_wp2
    go_ret2
    exact ⟨ret_two (intV_no (by rw [HE.out]; decide)).symm HE.out.symm, Below.refl _ _⟩
  · have d1 : decide (hi < lo) = false := decide_eq_false hlo
    have hc := Tryd.strings_CutPrefix s ⟨#[45]⟩
    rw [hL, show (⟨#[45]⟩ : ByteArray).data.toList = [45] from rfl, trim45, pref45] at hc
    have HC := Lib.hid hc
    clear hc
    obtain ⟨g, hg⟩ : ∃ g, ngB L = g := ⟨_, rfl⟩
    obtain ⟨A, hA⟩ : ∃ A, absL L = A := ⟨_, rfl⟩
    rw [hg, hA] at HC
    obtain ⟨t, ht⟩ : ∃ t : ByteArray, ⟨A.toArray⟩ = t := ⟨_, rfl⟩
    rw [ht] at HC
    have htl : t.data.toList = A := by rw [← ht]
    have hAl := len_of htl
    have hAd := absL_drop L
    rw [hA] at hAd
    have hAs : A.length ≤ L.length := by rw [hAd, List.length_drop]; omega
    have hts : t.size ≤ 281474976710656 := by omega
    clear ht
    have HF := Lib.hid (intE_form (l := L) (lo := lo) (hi := hi) (by omega))
    have HWH := Lib.hid (intE_whole (l := L) (lo := lo) (hi := hi) (by omega))
    have hwd : wholeB L = (natB A && !(g && decide (A = [48]))) := by unfold wholeB; rw [hA, hg]
    have HWD := Lib.hid hwd
    have HTL := Lib.hid htl
    have HT := Lib.hid hT
    have HL := Lib.hid hL
    clear hwd htl hg hA hAd hT hL
    go_enter Tryd.func27, Tryd.ntmps27
    go_wp2_with fail
    refine (HC.out _).mono ?_
    rintro e w1 ⟨rfl, rfl⟩
    clear HC
    go_wp2_with fail
    go_loop [10, 23] (fun _ i => ∃ k : Nat, i = .int .i64 k ∧ k ≤ t.size ∧ Hid (∀ j, j < k → dgC (bt A j) = true)) (fun _ i => t.size - (intOf i).toNat)
    case atStart => exact ⟨0, rfl, Nat.zero_le _, Lib.hid (fun j hj => by omega)⟩
    case round =>
      obtain ⟨k, rfl, hk, HA⟩ := hrel
      by_cases hlt : k < t.size
      · have hb := bt_get HTL.out hlt
        have hb2 := (bt A k).toNat_lt
        have HD := Lib.hid (wdig_ok (bt A k))
        obtain ⟨c, hc⟩ : ∃ c, bt A k = c := ⟨_, rfl⟩
        rw [hc] at hb hb2 HD
        obtain ⟨r, hr⟩ : ∃ r, dgC c = r := ⟨_, rfl⟩
        rw [hr] at HD
        have HCR := Lib.hid (And.intro hc hr)
        clear hc hr
        cases r
        · go_wp2_with fail
          refine (HD.out _).mono ?_
          rintro e w1 ⟨rfl, rfl⟩
          go_wp2_with fail
          go_ret2
          have h6 := HF.out (by
            rw [HWD.out]
            have : natB A = false := by
              cases h : natB A
              · rfl
              · have := List.all_eq_true.1 (natB_dig h) (bt A k) (by rw [List.mem_iff_getElem?]; exact ⟨k, bt_at (by omega)⟩)
                rw [HCR.out.1, HCR.out.2] at this; cases this
            rw [this]; rfl)
          exact ⟨ret_two (intV_no (by rw [h6]; decide)).symm h6.symm, Below.refl _ _⟩
        · go_wp2_with fail
          refine (HD.out _).mono ?_
          rintro e w1 ⟨rfl, rfl⟩
          go_wp2_with fail
          go_roundw
          case rel => exact ⟨k + 1, by go_num, by omega, Lib.hid (fun j hj => by
            by_cases ej : j = k
            · rw [ej, HCR.out.1, HCR.out.2]
            · exact HA.out j (by omega))⟩
          case measure => simp [intOf]; omega
      · obtain rfl : k = t.size := by omega
        have hall : A.all dgC = true := by
          rw [List.all_eq_true]
          intro x hx
          obtain ⟨i, hi⟩ := List.mem_iff_getElem?.1 hx
          have hlt : i < A.length := by
            rcases Nat.lt_or_ge i A.length with h' | h'
            · exact h'
            · rw [List.getElem?_eq_none h'] at hi; cases hi
          rw [bt_at hlt] at hi
          cases hi
          exact HA.out i (by omega)
        have hem := empty_nil HTL.out
        have HWB := Lib.hid (whole_bad (A := A) (g := g))
        have HWG := Lib.hid (whole_good (A := A) (g := g) hall)
        clear HA hall
        by_cases hz : t.size = 0
        · have hAn : A = [] := List.length_eq_zero_iff.1 (by omega)
          rw [decide_eq_true hAn] at hem
          have h6 := HF.out (by rw [HWD.out]; exact HWB.out (.inl hAn))
          have H6 := Lib.hid h6
          clear h6 HTL HWB HWG hAn
          go_wp2_with fail
          go_ret2
          exact ⟨ret_two (intV_no (by rw [H6.out]; decide)).symm H6.out.symm, Below.refl _ _⟩
        · have hp : 0 < t.size := by omega
          have hAn : A ≠ [] := by intro e; rw [e] at hAl; simp at hAl; omega
          rw [decide_eq_false hAn] at hem
          have hb0 := bt_get HTL.out hp
          have hb02 := (bt A 0).toNat_lt
          have h48 := c48 (c := bt A 0)
          obtain ⟨c, hc⟩ : ∃ c, bt A 0 = c := ⟨_, rfl⟩
          rw [hc] at hb0 hb02 h48
          have HC0 := Lib.hid hc
          clear hc
          by_cases hbad : c = 48 ∧ (1 < A.length ∨ g = true)
          · have h6 := HF.out (by rw [HWD.out]; exact HWB.out (.inr (by rw [HC0.out]; exact hbad)))
            have H6 := Lib.hid h6
            rw [decide_eq_true hbad.1] at h48
            have hor : decide ((1 : Int) < (t.size : Int)) = true ∨ decide ((1 : Int) < (t.size : Int)) = false ∧ g = true := by
              rcases hbad.2 with h | h
              · left; exact decide_eq_true (by omega)
              · by_cases h1 : (1 : Int) < (t.size : Int)
                · left; exact decide_eq_true h1
                · right; exact ⟨decide_eq_false h1, h⟩
            clear h6 HTL HWB HWG hAn hbad
            rcases hor with h1 | ⟨h1, rfl⟩
            all_goals
              go_wp2_with fail
              go_ret2
              exact ⟨ret_two (intV_no (by rw [H6.out]; decide)).symm H6.out.symm, Below.refl _ _⟩
          · have hgood : c = 48 → A.length = 1 ∧ g = false := by
              intro h
              refine ⟨?_, ?_⟩
              · rcases Nat.lt_or_ge 1 A.length with h1 | h1
                · exact absurd ⟨h, .inl h1⟩ hbad
                · omega
              · cases g
                · rfl
                · exact absurd ⟨h, .inr rfl⟩ hbad
            have hwt : wholeB L = true := by rw [HWD.out]; exact HWG.out hAn (by rw [HC0.out]; exact hgood)
            have HE := Lib.hid (HWH.out hwt)
            have hV := intV_ok (l := L) (lo := lo) (hi := hi)
            have HV := Lib.hid hV
            have HP := Lib.hid (parseInt_ok s L HL.out hwt hs _ HT.out)
            have hor : decide (c = 48) = false ∨ (decide (c = 48) = true ∧ decide ((1 : Int) < (t.size : Int)) = false ∧ g = false) := by
              by_cases h : c = 48
              · right
                obtain ⟨h1, h2⟩ := hgood h
                exact ⟨decide_eq_true h, decide_eq_false (by omega), h2⟩
              · left; exact decide_eq_false h
            clear HTL HWB HWG hAn hbad hgood hwt HF HWH HWD HT HL hV
            rcases hor with h1 | ⟨h1, h2, rfl⟩
            all_goals
              rw [h1] at h48
              clear h1
              go_wp2_with fail
              refine HP.out.mono ?_
              rintro e w1 ⟨b1, ⟨v0, v1, rfl⟩ | ⟨v0, v, N, rfl⟩⟩
              · obtain ⟨v, hv⟩ : ∃ v, valZ L = v := ⟨_, rfl⟩
                rw [hv] at HE HV v0 v1 ⊢
                clear HP hv
                go_wp2
                all_goals go_ret2
                all_goals
                  have hE := HE.out
                  first
                    | (rw [if_pos (by omega)] at hE; exact ⟨ret_two (HV.out hE).symm hE.symm, b1⟩)
                    | (rw [if_neg (by omega)] at hE; exact ⟨ret_two (intV_no (by rw [hE]; decide)).symm hE.symm, b1⟩)
              · have h7 : intE L lo hi = 7 := by
                  rw [HE.out, if_neg]
                  intro h
                  exact v0 ⟨by omega, by omega⟩
                have H7 := Lib.hid h7
                clear h7 HE HV HP v0
                go_wp2
                all_goals go_ret2
                all_goals exact ⟨ret_two (intV_no (by rw [H7.out]; decide)).symm H7.out.symm, b1⟩
end Go.Proofs.YtgbdhmdaefbglaaDoor

namespace Go.Proofs.YtgbdhmdaefbglaaDoor
open Go.RowKit Go.Sort Go.Joins Go.Shelf
attribute [local go_sem] cell_grow frozen_grow size_grow

abbrev namesV : Value := .agg #[.string ⟨#[114, 101, 115, 101, 114, 118, 101]⟩, .string ⟨#[114, 101, 108, 101, 97, 115, 101]⟩, .string ⟨#[99, 111, 109, 109, 105, 116]⟩, .string ⟨#[100, 101, 99, 111, 109, 109, 105, 116]⟩, .string ⟨#[112, 114, 111, 116, 101, 99, 116]⟩, .string ⟨#[106, 111, 105, 110]⟩, .string ⟨#[115, 112, 108, 105, 116]⟩]
theorem name_0 (W : World) : (Instr.index 50 namesV (.int .i64 0)).run Tryd.prog W = .ok (.string ⟨#[114, 101, 115, 101, 114, 118, 101]⟩) W := by kernel_rfl
theorem name_1 (W : World) : (Instr.index 50 namesV (.int .i64 1)).run Tryd.prog W = .ok (.string ⟨#[114, 101, 108, 101, 97, 115, 101]⟩) W := by kernel_rfl
theorem name_2 (W : World) : (Instr.index 50 namesV (.int .i64 2)).run Tryd.prog W = .ok (.string ⟨#[99, 111, 109, 109, 105, 116]⟩) W := by kernel_rfl
theorem name_3 (W : World) : (Instr.index 50 namesV (.int .i64 3)).run Tryd.prog W = .ok (.string ⟨#[100, 101, 99, 111, 109, 109, 105, 116]⟩) W := by kernel_rfl
theorem name_4 (W : World) : (Instr.index 50 namesV (.int .i64 4)).run Tryd.prog W = .ok (.string ⟨#[112, 114, 111, 116, 101, 99, 116]⟩) W := by kernel_rfl
theorem name_5 (W : World) : (Instr.index 50 namesV (.int .i64 5)).run Tryd.prog W = .ok (.string ⟨#[106, 111, 105, 110]⟩) W := by kernel_rfl
theorem name_6 (W : World) : (Instr.index 50 namesV (.int .i64 6)).run Tryd.prog W = .ok (.string ⟨#[115, 112, 108, 105, 116]⟩) W := by kernel_rfl
theorem name_at (W : World) (k : Nat) (h : k < 7) : (Instr.index 50 namesV (.int .i64 (k : Int))).run Tryd.prog W = .ok (.string ⟨(kname k).toArray⟩) W := by
  match k, h with
  | 0, _ => exact name_0 W
  | 1, _ => exact name_1 W
  | 2, _ => exact name_2 W
  | 3, _ => exact name_3 W
  | 4, _ => exact name_4 W
  | 5, _ => exact name_5 W
  | 6, _ => exact name_6 W
set_option maxRecDepth 100000 in
set_option maxHeartbeats 1600000 in
theorem kind_ok (s : ByteArray) (L : List UInt8) (hL : s.data.toList = L) (w : World) (hT : T5 w) : Calls Tryd.prog 26 #[.string s] w fun e w' => e = .returned (.int .i64 (knI L)) ∧ w = w' := by
  have c0 : w.cell? ⟨0, 0, none⟩ = some (.string ⟨#[114, 101, 115, 101, 114, 118, 101]⟩) := hT.nm 0 (by decide)
  have c1 : w.cell? ⟨0, 1, none⟩ = some (.string ⟨#[114, 101, 108, 101, 97, 115, 101]⟩) := hT.nm 1 (by decide)
  have c2 : w.cell? ⟨0, 2, none⟩ = some (.string ⟨#[99, 111, 109, 109, 105, 116]⟩) := hT.nm 2 (by decide)
  have c3 : w.cell? ⟨0, 3, none⟩ = some (.string ⟨#[100, 101, 99, 111, 109, 109, 105, 116]⟩) := hT.nm 3 (by decide)
  have c4 : w.cell? ⟨0, 4, none⟩ = some (.string ⟨#[112, 114, 111, 116, 101, 99, 116]⟩) := hT.nm 4 (by decide)
  have c5 : w.cell? ⟨0, 5, none⟩ = some (.string ⟨#[106, 111, 105, 110]⟩) := hT.nm 5 (by decide)
  have c6 : w.cell? ⟨0, 6, none⟩ = some (.string ⟨#[115, 112, 108, 105, 116]⟩) := hT.nm 6 (by decide)
  have hl := hT.lt
  have HL := Lib.hid hL
  clear hT hL
  go_enter Tryd.func26, Tryd.ntmps26
  go_wp2_with fail
  clear c0 c1 c2 c3 c4 c5 c6 hl
  go_loop [3, 4, 6] (fun _ _ i => ∃ k : Nat, i = .int .i64 (k : Int) ∧ k ≤ 7 ∧ Hid (∀ j, j < k → kname j ≠ L)) (fun _ _ i => 7 - (intOf i).toNat)
  case atStart => exact ⟨0, rfl, Nat.zero_le _, Lib.hid (fun j hj => by omega)⟩
  case round =>
    obtain ⟨k, rfl, hk, HA⟩ := hrel
    by_cases hlt : k < 7
    · have hix : ∀ W : World, (Instr.index 50 namesV (.int .i64 (k : Int))).run Tryd.prog W = .ok (.string ⟨(kname k).toArray⟩) W := fun W => name_at W k hlt
      have hh := knI_hit hlt
      obtain ⟨nm, hnm⟩ : ∃ x, kname k = x := ⟨_, rfl⟩
      rw [hnm] at hix hh
      have hcmp : (nm == s.toList) = decide (nm = L) := by rw [Lib.toList_data, HL.out, Bool.eq_iff_iff]; simp
      have hcmp2 : nm = s.toList ↔ nm = L := by rw [Lib.toList_data, HL.out]
      by_cases he : nm = L
      · rw [decide_eq_true he] at hcmp
        have hc2 := hcmp2.2 he
        have HH := Lib.hid (by rw [he] at hh; exact hh : knI L = k)
        clear hcmp2 hh he hnm
        go_wp2_with fail
        go_ret
        exact ⟨ret_i64 HH.out.symm, rfl⟩
      · rw [decide_eq_false he] at hcmp
        have hc2 : ¬ nm = s.toList := fun e => he (hcmp2.1 e)
        have HN := Lib.hid (And.intro hnm he)
        clear hcmp2 hh he hnm
        go_wp2_with fail
        go_round
        case rel => exact ⟨k + 1, by go_num, by omega, Lib.hid (fun j hj => by
          by_cases ej : j = k
          · rw [ej, HN.out.1]; exact HN.out.2
          · exact HA.out j (by omega))⟩
        case measure => simp [intOf]; omega
    · obtain rfl : k = 7 := by omega
      have HK := Lib.hid (knI_none HA.out)
      go_wp2_with fail
      go_ret
      exact ⟨ret_i64 HK.out.symm, rfl⟩
end Go.Proofs.YtgbdhmdaefbglaaDoor

namespace Go.Proofs.YtgbdhmdaefbglaaDoor
open Go.RowKit Go.Sort Go.Joins Go.Shelf
attribute [local go_sem] cell_grow frozen_grow size_grow Oper.semAt_some

abbrev nmRow : Array Value := #[.string ⟨#[114, 101, 115, 101, 114, 118, 101]⟩, .string ⟨#[114, 101, 108, 101, 97, 115, 101]⟩, .string ⟨#[99, 111, 109, 109, 105, 116]⟩, .string ⟨#[100, 101, 99, 111, 109, 109, 105, 116]⟩, .string ⟨#[112, 114, 111, 116, 101, 99, 116]⟩, .string ⟨#[106, 111, 105, 110]⟩, .string ⟨#[115, 112, 108, 105, 116]⟩]
theorem rnames_ok (w : World) : Calls Tryd.prog 22 #[] w fun e w' => ∃ b, e = .returned (.slice (some ⟨b, 0, none⟩) 7 7) ∧ w'.heap[b]? = some (.cells nmRow 9 (0, 0)) ∧ Below w.heap.size w w' := by
  go_enter Tryd.func22, Tryd.ntmps22
  go_wp2_with fail
  go_ret
  exact ⟨_, rfl, heap_alloc_new w _, below_box0 w _⟩
theorem nm_cell {W : World} {b : Nat} (h : W.heap[b]? = some (.cells nmRow 9 (0, 0))) {k : Nat} (hk : k < 7) : W.cell? ⟨b, k, none⟩ = some (.string ⟨(kname k).toArray⟩) := by
  rw [cell_of_block h]
  match k, hk with
  | 0, _ => rfl
  | 1, _ => rfl
  | 2, _ => rfl
  | 3, _ => rfl
  | 4, _ => rfl
  | 5, _ => rfl
  | 6, _ => rfl
end Go.Proofs.YtgbdhmdaefbglaaDoor
