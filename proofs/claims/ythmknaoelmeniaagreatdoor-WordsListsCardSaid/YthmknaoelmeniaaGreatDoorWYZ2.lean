/- Words: list expressions, read. No program. | Words: the least text of a list, item by item; what the program keeps while it picks. No program. | Words: the reference's way to the least text of a list: by the lengths of the first item. No program. | Words: texts, quotations and what they hold. No program. | Words: a line's fields. No program. -/
import Derived.Test.YthmknaoelmeniaaGreatDoorWYZ1
import Derived.Lib.ReplaceLaws
namespace Go.Proofs.YthmknaoelmeniaaGreatDoor

/-- where an item is parted -/
def pcut (s : List UInt8) : Nat := s.findIdx (fun c => decide (c = 45) || decide (c = 120))
/-- an item that is read: the first number, the last one, how many times -/
abbrev Prt := Nat × Nat × Nat
def itmP (s : List UInt8) : Option Prt :=
  if pcut s < s.length then
    if natB (s.take (pcut s)) = true ∧ natB (s.drop (pcut s + 1)) = true then
      if s.getD (pcut s) 0 = 45 then
        if valN 0 (s.take (pcut s)) < valN 0 (s.drop (pcut s + 1)) then some (valN 0 (s.take (pcut s)), valN 0 (s.drop (pcut s + 1)), 1) else none
      else if 2 ≤ valN 0 (s.take (pcut s)) then some (valN 0 (s.drop (pcut s + 1)), valN 0 (s.drop (pcut s + 1)), valN 0 (s.take (pcut s))) else none
    else none
  else if natB s = true then some (valN 0 s, valN 0 s, 1) else none
theorem pcut_le (s : List UInt8) : pcut s ≤ s.length := List.findIdx_le_length
theorem pcut_all {s : List UInt8} (h : ∀ c, c ∈ s → c ≠ 45 ∧ c ≠ 120) : pcut s = s.length := by
  unfold pcut
  rw [List.findIdx_eq_length]
  intro c hc
  simp [(h c hc).1, (h c hc).2]
theorem pcut_app {a r : List UInt8} {c : UInt8} (h : ∀ c, c ∈ a → c ≠ 45 ∧ c ≠ 120) (hc : c = 45 ∨ c = 120) : pcut (a ++ c :: r) = a.length := by
  unfold pcut
  rw [List.findIdx_append]
  have := pcut_all h
  unfold pcut at this
  rw [this, if_neg (Nat.lt_irrefl _), List.findIdx_cons]
  have : (decide (c = 45) || decide (c = 120)) = true := by simpa using hc
  rw [this]; simp
theorem itm_one {s : List UInt8} (h : pcut s = s.length) : itmP s = if natB s = true then some (valN 0 s, valN 0 s, 1) else none := by
  unfold itmP; rw [if_neg (by omega)]
theorem itm_cut {a b : List UInt8} {c : UInt8} (h : pcut (a ++ c :: b) = a.length) : itmP (a ++ c :: b) = if natB a = true ∧ natB b = true then (if c = 45 then (if valN 0 a < valN 0 b then some (valN 0 a, valN 0 b, 1) else none) else if 2 ≤ valN 0 a then some (valN 0 b, valN 0 b, valN 0 a) else none) else none := by
  have h1 : (a ++ c :: b).take a.length = a := List.take_left' rfl
  have h2 : (a ++ c :: b).drop (a.length + 1) = b := by rw [List.drop_append]; simp
  have h3 : (a ++ c :: b).getD a.length 0 = c := by simp
  unfold itmP
  rw [h, h1, h2, h3, if_pos (by rw [List.length_append, List.length_cons]; omega)]
/-- a string is parted there -/
theorem pcut_ways (s : List UInt8) : (pcut s = s.length) ∨ ∃ a c b, s = a ++ c :: b ∧ pcut s = a.length ∧ (c = 45 ∨ c = 120) := by
  rcases Nat.lt_or_ge (pcut s) s.length with h | h
  · right
    refine ⟨s.take (pcut s), s[pcut s], s.drop (pcut s + 1), ?_, ?_, ?_⟩
    · rw [List.getElem_cons_drop h, List.take_append_drop]
    · rw [List.length_take]; omega
    · have := List.findIdx_getElem (p := fun c => decide (c = 45) || decide (c = 120)) (xs := s) (w := h)
      simp only [Bool.or_eq_true, decide_eq_true_eq] at this
      exact this
  · left
    have := pcut_le s
    omega
/-- the numbers that it stands for -/
def prtL (x : Prt) : List Nat := (List.replicate x.2.2 (List.range' x.1 (x.2.1 + 1 - x.1))).flatten
def prtN (x : Prt) : Nat := x.2.2 * (x.2.1 + 1 - x.1)
theorem prt_len (x : Prt) : (prtL x).length = prtN x := by unfold prtL prtN; simp
theorem prtL_one (a b : Nat) : prtL (a, b, 1) = List.range' a (b + 1 - a) := by unfold prtL; simp
theorem rep_flat (k b : Nat) : (List.replicate k [b]).flatten = List.replicate k b := by
  induction k with
  | zero => rfl
  | succ k ih => rw [List.replicate_succ, List.flatten_cons, ih, List.replicate_succ]; rfl
theorem prtL_times (b k : Nat) : prtL (b, b, k) = List.replicate k b := by
  unfold prtL
  rw [show b + 1 - b = 1 by omega, show List.range' b 1 = [b] from rfl]
  exact rep_flat k b
/-- what an item is like -/
structure PrtOk (x : Prt) : Prop where
  le : x.1 ≤ x.2.1
  one : 1 ≤ x.2.2
  eq : x.2.2 = 1 ∨ x.1 = x.2.1
theorem itm_ok {s : List UInt8} {x : Prt} (h : itmP s = some x) : PrtOk x := by
  rcases pcut_ways s with hc | ⟨a, c, b, rfl, hc, hcc⟩
  · rw [itm_one hc] at h
    split at h
    · cases h; exact ⟨Nat.le_refl _, Nat.le_refl _, .inl rfl⟩
    · cases h
  · rw [itm_cut hc] at h
    split at h
    · split at h
      · split at h
        · rename_i hlt
          cases h
          exact ⟨Nat.le_of_lt hlt, Nat.le_refl _, .inl rfl⟩
        · cases h
      · split at h
        · rename_i hlt
          cases h
          exact ⟨Nat.le_refl _, by show 1 ≤ valN 0 a; omega, .inr rfl⟩
        · cases h
    · cases h
theorem rg_get {a n j : Nat} (h : j < n) (R : List Nat) : (List.range' a n ++ R)[j]? = some (a + j) := by
  rw [List.getElem?_append_left (by simpa using h), List.getElem?_range' h]; simp
/-- what is read is an item that may begin there -/
theorem itm_item {s : List UInt8} {x : Prt} (h : itmP s = some x) (R : List Nat) : (s, prtN x) ∈ itemsL (prtL x ++ R) := by
  rcases pcut_ways s with hc | ⟨a, c, b, rfl, hc, hcc⟩
  · rw [itm_one hc] at h
    split at h
    · rename_i hn
      cases h
      rw [prtL_one, show valN 0 s + 1 - valN 0 s = 1 by omega]
      refine mem_items.2 (.inl ?_)
      rw [dec_of _ s rfl hn]
      unfold prtN
      dsimp only
      rw [show valN 0 s + 1 - valN 0 s = 1 by omega]
    · cases h
  · rw [itm_cut hc] at h
    split at h
    · rename_i hn
      split at h
      · rename_i he
        subst he
        split at h
        · rename_i hlt
          cases h
          rw [prtL_one]
          obtain ⟨v, hv⟩ : ∃ v, valN 0 a = v := ⟨_, rfl⟩
          obtain ⟨u, hu⟩ : ∃ u, valN 0 b = u := ⟨_, rfl⟩
          have ha := dec_of _ a rfl hn.1
          have hb := dec_of _ b rfl hn.2
          rw [hv] at ha hlt ⊢
          rw [hu] at hb hlt ⊢
          obtain ⟨n, hn'⟩ : ∃ n, u + 1 - v = n + 2 := ⟨u - v - 1, by omega⟩
          unfold prtN
          rw [hn']
          have hr : List.range' v (n + 2) ++ R = v :: (List.range' (v + 1) (n + 1) ++ R) := by rw [List.range'_succ]; rfl
          have hru : n + 2 ≤ runU v (List.range' v (n + 2) ++ R) := (runU_iff _ _ _).2 (fun j hj => rg_get hj R)
          rw [hr] at hru ⊢
          refine mem_items.2 (.inr (.inl ⟨n, hru, ?_⟩))
          unfold upI
          rw [ha, show v + n + 1 = u by omega, hb, Nat.one_mul]
        · cases h
      · rename_i he
        have hx : c = 120 := hcc.resolve_left he
        subst hx
        split at h
        · rename_i hlt
          cases h
          rw [prtL_times]
          obtain ⟨v, hv⟩ : ∃ v, valN 0 a = v := ⟨_, rfl⟩
          obtain ⟨u, hu⟩ : ∃ u, valN 0 b = u := ⟨_, rfl⟩
          have ha := dec_of _ a rfl hn.1
          have hb := dec_of _ b rfl hn.2
          rw [hv] at ha hlt ⊢
          rw [hu] at hb ⊢
          obtain ⟨n, rfl⟩ : ∃ n, v = n + 2 := ⟨v - 2, by omega⟩
          unfold prtN
          have hr : List.replicate (n + 2) u ++ R = u :: (List.replicate (n + 1) u ++ R) := by rw [List.replicate_succ]; rfl
          have hru : n + 2 ≤ runA u (List.replicate (n + 2) u ++ R) := (runA_iff _ _ _).2 (fun j hj => by
            rw [List.getElem?_append_left (by simpa using hj)]; simp [hj])
          rw [hr] at hru ⊢
          refine mem_items.2 (.inr (.inr ⟨n, hru, ?_⟩))
          unfold alI
          rw [ha, hb, show u + 1 - u = 1 by omega, Nat.mul_one]
        · cases h
    · cases h
theorem dg_cut {l : List UInt8} (h : l.all dgC = true) : ∀ c, c ∈ l → c ≠ 45 ∧ c ≠ 120 := fun c hc => by
  have := List.all_eq_true.1 h c hc
  refine ⟨?_, ?_⟩
  · rintro rfl; cases this
  · rintro rfl; cases this
/-- an item is read as its numbers -/
theorem item_itm {N : List Nat} {x : Itm} (h : x ∈ itemsL N) : ∃ p, itmP x.1 = some p ∧ prtL p = N.take x.2 := by
  cases N with
  | nil => cases h
  | cons a r =>
    have hd : ∀ n, ∀ c, c ∈ Lib.decDigits n → c ≠ 45 ∧ c ≠ 120 := fun n => dg_cut (dec_dig n)
    rcases mem_items.1 h with rfl | ⟨j, hj, rfl⟩ | ⟨j, hj, rfl⟩
    · refine ⟨(a, a, 1), ?_, ?_⟩
      · show itmP (Lib.decDigits a) = _
        rw [itm_one (pcut_all (hd a)), if_pos (dec_natB a), dec_val]
      · rw [prtL_one, show a + 1 - a = 1 by omega]; rfl
    · refine ⟨(a, a + j + 1, 1), ?_, ?_⟩
      · show itmP (Lib.decDigits a ++ 45 :: Lib.decDigits (a + j + 1)) = _
        rw [itm_cut (pcut_app (hd a) (.inl rfl)), if_pos ⟨dec_natB _, dec_natB _⟩, if_pos rfl, dec_val, dec_val, if_pos (by omega)]
      · rw [prtL_one, show a + j + 1 + 1 - a = j + 2 by omega]
        show _ = List.take (j + 2) (a :: r)
        have hru := (runU_iff _ _ _).1 hj
        apply List.ext_getElem?
        intro i
        rcases Nat.lt_or_ge i (j + 2) with hi | hi
        · rw [List.getElem?_range' hi, List.getElem?_take_of_lt hi, hru i hi]; simp
        · rw [List.getElem?_eq_none (by simpa using hi), List.getElem?_eq_none (by rw [List.length_take]; omega)]
    · refine ⟨(a, a, j + 2), ?_, ?_⟩
      · show itmP (Lib.decDigits (j + 2) ++ 120 :: Lib.decDigits a) = _
        rw [itm_cut (pcut_app (hd _) (.inr rfl)), if_pos ⟨dec_natB _, dec_natB _⟩, if_neg (by decide), dec_val, dec_val, if_pos (by omega)]
      · rw [prtL_times]
        show _ = List.take (j + 2) (a :: r)
        have hru := (runA_iff _ _ _).1 hj
        apply List.ext_getElem?
        intro i
        rcases Nat.lt_or_ge i (j + 2) with hi | hi
        · rw [List.getElem?_take_of_lt hi, hru i hi]; simp [hi]
        · rw [List.getElem?_eq_none (by simpa using hi), List.getElem?_eq_none (by rw [List.length_take]; omega)]
/-- texts, with a comma behind each -/
def cmm (P : List (List UInt8)) : List UInt8 := (P.map (· ++ [44])).flatten
theorem cmm_cons (p : List UInt8) (P : List (List UInt8)) : cmm (p :: P) = p ++ 44 :: cmm P := by unfold cmm; simp
theorem cmm_jn {P : List (List UInt8)} (h : P ≠ []) : cmm P = jn 44 P ++ [44] := by
  induction P with
  | nil => exact absurd rfl h
  | cons p q ih =>
    cases q with
    | nil => simp [jn, cmm]
    | cons a b =>
      have := ih (by simp)
      rw [jn_cons (by simp), cmm_cons, this]
      simp
/-- items that are read, one behind the other -/
theorem read_tc : ∀ {P : List (List UInt8)}, (∀ p, p ∈ P → itmP p ≠ none) → Tc ((P.filterMap itmP).flatMap prtL) (cmm P)
  | [], _ => .nil
  | p :: P, h => by
    have ih := read_tc (P := P) (fun q hq => h q (List.mem_cons_of_mem _ hq))
    cases hp : itmP p with
    | none => exact absurd hp (h p (List.mem_cons_self ..))
    | some x =>
      rw [List.filterMap_cons, hp, cmm_cons]
      dsimp only
      rw [List.flatMap_cons]
      have hi := itm_item hp ((P.filterMap itmP).flatMap prtL)
      refine .cons hi ?_
      show Tc ((prtL x ++ _).drop (prtN x)) _
      rw [← prt_len, List.drop_left' rfl]
      exact ih
theorem tc_read : ∀ {N : List Nat} {t : List UInt8}, Tc N t → ∃ P, t = cmm P ∧ (∀ p, p ∈ P → (44 : UInt8) ∉ p ∧ itmP p ≠ none) ∧ (P.filterMap itmP).flatMap prtL = N ∧ (N ≠ [] → P ≠ [])
  | _, _, .nil => ⟨[], rfl, by simp, rfl, fun h => absurd rfl h⟩
  | N, _, .cons (x := x) (u := u) hx hu => by
    obtain ⟨P, rfl, h1, h2, _⟩ := tc_read hu
    obtain ⟨p, hp, hl⟩ := item_itm hx
    refine ⟨x.1 :: P, (cmm_cons _ _).symm, ?_, ?_, fun _ => by simp⟩
    · intro q hq
      rcases List.mem_cons.1 hq with rfl | hq
      · exact ⟨items_comma hx, by rw [hp]; simp⟩
      · exact h1 q hq
    · rw [List.filterMap_cons, hp]
      dsimp only
      rw [List.flatMap_cons, hl, h2, List.take_append_drop]
/-- what ParseList answers -/
def plP (s : List UInt8) : List Prt := (spl 44 s).filterMap itmP
def sumP (X : List Prt) : Nat := (X.map prtN).sum
def plE (s : List UInt8) : Int := if 2500 < s.length then 3 else if s = [] then 0 else if (spl 44 s).any (fun p => (itmP p).isNone) = true then 6 else if (plP s).any (fun x => decide (9999 < x.2.1)) = true then 7 else if 500 < sumP (plP s) then 3 else 0
def plL (s : List UInt8) : List Nat := if plE s = 0 ∧ s ≠ [] then (plP s).flatMap prtL else []
theorem sumP_len (X : List Prt) : (X.flatMap prtL).length = sumP X := by
  induction X with
  | nil => rfl
  | cons x X ih => rw [List.flatMap_cons, List.length_append, ih, prt_len]; rfl
section
variable {s : List UInt8}
theorem plE_long (h : 2500 < s.length) : plE s = 3 := by unfold plE; rw [if_pos h]
theorem plE_nil : plE [] = 0 := rfl
theorem plE_form (h : ¬ 2500 < s.length) (h0 : s ≠ []) {p : List UInt8} (hp : p ∈ spl 44 s) (hn : itmP p = none) : plE s = 6 := by
  unfold plE; rw [if_neg h, if_neg h0, if_pos]
  rw [List.any_eq_true]; exact ⟨p, hp, by rw [hn]; rfl⟩
theorem pl_all (h : ∀ p, p ∈ spl 44 s → itmP p ≠ none) : (spl 44 s).any (fun p => (itmP p).isNone) = false := by
  rw [List.any_eq_false]
  intro p hp
  have := h p hp
  cases hi : itmP p with
  | none => exact absurd hi this
  | some x => simp
theorem plE_range (h : ¬ 2500 < s.length) (h0 : s ≠ []) (ha : ∀ p, p ∈ spl 44 s → itmP p ≠ none) {x : Prt} (hx : x ∈ plP s) (hn : 9999 < x.2.1) : plE s = 7 := by
  unfold plE; rw [if_neg h, if_neg h0, if_neg (by rw [pl_all ha]; simp), if_pos]
  rw [List.any_eq_true]; exact ⟨x, hx, decide_eq_true hn⟩
theorem plE_rest (h : ¬ 2500 < s.length) (h0 : s ≠ []) (ha : ∀ p, p ∈ spl 44 s → itmP p ≠ none) (hr : ∀ x, x ∈ plP s → ¬ 9999 < x.2.1) : plE s = if 500 < sumP (plP s) then 3 else 0 := by
  unfold plE; rw [if_neg h, if_neg h0, if_neg (by rw [pl_all ha]; simp), if_neg]
  rw [Bool.not_eq_true, List.any_eq_false]
  intro x hx
  have := hr x hx
  simpa using this
theorem plL_bad (h : plE s ≠ 0) : plL s = [] := by unfold plL; rw [if_neg (fun k => h k.1)]
theorem plL_ok (h : plE s = 0) (h0 : s ≠ []) : plL s = (plP s).flatMap prtL := by unfold plL; rw [if_pos ⟨h, h0⟩]
theorem pl_good (h : plE s = 0) (h0 : s ≠ []) : ¬ 2500 < s.length ∧ (∀ p, p ∈ spl 44 s → itmP p ≠ none) ∧ (∀ x, x ∈ plP s → ¬ 9999 < x.2.1) ∧ ¬ 500 < sumP (plP s) := by
  have h1 : ¬ 2500 < s.length := fun k => by rw [plE_long k] at h; cases h
  have h2 : ∀ p, p ∈ spl 44 s → itmP p ≠ none := fun p hp hn => by rw [plE_form h1 h0 hp hn] at h; cases h
  have h3 : ∀ x, x ∈ plP s → ¬ 9999 < x.2.1 := fun x hx hn => by rw [plE_range h1 h0 h2 hx hn] at h; cases h
  refine ⟨h1, h2, h3, fun k => ?_⟩
  rw [plE_rest h1 h0 h2 h3, if_pos k] at h; cases h
/-- a text that is read is a text of its list -/
theorem pl_tc (h : plE s = 0) (h0 : s ≠ []) : Tc (plL s) (s ++ [44]) := by
  obtain ⟨_, h2, _⟩ := pl_good h h0
  have := read_tc h2
  rw [cmm_jn (spl_ne 44 s), jn_spl] at this
  rw [plL_ok h h0]
  exact this
end
/-- the text of a list is read as the list -/
theorem best_len (N : List Nat) (h : ∀ x, x ∈ N → x ≤ 9999) : (bestC N).length ≤ 5 * N.length := by
  have key : ∀ N : List Nat, (∀ x, x ∈ N → x ≤ 9999) → ∃ t, Tc N t ∧ t.length ≤ 5 * N.length := by
    intro N
    induction N with
    | nil => intro _; exact ⟨[], .nil, by simp⟩
    | cons a r ih =>
      intro h
      obtain ⟨t, ht, hl⟩ := ih (fun x hx => h x (List.mem_cons_of_mem _ hx))
      refine ⟨Lib.decDigits a ++ 44 :: t, .cons (x := (Lib.decDigits a, 1)) (mem_items.2 (.inl rfl)) ht, ?_⟩
      have ha := h a (List.mem_cons_self ..)
      have : (Lib.decDigits a).length ≤ 4 := by
        rcases Nat.lt_or_ge (Lib.decDigits a).length 5 with k | k
        · omega
        · have hb := val_big (dec_dig a) (dec_ne a)
          by_cases ha0 : 1 ≤ a
          · have hb := hb (dec_head a ha0)
            rw [dec_val] at hb
            have : 10 ^ 4 ≤ 10 ^ ((Lib.decDigits a).length - 1) := Nat.pow_le_pow_right (by decide) (by omega)
            omega
          · have : a = 0 := by omega
            subst this
            rw [Lib.decDigits_one (by decide)] at k; simp at k
      rw [List.length_append, List.length_cons, List.length_cons]
      omega
  obtain ⟨t, ht, hl⟩ := key N h
  have := best_least ht
  rcases Nat.lt_or_ge t.length (bestC N).length with k | k
  · rw [ltS_yes.2 (.inl k)] at this; cases this
  · omega
theorem prtL_last {x : Prt} (h : PrtOk x) : x.2.1 ∈ prtL x := by
  unfold prtL
  rw [List.mem_flatten]
  have := h.one
  have := h.le
  refine ⟨_, List.mem_replicate.2 ⟨by omega, rfl⟩, ?_⟩
  rw [List.mem_range'_1]
  omega
theorem spl_cmm {P : List (List UInt8)} (h : P ≠ []) (hp : ∀ p, p ∈ P → (44 : UInt8) ∉ p) : spl 44 ((cmm P).dropLast) = P := by
  rw [cmm_jn h, List.dropLast_concat, spl_jn h hp]
theorem pl_best {N : List Nat} (h : ∀ x, x ∈ N → x ≤ 9999) (hn : N.length ≤ 500) : plE (bestS N) = 0 ∧ plL (bestS N) = N := by
  by_cases h0 : N = []
  · subst h0; exact ⟨rfl, rfl⟩
  · obtain ⟨P, hP, h1, h2, h3⟩ := tc_read (best_text N)
    have hPn := h3 h0
    have hsp : spl 44 (bestS N) = P := by unfold bestS; rw [hP]; exact spl_cmm hPn (fun p hp => (h1 p hp).1)
    have hpl : plP (bestS N) = P.filterMap itmP := by unfold plP; rw [hsp]
    have hlen : (bestS N).length ≤ 2500 := by
      have := best_len N h
      unfold bestS
      rw [List.length_dropLast]; omega
    have hne : bestS N ≠ [] := by
      intro e
      have := bestC_S h0
      rw [e, hP] at this
      cases P with
      | nil => exact hPn rfl
      | cons p P =>
        rw [cmm_cons] at this
        have hl := congrArg List.length this
        simp only [List.length_append, List.length_cons, List.length_nil] at hl
        have : p = [] := List.length_eq_zero_iff.1 (by omega)
        have hp := (h1 p (List.mem_cons_self ..)).2
        rw [this] at hp
        exact hp rfl
    have hr : ∀ x, x ∈ plP (bestS N) → ¬ 9999 < x.2.1 := by
      intro x hx
      rw [hpl] at hx
      obtain ⟨p, hp, hx2⟩ := List.mem_filterMap.1 hx
      have hm : x.2.1 ∈ N := by rw [← h2]; exact List.mem_flatMap.2 ⟨x, hx, prtL_last (itm_ok hx2)⟩
      have := h _ hm
      omega
    have hE : plE (bestS N) = 0 := by
      rw [plE_rest (by omega) hne (by rw [hsp]; exact fun p hp => (h1 p hp).2) hr, if_neg]
      rw [← sumP_len, hpl, h2]; omega
    refine ⟨hE, ?_⟩
    rw [plL_ok hE hne, hpl, h2]
/-- two expressions with a comma between them -/
theorem spl_two {c : UInt8} : ∀ (s t : List UInt8), spl c (s ++ c :: t) = spl c s ++ spl c t
  | [], t => by rw [List.nil_append, spl_hit]; rfl
  | x :: s, t => by
    have ih := spl_two (c := c) s t
    by_cases e : x = c
    · subst e; rw [List.cons_append, spl_hit, spl_hit, ih]; rfl
    · rw [List.cons_append, spl_miss e, spl_miss e, ih]
      cases hs : spl c s with
      | nil => exact absurd hs (spl_ne c s)
      | cons p P => rfl
theorem plP_two (s t : List UInt8) : plP (s ++ 44 :: t) = plP s ++ plP t := by unfold plP; rw [spl_two, List.filterMap_append]
theorem sumP_two (X Y : List Prt) : sumP (X ++ Y) = sumP X + sumP Y := by unfold sumP; simp
end Go.Proofs.YthmknaoelmeniaaGreatDoor

namespace Go.Proofs.YthmknaoelmeniaaGreatDoor

/-- how long the rest's least text is -/
def lenB (N : List Nat) (i : Nat) : Nat := (bestC (N.drop i)).length
/-- what an item costs there -/
def valB (N : List Nat) (i : Nat) (x : Itm) : Nat := x.1.length + 1 + lenB N (i + x.2)
theorem val_drop (N : List Nat) (i : Nat) (x : Itm) : valB N i x = x.1.length + 1 + (bestC ((N.drop i).drop x.2)).length := by
  unfold valB lenB
  rw [List.drop_drop]
theorem len_le {N : List Nat} {i : Nat} {x : Itm} (hx : x ∈ itemsL (N.drop i)) : lenB N i ≤ valB N i x := by
  have hb := best_least (Tc.cons hx (best_text ((N.drop i).drop x.2)))
  rw [val_drop]
  unfold lenB
  rcases Nat.lt_or_ge (x.1.length + 1 + (bestC ((N.drop i).drop x.2)).length) (bestC (N.drop i)).length with h | h
  · rw [ltS_yes.2 (.inl (by rw [List.length_append, List.length_cons]; omega))] at hb; cases hb
  · exact h
theorem len_at {N : List Nat} {i : Nat} (h : i < N.length) : ∃ x, x ∈ itemsL (N.drop i) ∧ valB N i x = lenB N i := by
  have hne : N.drop i ≠ [] := by
    intro e
    have := congrArg List.length e
    rw [List.length_drop, List.length_nil] at this; omega
  have hm := (pick_mem (cand_ne hne)).1
  rw [← bestC_eq hne] at hm
  obtain ⟨x, hx, e⟩ := List.mem_map.1 hm
  refine ⟨x, hx, ?_⟩
  rw [val_drop]
  unfold lenB
  rw [← e, List.length_append, List.length_cons]; omega
def minV (N : List Nat) (i : Nat) (pre : List Itm) (m : Nat) : Nat := pre.foldl (fun m x => min m (valB N i x)) m
theorem minV_snoc (N : List Nat) (i : Nat) (pre : List Itm) (x : Itm) (m : Nat) : minV N i (pre ++ [x]) m = min (minV N i pre m) (valB N i x) := by unfold minV; rw [List.foldl_append]; rfl
theorem minV_le (N : List Nat) (i : Nat) : ∀ (pre : List Itm) (m : Nat), minV N i pre m ≤ m ∧ (∀ x, x ∈ pre → minV N i pre m ≤ valB N i x) ∧ (minV N i pre m = m ∨ ∃ x, x ∈ pre ∧ minV N i pre m = valB N i x)
  | [], m => ⟨Nat.le_refl _, by simp, .inl rfl⟩
  | y :: r, m => by
    obtain ⟨h1, h2, h3⟩ := minV_le N i r (min m (valB N i y))
    have e : minV N i (y :: r) m = minV N i r (min m (valB N i y)) := rfl
    rw [e]
    refine ⟨by omega, ?_, ?_⟩
    · intro x hx
      rcases List.mem_cons.1 hx with rfl | hx
      · omega
      · exact h2 x hx
    · rcases h3 with h3 | ⟨x, hx, h3⟩
      · rcases Nat.le_total m (valB N i y) with h | h
        · left; omega
        · right; exact ⟨y, List.mem_cons_self .., by omega⟩
      · exact .inr ⟨x, List.mem_cons_of_mem _ hx, h3⟩
theorem drop_at {N : List Nat} {i : Nat} (h : i < N.length) : N.drop i = N.getD i 0 :: N.drop (i + 1) := by
  rw [List.getD_eq_getElem?_getD, List.getElem?_eq_getElem h]
  exact List.drop_eq_getElem_cons h
theorem first_item {N : List Nat} {i : Nat} (h : i < N.length) : (Lib.decDigits (N.getD i 0), 1) ∈ itemsL (N.drop i) := by
  rw [drop_at h]; exact mem_items.2 (.inl rfl)
/-- the cost of one number alone, where the program begins -/
def oneB (N : List Nat) (i : Nat) : Nat := (Lib.decDigits (N.getD i 0)).length + 1 + lenB N (i + 1)
theorem minV_all {N : List Nat} {i : Nat} (h : i < N.length) : minV N i (itemsL (N.drop i)) (oneB N i) = lenB N i := by
  obtain ⟨h1, h2, h3⟩ := minV_le N i (itemsL (N.drop i)) (oneB N i)
  obtain ⟨x, hx, he⟩ := len_at h
  have h4 := h2 x hx
  have h5 : oneB N i = valB N i (Lib.decDigits (N.getD i 0), 1) := rfl
  rcases h3 with h3 | ⟨y, hy, h3⟩
  · have := len_le (first_item h); omega
  · have := len_le hy; omega
/-- what is kept while it picks -/
def PickI (N : List Nat) (i : Nat) (pre : List Itm) (b : Itm) : Prop :=
  (b = ([], 0) ∧ ∀ y, y ∈ pre → valB N i y ≠ lenB N i) ∨ (1 ≤ b.2 ∧ b ∈ itemsL (N.drop i) ∧ valB N i b = lenB N i ∧ ∀ y, y ∈ pre → valB N i y = lenB N i → ¬ (y.1 ++ [44] < b.1 ++ [44]))
theorem pick_start (N : List Nat) (i : Nat) : PickI N i [] ([], 0) := .inl ⟨rfl, by simp⟩
theorem pick_take {N : List Nat} {i : Nat} {pre : List Itm} {b x : Itm} (h : PickI N i pre b) (hx : x ∈ itemsL (N.drop i)) (hv : valB N i x = lenB N i) (hc : b.2 = 0 ∨ x.1 ++ [44] < b.1 ++ [44]) : PickI N i (pre ++ [x]) x := by
  refine .inr ⟨(items_many hx).1, hx, hv, ?_⟩
  intro y hy hyv
  rcases List.mem_append.1 hy with hy | hy
  · rcases h with ⟨_, h⟩ | ⟨h1, _, _, h⟩
    · exact absurd hyv (h y hy)
    · rcases hc with hc | hc
      · omega
      · exact fun hk => h y hy hyv (List.lt_trans hk hc)
  · rw [List.mem_singleton] at hy
    subst hy; exact lt_irr _
theorem pick_keep {N : List Nat} {i : Nat} {pre : List Itm} {b x : Itm} (h : PickI N i pre b) (hc : valB N i x = lenB N i → ¬ (b.2 = 0) ∧ ¬ (x.1 ++ [44] < b.1 ++ [44])) : PickI N i (pre ++ [x]) b := by
  rcases h with ⟨h1, h⟩ | ⟨h1, h2, h3, h⟩
  · refine .inl ⟨h1, fun y hy => ?_⟩
    rcases List.mem_append.1 hy with hy | hy
    · exact h y hy
    · rw [List.mem_singleton] at hy
      subst hy
      exact fun e => (hc e).1 (by rw [h1])
  · refine .inr ⟨h1, h2, h3, fun y hy hyv => ?_⟩
    rcases List.mem_append.1 hy with hy | hy
    · exact h y hy hyv
    · rw [List.mem_singleton] at hy
      subst hy
      exact (hc hyv).2
theorem pick_end {N : List Nat} {i : Nat} {b : Itm} (hi : i < N.length) (h : PickI N i (itemsL (N.drop i)) b) : 1 ≤ b.2 ∧ i + b.2 ≤ N.length ∧ bestC (N.drop i) = b.1 ++ 44 :: bestC (N.drop (i + b.2)) := by
  rcases h with ⟨_, h⟩ | ⟨h1, h2, h3, h⟩
  · obtain ⟨x, hx, he⟩ := len_at hi
    exact absurd he (h x hx)
  · have h4 := (items_many h2).2
    rw [List.length_drop] at h4
    refine ⟨h1, by omega, ?_⟩
    have := pick_item h2 (by rw [← val_drop]; exact h3) (fun y hy hv => h y hy (by rw [val_drop]; exact hv))
    rw [← this, List.drop_drop]
theorem lenB_bound {N : List Nat} (h : ∀ x, x ∈ N → x ≤ 9999) (i : Nat) : lenB N i ≤ 5 * (N.length - i) := by
  have := best_len (N.drop i) (fun x hx => h x (List.mem_of_mem_drop hx))
  rw [List.length_drop] at this
  exact this
theorem lenB_end (N : List Nat) : lenB N N.length = 0 := by unfold lenB; rw [List.drop_length]; rfl
/-- what has been written so far -/
def Wrt (N : List Nat) (i : Nat) (u : List UInt8) : Prop := (i = 0 ∧ u = []) ∨ (0 < i ∧ bestC N = u ++ 44 :: bestC (N.drop i))
theorem wrt_step {N : List Nat} {i : Nat} {u : List UInt8} {b : Itm} (h : Wrt N i u) (hb : 1 ≤ b.2) (he : bestC (N.drop i) = b.1 ++ 44 :: bestC (N.drop (i + b.2))) : Wrt N (i + b.2) ((if 0 < i then u ++ [44] else u) ++ b.1) := by
  refine .inr ⟨by omega, ?_⟩
  rcases h with ⟨h1, h2⟩ | ⟨h1, h2⟩
  · subst h1 h2
    rw [if_neg (by omega)]
    rw [List.drop_zero] at he
    rw [he]; rfl
  · rw [if_pos h1, h2, he]; simp
theorem wrt_end {N : List Nat} {u : List UInt8} (h : Wrt N N.length u) : u = bestS N := by
  unfold bestS
  rcases h with ⟨h1, h2⟩ | ⟨h1, h2⟩
  · have : N = [] := List.length_eq_zero_iff.1 h1
    subst this; rw [h2]; rfl
  · rw [h2, List.drop_length, bestC_nil]; simp
end Go.Proofs.YthmknaoelmeniaaGreatDoor

namespace Go.Proofs.YthmknaoelmeniaaGreatDoor

/-- the item of a length that begins at a list's first number -/
def ofLen (M : List Nat) (m : Nat) : Option Itm := match M with
  | [] => none
  | a :: r => if m = 1 then some (Lib.decDigits a, 1) else if 2 ≤ m ∧ m ≤ runU a (a :: r) then some (upI a (m - 2)) else if 2 ≤ m ∧ m ≤ runA a (a :: r) then some (alI a (m - 2)) else none
theorem ofLen_mem {M : List Nat} {m : Nat} {x : Itm} (h : ofLen M m = some x) : x ∈ itemsL M ∧ x.2 = m := by
  cases M with
  | nil => cases h
  | cons a r =>
    unfold ofLen at h
    dsimp only at h
    by_cases h1 : m = 1
    · rw [if_pos h1] at h
      cases h
      exact ⟨mem_items.2 (.inl rfl), h1.symm⟩
    · rw [if_neg h1] at h
      by_cases h2 : 2 ≤ m ∧ m ≤ runU a (a :: r)
      · rw [if_pos h2] at h
        cases h
        exact ⟨mem_items.2 (.inr (.inl ⟨m - 2, by omega, rfl⟩)), by unfold upI; show m - 2 + 2 = m; omega⟩
      · rw [if_neg h2] at h
        by_cases h3 : 2 ≤ m ∧ m ≤ runA a (a :: r)
        · rw [if_pos h3] at h
          cases h
          exact ⟨mem_items.2 (.inr (.inr ⟨m - 2, by omega, rfl⟩)), by unfold alI; show m - 2 + 2 = m; omega⟩
        · rw [if_neg h3] at h; cases h
/-- a list does not go up and stay as it is -/
theorem runs_two {a : Nat} {r : List Nat} (h : 2 ≤ runU a (a :: r)) : runA a (a :: r) ≤ 1 := by
  rcases Nat.lt_or_ge 1 (runA a (a :: r)) with k | k
  · have h1 := (runU_iff (a :: r) a _).1 h 1 (by omega)
    have h2 := (runA_iff a (a :: r) _).1 k 1 (by omega)
    rw [h1] at h2
    have := Option.some.inj h2
    omega
  · exact k
theorem ofLen_of {M : List Nat} {x : Itm} (h : x ∈ itemsL M) : ofLen M x.2 = some x := by
  cases M with
  | nil => cases h
  | cons a r =>
    rcases mem_items.1 h with rfl | ⟨j, hj, rfl⟩ | ⟨j, hj, rfl⟩
    · rfl
    · unfold ofLen
      have e : (upI a j).2 = j + 2 := rfl
      dsimp only
      rw [e, if_neg (by omega), if_pos ⟨by omega, hj⟩]; rfl
    · unfold ofLen
      have e : (alI a j).2 = j + 2 := rfl
      dsimp only
      rw [e, if_neg (by omega), if_neg (fun k => by have := runs_two (Nat.le_trans k.1 k.2); omega), if_pos ⟨by omega, hj⟩]; rfl
theorem ofLen_stop {M : List Nat} {m : Nat} (h : ofLen M (m + 1) = none) (hm : 1 ≤ m) {x : Itm} (hx : x ∈ itemsL M) : x.2 ≤ m := by
  rcases Nat.lt_or_ge m x.2 with k | k
  · exfalso
    cases M with
    | nil => cases hx
    | cons a r =>
      unfold ofLen at h
      dsimp only at h
      rw [if_neg (by omega)] at h
      rcases mem_items.1 hx with rfl | ⟨j, hj, rfl⟩ | ⟨j, hj, rfl⟩
      · exact absurd k (by dsimp only; omega)
      · have e : (upI a j).2 = j + 2 := rfl
        rw [e] at k
        rw [if_pos ⟨by omega, by omega⟩] at h; cases h
      · have e : (alI a j).2 = j + 2 := rfl
        rw [e] at k
        by_cases h2 : 2 ≤ m + 1 ∧ m + 1 ≤ runU a (a :: r)
        · rw [if_pos h2] at h; cases h
        · rw [if_neg h2, if_pos ⟨by omega, by omega⟩] at h; cases h
  · exact k
/-- an item with the best text of what follows -/
def candS (M : List Nat) (x : Itm) : List UInt8 := if x.2 < M.length then x.1 ++ 44 :: bestS (M.drop x.2) else x.1
theorem candS_C {M : List Nat} {x : Itm} : x.1 ++ 44 :: bestC (M.drop x.2) = candS M x ++ [44] := by
  unfold candS
  by_cases h : x.2 < M.length
  · rw [if_pos h, bestC_S (N := M.drop x.2) (by
      intro e
      have := congrArg List.length e
      rw [List.length_drop, List.length_nil] at this; omega)]
    simp
  · rw [if_neg h, List.drop_eq_nil_of_le (by omega), bestC_nil]
theorem candS_ne {M : List Nat} {x : Itm} (h : x ∈ itemsL M) : candS M x ≠ [] := by
  unfold candS
  split
  · simp
  · exact items_ne h
def takeS (b s : List UInt8) : List UInt8 := if b = [] ∨ ltS s b = true then s else b
/-- the best text after the items up to a length -/
def foldS (M : List Nat) : Nat → List UInt8
  | 0 => []
  | m + 1 => match ofLen M (m + 1) with
    | some x => takeS (foldS M m) (candS M x)
    | none => foldS M m
theorem foldS_some {M : List Nat} {m : Nat} {x : Itm} (h : ofLen M (m + 1) = some x) : foldS M (m + 1) = takeS (foldS M m) (candS M x) := by rw [foldS, h]
theorem foldS_none {M : List Nat} {m : Nat} (h : ofLen M (m + 1) = none) : foldS M (m + 1) = foldS M m := by rw [foldS, h]
theorem foldS_min (M : List Nat) : ∀ m, (foldS M m = [] ∧ ∀ y, y ∈ itemsL M → ¬ y.2 ≤ m) ∨ (∃ x, x ∈ itemsL M ∧ foldS M m = candS M x ∧ ∀ y, y ∈ itemsL M → y.2 ≤ m → ltS (candS M y) (foldS M m) = false)
  | 0 => .inl ⟨rfl, fun y hy h => by have := (items_many hy).1; omega⟩
  | m + 1 => by
    have ih := foldS_min M m
    cases ho : ofLen M (m + 1) with
    | none =>
      rw [foldS_none ho]
      have hs : ∀ y, y ∈ itemsL M → y.2 ≤ m + 1 → y.2 ≤ m := fun y hy h => by
        rcases Nat.lt_or_ge m y.2 with k | k
        · have e : y.2 = m + 1 := by omega
          have := ofLen_of hy
          rw [e, ho] at this; cases this
        · exact k
      rcases ih with ⟨h1, h2⟩ | ⟨x, hx, h1, h2⟩
      · exact .inl ⟨h1, fun y hy h => h2 y hy (hs y hy h)⟩
      · exact .inr ⟨x, hx, h1, fun y hy h => h2 y hy (hs y hy h)⟩
    | some x =>
      rw [foldS_some ho]
      obtain ⟨hx, hx2⟩ := ofLen_mem ho
      have hs : ∀ y, y ∈ itemsL M → y.2 ≤ m + 1 → y.2 ≤ m ∨ y = x := fun y hy h => by
        rcases Nat.lt_or_ge m y.2 with k | k
        · right
          have e : y.2 = m + 1 := by omega
          have := ofLen_of hy
          rw [e, ho] at this; exact (Option.some.inj this).symm
        · exact .inl k
      right
      rcases ih with ⟨h1, h2⟩ | ⟨z, hz, h1, h2⟩
      · refine ⟨x, hx, by unfold takeS; rw [if_pos (.inl h1)], fun y hy h => ?_⟩
        rcases hs y hy h with k | rfl
        · exact absurd k (h2 y hy)
        · unfold takeS; rw [if_pos (.inl h1)]; exact ltS_irr _
      · have hne : foldS M m ≠ [] := by rw [h1]; exact candS_ne hz
        by_cases hl : ltS (candS M x) (foldS M m) = true
        · refine ⟨x, hx, by unfold takeS; rw [if_pos (.inr hl)], fun y hy h => ?_⟩
          have e : takeS (foldS M m) (candS M x) = candS M x := by unfold takeS; rw [if_pos (.inr hl)]
          rw [e]
          rcases hs y hy h with k | rfl
          · cases hk : ltS (candS M y) (candS M x)
            · rfl
            · have := ltS_tr hk hl
              rw [h2 y hy k] at this; cases this
          · exact ltS_irr _
        · have e : takeS (foldS M m) (candS M x) = foldS M m := by unfold takeS; rw [if_neg (fun k => k.elim hne hl)]
          rw [e]
          refine ⟨z, hz, h1, fun y hy h => ?_⟩
          rcases hs y hy h with k | rfl
          · exact h2 y hy k
          · exact Bool.eq_false_iff.2 hl
theorem foldS_all {M : List Nat} (hM : M ≠ []) {m : Nat} (h : ∀ x, x ∈ itemsL M → x.2 ≤ m) : foldS M m = bestS M := by
  have hne := items_some hM
  obtain ⟨y0, hy0⟩ := List.exists_mem_of_ne_nil _ hne
  rcases foldS_min M m with ⟨_, h2⟩ | ⟨x, hx, h1, h2⟩
  · exact absurd (h y0 hy0) (h2 y0 hy0)
  · have hb : bestC M = foldS M m ++ [44] := by
      rw [bestC_eq hM]
      refine pick_is ?_ ?_
      · rw [h1, ← candS_C]
        exact List.mem_map.2 ⟨x, hx, rfl⟩
      · intro t ht
        obtain ⟨y, hy, rfl⟩ := List.mem_map.1 ht
        rw [candS_C, ltS_last]
        exact h2 y hy (h y hy)
    unfold bestS
    rw [hb, List.dropLast_concat]
theorem foldS_end {M : List Nat} (hM : M ≠ []) : foldS M M.length = bestS M := foldS_all hM fun _x hx => (items_many hx).2
theorem foldS_stop {M : List Nat} (hM : M ≠ []) {m : Nat} (hm : 1 ≤ m) (h : ofLen M (m + 1) = none) : foldS M m = bestS M := foldS_all hM fun _ hx => ofLen_stop h hm hx
theorem foldS_zero {M : List Nat} : foldS M 0 = [] := rfl
end Go.Proofs.YthmknaoelmeniaaGreatDoor

namespace Go.Proofs.YthmknaoelmeniaaGreatDoor

/-- bytes that are written: from a least one to 126 -/
def prB (least : Nat) (l : List UInt8) : Bool := l.all (fun c => decide (least ≤ c.toNat) && decide (c.toNat ≤ 126))
/-- a text for people -/
def txB (l : List UInt8) : Bool := prB 32 l && decide (l.length ≤ 200)
theorem txB_yes {l : List UInt8} : txB l = true ↔ prB 32 l = true ∧ l.length ≤ 200 := by unfold txB; simp
/-- each quotation mark twice -/
def dbl : List UInt8 → List UInt8
  | [] => []
  | c :: r => if c = 34 then 34 :: 34 :: dbl r else c :: dbl r
theorem dbl_nil : dbl [] = [] := by rw [dbl]
theorem dbl_q (r : List UInt8) : dbl (34 :: r) = 34 :: 34 :: dbl r := by rw [dbl, if_pos rfl]
theorem dbl_c {c : UInt8} (r : List UInt8) (h : c ≠ 34) : dbl (c :: r) = c :: dbl r := by rw [dbl, if_neg h]
theorem dbl_append : ∀ (a b : List UInt8), dbl (a ++ b) = dbl a ++ dbl b
  | [], _ => by rw [dbl_nil]; rfl
  | c :: a, b => by
    by_cases h : c = 34
    · subst h; rw [List.cons_append, dbl_q, dbl_q, dbl_append a b]; rfl
    · rw [List.cons_append, dbl_c _ h, dbl_c _ h, dbl_append a b]; rfl
theorem dbl_len : ∀ l : List UInt8, l.length ≤ (dbl l).length ∧ (dbl l).length ≤ 2 * l.length
  | [] => by rw [dbl_nil]; simp
  | c :: a => by
    have := dbl_len a
    by_cases h : c = 34
    · subst h; rw [dbl_q]; simp only [List.length_cons]; omega
    · rw [dbl_c _ h]; simp only [List.length_cons]; omega
theorem dbl_count : ∀ l : List UInt8, (dbl l).length = l.length + l.count 34
  | [] => by rw [dbl_nil]; rfl
  | c :: a => by
    have := dbl_count a
    by_cases h : c = 34
    · subst h; rw [dbl_q, List.count_cons_self]; simp only [List.length_cons]; omega
    · rw [dbl_c _ h, List.count_cons_of_ne h]; simp only [List.length_cons]; omega
/-- marks that stand twice, once; none: one stands alone -/
def und : List UInt8 → Option (List UInt8)
  | [] => some []
  | [c] => if c = 34 then none else some [c]
  | c :: d :: r => if c = 34 then (if d = 34 then (und r).map (34 :: ·) else none) else (und (d :: r)).map (c :: ·)
theorem und_dbl : ∀ l : List UInt8, und (dbl l) = some l
  | [] => by rw [dbl_nil, und]
  | c :: r => by
    have ih := und_dbl r
    by_cases h : c = 34
    · subst h; rw [dbl_q, und, if_pos rfl, if_pos rfl, ih]; rfl
    · rw [dbl_c _ h]
      cases hd : dbl r with
      | nil =>
        rw [hd] at ih
        rw [und, if_neg h]
        rw [und] at ih
        cases ih; rfl
      | cons x y =>
        rw [und, if_neg h, ← hd, ih]; rfl
theorem dbl_und : ∀ (n : Nat) (l u : List UInt8), l.length ≤ n → und l = some u → dbl u = l
  | n, [], u, _, h => by rw [und] at h; cases h; exact dbl_nil
  | n, [c], u, _, h => by
    rw [und] at h
    by_cases e : c = 34
    · rw [if_pos e] at h; cases h
    · rw [if_neg e] at h; cases h; rw [dbl_c _ e, dbl_nil]
  | n + 1, c :: d :: r, u, hn, h => by
    simp only [List.length_cons] at hn
    rw [und] at h
    by_cases e : c = 34
    · subst e
      rw [if_pos rfl] at h
      by_cases k : d = 34
      · subst k
        rw [if_pos rfl] at h
        cases hr : und r with
        | none => rw [hr] at h; cases h
        | some v =>
          rw [hr] at h
          cases h
          show dbl (34 :: v) = _
          rw [dbl_q, dbl_und n r v (by omega) hr]
      · rw [if_neg k] at h; cases h
    · rw [if_neg e] at h
      cases hr : und (d :: r) with
      | none => rw [hr] at h; cases h
      | some v =>
        rw [hr] at h
        cases h
        show dbl (c :: v) = _
        rw [dbl_c _ e, dbl_und n (d :: r) v (by simp only [List.length_cons]; omega) hr]
  | 0, c :: d :: r, u, hn, h => by simp at hn
theorem dbl_inj {a b : List UInt8} (h : dbl a = dbl b) : a = b := by
  have h1 := und_dbl a
  rw [h, und_dbl b] at h1
  cases h1; rfl
/-- the quotation of a text -/
def qtL (l : List UInt8) : List UInt8 := 34 :: (dbl l ++ [34])
theorem qtL_inj {a b : List UInt8} (h : qtL a = qtL b) : a = b := by
  unfold qtL at h
  exact dbl_inj (List.append_cancel_right (List.cons.inj h).2)
/-- is there a quotation, but for the bytes within? -/
def quB (l : List UInt8) : Bool := decide (2 ≤ l.length) && (decide (l.head? = some 34) && decide (l.getLast? = some 34))
/-- what is within -/
def inn (l : List UInt8) : List UInt8 := l.tail.dropLast
theorem inn_qt (u : List UInt8) : inn (34 :: (u ++ [34])) = u := by unfold inn; simp
theorem quB_qt (u : List UInt8) : quB (34 :: (u ++ [34])) = true := by
  unfold quB
  simp only [List.length_cons, List.length_append, List.head?_cons, Bool.and_eq_true, decide_eq_true_eq]
  refine ⟨by omega, trivial, ?_⟩
  rw [← List.cons_append, List.getLast?_append]; simp
theorem quB_of {l : List UInt8} (h : quB l = true) : l = 34 :: (inn l ++ [34]) := by
  unfold quB at h
  simp only [Bool.and_eq_true, decide_eq_true_eq] at h
  obtain ⟨h1, h2, h3⟩ := h
  cases l with
  | nil => simp at h1
  | cons c r =>
    have hc : c = 34 := by simpa using h2
    subst hc
    have hr : r ≠ [] := by intro e; subst e; simp at h1
    unfold inn
    rw [List.tail_cons]
    congr 1
    have h4 : r.getLast hr = 34 := by
      rw [List.getLast?_eq_some_getLast (by simp), List.getLast_cons hr] at h3
      exact Option.some.inj h3
    conv => lhs; rw [← List.dropLast_concat_getLast hr]
    rw [h4]
/-- what Unquote answers: the text; none: ErrForm -/
def unq (l : List UInt8) : Option (List UInt8) := if quB l then (und (inn l)).filter txB else none
theorem unq_qt {u : List UInt8} (h : txB u = true) : unq (qtL u) = some u := by
  unfold unq qtL
  rw [quB_qt, if_pos rfl, inn_qt, und_dbl, Option.filter_some, if_pos h]
theorem unq_some {l u : List UInt8} (h : unq l = some u) : txB u = true ∧ qtL u = l := by
  unfold unq at h
  cases hq : quB l
  · rw [hq] at h; cases h
  · rw [hq, if_pos rfl] at h
    cases hu : und (inn l) with
    | none => rw [hu] at h; cases h
    | some v =>
      rw [hu, Option.filter_some] at h
      cases ht : txB v
      · rw [ht] at h; cases h
      · rw [ht, if_pos rfl] at h
        cases h
        exact ⟨ht, by unfold qtL; rw [dbl_und _ _ _ (Nat.le_refl _) hu]; exact (quB_of hq).symm⟩
theorem unq_none {l : List UInt8} (h : unq l = none) (u : List UInt8) (hu : txB u = true) : qtL u ≠ l := by
  rintro rfl
  rw [unq_qt hu] at h; cases h

/-- ReplaceAll of two marks by one, from the left -/
def rpq : List UInt8 → List UInt8
  | [] => []
  | [c] => [c]
  | c :: d :: r => if c = 34 ∧ d = 34 then 34 :: rpq r else c :: rpq (d :: r)
theorem rpq_dbl : ∀ l : List UInt8, rpq (dbl l) = l
  | [] => by rw [dbl_nil, rpq]
  | c :: r => by
    have ih := rpq_dbl r
    by_cases h : c = 34
    · subst h; rw [dbl_q, rpq, if_pos ⟨rfl, rfl⟩, ih]
    · rw [dbl_c _ h]
      cases hd : dbl r with
      | nil =>
        rw [hd, rpq] at ih
        rw [rpq, ih]
      | cons x y =>
        rw [rpq, if_neg (fun k => h k.1), ← hd, ih]
theorem rpq_miss {l : List UInt8} : Lib.index l [34, 34] = -1 → rpq l = l := by
  induction l with
  | nil => intro _; rw [rpq]
  | cons c r ih =>
    intro h
    rw [Lib.index] at h
    split at h
    · cases h
    · rename_i hp
      have hr : Lib.index r [34, 34] = -1 := by
        split at h
        · rename_i h1; simpa using h1
        · have := Lib.index_ge r [34, 34]; rename_i h1; simp at h1; omega
      cases r with
      | nil => rw [rpq]
      | cons d t =>
        rw [rpq, if_neg, ih hr]
        rintro ⟨rfl, rfl⟩
        simp [List.isPrefixOf] at hp
theorem rpq_hit {l : List UInt8} : ∀ {i : Nat}, Lib.index l [34, 34] = (i : Int) → rpq l = l.take i ++ [34] ++ rpq (l.drop (i + 2)) := by
  induction l with
  | nil => intro i h; rw [Lib.index] at h; simp at h
  | cons c r ih =>
    intro i h
    rw [Lib.index] at h
    split at h
    · rename_i hp
      obtain rfl : i = 0 := by omega
      cases r with
      | nil => simp [List.isPrefixOf] at hp
      | cons d t =>
        simp [List.isPrefixOf] at hp
        obtain ⟨rfl, rfl⟩ := hp
        rw [rpq, if_pos ⟨rfl, rfl⟩]
        rfl
    · rename_i hp
      split at h
      · omega
      · obtain ⟨j, hj⟩ : ∃ j : Nat, Lib.index r [34, 34] = (j : Int) := ⟨(Lib.index r [34, 34]).toNat, by have := Lib.index_ge r [34, 34]; rename_i h1; simp at h1; omega⟩
        obtain rfl : i = j + 1 := by omega
        have := ih hj
        cases r with
        | nil => rw [Lib.index] at hj; simp at hj
        | cons d t =>
          rw [rpq, if_neg, this]
          · rw [List.take_succ_cons, show j + 1 + 2 = (j + 2) + 1 by omega, List.drop_succ_cons]; simp
          · rintro ⟨rfl, rfl⟩
            simp [List.isPrefixOf] at hp
theorem rpqK (n : Nat) : ∀ l : List UInt8, l.length ≤ n → Lib.replaceK [34, 34] [34] (Lib.count l [34, 34]) l = rpq l := by
  induction n with
  | zero =>
    intro l h
    have : l = [] := List.length_eq_zero_iff.1 (by omega)
    subst this
    have hx : Lib.index [] [34, 34] = -1 := rfl
    rw [Lib.count_miss hx, Lib.replaceK, rpq]
  | succ n ih =>
    intro l h
    by_cases hx : Lib.index l [34, 34] = -1
    · rw [Lib.count_miss hx, Lib.replaceK, rpq_miss hx]
    · obtain ⟨i, hi⟩ : ∃ i : Nat, Lib.index l [34, 34] = (i : Int) := ⟨(Lib.index l [34, 34]).toNat, by have := Lib.index_ge l [34, 34]; omega⟩
      have hr := Lib.index_room l [34, 34] (by omega)
      rw [Lib.count_hit (by simp) hi, Nat.add_comm 1, Lib.replaceK_hit _ _ _ _ _ hi, rpq_hit hi]
      rw [show ([34, 34] : List UInt8).length = 2 from rfl]
      rw [ih _ (by rw [List.length_drop]; rw [show ([34, 34] : List UInt8).length = 2 from rfl] at hr; omega)]
theorem rpq_all (l : List UInt8) : Lib.replaceAll l [34, 34] [34] = rpq l := by
  unfold Lib.replaceAll Lib.replace
  rw [if_neg (by decide)]
  unfold Lib.replaceNum
  rw [if_pos (.inl (by decide))]
  exact rpqK _ _ (Nat.le_refl _)
/-- ReplaceAll of one mark by two -/
theorem dblK (n : Nat) : ∀ l : List UInt8, l.length ≤ n → Lib.replaceK [34] [34, 34] (Lib.count l [34]) l = dbl l := by
  induction n with
  | zero =>
    intro l h
    have : l = [] := List.length_eq_zero_iff.1 (by omega)
    subst this
    have hx : Lib.index [] [34] = -1 := rfl
    rw [Lib.count_miss hx, Lib.replaceK, dbl_nil]
  | succ n ih =>
    intro l h
    by_cases hm : (34 : UInt8) ∈ l
    · obtain ⟨a, r, rfl, ha⟩ := splK_one.cut_first hm
      have hix := splK_one.ix_cut (r := r) ha
      have hd : (a ++ 34 :: r).drop (a.length + 1) = r := by rw [List.drop_append]; simp
      rw [Lib.count_hit (by simp) hix, Nat.add_comm 1, Lib.replaceK_hit _ _ _ _ _ hix]
      rw [show ([34] : List UInt8).length = 1 from rfl, hd, ih r (by simp at h; omega)]
      rw [dbl_append, dbl_q]
      have : dbl a = a := dbl_none ha
      rw [this]; simp
    · have hx : Lib.index l [34] = -1 := splK_one.ix_none hm
      rw [Lib.count_miss hx, Lib.replaceK, dbl_none hm]
where
  dbl_none : ∀ {l : List UInt8}, (34 : UInt8) ∉ l → dbl l = l
    | [], _ => dbl_nil
    | c :: r, h => by
      have h1 : c ≠ 34 := fun e => h (by rw [e]; exact List.mem_cons_self ..)
      rw [dbl_c _ h1, dbl_none (fun k => h (List.mem_cons_of_mem _ k))]
theorem dbl_all (l : List UInt8) : Lib.replaceAll l [34] [34, 34] = dbl l := by
  unfold Lib.replaceAll Lib.replace
  rw [if_neg (by decide)]
  unfold Lib.replaceNum
  rw [if_pos (.inl (by decide))]
  exact dblK _ _ (Nat.le_refl _)
end Go.Proofs.YthmknaoelmeniaaGreatDoor

namespace Go.Proofs.YthmknaoelmeniaaGreatDoor

/-- how far a quotation goes, behind its first mark -/
def qend : List UInt8 → Nat
  | [] => 0
  | [_] => 1
  | c :: d :: r => if c = 34 then (if d = 34 then 2 + qend r else 1) else 1 + qend (d :: r)
theorem qend_q (r : List UInt8) : qend (34 :: 34 :: r) = 2 + qend r := by rw [qend, if_pos rfl, if_pos rfl]
theorem qend_e {d : UInt8} (r : List UInt8) (h : d ≠ 34) : qend (34 :: d :: r) = 1 := by rw [qend, if_pos rfl, if_neg h]
theorem qend_c {c : UInt8} (r : List UInt8) (h : c ≠ 34) : qend (c :: r) = 1 + qend r := by
  cases r with
  | nil => rfl
  | cons d t => rw [qend, if_neg h]
theorem qend_le (n : Nat) : ∀ l : List UInt8, l.length ≤ n → qend l ≤ l.length := by
  induction n with
  | zero =>
    intro l h
    obtain rfl : l = [] := List.length_eq_zero_iff.1 (by omega)
    exact Nat.le_refl _
  | succ n ih =>
    intro l h
    match l, h with
    | [], _ => exact Nat.le_refl _
    | [c], _ => exact Nat.le_refl _
    | c :: d :: r, h =>
      simp only [List.length_cons] at h ⊢
      by_cases hc : c = 34
      · subst hc
        by_cases hd : d = 34
        · subst hd; rw [qend_q]; have := ih r (by omega); omega
        · rw [qend_e r hd]; omega
      · rw [qend_c _ hc]; have := ih (d :: r) (by simp only [List.length_cons]; omega); simp only [List.length_cons] at this; omega
/-- how far a field goes -/
def uend (l : List UInt8) : Nat := (l.takeWhile (fun c => decide (c ≠ 32))).length
theorem uend_nil : uend [] = 0 := rfl
theorem uend_b (r : List UInt8) : uend (32 :: r) = 0 := rfl
theorem uend_c {c : UInt8} (r : List UInt8) (h : c ≠ 32) : uend (c :: r) = 1 + uend r := by
  unfold uend
  rw [List.takeWhile_cons, if_pos (by simpa using h), List.length_cons, Nat.add_comm]
theorem uend_le : ∀ l : List UInt8, uend l ≤ l.length
  | [] => Nat.le_refl _
  | c :: r => by
    have := uend_le r
    by_cases h : c = 32
    · subst h; rw [uend_b]; simp
    · rw [uend_c r h, List.length_cons]; omega
def fend (l : List UInt8) : Nat := if l.head? = some 34 then 1 + qend l.tail else uend l
theorem fend_q (r : List UInt8) : fend (34 :: r) = 1 + qend r := by unfold fend; rw [if_pos (by rfl)]; rfl
theorem fend_u {c : UInt8} (r : List UInt8) (h : c ≠ 34) : fend (c :: r) = uend (c :: r) := by
  unfold fend; rw [if_neg]; simpa using h
theorem fend_le (l : List UInt8) : fend l ≤ l.length := by
  cases l with
  | nil => exact Nat.le_refl _
  | cons c r =>
    by_cases h : c = 34
    · subst h; rw [fend_q, List.length_cons]; have := qend_le _ r (Nat.le_refl _); omega
    · rw [fend_u r h]; exact uend_le _
/-- is that an unquoted field? -/
def rtB (l : List UInt8) : Bool := decide (l ≠ []) && (l.all (fun c => decide (c ≠ 32) && decide (c ≠ 34)) && txB l)
theorem rtB_yes {l : List UInt8} : rtB l = true ↔ l ≠ [] ∧ ((32 : UInt8) ∉ l ∧ (34 : UInt8) ∉ l) ∧ txB l = true := by
  unfold rtB
  simp only [Bool.and_eq_true, decide_eq_true_eq, List.all_eq_true]
  refine and_congr_right fun _ => and_congr_left fun _ => ⟨fun h => ⟨fun hm => (h _ hm).1 rfl, fun hm => (h _ hm).2 rfl⟩, fun h x hx => ⟨fun e => h.1 (e ▸ hx), fun e => h.2 (e ▸ hx)⟩⟩
/-- a field: is it quoted, and its text -/
abbrev Fl := Bool × List UInt8
/-- the first field that is written -/
def fld1 (t : List UInt8) : Option Fl := if t.head? = some 34 then (unq t).map (fun u => (true, u)) else if rtB t then some (false, t) else none
/-- is that a field? -/
def flB (x : Fl) : Bool := if x.1 then txB x.2 else rtB x.2
theorem fld1_some {t : List UInt8} {x : Fl} (h : fld1 t = some x) : flB x = true ∧ (x.1 = false → x.2 = t) ∧ (x.1 = true → qtL x.2 = t) := by
  unfold fld1 at h
  split at h
  · cases hu : unq t with
    | none => rw [hu] at h; cases h
    | some u =>
      rw [hu] at h
      cases h
      obtain ⟨h1, h2⟩ := unq_some hu
      exact ⟨h1, by simp, fun _ => h2⟩
  · split at h
    · rename_i hr
      cases h
      exact ⟨hr, fun _ => rfl, by simp⟩
    · cases h
/-- the fields of a line; none: ErrForm (the number: at least the line's length) -/
def splF : Nat → List UInt8 → Option (List Fl)
  | _, [] => some []
  | 0, _ :: _ => none
  | n + 1, c :: r =>
    match fld1 ((c :: r).take (fend (c :: r))) with
    | none => none
    | some x =>
      match (c :: r).drop (fend (c :: r)) with
      | [] => some [x]
      | [_] => none
      | d :: e :: t => if d = 32 then (splF n (e :: t)).map (x :: ·) else none
def splE (l : List UInt8) : Int := if 4096 < l.length then 3 else match splF l.length l with
  | none => 6
  | some f => if 64 < f.length then 3 else 0
def splR (l : List UInt8) : List Fl := if splE l = 0 then (splF l.length l).getD [] else []
theorem splF_nil (n : Nat) : splF n [] = some [] := by cases n <;> rfl
theorem fend_pos {c : UInt8} {r : List UInt8} (h : fld1 ((c :: r).take (fend (c :: r))) ≠ none) : 1 ≤ fend (c :: r) := by
  rcases Nat.eq_zero_or_pos (fend (c :: r)) with h0 | h0
  · rw [h0] at h
    exact absurd rfl h
  · exact h0
theorem splF_more : ∀ (n : Nat) (l : List UInt8), l.length ≤ n → ∀ m, l.length ≤ m → splF n l = splF m l
  | n, [], _, m, _ => by rw [splF_nil, splF_nil]
  | n + 1, c :: r, hn, m, hm => by
    cases m with
    | zero => simp at hm
    | succ m =>
      rw [splF, splF]
      cases hx : fld1 ((c :: r).take (fend (c :: r))) with
      | none => rfl
      | some x =>
        have hp := fend_pos (c := c) (r := r) (by rw [hx]; simp)
        dsimp only
        cases hd : (c :: r).drop (fend (c :: r)) with
        | nil => rfl
        | cons d t =>
          cases t with
          | nil => rfl
          | cons e t =>
            have hl := congrArg List.length hd
            simp only [List.length_drop, List.length_cons] at hl hn hm
            dsimp only
            rw [splF_more n (e :: t) (by simp only [List.length_cons]; omega) m (by simp only [List.length_cons]; omega)]
  | 0, c :: r, hn, m, hm => by simp at hn
/-- a line of unquoted fields -/
theorem uend_take {p : List UInt8} (h : (32 : UInt8) ∉ p) (r : List UInt8) : uend (p ++ 32 :: r) = p.length := by
  induction p with
  | nil => rfl
  | cons c p ih =>
    have hc : c ≠ 32 := fun e => h (by rw [e]; exact List.mem_cons_self ..)
    rw [List.cons_append, uend_c _ hc, ih (fun k => h (List.mem_cons_of_mem _ k)), List.length_cons, Nat.add_comm]
theorem uend_all {p : List UInt8} (h : (32 : UInt8) ∉ p) : uend p = p.length := by
  induction p with
  | nil => rfl
  | cons c p ih =>
    have hc : c ≠ 32 := fun e => h (by rw [e]; exact List.mem_cons_self ..)
    rw [uend_c _ hc, ih (fun k => h (List.mem_cons_of_mem _ k)), List.length_cons, Nat.add_comm]
theorem fld1_rt {t : List UInt8} (h : rtB t = true) : fld1 t = some (false, t) := by
  have h' := rtB_yes.1 h
  unfold fld1
  rw [if_neg, if_pos h]
  intro e
  cases t with
  | nil => cases e
  | cons c r => exact h'.2.1.2 (by rw [List.head?_cons] at e; cases e; exact List.mem_cons_self ..)
theorem splF_jn : ∀ (P : List (List UInt8)) (n : Nat), P ≠ [] → (∀ p, p ∈ P → rtB p = true) → (jn 32 P).length ≤ n → splF n (jn 32 P) = some (P.map fun p => (false, p))
  | [], _, h, _, _ => absurd rfl h
  | [p], n, _, hp, hn => by
    have hr := hp p (List.mem_cons_self ..)
    have h' := rtB_yes.1 hr
    show splF n p = _
    have hn' : p.length ≤ n := hn
    cases p with
    | nil => exact absurd rfl h'.1
    | cons c r =>
      have hc : c ≠ 34 := fun e => h'.2.1.2 (by rw [e]; exact List.mem_cons_self ..)
      have hf : fend (c :: r) = (c :: r).length := by rw [fend_u r hc, uend_all h'.2.1.1]
      cases n with
      | zero => simp at hn'
      | succ n =>
        rw [splF, hf, List.take_length, List.drop_length, fld1_rt hr]
        rfl
  | p :: q :: P, n, _, hp, hn => by
    have hr := hp p (List.mem_cons_self ..)
    have h' := rtB_yes.1 hr
    have ih := splF_jn (q :: P) (n - 1) (by simp) (fun a ha => hp a (List.mem_cons_of_mem _ ha))
    rw [jn_cons (by simp)] at hn ⊢
    rw [List.length_append, List.length_cons] at hn
    have hj : jn 32 (q :: P) ≠ [] := by
      have hq := (rtB_yes.1 (hp q (by simp))).1
      cases P with
      | nil => exact hq
      | cons a b => rw [jn_cons (by simp)]; simp
    have ih := ih (by omega)
    generalize jn 32 (q :: P) = J at ih hj hn
    cases p with
    | nil => exact absurd rfl h'.1
    | cons c r =>
      have hc : c ≠ 34 := fun e => h'.2.1.2 (by rw [e]; exact List.mem_cons_self ..)
      have hf : fend (c :: r ++ 32 :: J) = (c :: r).length := by
        rw [List.cons_append, fend_u _ hc, ← List.cons_append, uend_take h'.2.1.1]
      cases n with
      | zero => simp at hn
      | succ n =>
        rw [List.cons_append, splF, ← List.cons_append, hf, List.take_left' rfl, List.drop_left' rfl, fld1_rt hr]
        dsimp only
        cases J with
        | nil => exact absurd rfl hj
        | cons e t =>
          dsimp only
          rw [if_pos rfl]
          rw [Nat.add_sub_cancel] at ih
          rw [ih]
          rfl
/-- a line whose fields are all unquoted is these, joined -/
theorem splF_un : ∀ (n : Nat) (l : List UInt8) (fs : List Fl), splF n l = some fs → (∀ x, x ∈ fs → x.1 = false) → l = jn 32 (fs.map (·.2)) ∧ (∀ x, x ∈ fs → rtB x.2 = true) ∧ (l ≠ [] → fs ≠ [])
  | n, [], fs, h, _ => by
    rw [splF_nil] at h
    cases h
    exact ⟨rfl, by simp, fun h => absurd rfl h⟩
  | 0, c :: r, fs, h, _ => by cases h
  | n + 1, c :: r, fs, h, hu => by
    rw [splF] at h
    cases hx : fld1 ((c :: r).take (fend (c :: r))) with
    | none => rw [hx] at h; cases h
    | some x =>
      obtain ⟨f1, f2, _⟩ := fld1_some hx
      rw [hx] at h
      dsimp only at h
      have htd := List.take_append_drop (fend (c :: r)) (c :: r)
      have key : x.1 = false → rtB x.2 = true ∧ x.2 = (c :: r).take (fend (c :: r)) := fun e => by
        unfold flB at f1
        rw [e] at f1
        exact ⟨f1, f2 e⟩
      cases hd : (c :: r).drop (fend (c :: r)) with
      | nil =>
        rw [hd] at h htd
        cases h
        obtain ⟨k1, k2⟩ := key (hu x (by simp))
        refine ⟨?_, fun y hy => by rw [List.mem_singleton.1 hy]; exact k1, fun _ => by simp⟩
        show _ = x.2
        rw [List.append_nil] at htd
        rw [k2]; exact htd.symm
      | cons d t =>
        cases t with
        | nil => rw [hd] at h; cases h
        | cons e t =>
          rw [hd] at h htd
          dsimp only at h
          by_cases h32 : d = 32
          · subst h32
            rw [if_pos rfl] at h
            cases hs : splF n (e :: t) with
            | none => rw [hs] at h; cases h
            | some gs =>
              rw [hs] at h
              cases h
              obtain ⟨k1, k2⟩ := key (hu x (by simp))
              obtain ⟨i1, i2, i3⟩ := splF_un n (e :: t) gs hs (fun y hy => hu y (List.mem_cons_of_mem _ hy))
              refine ⟨?_, fun y hy => ?_, fun _ => by simp⟩
              · rw [List.map_cons, jn_cons (by simpa using i3 (by simp)), ← i1, k2]
                exact htd.symm
              · rcases List.mem_cons.1 hy with rfl | hy
                · exact k1
                · exact i2 y hy
          · rw [if_neg h32] at h; cases h
end Go.Proofs.YthmknaoelmeniaaGreatDoor
