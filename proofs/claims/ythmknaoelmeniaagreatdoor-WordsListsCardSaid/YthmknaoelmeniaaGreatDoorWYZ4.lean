/- Words: Lines of the reference. | Words: numbers as digits are compared as digits. No program. | Words: what stands between blanks that are not within quotations. No program. | Words: strings.IndexFunc with the function that finds the end of a field, whose state lies in memory. | Words: strings.IndexRune at the two bytes that part an item. | Words: strings.IndexAny at the two bytes that part an item. -/
import Derived.Test.YthmknaoelmeniaaGreatDoorWYZ3
import Derived.Test.YthmknaoelmeniaaGreatDoorWYZ2
import Derived.Lib.SpaceUEq
import Derived.Laws.RangeAny
import Derived.Lib.OthersKept
import Derived.Deep.LoopGhost
import Derived.Laws.Runes
import Derived.WalkMore
namespace Go.Proofs.YthmknaoelmeniaaGreatDoor
open Go.RowKit Go.Sort Go.Joins
attribute [local go_sem] cell_grow frozen_grow size_grow

/-- texts as cells -/
def sts (X : List ByteArray) : List (List UInt8) := X.map (·.data.toList)
theorem sts_len (X : List ByteArray) : (sts X).length = X.length := by unfold sts; rw [List.length_map]
theorem sts_snoc (X : List ByteArray) (x : ByteArray) : sts (X ++ [x]) = sts X ++ [x.data.toList] := by unfold sts; simp
theorem stv_snoc (X : List ByteArray) (x : ByteArray) : (X ++ [x]).map Value.string = X.map Value.string ++ [.string x] := by simp
theorem SlT.of_own {w : World} {base len cap : Nat} {e : TypeId} {a : Option Addr} {X : List ByteArray} (h : w.ownsRow base e 1 (.slice a len cap) X.length (X.map Value.string)) : SlT w a (sts X) := by
  by_cases h0 : X.length = 0
  · left
    have : X = [] := List.length_eq_zero_iff.1 h0
    rw [this]; rfl
  · obtain ⟨g, cap', hv⟩ := ownsRow_form h (by omega)
    cases hv
    refine .inr ⟨g, 0, rfl, fun j hj => ?_⟩
    rw [sts_len] at hj
    have c0 := h.cellAt j (by omega)
    rw [List.getElem?_map, List.getElem?_eq_getElem hj] at c0
    refine ⟨X[j], ?_, ?_⟩
    · rw [Nat.zero_add]; exact c0
    · unfold sts
      rw [List.getD_eq_getElem?_getD, List.getElem?_map, List.getElem?_eq_getElem hj]; rfl
theorem info_str : (Tryz.prog.info? 9).map (fun i => (i.zero, i.size, i.bytes)) = some (some (.string ⟨#[]⟩), 1, 16) := by kernel_rfl
theorem spl_snoc (c : UInt8) : ∀ l : List UInt8, spl c (l ++ [c]) = spl c l ++ [[]]
  | [] => by rw [List.nil_append, spl_hit, spl_nil]; rfl
  | x :: r => by
    have ih := spl_snoc c r
    by_cases e : x = c
    · subst e; rw [List.cons_append, spl_hit, spl_hit, ih]; rfl
    · rw [List.cons_append, spl_miss e, spl_miss e, ih]
      cases hs : spl c r with
      | nil => exact absurd hs (spl_ne c r)
      | cons p q => rfl
/-- the piece that ends at k -/
theorem spl_piece {L : List UInt8} {f k : Nat} (hf : f ≤ k) (hk : k < L.length) (h : ∀ j, f ≤ j → j < k → bt L j ≠ 10) (h10 : bt L k = 10) : spl 10 (L.drop f) = (L.drop f).take (k - f) :: spl 10 (L.drop (k + 1)) := by
  have e : L.drop f = (L.drop f).take (k - f) ++ 10 :: L.drop (k + 1) := by
    conv => lhs; rw [← List.take_append_drop (k - f) (L.drop f)]
    rw [List.drop_drop, show f + (k - f) = k by omega, drop_bt hk, h10]
  have hno : (10 : UInt8) ∉ (L.drop f).take (k - f) := by
    intro hm
    obtain ⟨i, hi⟩ := List.mem_iff_getElem?.1 hm
    have hik : i < k - f := by
      rcases Nat.lt_or_ge i (k - f) with h' | h'
      · exact h'
      · rw [List.getElem?_eq_none (by rw [List.length_take]; omega)] at hi; cases hi
    rw [List.getElem?_take, if_pos hik, List.getElem?_drop, bt_at (by omega)] at hi
    exact h (f + i) (by omega) (by omega) (Option.some.inj hi)
  conv => lhs; rw [e]
  exact spl_cut hno
theorem lns_long {l : List UInt8} (h : 1048576 < l.length) : lnsE l = 3 ∧ lnsL l = [] := by
  have he : lnsE l = 3 := by unfold lnsE; rw [if_pos h]
  exact ⟨he, by unfold lnsL; rw [if_pos (.inl (by rw [he]; decide))]⟩
theorem lns_nil : lnsE [] = 0 ∧ lnsL [] = [] := ⟨rfl, rfl⟩
theorem lns_form {l : List UInt8} (h : ¬ 1048576 < l.length) (h0 : l ≠ []) (h1 : l.getLast? ≠ some 10) : lnsE l = 6 ∧ lnsL l = [] := by
  have he : lnsE l = 6 := by unfold lnsE; rw [if_neg h, if_neg h0, if_pos h1]
  exact ⟨he, by unfold lnsL; rw [if_pos (.inl (by rw [he]; decide))]⟩
theorem lns_split {l : List UInt8} (h : ¬ 1048576 < l.length) (h1 : l.getLast? = some 10) {P : List (List UInt8)} (hP : spl 10 l = P ++ [[]]) :
    (5000 < P.length → lnsE l = 3 ∧ lnsL l = []) ∧ (¬ 5000 < P.length → lnsE l = 0 ∧ lnsL l = P) := by
  have h0 : l ≠ [] := by rintro rfl; cases h1
  have hd : l = l.dropLast ++ [10] := by
    rw [List.getLast?_eq_some_getLast h0] at h1
    rw [← Option.some.inj h1]
    exact (List.dropLast_concat_getLast h0).symm
  have hs : spl 10 l.dropLast = P := by
    rw [hd, spl_snoc] at hP
    exact List.append_cancel_right hP
  have hc : l.count 10 = P.length := by
    have := spl_len 10 l
    rw [hP, List.length_append, List.length_singleton] at this
    omega
  constructor
  · intro h5
    have he : lnsE l = 3 := by unfold lnsE; rw [if_neg h, if_neg h0, if_neg (by simp [h1]), if_pos (by rw [hc]; exact h5)]
    exact ⟨he, by unfold lnsL; rw [if_pos (.inl (by rw [he]; decide))]⟩
  · intro h5
    have he : lnsE l = 0 := by unfold lnsE; rw [if_neg h, if_neg h0, if_neg (by simp [h1]), if_neg (by rw [hc]; exact h5)]
    exact ⟨he, by unfold lnsL; rw [if_neg (by rintro (h | h); exact h he; exact h0 h)]; exact hs⟩
/-- what Lines hands back -/
def LnPost (w : World) (ls : List (List UInt8)) (E : Int) (x : Ending) (w' : World) : Prop :=
  ∃ a c, x = .returned (.tuple #[.slice a ls.length c, .int .i64 E]) ∧ SlT w' a ls ∧ Below w.heap.size w w'
theorem LnPost.none {w w' : World} {E : Int} (h : Below w.heap.size w w') : LnPost w [] E (.returned (.tuple #[.slice none 0 0, .int .i64 E])) w' := ⟨_, _, rfl, .inl rfl, h⟩
theorem last_bt {L : List UInt8} {m : Nat} (h : L.length = m + 1) : L.getLast? = some (bt L m) := by
  rw [List.getLast?_eq_getElem?, h, ← bt_at (by omega)]; rfl
end Go.Proofs.YthmknaoelmeniaaGreatDoor

namespace Go.Proofs.YthmknaoelmeniaaGreatDoor

theorem valN_step {a b : List UInt8} : ∀ {x y : Nat}, a.length = b.length → a.all dgC = true → b.all dgC = true → x < y → valN x a < valN y b := by
  intro x y hl ha hb hxy
  have h1 := valN_lt a x ha
  have h2 := valN_pow b y
  have h3 : (x + 1) * 10 ^ a.length ≤ y * 10 ^ b.length := by rw [hl]; exact Nat.mul_le_mul_right _ hxy
  omega
theorem u8_lt {c d : UInt8} : c < d ↔ c.toNat < d.toNat := UInt8.lt_iff_toNat_lt
theorem valN_lex : ∀ {a b : List UInt8} (x : Nat), a.length = b.length → a.all dgC = true → b.all dgC = true → (valN x a < valN x b ↔ a < b)
  | [], [], x, _, _, _ => by simp [valN_nil, List.lt_irrefl]
  | c :: a, d :: b, x, hl, ha, hb => by
    simp only [List.all_cons, Bool.and_eq_true] at ha hb
    have hc := dgC_yes.1 ha.1
    have hd := dgC_yes.1 hb.1
    have hl' : a.length = b.length := by simpa using hl
    rw [valN_cons, valN_cons, List.cons_lt_cons_iff, u8_lt]
    rcases Nat.lt_trichotomy c.toNat d.toNat with h | h | h
    · constructor
      · intro _; exact .inl h
      · intro _; exact valN_step hl' ha.2 hb.2 (by omega)
    · have e : c = d := UInt8.toNat_inj.1 h
      subst e
      rw [valN_lex _ hl' ha.2 hb.2]
      simp
    · constructor
      · intro hh
        have := valN_step hl'.symm hb.2 ha.2 (show 10 * x + (d.toNat - 48) < 10 * x + (c.toNat - 48) by omega)
        omega
      · rintro (hh | ⟨rfl, _⟩)
        · omega
        · omega
/-- is the first one less? -/
def lessB (a b : List UInt8) : Bool := decide (a.length < b.length) || (decide (a.length = b.length) && decide (a < b))
theorem natB_less {a b : List UInt8} (ha : natB a = true) (hb : natB b = true) : lessB a b = decide (valN 0 a < valN 0 b) := by
  have key : ∀ {a b : List UInt8}, natB a = true → natB b = true → a.length < b.length → valN 0 a < valN 0 b := by
    intro a b ha hb h
    have h0 := List.length_pos_iff.2 (natB_ne ha)
    have h1 := valN_lt a 0 (natB_dig ha)
    have h2 := val_big (natB_dig hb) (natB_ne hb) (natB_head hb (by omega))
    have h3 : 10 ^ a.length ≤ 10 ^ (b.length - 1) := Nat.pow_le_pow_right (by decide) (by omega)
    omega
  unfold lessB
  rcases Nat.lt_trichotomy a.length b.length with h | h | h
  · rw [decide_eq_true h, decide_eq_true (key ha hb h)]; rfl
  · rw [decide_eq_false (by omega), decide_eq_true h]
    rw [Bool.false_or, Bool.true_and, Bool.eq_iff_iff, decide_eq_true_eq, decide_eq_true_eq]
    exact (valN_lex 0 h (natB_dig ha) (natB_dig hb)).symm
  · have h1 : ¬ a.length < b.length := by omega
    have h2 : ¬ a.length = b.length := by omega
    have h3 : ¬ valN 0 a < valN 0 b := by have := key hb ha h; omega
    simp [h1, h2, h3]
/-- a number as the program reads it: great ones as more than each limit -/
def CAP : Nat := 1099511627776
def natV (l : List UInt8) : Int := if natB l = true then (min (valN 0 l) CAP : Nat) else 0
theorem natB_neg {l : List UInt8} (h : wholeB l = true) (hn : natB l = false) : ngB l = true ∧ valZ l ≤ 0 := by
  cases hg : ngB l
  · unfold wholeB absL at h
    rw [hg] at h
    simp [hn] at h
  · refine ⟨rfl, ?_⟩
    unfold valZ
    rw [hg, if_pos rfl]
    omega
/-- the ways in which a number is read -/
theorem nat_ways (l : List UInt8) : (natB l = true ∧ intE l 0 1099511627776 = 0 ∧ intV l 0 1099511627776 = natV l) ∨
    (natB l = true ∧ intE l 0 1099511627776 = 7 ∧ natV l = 1099511627776 ∧ l.head? ≠ some 45 ∧ l ≠ []) ∨
    (natB l = false ∧ intE l 0 1099511627776 = 7 ∧ l.head? = some 45 ∧ intV l 0 1099511627776 = 0) ∨
    (natB l = false ∧ intE l 0 1099511627776 ≠ 0 ∧ intE l 0 1099511627776 ≠ 7 ∧ intV l 0 1099511627776 = 0) := by
  cases hn : natB l
  · cases hw : wholeB l
    · right; right; right
      have h6 := intE_form (l := l) (lo := 0) (hi := 1099511627776) (by decide) hw
      exact ⟨rfl, by rw [h6]; decide, by rw [h6]; decide, intV_no (by rw [h6]; decide)⟩
    · obtain ⟨g1, g2⟩ := natB_neg hw hn
      have hz : valZ l ≠ 0 := by
        intro e
        have := itoa_valZ hw
        rw [e] at this
        rw [← this] at hn
        exact absurd hn (by rw [show Lib.itoa 0 = Lib.decDigits 0 from Lib.itoa_nonneg 0, dec_natB]; simp)
      have h7 : intE l 0 1099511627776 = 7 := by rw [intE_whole (by decide) hw, if_neg (by omega)]
      right; right; left
      refine ⟨rfl, h7, ?_, intV_no (by rw [h7]; decide)⟩
      unfold ngB at g1
      simpa using g1
  · have hw := whole_nat hn
    have hv := valZ_nat hn
    by_cases hle : valN 0 l ≤ CAP
    · left
      unfold CAP at hle
      have h0 : intE l 0 1099511627776 = 0 := by rw [intE_whole (by decide) hw, hv, if_pos (by omega)]
      refine ⟨rfl, h0, ?_⟩
      rw [intV_ok h0, hv]
      unfold natV CAP
      rw [if_pos hn]; omega
    · right; left
      unfold CAP at hle
      have h7 : intE l 0 1099511627776 = 7 := by rw [intE_whole (by decide) hw, hv, if_neg (by omega)]
      refine ⟨rfl, h7, ?_, ?_, natB_ne hn⟩
      · unfold natV CAP
        rw [if_pos hn]; omega
      · intro e
        have hg := ngB_dig (natB_dig hn)
        unfold ngB at hg
        rw [e] at hg
        simp at hg
/-- where an item is parted, as IndexAny says it -/
def ixA (l : List UInt8) : Int := if pcut l < l.length then (pcut l : Int) else -1
theorem pcut_cons (c : UInt8) (r : List UInt8) : pcut (c :: r) = if c = 45 ∨ c = 120 then 0 else 1 + pcut r := by
  unfold pcut
  rw [List.findIdx_cons]
  by_cases h : c = 45 ∨ c = 120
  · rw [if_pos h]
    have : (decide (c = 45) || decide (c = 120)) = true := by simpa using h
    rw [this]; rfl
  · rw [if_neg h]
    have : (decide (c = 45) || decide (c = 120)) = false := by
      rw [Bool.eq_false_iff]; simpa using h
    rw [this, Nat.add_comm]; rfl
theorem pcut_nil : pcut [] = 0 := rfl
end Go.Proofs.YthmknaoelmeniaaGreatDoor

namespace Go.Proofs.YthmknaoelmeniaaGreatDoor

/-- how far the first piece goes (the state: within a quotation?) -/
def cut : Bool → List UInt8 → Nat
  | _, [] => 0
  | b, c :: r => if c = 34 then 1 + cut (!b) r else if c = 32 ∧ b = false then 0 else 1 + cut b r
theorem cut_q (b : Bool) (r : List UInt8) : cut b (34 :: r) = 1 + cut (!b) r := by rw [cut, if_pos rfl]
theorem cut_b (r : List UInt8) : cut false (32 :: r) = 0 := by rw [cut, if_neg (by decide), if_pos ⟨rfl, rfl⟩]
theorem cut_in (r : List UInt8) : cut true (32 :: r) = 1 + cut true r := by rw [cut, if_neg (by decide), if_neg (by simp)]
theorem cut_c (b : Bool) {c : UInt8} (r : List UInt8) (h1 : c ≠ 34) (h2 : c ≠ 32) : cut b (c :: r) = 1 + cut b r := by rw [cut, if_neg h1, if_neg (fun h => h2 h.1)]
theorem cut_le : ∀ (l : List UInt8) (b : Bool), cut b l ≤ l.length
  | [], _ => Nat.le_refl _
  | c :: r, b => by
    rw [cut, List.length_cons]
    split
    · have := cut_le r (!b); omega
    · split
      · omega
      · have := cut_le r b; omega
/-- there is a blank -/
theorem cut_at : ∀ (l : List UInt8) (b : Bool), cut b l < l.length → l[cut b l]? = some 32
  | [], _, h => by simp [cut] at h
  | c :: r, b, h => by
    rw [cut] at h ⊢
    rw [List.length_cons] at h
    split at h
    · rename_i hc
      rw [if_pos hc, Nat.add_comm, List.getElem?_cons_succ]
      exact cut_at r _ (by omega)
    · rename_i hc
      rw [if_neg hc]
      split at h
      · rename_i h2
        rw [if_pos h2, List.getElem?_cons_zero, h2.1]
      · rename_i h2
        rw [if_neg h2, Nat.add_comm, List.getElem?_cons_succ]
        exact cut_at r _ (by omega)
theorem cut_split {l : List UInt8} (h : cut false l < l.length) : l = l.take (cut false l) ++ 32 :: l.drop (cut false l + 1) := by
  have h1 := cut_at l false h
  have h2 : l[cut false l] = 32 := by
    rw [List.getElem?_eq_getElem h] at h1
    exact Option.some.inj h1
  conv => lhs; rw [← List.take_append_drop (cut false l) l]
  rw [← List.getElem_cons_drop h, h2]
theorem cut_plain : ∀ (t r : List UInt8), (34 : UInt8) ∉ t → (32 : UInt8) ∉ t → cut false (t ++ r) = t.length + cut false r
  | [], r, _, _ => by simp
  | c :: t, r, h1, h2 => by
    have k1 : c ≠ 34 := fun e => h1 (by rw [e]; exact List.mem_cons_self ..)
    have k2 : c ≠ 32 := fun e => h2 (by rw [e]; exact List.mem_cons_self ..)
    rw [List.cons_append, cut_c _ _ k1 k2, cut_plain t r (fun k => h1 (List.mem_cons_of_mem _ k)) (fun k => h2 (List.mem_cons_of_mem _ k)), List.length_cons]
    omega
theorem cut_dbl : ∀ (u r : List UInt8), cut true (dbl u ++ 34 :: r) = (dbl u).length + 1 + cut false r
  | [], r => by rw [dbl_nil, List.nil_append, cut_q]; simp
  | c :: u, r => by
    have ih := cut_dbl u r
    by_cases h : c = 34
    · subst h
      rw [dbl_q, List.cons_append, List.cons_append, cut_q, cut_q]
      simp only [Bool.not_true, Bool.not_false, List.length_cons]
      rw [ih]; omega
    · rw [dbl_c _ h, List.cons_append, List.length_cons]
      by_cases h2 : c = 32
      · subst h2; rw [cut_in, ih]; omega
      · rw [cut_c _ _ h h2, ih]; omega
theorem qend_dbl : ∀ (u r : List UInt8), r.head? ≠ some 34 → qend (dbl u ++ 34 :: r) = (dbl u).length + 1
  | [], r, h => by
    rw [dbl_nil, List.nil_append]
    cases r with
    | nil => rfl
    | cons d t => rw [qend_e t (by simpa using h)]; rfl
  | c :: u, r, h => by
    have ih := qend_dbl u r h
    by_cases hc : c = 34
    · subst hc
      rw [dbl_q, List.cons_append, List.cons_append, qend_q, ih]
      simp only [List.length_cons]; omega
    · rw [dbl_c _ hc, List.cons_append, qend_c _ hc, ih, List.length_cons]; omega
theorem fld1_ne {x : Fl} : fld1 [] ≠ some x := by
  unfold fld1
  rw [if_neg (by simp)]
  have : rtB [] = false := rfl
  rw [this]; simp
/-- a piece that is a field is what the reference takes -/
theorem fend_of {p r : List UInt8} {x : Fl} (h : fld1 p = some x) (hr : r = [] ∨ ∃ R, r = 32 :: R) : fend (p ++ r) = p.length := by
  obtain ⟨h1, h2, h3⟩ := fld1_some h
  unfold flB at h1
  cases hx : x.1
  · rw [hx] at h1
    have hp := h2 hx
    rw [hp] at h1
    obtain ⟨g0, ⟨g1, g2⟩, _⟩ := rtB_yes.1 h1
    cases p with
    | nil => exact absurd rfl g0
    | cons c t =>
      have hc : c ≠ 34 := fun e => g2 (by rw [e]; exact List.mem_cons_self ..)
      rw [List.cons_append, fend_u _ hc, ← List.cons_append]
      rcases hr with rfl | ⟨R, rfl⟩
      · rw [List.append_nil, uend_all g1]
      · rw [uend_take g1]
  · have hp := h3 hx
    rw [← hp]
    unfold qtL
    have hr' : r.head? ≠ some 34 := by
      rcases hr with rfl | ⟨R, rfl⟩
      · simp
      · simp
    have := qend_dbl x.2 r hr'
    rw [List.cons_append, fend_q, List.append_assoc, List.singleton_append, this]
    simp; omega
/-- and what the reference takes is a piece -/
theorem cut_of {l : List UInt8} {x : Fl} (h : fld1 (l.take (fend l)) = some x) (hr : l.drop (fend l) = [] ∨ ∃ R, l.drop (fend l) = 32 :: R) : cut false l = fend l := by
  obtain ⟨h1, h2, h3⟩ := fld1_some h
  have hl := List.take_append_drop (fend l) l
  have hlen : (l.take (fend l)).length = fend l := by rw [List.length_take]; have := fend_le l; omega
  have hz : cut false (l.drop (fend l)) = 0 := by
    rcases hr with e | ⟨R, e⟩
    · rw [e]; rfl
    · rw [e]; exact cut_b R
  unfold flB at h1
  cases hx : x.1
  · rw [hx] at h1
    have hp := h2 hx
    rw [hp] at h1
    obtain ⟨_, ⟨g1, g2⟩, _⟩ := rtB_yes.1 h1
    have := cut_plain _ (l.drop (fend l)) g2 g1
    rw [hl, hz, hlen] at this
    exact this
  · have hp := h3 hx
    have := cut_dbl x.2 (l.drop (fend l))
    rw [hz] at this
    have h5 : l = 34 :: (dbl x.2 ++ 34 :: l.drop (fend l)) := by
      conv => lhs; rw [← hl, ← hp]
      unfold qtL; simp
    have h6 : fend l = (dbl x.2).length + 2 := by
      rw [← hlen, ← hp]; unfold qtL; simp
    rw [h6]
    conv => lhs; rw [h5]
    rw [cut_q]
    show 1 + cut true _ = _
    rw [this]; omega
/-- the pieces of a line (the number: more than its length) -/
def pcs : Nat → List UInt8 → List (List UInt8)
  | 0, l => [l]
  | n + 1, l => if cut false l < l.length then l.take (cut false l) :: pcs n (l.drop (cut false l + 1)) else [l]
def pcsL (l : List UInt8) : List (List UInt8) := pcs l.length l
theorem pcs_more : ∀ (n m : Nat) (l : List UInt8), l.length ≤ n → l.length ≤ m → pcs n l = pcs m l
  | 0, 0, _, _, _ => rfl
  | 0, m + 1, l, h, _ => by
    have : l = [] := List.length_eq_zero_iff.1 (by omega)
    subst this
    rw [pcs, pcs, if_neg (by simp)]
  | n + 1, 0, l, _, h => by
    have : l = [] := List.length_eq_zero_iff.1 (by omega)
    subst this
    rw [pcs, pcs, if_neg (by simp)]
  | n + 1, m + 1, l, h1, h2 => by
    rw [pcs, pcs]
    by_cases h : cut false l < l.length
    · rw [if_pos h, if_pos h, pcs_more n m _ (by rw [List.length_drop]; omega) (by rw [List.length_drop]; omega)]
    · rw [if_neg h, if_neg h]
theorem pcsL_end {l : List UInt8} (h : ¬ cut false l < l.length) : pcsL l = [l] := by
  unfold pcsL
  cases hn : l.length with
  | zero => rfl
  | succ n => rw [pcs, if_neg h]
theorem pcsL_cut {l : List UInt8} (h : cut false l < l.length) : pcsL l = l.take (cut false l) :: pcsL (l.drop (cut false l + 1)) := by
  unfold pcsL
  cases hn : l.length with
  | zero => omega
  | succ n =>
    rw [pcs, if_pos h]
    congr 1
    refine pcs_more n _ _ ?_ (Nat.le_refl _)
    rw [List.length_drop]; omega
/-- the pieces as fields; none: one is none -/
def fldM : List (List UInt8) → Option (List Fl)
  | [] => some []
  | p :: P => match fld1 p with
    | none => none
    | some x => (fldM P).map (x :: ·)
theorem fldM_snoc : ∀ (P : List (List UInt8)) (p : List UInt8), fldM (P ++ [p]) = (fldM P).bind fun xs => (fld1 p).map fun x => xs ++ [x]
  | [], p => by
    have h : fldM [p] = (fld1 p).map fun x => [x] := by rw [fldM]; cases fld1 p <;> rfl
    show fldM [p] = _
    rw [h]
    cases fld1 p <;> rfl
  | q :: P, p => by
    rw [List.cons_append, fldM, fldM_snoc P p, fldM]
    cases fld1 q with
    | none => rfl
    | some y =>
      cases fldM P with
      | none => rfl
      | some xs =>
        cases fld1 p with
        | none => rfl
        | some x => rfl
theorem fldM_bad : ∀ {P : List (List UInt8)} {p : List UInt8}, p ∈ P → fld1 p = none → fldM P = none
  | q :: P, p, hm, h => by
    rw [fldM]
    rcases List.mem_cons.1 hm with rfl | hm
    · rw [h]
    · rw [fldM_bad hm h]
      cases fld1 q <;> rfl
/-- the fields of a line are its pieces -/
theorem spl_pcs (n : Nat) : ∀ l : List UInt8, l.length ≤ n → l ≠ [] → splT l = fldM (pcsL l) := by
  induction n with
  | zero => intro l h h0; exact absurd (List.length_eq_zero_iff.1 (by omega)) h0
  | succ n ih =>
    intro l hn h0
    have hone : ∀ p, fldM [p] = (fld1 p).map fun x => [x] := fun p => by
      rw [fldM]; cases fld1 p <;> rfl
    have hlc : ∃ c r, l = c :: r := by cases l with
      | nil => exact absurd rfl h0
      | cons c r => exact ⟨c, r, rfl⟩
    have hst : splT l = match fld1 (l.take (fend l)) with
        | none => none
        | some x =>
          match l.drop (fend l) with
          | [] => some [x]
          | [_] => none
          | d :: e :: t => if d = 32 then (splT (e :: t)).map (x :: ·) else none := by
      obtain ⟨c, r, rfl⟩ := hlc
      exact splT_cons c r
    by_cases hc : cut false l < l.length
    · have hs := cut_split hc
      obtain ⟨p, hp⟩ : ∃ p, l.take (cut false l) = p := ⟨_, rfl⟩
      obtain ⟨R, hR⟩ : ∃ R, l.drop (cut false l + 1) = R := ⟨_, rfl⟩
      rw [hp, hR] at hs
      rw [pcsL_cut hc, hp, hR, fldM]
      have hRl : R.length ≤ n := by rw [← hR, List.length_drop]; omega
      cases hx : fld1 p with
      | some x =>
        have hf := fend_of hx (r := 32 :: R) (.inr ⟨R, rfl⟩)
        rw [← hs] at hf
        rw [hst, hf]
        have ht : l.take p.length = p := by rw [hs]; exact List.take_left' rfl
        have hd : l.drop p.length = 32 :: R := by rw [hs]; exact List.drop_left' rfl
        rw [ht, hd, hx]
        dsimp only
        cases hRc : R with
        | nil =>
          rw [pcsL_end (by simp), hone]
          cases hy : fld1 [] with
          | none => rfl
          | some y => exact absurd hy fld1_ne
        | cons e t =>
          dsimp only
          rw [if_pos rfl, ← hRc, ih R hRl (by rw [hRc]; simp)]
      | none =>
        dsimp only
        rw [hst]
        cases hy : fld1 (l.take (fend l)) with
        | none => rfl
        | some y =>
          dsimp only
          have key : (l.drop (fend l) = [] ∨ ∃ R, l.drop (fend l) = 32 :: R) → False := fun h => by
            have := cut_of hy h
            rw [← this, hp, hx] at hy
            cases hy
          cases hd : l.drop (fend l) with
          | nil => exact (key (.inl hd)).elim
          | cons d t =>
            cases t with
            | nil => rfl
            | cons e t =>
              dsimp only
              by_cases h32 : d = 32
              · exact (key (.inr ⟨_, by rw [hd, h32]⟩)).elim
              · rw [if_neg h32]
    · rw [pcsL_end hc, hone]
      cases hx : fld1 l with
      | some x =>
        have hf := fend_of hx (r := []) (.inl rfl)
        rw [List.append_nil] at hf
        rw [hst, hf, List.take_length, List.drop_length, hx]
        rfl
      | none =>
        rw [hst]
        cases hy : fld1 (l.take (fend l)) with
        | none => rfl
        | some y =>
          dsimp only
          have key : (l.drop (fend l) = [] ∨ ∃ R, l.drop (fend l) = 32 :: R) → False := fun h => by
            have h1 := cut_of hy h
            have h2 := cut_le l false
            have h3 : fend l = l.length := by omega
            rw [h3, List.take_length, hx] at hy
            cases hy
          cases hd : l.drop (fend l) with
          | nil => exact (key (.inl hd)).elim
          | cons d t =>
            cases t with
            | nil => rfl
            | cons e t =>
              dsimp only
              by_cases h32 : d = 32
              · exact (key (.inr ⟨_, by rw [hd, h32]⟩)).elim
              · rw [if_neg h32]; rfl
end Go.Proofs.YthmknaoelmeniaaGreatDoor

namespace Go.Proofs.YthmknaoelmeniaaGreatDoor
open Go.RowKit Go.Sort Go.Joins Go.Shelf
attribute [local go_sem] cell_grow frozen_grow size_grow

/-- a rune's bytes -/
theorem rune_bytes (s : ByteArray) (L : List UInt8) (hL : s.data.toList = L) (pos : Nat) (h : pos < s.size) :
    ((bt L pos).toNat < 128 ∧ Utf8.decode s pos = ((bt L pos).toNat, 1)) ∨
    (128 ≤ (Utf8.decode s pos).1 ∧ 1 ≤ (Utf8.decode s pos).2 ∧ pos + (Utf8.decode s pos).2 ≤ s.size ∧ ∀ j, pos ≤ j → j < pos + (Utf8.decode s pos).2 → 128 ≤ (bt L j).toNat) := by
  have hb := bt_get hL h
  by_cases ha : (bt L pos).toNat < 128
  · left
    refine ⟨ha, ?_⟩
    have := decode_ascii s pos h (by rw [hb]; exact ha)
    rw [hb] at this
    exact this
  · right
    have h1 := decode_high s pos h (by rw [hb]; omega)
    have hlen := len_of hL
    have hN := Lib.decode_N s pos
    rw [hL] at hN
    have hc := Lib.decodeN_conts (L.length - pos) (L.getD pos 0).toNat (L.getD (pos + 1) 0).toNat (L.getD (pos + 2) 0).toNat (L.getD (pos + 3) 0).toNat
    rw [← hN] at hc
    obtain ⟨c2, c3, c4, c5⟩ := hc
    refine ⟨h1.1, h1.2, by omega, fun j j1 j2 => ?_⟩
    have e : ∀ k, (bt L k).toNat = (L.getD k 0).toNat := fun _ => rfl
    rcases (show j = pos ∨ j = pos + 1 ∨ j = pos + 2 ∨ j = pos + 3 by omega) with rfl | rfl | rfl | rfl
    · omega
    · rw [e]; have := (c2 (by omega)).1; omega
    · rw [e]; have := (c3 (by omega)).1; omega
    · rw [e]; have := (c4 (by omega)).1; omega
/-- bytes that mean nothing are passed over -/
theorem cut_pass {L : List UInt8} (b : Bool) : ∀ (k pos : Nat), pos + k ≤ L.length → (∀ j, pos ≤ j → j < pos + k → 128 ≤ (bt L j).toNat) → cut b (L.drop pos) = k + cut b (L.drop (pos + k))
  | 0, pos, _, _ => by simp
  | k + 1, pos, h, hj => by
    have ih := cut_pass b k (pos + 1) (by omega) (fun j a c => hj j (by omega) (by omega))
    rw [drop_bt (by omega : pos < L.length)]
    have hc := hj pos (Nat.le_refl _) (by omega)
    have h1 : bt L pos ≠ 34 := fun e => by rw [e] at hc; exact absurd hc (by decide)
    have h2 : bt L pos ≠ 32 := fun e => by rw [e] at hc; exact absurd hc (by decide)
    rw [cut_c _ _ h1 h2, ih, show pos + 1 + k = pos + (k + 1) by omega]
    omega
/-- the box of the state -/
abbrev WB (W : World) (q : Nat) (b : Bool) : Prop := W.heap[q]? = some (.cells #[.bool b] 4 (0, 0))
/-- of what lay below B only that box may have turned -/
structure Own1 (B q : Nat) (W W' : World) : Prop where
  os : W'.os = W.os
  tape : W'.tape = W.tape
  output : W'.output = W.output
  size : W.heap.size ≤ W'.heap.size
  block : ∀ k, k < B → k ≠ q → W'.heap[k]? = W.heap[k]?
theorem Own1.refl (B q : Nat) (W : World) : Own1 B q W W := ⟨rfl, rfl, rfl, Nat.le_refl _, fun _ _ _ => rfl⟩
theorem Own1.trans {B q : Nat} {X Y Z : World} (h : Own1 B q X Y) (k : Own1 B q Y Z) : Own1 B q X Z :=
  ⟨k.os.trans h.os, k.tape.trans h.tape, k.output.trans h.output, Nat.le_trans h.size k.size, fun i hi hn => (k.block i hi hn).trans (h.block i hi hn)⟩
theorem Own1.mono {B B' q : Nat} {X Y : World} (h : Own1 B' q X Y) (hB : B ≤ B') : Own1 B q X Y := ⟨h.os, h.tape, h.output, h.size, fun i hi hn => h.block i (by omega) hn⟩
theorem Own1.below {B q : Nat} {W W' : World} (h : Below B W W') : Own1 B q W W' := ⟨h.os, h.tape, h.output, h.size, fun k hk _ => h.block k hk⟩
theorem Own1.set {B q : Nat} (W : World) (v : Value) : Own1 B q W (W.setCell ⟨q, 0, none⟩ v) := by
  have hb := (Below.refl 0 W).setCell (p := ⟨q, 0, none⟩) (Nat.zero_le _) v
  exact ⟨hb.os, hb.tape, hb.output, hb.size, fun i _ hn => Below.heap_setCell _ _ _ _ hn⟩
theorem Own1.grown {q : Nat} {W W' : World} (h : Own1 W.heap.size q W W') : W.grownBy W' (some q) := ⟨h.os, h.tape, h.output, h.size, fun k hk hn => h.block k hk (fun e => hn (by rw [e]))⟩
set_option maxRecDepth 100000 in
theorem ends_ok (q : Nat) (b : Bool) (R : Nat) (W : World) (h : WB W q b) : Calls Tryz.prog 43 #[.int .i32 (R : Int), .pointer (some ⟨q, 0, none⟩)] W fun e w' =>
    e = .returned (.bool (decide (R = 32) && !b)) ∧ WB w' q (if R = 34 then !b else b) ∧ Own1 W.heap.size q W w' ∧ W.heap.size = w'.heap.size := by
  have c0 : W.cell? ⟨q, 0, none⟩ = some (.bool b) := by rw [cell_of_block h]; rfl
  have f0 := unfrozen_of_block h 0
  have l0 := blk_lt h
  have HW := Lib.hid h
  clear h
  by_cases h34 : R = 34
  · subst h34
    cases b
    all_goals
      go_enter Tryz.func43, Tryz.ntmps43
      go_wp2
      go_ret
      exact ⟨rfl, (setCell_block HW.out _).trans (by simp), Own1.set _ _, by simp⟩
  · rw [if_neg h34]
    have d1 : ((R : Int) == 34) = false := beq_eq_false_iff_ne.2 (by omega)
    by_cases h32 : R = 32
    · subst h32
      cases b
      all_goals
        go_enter Tryz.func43, Tryz.ntmps43
        go_wp2
        go_ret
        exact ⟨rfl, HW.out, Own1.refl _ _ _, rfl⟩
    · have d2 : ((R : Int) == 32) = false := beq_eq_false_iff_ne.2 (by omega)
      rw [decide_eq_false h32]
      cases b
      all_goals
        go_enter Tryz.func43, Tryz.ntmps43
        go_wp2
        go_ret
        exact ⟨rfl, HW.out, Own1.refl _ _ _, rfl⟩
/-- what IndexFunc finds -/
def ixC (b : Bool) (l : List UInt8) : Int := if cut b l < l.length then (cut b l : Int) else -1
set_option maxRecDepth 1000000 in
set_option maxHeartbeats 4000000 in
theorem indexFunc_ok (s : ByteArray) (L : List UInt8) (hL : s.data.toList = L) (q : Nat) (b : Bool) (w : World) (h : WB w q b) :
    Calls Tryz.prog 60 #[.string s, .func (.func 43) #[] #[.pointer (some ⟨q, 0, none⟩)], .bool true] w fun e w' =>
      e = .returned (.int .i64 (ixC b L)) ∧ (∃ b', WB w' q b' ∧ (cut b L < L.length → b' = false)) ∧ Own1 w.heap.size q w w' := by
  have hlen := len_of hL
  have HW := Lib.hid h
  have HL := Lib.hid hL
  clear h hL
  go_enter Tryz.func60, Tryz.ntmps60
  go_wp2
  go_loopg [] s.size (fun gf wx => ∃ (pos : Nat) (b' : Bool), pos ≤ s.size ∧ wx.heap[w.heap.size]? = some (.stringIter s pos) ∧ WB wx q b' ∧ Own1 w.heap.size q w wx ∧ cut b L = pos + cut b' (L.drop pos) ∧ s.size ≤ pos + gf)
  case atStart =>
    have bI := (Below.refl _ w).alloc (Nat.le_refl _) (.stringIter s 0)
    exact ⟨0, b, Nat.zero_le _, World.iter_heap w s 0, (bI.block _ (blk_lt HW.out)).trans HW.out, .below bI, by simp, by omega⟩
  case round =>
    obtain ⟨pos, b', hpl, hit, hwb, hown, hcut, hfu⟩ := hrel
    have hql : q < w.heap.size := blk_lt HW.out
    by_cases hps : pos < s.size
    · obtain ⟨g', rfl⟩ : ∃ g', gk = g' + 1 := ⟨gk - 1, by omega⟩
      have hnx : ∀ ty, (Instr.next (.pointer (some ⟨w.heap.size, 0, none⟩)) true ty).run Tryz.prog wr = _ := fun ty => Lib.run_next_any_at wr w.heap.size s pos ty hit hps
      have hrb := rune_bytes s L HL.out pos hps
      obtain ⟨R, hR⟩ : ∃ R, (Utf8.decode s pos).1 = R := ⟨_, rfl⟩
      obtain ⟨K, hK⟩ : ∃ K, (Utf8.decode s pos).2 = K := ⟨_, rfl⟩
      rw [hR, hK] at hnx
      have hrk : Utf8.decode s pos = (R, K) := by rw [← hR, ← hK]
      rw [hrk] at hrb
      have hit2 := Lib.iterAt_heap wr w.heap.size s pos (pos + K) hit
      have hbw2 := Lib.below_iterAt (Below.refl w.heap.size wr) (k := w.heap.size) (Nat.le_refl _) s (pos + K)
      obtain ⟨W, hWd⟩ : ∃ W, wr.iterAt w.heap.size s (pos + K) = W := ⟨_, rfl⟩
      rw [hWd] at hnx hit2 hbw2
      have hltW : w.heap.size < W.heap.size := (Array.getElem?_eq_some_iff.1 hit2).1
      have hwb2 : WB W q b' := (hbw2.block _ hql).trans hwb
      have hown2 := hown.trans (.below hbw2)
      have HE := Lib.hid (ends_ok q b' R W hwb2)
      -- what the rune says of the first piece
      have hway : (decide (R = 32) && !b') = true ∧ cut b L = pos ∨ (decide (R = 32) && !b') = false ∧ pos + K ≤ s.size ∧ cut b L = pos + K + cut (if R = 34 then !b' else b') (L.drop (pos + K)) := by
        rcases hrb with ⟨ha, e⟩ | ⟨h1, h2, h3, h4⟩
        · obtain ⟨rfl, rfl⟩ := Prod.mk.inj e
          rw [drop_bt (by omega : pos < L.length)] at hcut
          have hq : ((bt L pos).toNat = 34) = (bt L pos = 34) := propext ⟨fun h => UInt8.toNat_inj.1 h, fun h => by rw [h]; rfl⟩
          have hbl : ((bt L pos).toNat = 32) = (bt L pos = 32) := propext ⟨fun h => UInt8.toNat_inj.1 h, fun h => by rw [h]; rfl⟩
          simp only [hq, hbl]
          by_cases k1 : bt L pos = 34
          · right
            rw [k1, cut_q] at hcut
            rw [if_pos k1, k1]
            exact ⟨by simp, by omega, by omega⟩
          · rw [if_neg k1]
            by_cases k2 : bt L pos = 32
            · cases b'
              · left
                rw [k2, cut_b] at hcut
                exact ⟨by rw [k2]; simp, by omega⟩
              · right
                rw [k2, cut_in] at hcut
                exact ⟨by simp, by omega, by omega⟩
            · right
              rw [cut_c _ _ k1 k2] at hcut
              exact ⟨by simp [k2], by omega, by omega⟩
        · right
          dsimp only at h1 h2 h3 h4
          have := cut_pass b' K pos (by omega) h4
          rw [if_neg (by omega)]
          exact ⟨by rw [decide_eq_false (by omega)]; rfl, h3, by omega⟩
      have hKp : 1 ≤ K := by rcases hrb with ⟨_, e⟩ | ⟨_, h2, _⟩; · cases e; exact Nat.le_refl _
                             · exact h2
      obtain ⟨nb, hnb⟩ : ∃ x, (if R = 34 then !b' else b') = x := ⟨_, rfl⟩
      have hnbf : (decide (R = 32) && !b') = true → nb = false := fun h => by
        rw [← hnb]
        simp only [Bool.and_eq_true, decide_eq_true_eq, Bool.not_eq_true'] at h
        rw [if_neg (by omega)]; exact h.2
      obtain ⟨rr, hrr⟩ : ∃ x, (decide (R = 32) && !b') = x := ⟨_, rfl⟩
      rw [hnb] at HE hway
      rw [hrr] at HE hway hnbf
      have HWAY := Lib.hid hway
      have HOWN := Lib.hid hown2
      have HIT := Lib.hid hit2
      have HNB := Lib.hid hnbf
      clear hway hown2 hit2 hnbf hcut hrb hit hwb hown hbw2 hwb2 hR hK hrk hWd hnb hrr
      cases rr
      · go_wp2_with (go_at_call 43; refine HE.out.mono ?_; rintro e W' ⟨rfl, hw', ho', hs'⟩)
        go_roundg g'
        case measure => omega
        case rel =>
          have hwy := HWAY.out.resolve_left (fun h => by cases h.1)
          exact ⟨pos + K, nb, hwy.2.1, (ho'.block _ hltW (by omega)).trans HIT.out, hw', HOWN.out.trans (ho'.mono (by have := HOWN.out.size; omega)), hwy.2.2, by omega⟩
      · go_wp2_with (go_at_call 43; refine HE.out.mono ?_; rintro e W' ⟨rfl, hw', ho', hs'⟩)
        go_ret
        have hwy := HWAY.out.resolve_right (fun h => by cases h.1)
        refine ⟨?_, ⟨nb, hw', fun _ => HNB.out (by first | trivial | rfl)⟩, HOWN.out.trans (ho'.mono (by have := HOWN.out.size; omega))⟩
        unfold ixC
        rw [hwy.2, if_pos (by omega)]
        rfl
    · have hnx : ∀ ty, (Instr.next (.pointer (some ⟨w.heap.size, 0, none⟩)) true ty).run Tryz.prog wr = _ := fun ty => Lib.run_next_end_at wr w.heap.size s pos ty hit hps
      have hc0 : cut b L = L.length := by
        rw [hcut, List.drop_eq_nil_of_le (by omega)]
        show pos + 0 = _
        omega
      have HX : Hid (ixC b L = -1) := Lib.hid (by unfold ixC; rw [hc0, if_neg (Nat.lt_irrefl _)])
      have HWB := Lib.hid hwb
      have HOWN := Lib.hid hown
      have HC0 := Lib.hid hc0
      clear hwb hown hc0 hcut
      go_wp2
      go_ret
      exact ⟨by rw [HX.out]; rfl, ⟨b', HWB.out, fun h => by rw [HC0.out] at h; omega⟩, HOWN.out⟩
set_option maxRecDepth 100000 in
theorem indexFuncT_ok (s : ByteArray) (L : List UInt8) (hL : s.data.toList = L) (q : Nat) (b : Bool) (w : World) (h : WB w q b) :
    Calls Tryz.prog 45 #[.string s, .func (.func 43) #[] #[.pointer (some ⟨q, 0, none⟩)]] w fun e w' =>
      e = .returned (.int .i64 (ixC b L)) ∧ (∃ b', WB w' q b' ∧ (cut b L < L.length → b' = false)) ∧ Own1 w.heap.size q w w' := by
  have HI := Lib.hid (indexFunc_ok s L hL q b w h)
  clear hL h
  go_enter Tryz.func45, Tryz.ntmps45
  go_wp2_with fail
  refine HI.out.mono ?_
  rintro e w1 ⟨rfl, hb, ho⟩
  have HBO := Lib.hid (And.intro hb ho)
  clear hb ho
  go_wp2_with fail
  go_ret
  exact ⟨rfl, HBO.out.1, HBO.out.2⟩
end Go.Proofs.YthmknaoelmeniaaGreatDoor

namespace Go.Proofs.YthmknaoelmeniaaGreatDoor
open Go.RowKit Go.Sort Go.Joins Go.Shelf
attribute [local go_sem] cell_grow frozen_grow size_grow

abbrev dashX : ByteArray := ⟨#[45, 120]⟩
set_option maxRecDepth 100000 in
set_option maxHeartbeats 3200000 in
theorem ixr_gen (X : ByteArray) (hXs : X.size = 2) (hX1 : ∀ h : 1 < X.size, (X[1]'h).toNat = 120) (hXd : ∀ pos, pos < 2 → Utf8.decode X pos = ((if pos = 0 then 45 else 120), 1)) (R : Nat) (h0 : 128 ≤ R) (h1 : R ≤ 1114111) (w : World) :
    Calls Tryz.prog 53 #[.string X, .int .i32 (R : Int)] w fun e w' => e = .returned (.int .i64 (-1)) ∧ Below w.heap.size w w' := by
  have d0 : decide ((0 : Int) ≤ (R : Int)) = true := decide_eq_true (by omega)
  have d1 : decide ((R : Int) < 128) = false := decide_eq_false (by omega)
  by_cases hE : R = 65533
  · subst hE
    go_enter Tryz.func53, Tryz.ntmps53
    go_wp2
    go_loopg [] 2 (fun gf wx => ∃ pos : Nat, pos ≤ 2 ∧ wx.heap[w.heap.size]? = some (.stringIter X pos) ∧ Below w.heap.size w wx ∧ 2 ≤ pos + gf)
    case atStart => exact ⟨0, Nat.zero_le _, World.iter_heap w X 0, (Below.refl _ w).alloc (Nat.le_refl _) _, by omega⟩
    case round =>
      obtain ⟨pos, hpl, hit, hbw, hfu⟩ := hrel
      by_cases hps : pos < 2
      · obtain ⟨g', rfl⟩ : ∃ g', gk = g' + 1 := ⟨gk - 1, by omega⟩
        have hnx : ∀ ty, (Instr.next (.pointer (some ⟨w.heap.size, 0, none⟩)) true ty).run Tryz.prog wr = _ := fun ty => Lib.run_next_any_at wr w.heap.size X pos ty hit (by omega)
        have hdec := hXd pos hps
        rw [hdec] at hnx
        have hit2 := Lib.iterAt_heap wr w.heap.size X pos (pos + 1) hit
        have hbw2 := Lib.below_iterAt hbw (k := w.heap.size) (Nat.le_refl _) X (pos + 1)
        obtain ⟨R, hR⟩ : ∃ R : Nat, (if pos = 0 then 45 else 120) = R := ⟨_, rfl⟩
        have hRb : R < 128 := by rw [← hR]; split <;> decide
        rw [hR] at hnx
        dsimp only at hnx
        obtain ⟨W, hWd⟩ : ∃ W, wr.iterAt w.heap.size X (pos + 1) = W := ⟨_, rfl⟩
        rw [hWd] at hnx hit2 hbw2
        have d3 : ((R : Int) == 65533) = false := beq_eq_false_iff_ne.2 (by omega)
        have HI := Lib.hid hit2
        have HB := Lib.hid hbw2
        clear hdec hit hbw hR hWd hit2 hbw2
        go_wp2
        go_roundg g'
        case measure => omega
        case rel => exact ⟨pos + 1, by omega, HI.out, HB.out, by omega⟩
      · have hnx : ∀ ty, (Instr.next (.pointer (some ⟨w.heap.size, 0, none⟩)) true ty).run Tryz.prog wr = _ := fun ty => Lib.run_next_end_at wr w.heap.size X pos ty hit (by omega)
        have HB := Lib.hid hbw
        clear hbw
        go_wp2
        go_ret
        exact ⟨rfl, HB.out⟩
  · have d2 : ((R : Int) == 65533) = false := beq_eq_false_iff_ne.2 (by omega)
    have hV := fun W => Tryz.utf8_ValidRune (R : Int) W
    go_enter Tryz.func53, Tryz.ntmps53
    go_wp2_with fail
    refine (hV _).mono ?_
    rintro e w1 ⟨rfl, hw1⟩
    subst hw1
    cases hv : Lib.validRune (R : Int)
    · go_wp2_with fail
      go_ret
      exact ⟨rfl, Below.refl _ _⟩
    · have hv2 : Utf8.valid (R : Int) = true := by
        unfold Lib.validRune at hv
        unfold Utf8.valid
        simp only [decide_eq_true_eq] at hv
        simp only [Bool.or_eq_true, Bool.and_eq_true, decide_eq_true_eq]
        omega
      obtain ⟨e1, e2, e3⟩ := encode_facts (R : Int) hv2 (by omega)
      obtain ⟨E, hE⟩ : ∃ E, Utf8.encode (R : Int) = E := ⟨_, rfl⟩
      rw [hE] at e1 e2 e3
      have e4 := e3 (by omega)
      have hsz : (E.size : Int) - 1 = ((E.size - 1 : Nat) : Int) := by omega
      have hlt : E.size - 1 < E.size := by omega
      have hix2 : ∀ (c : Int) (w : World), Calls Tryz.prog 65 #[.string ByteArray.empty, .int .u8 c] w fun e w' => e = .returned (.int .i64 (-1)) ∧ w' = w := Tryz.strings_IndexByte ByteArray.empty
      by_cases h2 : E.size = 2
      · have hE1 : E.size - 1 = 1 := by omega
        obtain ⟨B, hB⟩ : ∃ B, E[E.size - 1].toNat = B := ⟨_, rfl⟩
        rw [hB] at e4
        simp only [hE1] at hB
        have dne : ((120 : Int) != (B : Int)) = true := bne_iff_ne.2 (by omega)
        have hs2 : (E.size : Int) = 2 := by omega
        have hb2 : ∀ h : 1 < E.size, (E[1]'h).toNat = B := fun _ => hB
        clear e3 hsz hB hlt hE1
        go_wp2_with fail
        go_step3
        go_wp2_with fail
        go_loopw [9, 10] (fun i f wr => i = .int .i64 1 ∧ f = .int .i64 0 ∧ w1 = wr) (fun _ _ _ => 0)
        case atStart => exact ⟨rfl, rfl, rfl⟩
        case round =>
          obtain ⟨rfl, rfl, rfl⟩ := hrel
          have h12 : 1 < E.size := by omega
          have hX1s : 1 < X.size := by omega
          have hX2 := hX1 hX1s
          have hx22 : 2 ≤ X.size := by omega
          have hb3 := hb2 h12
          clear hb2
          go_wp2_with fail
          go_step3
          go_wp2_with fail
          go_quiet (fail)
          go_wp2_with fail
          have HBn := Lib.hid (below_draw w1 nq)
          obtain ⟨w2, hw2⟩ : ∃ w2, w1.drewN nq = w2 := ⟨_, rfl⟩
          rw [hw2] at HBn ⊢
          clear hw2
          go_quiet ((go_at_call 65; exact Calls.quiet_of_same (hix2 _ _)))
          go_wp2_with fail
          rw [Exit.noGoto_ret]
          dsimp +zetaDelta only [Exit.inBlock, Exit.then]
          rw [Exit.noGoto_ret]
          go_ret
          exact ⟨rfl, HBn.out.trans ((below_draw _ _).mono HBn.out.size)⟩
      · have hge : decide (((E.size - 1 : Nat) : Int) < 2) = false := decide_eq_false (by omega)
        clear e3
        go_wp2_with fail
        go_step3
        go_wp2_with fail
        go_loopw [9, 10] (fun i f wr => i = .int .i64 ((E.size - 1 : Nat) : Int) ∧ f = .int .i64 0 ∧ w1 = wr) (fun _ _ _ => 0)
        case atStart => exact ⟨rfl, rfl, rfl⟩
        case round =>
          obtain ⟨rfl, rfl, rfl⟩ := hrel
          go_wp2_with fail
          rw [Exit.noGoto_ret]
          go_ret
          exact ⟨rfl, Below.refl _ _⟩
theorem ixr_high (R : Nat) (h0 : 128 ≤ R) (h1 : R ≤ 1114111) (w : World) :
    Calls Tryz.prog 53 #[.string dashX, .int .i32 (R : Int)] w fun e w' => e = .returned (.int .i64 (-1)) ∧ Below w.heap.size w w' :=
  ixr_gen dashX rfl (fun _ => rfl) (fun pos h => by rcases (show pos = 0 ∨ pos = 1 by omega) with rfl | rfl <;> decide +kernel) R h0 h1 w
theorem u8_ofN (R : Nat) (h : R < 256) (c : UInt8) : ((R : Int).toNat.toUInt8 = c) = (R = c.toNat) := by
  rw [Int.toNat_natCast]
  refine propext ⟨fun h' => ?_, fun h' => ?_⟩
  · rw [← h']; show R = (R.toUInt8).toNat; rw [Nat.toUInt8_eq, UInt8.toNat_ofNat']; omega
  · apply UInt8.toNat_inj.1; rw [Nat.toUInt8_eq, UInt8.toNat_ofNat', ← h']; omega
/-- what IndexRune finds among the two bytes -/
def ixR (R : Nat) : Int := if R = 45 then 0 else if R = 120 then 1 else -1
theorem ixr_ok (R : Nat) (h1 : R ≤ 1114111) (w : World) :
    Calls Tryz.prog 53 #[.string dashX, .int .i32 (R : Int)] w fun e w' => e = .returned (.int .i64 (ixR R)) ∧ Below w.heap.size w w' := by
  by_cases h : R < 128
  · refine (Tryz.strings_IndexRune_ascii dashX (R : Int) w (by omega) (by omega)).mono ?_
    rintro e w' ⟨rfl, hw⟩
    rw [hw]
    refine ⟨?_, Below.refl _ _⟩
    have hx : Lib.indexByte [45, 120] (R : Int).toNat.toUInt8 = ixR R := by
      unfold ixR Lib.indexByte Lib.indexByte Lib.indexByte
      have e1 := u8_ofN R (by omega) 45
      have e2 := u8_ofN R (by omega) 120
      rw [show (45 : UInt8).toNat = 45 from rfl] at e1
      rw [show (120 : UInt8).toNat = 120 from rfl] at e2
      by_cases k1 : R = 45
      · subst k1; decide
      · by_cases k2 : R = 120
        · subst k2; decide
        · rw [if_neg k1, if_neg k2]
          have n1 : (R : Int).toNat.toUInt8 ≠ 45 := fun e => k1 (e1 ▸ e)
          have n2 : (R : Int).toNat.toUInt8 ≠ 120 := fun e => k2 (e2 ▸ e)
          have m1 : ¬ (45 : UInt8) = UInt8.ofNat R := by intro e; apply n1; rw [Int.toNat_natCast]; exact e.symm
          have m2 : ¬ (120 : UInt8) = UInt8.ofNat R := by intro e; apply n2; rw [Int.toNat_natCast]; exact e.symm
          simp [m1, m2]
    show Ending.returned (.int .i64 (Lib.indexByte [45, 120] (R : Int).toNat.toUInt8)) = _
    rw [hx]
  · refine (ixr_high R (by omega) h1 w).mono ?_
    rintro e w' ⟨rfl, hb⟩
    refine ⟨?_, hb⟩
    unfold ixR
    rw [if_neg (by omega), if_neg (by omega)]
end Go.Proofs.YthmknaoelmeniaaGreatDoor

namespace Go.Proofs.YthmknaoelmeniaaGreatDoor
open Go.RowKit Go.Sort Go.Joins Go.Shelf
attribute [local go_sem] cell_grow frozen_grow size_grow

theorem ixA_nil : ixA [] = -1 := rfl
theorem ixA_cons (b : UInt8) (l : List UInt8) : ixA (b :: l) = if b = 45 ∨ b = 120 then 0 else if ixA l = -1 then -1 else ixA l + 1 := by
  unfold ixA
  rw [pcut_cons, List.length_cons]
  by_cases h : b = 45 ∨ b = 120
  · rw [if_pos h, if_pos h, if_pos (by omega)]; rfl
  · rw [if_neg h, if_neg h]
    by_cases h2 : pcut l < l.length
    · rw [if_pos h2, if_pos (by omega), if_neg (by omega)]; omega
    · rw [if_neg h2, if_neg (by omega), if_pos rfl]
theorem ixA_lib : ∀ l : List UInt8, Lib.indexAny l [45, 120] = ixA l
  | [] => rfl
  | b :: l => by
    rw [Lib.indexAny, ixA_lib l, ixA_cons]
    by_cases h : b = 45 ∨ b = 120
    · have : ([45, 120] : List UInt8).contains b = true := by rcases h with rfl | rfl <;> rfl
      rw [this, if_pos h]; rfl
    · have : ([45, 120] : List UInt8).contains b = false := by
        rw [Bool.eq_false_iff]
        intro hc
        simp at hc
        exact h hc
      rw [this, if_neg h]
      by_cases h2 : ixA l = -1
      · rw [if_pos h2, h2]; rfl
      · rw [if_neg h2]
        have : (ixA l == -1) = false := beq_eq_false_iff_ne.2 h2
        rw [this]; rfl
theorem pcut_pass {L : List UInt8} : ∀ (k pos : Nat), pos + k ≤ L.length → (∀ j, pos ≤ j → j < pos + k → 128 ≤ (bt L j).toNat) → pcut (L.drop pos) = k + pcut (L.drop (pos + k))
  | 0, pos, _, _ => by simp
  | k + 1, pos, h, hj => by
    have ih := pcut_pass k (pos + 1) (by omega) (fun j a c => hj j (by omega) (by omega))
    rw [drop_bt (by omega : pos < L.length)]
    have hc := hj pos (Nat.le_refl _) (by omega)
    have h1 : ¬ (bt L pos = 45 ∨ bt L pos = 120) := by
      rintro (e | e)
      · rw [e] at hc; exact absurd hc (by decide)
      · rw [e] at hc; exact absurd hc (by decide)
    rw [pcut_cons, if_neg h1, ih, show pos + 1 + k = pos + (k + 1) by omega]
    omega
set_option maxRecDepth 1000000 in
set_option maxHeartbeats 4000000 in
theorem ixa_short (s : ByteArray) (L : List UInt8) (hL : s.data.toList = L) (h8 : s.size ≤ 8) (w : World) :
    Calls Tryz.prog 36 #[.string s, .string dashX] w fun e w' => e = .returned (.int .i64 (ixA L)) ∧ Below w.heap.size w w' := by
  have hlen := len_of hL
  have HL := Lib.hid hL
  have hSH := Tryz.strings_shouldUseASCIISet (s.size : Int)
  rw [decide_eq_false (by omega)] at hSH
  have hem : (dashX.toList == []) = false := by rw [Lib.toList_data]; rfl
  have hem2 : dashX.toList.isEmpty = false := by rw [Lib.toList_data]; rfl
  clear hL
  go_enter Tryz.func36, Tryz.ntmps36
  go_wp2_with fail
  refine (hSH _).mono ?_
  rintro e w1 ⟨rfl, hw1⟩
  subst hw1
  clear hSH
  go_wp2_with fail
  go_loopg [9, 10] s.size (fun gf _ _ wx => ∃ pos : Nat, pos ≤ s.size ∧ wx.heap[w1.heap.size]? = some (.stringIter s pos) ∧ Below w1.heap.size w1 wx ∧ pcut L = pos + pcut (L.drop pos) ∧ s.size ≤ pos + gf)
  case atStart => exact ⟨0, Nat.zero_le _, World.iter_heap w1 s 0, (Below.refl _ w1).alloc (Nat.le_refl _) _, by simp, by omega⟩
  case round =>
    obtain ⟨pos, hpl, hit, hbw, hcut, hfu⟩ := hrel
    by_cases hps : pos < s.size
    · obtain ⟨g', rfl⟩ : ∃ g', gk = g' + 1 := ⟨gk - 1, by omega⟩
      have hnx : ∀ ty, (Instr.next (.pointer (some ⟨w1.heap.size, 0, none⟩)) true ty).run Tryz.prog wr = _ := fun ty => Lib.run_next_any_at wr w1.heap.size s pos ty hit hps
      have hrb := rune_bytes s L HL.out pos hps
      have hle := Lib.rune_le s pos
      obtain ⟨R, hR⟩ : ∃ R, (Utf8.decode s pos).1 = R := ⟨_, rfl⟩
      obtain ⟨K, hK⟩ : ∃ K, (Utf8.decode s pos).2 = K := ⟨_, rfl⟩
      rw [hR, hK] at hnx
      rw [hR] at hle
      have hrk : Utf8.decode s pos = (R, K) := by rw [← hR, ← hK]
      rw [hrk] at hrb
      have hit2 := Lib.iterAt_heap wr w1.heap.size s pos (pos + K) hit
      have hbw2 := Lib.below_iterAt hbw (k := w1.heap.size) (Nat.le_refl _) s (pos + K)
      obtain ⟨W, hWd⟩ : ∃ W, wr.iterAt w1.heap.size s (pos + K) = W := ⟨_, rfl⟩
      rw [hWd] at hnx hit2 hbw2
      have hltW : w1.heap.size < W.heap.size := (Array.getElem?_eq_some_iff.1 hit2).1
      have HX := Lib.hid (ixr_ok R hle W)
      have hway : (0 ≤ ixR R ∧ pcut L = pos) ∨ (ixR R = -1 ∧ pos + K ≤ s.size ∧ 1 ≤ K ∧ pcut L = pos + K + pcut (L.drop (pos + K))) := by
        unfold ixR
        rcases hrb with ⟨ha, e⟩ | ⟨h1, h2, h3, h4⟩
        · obtain ⟨rfl, rfl⟩ := Prod.mk.inj e
          rw [drop_bt (by omega : pos < L.length), pcut_cons] at hcut
          have hq : ((bt L pos).toNat = 45) = (bt L pos = 45) := propext ⟨fun h => UInt8.toNat_inj.1 h, fun h => by rw [h]; rfl⟩
          have hbl : ((bt L pos).toNat = 120) = (bt L pos = 120) := propext ⟨fun h => UInt8.toNat_inj.1 h, fun h => by rw [h]; rfl⟩
          simp only [hq, hbl]
          by_cases k1 : bt L pos = 45
          · left
            rw [if_pos (.inl k1)] at hcut
            rw [if_pos k1]; omega
          · rw [if_neg k1]
            by_cases k2 : bt L pos = 120
            · left
              rw [if_pos (.inr k2)] at hcut
              rw [if_pos k2]; omega
            · right
              rw [if_neg (by rintro (k | k); exact k1 k; exact k2 k)] at hcut
              rw [if_neg k2]; omega
        · right
          dsimp only at h1 h2 h3 h4
          have := pcut_pass K pos (by omega) h4
          rw [if_neg (by omega), if_neg (by omega)]
          omega
      obtain ⟨x, hx⟩ : ∃ x, ixR R = x := ⟨_, rfl⟩
      rw [hx] at HX hway
      have HIT := Lib.hid hit2
      have HB := Lib.hid hbw2
      clear hcut hrb hit hbw hit2 hbw2 hR hK hrk hWd hx
      rcases hway with ⟨h0, hp⟩ | ⟨rfl, hp1, hp2, hp3⟩
      · have d0 : decide ((0 : Int) ≤ x) = true := decide_eq_true h0
        have HXA : Hid (ixA L = (pos : Int)) := Lib.hid (by unfold ixA; rw [hp, if_pos (by omega)])
        clear hp h0
        go_wp2_with fail
        refine HX.out.mono ?_
        rintro e w2 ⟨rfl, b2⟩
        have HB2 := Lib.hid (below_tr HB.out b2)
        clear b2
        go_wp2_with fail
        go_ret
        exact ⟨by rw [HXA.out]; rfl, HB2.out⟩
      · have d0 : decide ((0 : Int) ≤ -1) = false := rfl
        have HP := Lib.hid hp3
        clear hp3
        go_wp2_with fail
        refine HX.out.mono ?_
        rintro e w2 ⟨rfl, b2⟩
        have HB2 := Lib.hid (below_tr HB.out b2)
        have HIT2 := Lib.hid ((b2.block _ hltW).trans HIT.out)
        clear b2
        go_wp2_with fail
        go_roundg g'
        case measure => omega
        case rel => exact ⟨pos + K, hp1, HIT2.out, HB2.out, HP.out, by omega⟩
    · have hnx : ∀ ty, (Instr.next (.pointer (some ⟨w1.heap.size, 0, none⟩)) true ty).run Tryz.prog wr = _ := fun ty => Lib.run_next_end_at wr w1.heap.size s pos ty hit hps
      have hc0 : pcut L = L.length := by
        rw [hcut, List.drop_eq_nil_of_le (by omega), pcut_nil]
        omega
      have HX : Hid (ixA L = -1) := Lib.hid (by unfold ixA; rw [hc0, if_neg (Nat.lt_irrefl _)])
      have HB := Lib.hid hbw
      clear hbw hcut hc0
      go_wp2
      go_ret
      exact ⟨by rw [HX.out]; rfl, HB.out⟩
theorem ixa_ok (s : ByteArray) (L : List UInt8) (hL : s.data.toList = L) (hs : s.size ≤ 4294967280) (w : World) :
    Calls Tryz.prog 36 #[.string s, .string dashX] w fun e w' => e = .returned (.int .i64 (ixA L)) ∧ Below w.heap.size w w' := by
  by_cases h8 : s.size ≤ 8
  · exact ixa_short s L hL h8 w
  · refine (Tryz.strings_IndexAny_long (fun w => by kernel_rfl) s dashX w (by decide) (by omega) (by omega) (by decide) (by
      intro j b hb
      match j, hb with
      | 0, hb => cases hb; decide
      | 1, hb => cases hb; decide
      | j + 2, hb => cases hb)).mono ?_
    rintro e w' ⟨rfl, rfl⟩
    refine ⟨?_, ((Below.refl _ w).alloc (Nat.le_refl _) _).alloc (by simp) _⟩
    have : Lib.indexAny s.data.toList dashX.data.toList = ixA L := by rw [hL]; exact ixA_lib L
    rw [this]
end Go.Proofs.YthmknaoelmeniaaGreatDoor
