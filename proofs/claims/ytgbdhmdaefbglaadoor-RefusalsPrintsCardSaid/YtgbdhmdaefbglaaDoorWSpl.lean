/- Words: a text cut at each instance of one byte. No program. -/
import Derived.Lib.SplitLaws
namespace Go.Proofs.YtgbdhmdaefbglaaDoor

/-- the pieces between the bytes c -/
def spl (c : UInt8) : List UInt8 → List (List UInt8)
  | [] => [[]]
  | x :: r => if x = c then [] :: spl c r else (x :: (spl c r).headD []) :: (spl c r).tail
theorem spl_nil (c : UInt8) : spl c [] = [[]] := rfl
theorem spl_ne (c : UInt8) (l : List UInt8) : spl c l ≠ [] := by
  cases l with
  | nil => simp [spl]
  | cons x r =>
    rw [spl]
    split <;> simp
theorem spl_hit (c : UInt8) (r : List UInt8) : spl c (c :: r) = [] :: spl c r := by rw [spl, if_pos rfl]
theorem spl_miss {c x : UInt8} {r : List UInt8} (h : x ≠ c) : spl c (x :: r) = (x :: (spl c r).headD []) :: (spl c r).tail := by rw [spl, if_neg h]
theorem hd_mem {l : List (List UInt8)} (h : l ≠ []) : l.headD [] ∈ l := by
  cases l with
  | nil => exact absurd rfl h
  | cons p q => exact List.mem_cons_self ..
/-- a text without the byte is one piece -/
theorem spl_one {c : UInt8} : ∀ {l : List UInt8}, c ∉ l → spl c l = [l]
  | [], _ => rfl
  | x :: r, h => by
    have h1 : x ≠ c := fun e => h (by rw [e]; exact List.mem_cons_self ..)
    have h2 := spl_one (l := r) (fun k => h (List.mem_cons_of_mem _ k))
    rw [spl_miss h1]
    simp [h2]
theorem spl_cut {c : UInt8} : ∀ {a r : List UInt8}, c ∉ a → spl c (a ++ c :: r) = a :: spl c r
  | [], r, _ => by rw [List.nil_append, spl_hit]
  | x :: a, r, h => by
    have h1 : x ≠ c := fun e => h (by rw [e]; exact List.mem_cons_self ..)
    have h2 := spl_cut (a := a) (r := r) (fun k => h (List.mem_cons_of_mem _ k))
    rw [List.cons_append, spl_miss h1]
    simp [h2]
theorem spl_mem {c : UInt8} : ∀ {l p : List UInt8}, p ∈ spl c l → c ∉ p
  | [], p, h => by
    rw [spl_nil] at h
    have : p = [] := by simpa using h
    subst this; simp
  | x :: r, p, h => by
    by_cases e : x = c
    · subst e
      rw [spl_hit] at h
      rcases List.mem_cons.1 h with rfl | h
      · simp
      · exact spl_mem h
    · rw [spl_miss e] at h
      rcases List.mem_cons.1 h with rfl | h
      · intro k
        rcases List.mem_cons.1 k with k | k
        · exact e k.symm
        · exact spl_mem (hd_mem (spl_ne c r)) k
      · exact spl_mem (List.mem_of_mem_tail h)
/-- the pieces, joined -/
def jn (c : UInt8) : List (List UInt8) → List UInt8
  | [] => []
  | [p] => p
  | p :: q :: r => p ++ c :: jn c (q :: r)
theorem jn_cons {c : UInt8} {p : List UInt8} {l : List (List UInt8)} (h : l ≠ []) : jn c (p :: l) = p ++ c :: jn c l := by
  cases l with
  | nil => exact absurd rfl h
  | cons q r => rfl
theorem jn_spl (c : UInt8) : ∀ l : List UInt8, jn c (spl c l) = l
  | [] => rfl
  | x :: r => by
    have ih := jn_spl c r
    by_cases e : x = c
    · subst e; rw [spl_hit, jn_cons (spl_ne x r), ih]; rfl
    · rw [spl_miss e]
      have hn := spl_ne c r
      cases hs : spl c r with
      | nil => exact absurd hs hn
      | cons p q =>
        rw [hs] at ih
        simp only [List.headD_cons, List.tail_cons]
        cases q with
        | nil =>
          rw [show jn c [p] = p from rfl] at ih
          rw [show jn c [x :: p] = x :: p from rfl, ih]
        | cons q1 q2 =>
          rw [jn_cons (by simp)] at ih ⊢
          rw [List.cons_append, ih]
theorem spl_jn {c : UInt8} : ∀ {l : List (List UInt8)}, l ≠ [] → (∀ p, p ∈ l → c ∉ p) → spl c (jn c l) = l
  | [], h, _ => absurd rfl h
  | [p], _, h => spl_one (h p (List.mem_cons_self ..))
  | p :: q :: r, _, h => by
    rw [jn_cons (by simp), spl_cut (h p (List.mem_cons_self ..)), spl_jn (by simp) (fun a ha => h a (List.mem_cons_of_mem _ ha))]
theorem spl_len (c : UInt8) : ∀ l : List UInt8, (spl c l).length = l.count c + 1
  | [] => rfl
  | x :: r => by
    have ih := spl_len c r
    by_cases e : x = c
    · subst e; rw [spl_hit, List.length_cons, ih, List.count_cons_self]
    · rw [spl_miss e, List.length_cons, List.length_tail, ih, List.count_cons_of_ne (by simpa using e)]; omega
/-- the kit's own cutting, at one byte -/
theorem splK_one (c : UInt8) : ∀ (n : Nat) (l : List UInt8), l.length ≤ n → Lib.splitK [c] 0 (Lib.count l [c]) l = spl c l
  | n, l, hn => by
    by_cases hm : c ∈ l
    · obtain ⟨a, r, rfl, ha⟩ := cut_first hm
      have hix : Lib.index (a ++ c :: r) [c] = (a.length : Int) := ix_cut ha
      have hd : (a ++ c :: r).drop (a.length + 1) = r := by rw [List.drop_append]; simp
      have hct : Lib.count (a ++ c :: r) [c] = Lib.count r [c] + 1 := by
        rw [Lib.count_hit (by simp) hix]
        rw [List.length_singleton, hd, Nat.add_comm]
      rw [hct, Lib.splitK, if_neg (by rw [hix]; simp), hix, Int.toNat_natCast, List.length_singleton, hd, spl_cut ha]
      congr 1
      · simp
      · match n, hn with
        | 0, hn => simp at hn
        | n + 1, hn => exact splK_one c n r (by simp at hn; omega)
    · have hix : Lib.index l [c] = -1 := ix_none hm
      rw [Lib.count_miss hix, Lib.splitK, spl_one hm]
where
  cut_first {c : UInt8} : ∀ {l : List UInt8}, c ∈ l → ∃ a r, l = a ++ c :: r ∧ c ∉ a
    | [], h => by cases h
    | x :: l, h => by
      by_cases e : x = c
      · subst e; exact ⟨[], l, rfl, by simp⟩
      · obtain ⟨a, r, e1, e2⟩ := cut_first (l := l) ((List.mem_cons.1 h).resolve_left (fun k => e k.symm))
        exact ⟨x :: a, r, by rw [e1]; rfl, fun k => (List.mem_cons.1 k).elim (fun k => e k.symm) e2⟩
  ix_cut {c : UInt8} {r : List UInt8} : ∀ {a : List UInt8}, c ∉ a → Lib.index (a ++ c :: r) [c] = (a.length : Int)
    | [], _ => by rw [List.nil_append, Lib.index]; simp [List.isPrefixOf]
    | x :: a, h => by
      have hx : x ≠ c := fun e => h (by rw [e]; exact List.mem_cons_self ..)
      have ih := ix_cut (r := r) (a := a) (fun k => h (List.mem_cons_of_mem _ k))
      have hp : ([c] : List UInt8).isPrefixOf (x :: (a ++ c :: r)) = false := by simp [List.isPrefixOf, Ne.symm hx]
      rw [List.cons_append, Lib.index, hp, ih]
      have : ((a.length : Int) == -1) = false := by simp
      rw [this]; simp
  ix_none {c : UInt8} : ∀ {l : List UInt8}, c ∉ l → Lib.index l [c] = -1
    | [], _ => rfl
    | x :: l, h => by
      have hx : x ≠ c := fun e => h (by rw [e]; exact List.mem_cons_self ..)
      have ih := ix_none (l := l) (fun k => h (List.mem_cons_of_mem _ k))
      have hp : ([c] : List UInt8).isPrefixOf (x :: l) = false := by simp [List.isPrefixOf, Ne.symm hx]
      rw [Lib.index, hp, ih]; rfl
theorem splB_one (c : UInt8) (s : ByteArray) : (Lib.splitB ⟨#[c]⟩ 0 (Lib.countB s ⟨#[c]⟩) s).map (·.data.toList) = spl c s.data.toList := by
  rw [Lib.splitB_data]
  exact splK_one c _ _ (Nat.le_refl _)
theorem cntB_one (c : UInt8) (s : ByteArray) : Lib.countB s ⟨#[c]⟩ = s.data.toList.count c := Lib.count_one c _
/-- the lines of a text -/
def lnsE (l : List UInt8) : Int := if 1048576 < l.length then 3 else if l = [] then 0 else if l.getLast? ≠ some 10 then 6 else if 5000 < l.count 10 then 3 else 0
def lnsL (l : List UInt8) : List (List UInt8) := if lnsE l ≠ 0 ∨ l = [] then [] else spl 10 l.dropLast
end Go.Proofs.YtgbdhmdaefbglaaDoor
