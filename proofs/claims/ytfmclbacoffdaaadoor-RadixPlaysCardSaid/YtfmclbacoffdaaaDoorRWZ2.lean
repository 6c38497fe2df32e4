/- The radix map, plain: the runs of pages with one description. | Regions that draw their order and only read, inside a fence, in a round as well: one walk of the text's order serves every order. No program. | The radix map: Runs: the runs of pages with one description, over Walk. | The radix map: what RadixWalks keeps while it walks and clears. | The radix map: RadixEmpty returns true. -/
import Derived.Test.YtfmclbacoffdaaaDoorRWZ1
import Derived.Laws.OwnMore
import Derived.Sort.QuietIn
import Derived.OwnWalkIn
import Derived.Test.YtfmclbacoffdaaaDoorRZ10
import Derived.Test.YtfmclbacoffdaaaDoorRSZ1
import Derived.Test.YtfmclbacoffdaaaDoorRSZ2
import Derived.Test.YtfmclbacoffdaaaDoorRSZ4
import Derived.Test.YtfmclbacoffdaaaDoorRSZ5
namespace Go.Proofs.YtfmclbacoffdaaaDoor
open Go.RowKit Go.Sort Go.Joins
/-- the numbers of a page's description -/
def dO (X : RM) (p : Nat) : Int := if getE X p = 0 then (if unE (wdI X.st p : Int) = 0 then unO (wdI X.st p : Int) else 0) else 0
def dS (X : RM) (p : Nat) : Int := if getE X p = 0 then (if unE (wdI X.st p : Int) = 0 then unS (wdI X.st p : Int) else 0) else 0
def dT (X : RM) (p : Nat) : Int := if getE X p = 0 then (if unE (wdI X.st p : Int) = 0 then unT (wdI X.st p : Int) else 0) else 0
def dH (X : RM) (p : Nat) : Bool := if getE X p = 0 then (if unE (wdI X.st p : Int) = 0 then unH (wdI X.st p : Int) else false) else false
theorem getV_d (X : RM) (p : Nat) : getV X p = dsV (dO X p) (dS X p) (dT X p) (dH X p) := by
  unfold getV dO dS dT dH
  by_cases c : getE X p = 0
  · simp only [if_pos c, Int.toNat_natCast]
    unfold unV
    by_cases d : unE (wdI X.st p : Int) = 0
    · simp only [if_pos d]
    · simp only [if_neg d]
  · simp only [if_neg c]
/-- have two pages the same description? -/
def dsame (X : RM) (f p : Nat) : Bool := dO X f == dO X p && (dS X f == dS X p && (dT X f == dT X p && dH X f == dH X p))
theorem dsame_iff (X : RM) (f p : Nat) : dsame X f p = true ↔ getV X f = getV X p := by
  rw [getV_d, getV_d]
  unfold dsame dsV
  simp
theorem dsame_of {X : RM} {f p : Nat} (h : wdI X.st f = wdI X.st p) (hf : f < 1024) (hp : p < 1024) : dsame X f p = true := by
  rw [dsame_iff]
  have e : getE X f = getE X p := by
    unfold getE
    rw [if_neg (show ¬ ((f : Int) < 0 ∨ 1023 < (f : Int)) by omega), if_neg (show ¬ ((p : Int) < 0 ∨ 1023 < (p : Int)) by omega), Int.toNat_natCast, Int.toNat_natCast, h]
  unfold getV
  rw [e, Int.toNat_natCast, Int.toNat_natCast, h]
abbrev Rg := Nat × Nat
def rg0 : Rg := (0, 0)
def lastG (L : List Rg) : Rg := L.getD (L.length - 1) rg0
/-- does a page belong to the last run? -/
def mergB (X : RM) (L : List Rg) (p : Nat) : Bool := decide (0 < L.length) && (decide ((lastG L).2 = p) && dsame X (lastG L).1 p)
def rnStep (X : RM) (L : List Rg) (p : Nat) : List Rg := if mergB X L p = true then L.set (L.length - 1) ((lastG L).1, p + 1) else L ++ [(p, p + 1)]
def rnsL (X : RM) (pre : List Nat) : List Rg := pre.foldl (rnStep X) []
theorem rnsL_snoc (X : RM) (pre : List Nat) (x : Nat) : rnsL X (pre ++ [x]) = rnStep X (rnsL X pre) x := by
  unfold rnsL
  rw [List.foldl_append]; rfl
theorem rnStep_len (X : RM) (L : List Rg) (p : Nat) : (rnStep X L p).length ≤ L.length + 1 := by
  unfold rnStep
  split
  · rw [List.length_set]; omega
  · rw [List.length_append]; simp
theorem rnsL_len (X : RM) (pre : List Nat) : (rnsL X pre).length ≤ pre.length := by
  have h : ∀ (l : List Nat) (L : List Rg), (l.foldl (rnStep X) L).length ≤ L.length + l.length := by
    intro l
    induction l with
    | nil => intro L; simp
    | cons x l ih =>
      intro L
      rw [List.foldl_cons, List.length_cons]
      have h1 := ih (rnStep X L x)
      have h2 := rnStep_len X L x
      omega
  have := h pre []
  simpa [rnsL] using this
/-- what holds of the runs of pages that ascend, all below k -/
structure RnsOk (X : RM) (L : List Rg) (k : Nat) : Prop where
  lt : ∀ j, j < L.length → (L.getD j rg0).1 < (L.getD j rg0).2
  le : ∀ j, j < L.length → (L.getD j rg0).2 ≤ k
  up : ∀ j, j + 1 < L.length → (L.getD j rg0).2 ≤ (L.getD (j + 1) rg0).1
  ne : ∀ j, j + 1 < L.length → (L.getD j rg0).2 = (L.getD (j + 1) rg0).1 → dsame X (L.getD j rg0).1 (L.getD (j + 1) rg0).1 = false
  wd : ∀ j, j < L.length → ∀ q, (L.getD j rg0).1 ≤ q → q < (L.getD j rg0).2 → wdI X.st q ≠ 0 ∧ dsame X (L.getD j rg0).1 q = true
theorem dsame_refl (X : RM) (q : Nat) : dsame X q q = true := (dsame_iff X q q).2 rfl
theorem RnsOk.nil (X : RM) (k : Nat) : RnsOk X [] k := ⟨fun j h => by simp at h, fun j h => by simp at h, fun j h => by simp at h, fun j h => by simp at h, fun j h => by simp at h⟩
theorem getD_set {α : Type} (L : List α) (i j : Nat) (x d : α) : (L.set i x).getD j d = if i = j ∧ j < L.length then x else L.getD j d := by
  simp only [List.getD_eq_getElem?_getD, List.getElem?_set]
  by_cases c : i = j
  · subst c
    by_cases e : i < L.length
    · simp [e]
    · simp [e, List.getElem?_eq_none (Nat.le_of_not_lt e)]
  · simp [c]
theorem getD_app {α : Type} (L : List α) (j : Nat) (x d : α) : (L ++ [x]).getD j d = if j < L.length then L.getD j d else if j = L.length then x else d := by
  simp only [List.getD_eq_getElem?_getD]
  by_cases c : j < L.length
  · rw [if_pos c, List.getElem?_append_left c]
  · rw [if_neg c, List.getElem?_append_right (by omega)]
    by_cases e : j = L.length
    · subst e; simp
    · rw [if_neg e, List.getElem?_eq_none (by simp; omega)]; rfl
theorem RnsOk.step {X : RM} {L : List Rg} {k p : Nat} (h : RnsOk X L k) (hk : k ≤ p) (hw : wdI X.st p ≠ 0) : RnsOk X (rnStep X L p) (p + 1) := by
  unfold rnStep
  by_cases c : mergB X L p = true
  · rw [if_pos c]
    unfold mergB at c
    simp only [Bool.and_eq_true, decide_eq_true_eq] at c
    obtain ⟨c1, c2, c3⟩ := c
    have hlast : lastG L = L.getD (L.length - 1) rg0 := rfl
    have e : ∀ j, j < L.length → (L.set (L.length - 1) ((lastG L).1, p + 1)).getD j rg0 = if j = L.length - 1 then ((lastG L).1, p + 1) else L.getD j rg0 := fun j hj => by
      rw [getD_set]
      by_cases d : j = L.length - 1
      · rw [if_pos ⟨d.symm, hj⟩, if_pos d]
      · rw [if_neg (fun q => d q.1.symm), if_neg d]
    refine ⟨fun j hj => ?_, fun j hj => ?_, fun j hj => ?_, fun j hj => ?_, fun j hj => ?_⟩ <;> rw [List.length_set] at hj
    · rw [e j hj]
      by_cases d : j = L.length - 1
      · rw [if_pos d]
        have := h.lt _ (show L.length - 1 < L.length by omega)
        rw [← hlast] at this
        dsimp only; omega
      · rw [if_neg d]; exact h.lt j hj
    · rw [e j hj]
      by_cases d : j = L.length - 1
      · rw [if_pos d]; exact Nat.le_refl _
      · rw [if_neg d]; have := h.le j hj; omega
    · rw [e j (by omega), e (j + 1) hj, if_neg (by omega)]
      by_cases d : j + 1 = L.length - 1
      · rw [if_pos d]
        have := h.up j hj
        rw [d, ← hlast] at this
        exact this
      · rw [if_neg d]; exact h.up j hj
    · rw [e j (by omega), e (j + 1) hj, if_neg (by omega)]
      by_cases d : j + 1 = L.length - 1
      · rw [if_pos d]
        have := h.ne j hj
        rw [d, ← hlast] at this
        exact this
      · rw [if_neg d]; exact h.ne j hj
    · rw [e j hj]
      by_cases d : j = L.length - 1
      · rw [if_pos d]
        intro q q1 q2
        dsimp only at q1 q2 ⊢
        by_cases f : q = p
        · subst f; exact ⟨hw, c3⟩
        · have := h.wd _ (show L.length - 1 < L.length by omega) q (by rw [← hlast]; exact q1) (by rw [← hlast]; omega)
          rw [← hlast] at this
          exact this
      · rw [if_neg d]; exact h.wd j hj
  · rw [if_neg c]
    have e1 : ∀ j, j < L.length → (L ++ [(p, p + 1)]).getD j rg0 = L.getD j rg0 := fun j hj => by rw [getD_app, if_pos hj]
    have e2 : (L ++ [(p, p + 1)]).getD L.length rg0 = (p, p + 1) := by rw [getD_app, if_neg (Nat.lt_irrefl _), if_pos rfl]
    refine ⟨fun j hj => ?_, fun j hj => ?_, fun j hj => ?_, fun j hj => ?_, fun j hj => ?_⟩ <;> rw [List.length_append, List.length_singleton] at hj
    · by_cases d : j = L.length
      · rw [d, e2]; exact Nat.lt_succ_self p
      · rw [e1 j (by omega)]; exact h.lt j (by omega)
    · by_cases d : j = L.length
      · rw [d, e2]; exact Nat.le_refl _
      · rw [e1 j (by omega)]; have := h.le j (by omega); omega
    · rw [e1 j (by omega)]
      by_cases d : j + 1 = L.length
      · rw [d, e2]; have := h.le j (by omega); dsimp only; omega
      · rw [e1 (j + 1) (by omega)]; exact h.up j (by omega)
    · rw [e1 j (by omega)]
      by_cases d : j + 1 = L.length
      · rw [d, e2]
        intro hq
        dsimp only at hq ⊢
        have hl : lastG L = L.getD j rg0 := by unfold lastG; rw [show L.length - 1 = j by omega]
        cases hd : dsame X (L.getD j rg0).1 p with
        | false => rfl
        | true =>
          exfalso
          apply c
          unfold mergB
          rw [hl, hd]
          simp only [Bool.and_true, Bool.and_eq_true, decide_eq_true_eq]
          exact ⟨by omega, hq⟩
      · rw [e1 (j + 1) (by omega)]; exact h.ne j (by omega)
    · by_cases d : j = L.length
      · rw [d, e2]
        intro q q1 q2
        dsimp only at q1 q2 ⊢
        obtain rfl : q = p := by omega
        exact ⟨hw, dsame_refl X q⟩
      · rw [e1 j (by omega)]; exact h.wd j (by omega)
theorem RnsOk.mono {X : RM} {L : List Rg} {k p : Nat} (h : RnsOk X L k) (hk : k ≤ p) : RnsOk X L p := ⟨h.lt, fun j hj => Nat.le_trans (h.le j hj) hk, h.up, h.ne, h.wd⟩
/-- the runs of all pages below k that have a word -/
theorem rnsL_ok (X : RM) : ∀ k, RnsOk X (rnsL X (wL X 0 k)) k
  | 0 => by
    have : wL X 0 0 = [] := wL_start X 0
    rw [this]; exact RnsOk.nil X 0
  | k + 1 => by
    by_cases c : wdI X.st k = 0
    · have : wL X 0 (k + 1) = wL X 0 k := wL_skip 1 (fun q a b => by rw [show q = k by omega]; exact c)
      rw [this]
      exact (rnsL_ok X k).mono (Nat.le_succ _)
    · rw [wL_step (Nat.zero_le _) c, rnsL_snoc]
      exact (rnsL_ok X k).step (Nat.le_refl _) c
/-! as cells -/
def rgC (X : RM) (r : Rg) : List Value := [.int .i64 (r.1 : Int), .int .i64 (r.2 : Int), .int .i64 (dO X r.1), .int .i64 (dS X r.1), .int .i64 (dT X r.1), .bool (dH X r.1)]
def rcL (X : RM) (L : List Rg) : List Value := L.flatMap (rgC X)
theorem rcL_len (X : RM) (L : List Rg) : (rcL X L).length = L.length * 6 := by
  unfold rcL
  induction L with
  | nil => rfl
  | cons r L ih => rw [List.flatMap_cons, List.length_append, ih, List.length_cons]; simp [rgC]; omega
theorem rcL_snoc (X : RM) (L : List Rg) (r : Rg) : rcL X (L ++ [r]) = rcL X L ++ rgC X r := by
  unfold rcL
  rw [List.flatMap_append]; simp
theorem rcL_get (X : RM) (L : List Rg) (j i : Nat) (hj : j < L.length) (hi : i < 6) : (rcL X L)[j * 6 + i]? = (rgC X (L.getD j rg0))[i]? := by
  induction L generalizing j with
  | nil => simp at hj
  | cons r L ih =>
    have hl : (rgC X r).length = 6 := rfl
    cases j with
    | zero =>
      unfold rcL
      rw [List.flatMap_cons, List.getElem?_append_left (by omega)]
      simp
    | succ j =>
      have := ih j (by simpa using hj)
      unfold rcL at this ⊢
      rw [List.flatMap_cons, List.getElem?_append_right (by omega), hl, show (j + 1) * 6 + i - 6 = j * 6 + i by omega, this]
      rfl
theorem rcL_set (X : RM) (L : List Rg) (j : Nat) (t : Nat) (hj : j < L.length) : (rcL X L).set (j * 6 + 1) (.int .i64 (t : Int)) = rcL X (L.set j ((L.getD j rg0).1, t)) := by
  induction L generalizing j with
  | nil => simp at hj
  | cons r L ih =>
    have hl : (rgC X r).length = 6 := rfl
    cases j with
    | zero =>
      unfold rcL
      rw [List.set_cons_zero, List.flatMap_cons, List.flatMap_cons, List.set_append_left _ _ (by omega)]
      rfl
    | succ j =>
      have := ih j (by simpa using hj)
      unfold rcL at this ⊢
      rw [List.set_cons_succ, List.flatMap_cons, List.flatMap_cons, List.set_append_right _ _ (by omega), hl, show (j + 1) * 6 + 1 - 6 = j * 6 + 1 by omega, this]
      rfl
end Go.Proofs.YtfmclbacoffdaaaDoor

namespace Go.Proofs.YtfmclbacoffdaaaDoor
open Go
/-- no defer statement -/
def plainOp (o : Oper) : Bool := match o.op with
  | .defer _ => false
  | _ => true
theorem plainOp_ne {o : Oper} (h : plainOp o = true) : ∀ c, o.op ≠ .defer c := fun c e => by
  unfold plainOp at h
  rw [e] at h
  cases h
section
variable {F : Fence} {n : Nat} {P : Program} {ops : Array Oper} {md : Region.Mode} {C : World → Prop}
theorem quiet_wpIn {o : Oper} {a : Act} {K : Act → Prop} {K' : Act → World → Prop} {Q' : Exit → Act → World → Prop} {w : World} (hro : ∀ c, o.op ≠ .defer c) (hw : C w) (h : ∀ a w', C w' → K a → K' a w')
    (ha : o.askedIn F P a C) (hh : o.quietIn F n P a C K) : o.wpIn F n P a w K' Q' := by
  obtain ⟨v, h1, h2⟩ := hh
  have h3 := h1 w hw
  unfold Oper.quietAtIn at h3
  unfold Oper.wpIn
  refine ⟨ha w hw, ?_⟩
  rw [Oper.semAt_plain F _ _ hro]
  generalize (execOp a.eval o).run P w = r at *
  cases r with
  | ok x w' =>
    cases x <;> simp only [Oper.quietUponIn] at h3 <;> simp only [Oper.uponIn]
    case value u =>
      obtain ⟨e1, e2⟩ := h3
      rw [e1, e2]
      exact h _ _ hw h2
    case skip =>
      obtain ⟨e1, e2⟩ := h3
      rw [e1, ← e2]
      exact h _ _ hw h2
    case enter f args =>
      obtain ⟨e1, hd, hc⟩ := h3
      rw [e1]
      exact ⟨hd, hc.mono fun e w'' ⟨he, hw''⟩ => by subst he; exact h _ _ hw'' h2⟩
  | halt x w' => simp only [Oper.quietUponIn] at h3
theorem wpOpIn_quiet {i : Nat} {a : Act} {K : Act → Prop} {K' : Act → World → Prop} {Q' : Exit → Act → World → Prop} {w : World} (hro : ∀ (i : Nat) (o : Oper), ops[i]? = some o → ∀ c, o.op ≠ .defer c) (hC : C w) (h : ∀ a w', C w' → K a → K' a w')
    (hh : qOpIn F n P ops C i K a) : wpOpIn F n P ops Q' i K' a w := by
  unfold qOpIn at hh
  unfold wpOpIn
  split
  · rename_i ho; simp only [ho] at hh; exact h _ _ hC hh
  · rename_i o ho
    simp only [ho] at hh
    obtain ⟨ha, hh⟩ := hh
    split
    · rename_i hw; simp only [hw, if_true] at hh; exact quiet_wpIn (hro _ _ ho) hC h ha hh
    · rename_i hw; simp only [hw] at hh; exact ⟨ha w hC, h _ _ hC hh⟩
theorem wpAnyIn_quiet {Q : Act → Prop} {Q' : Exit → Act → World → Prop} (hro : ∀ (i : Nat) (o : Oper), ops[i]? = some o → ∀ c, o.op ≠ .defer c) (hQ : ∀ a w, C w → Q a → Q' .normal a w) : ∀ (fuel : Nat) (listed : Array Bool) (a : Act) (w : World), C w →
    wpAnyQIn F n P md ops C Q fuel listed a → wpAnyIn F n P md ops Q' fuel listed a w
  | 0, _, _, _, hw, h => ⟨h.1, hQ _ _ hw h.2⟩
  | fuel + 1, _, _, _, hw, h => ⟨fun h0 => hQ _ _ hw (h.1 h0), fun i hi => wpOpIn_quiet hro hw (fun a' w' hw' => wpAnyIn_quiet hro hQ fuel _ a' w' hw') (h.2 i hi)⟩
theorem wpIn_quiet_lit {id : Nat} {Q : Exit → Act → World → Prop} {a : Act} {w : World} {l : List Oper} (hro : l.all plainOp = true) (hm : P.follows .mixedOrders = true) (hB : Region.lexB .any l.toArray = true)
    (h : wpQuietIn F n P l.toArray (fun w' => ∃ n, w' = w.drewN n) (fun a' => ∀ w', (∃ n, w' = w.drewN n) → Q .normal a' w') l a) : (Code.region id l.toArray true).wpIn F n P Q a w := by
  simp only [Region.lexB, Bool.and_eq_true] at hB
  have hp : ∀ (i : Nat) (o : Oper), l.toArray[i]? = some o → ∀ c, o.op ≠ .defer c := fun i o ho =>
    plainOp_ne (List.all_eq_true.1 hro o (by
      rw [List.getElem?_toArray] at ho
      exact List.mem_of_getElem? ho))
  refine wpIn_region_any hm (wpAnyIn_quiet (C := fun w' => ∃ n, w' = w.drewN n) (Q := fun a' => ∀ w', (∃ n, w' = w.drewN n) → Q .normal a' w') hp (fun _ w' hw' h => h w' hw') _ _ _ _ ⟨1, rfl⟩ ?_)
  have := wpAnyQIn_lex (F := F) (n := n) (C := fun w' => ∃ n, w' = w.drewN n) (md := .any) hB.1 l 0 (Array.replicate l.toArray.size false) a (by simp) (by simpa using hB.2) h
  simpa using this
end
end Go.Proofs.YtfmclbacoffdaaaDoor

namespace Go.Proofs.YtfmclbacoffdaaaDoor
open Go.RowKit Go.Sort Go.Joins Go.Shelf
attribute [local go_sem] cell_grow frozen_grow size_grow Oper.semAt_some
theorem eql_descB (o s t o' s' t' : Int) (g g' : Bool) (w : World) : Sem.run Tryd.prog (binOp .eql 23 (dsV o s t g) (dsV o' s' t' g')) w = .ok (.bool (o == o' && (s == s' && (t == t' && g == g')))) w := by
  have u3 := Tryd.underlying3
  have u2 := Tryd.underlying2
  have u4 := Tryd.underlying4
  have hS : Tryd.prog.underlying 23 = some (.struct (Tryd.prog.fieldsOf 23)) := by kernel_rfl
  have hp : Tryd.prog.stoodInHeld 23 = false := by kernel_rfl
  rw [run_eql_struct, show (10000 : Nat) = 9999 + 1 from rfl, run_equalIn_agg w 9999 23 _ _ hS hp]
  simp only [Program.fieldsOf, Tryd.underlying23]
  cases h1 : (o == o') <;> cases h2 : (s == s') <;> cases h3 : (t == t') <;> cases h4 : (g == g') <;> go_simp
theorem info_run7 : (Tryd.prog.info? 56).map (fun i => (i.zero, i.size, i.bytes)) = some (some (.agg #[.int .i64 0, .int .i64 0, .int .i64 0, .int .i64 0, .int .i64 0, .bool false]), 6, 48) := by kernel_rfl
/-- what lies in memory while Runs walks -/
structure RuM (w W : World) (p : Nat) (X : RM) (pre : List Nat) (v : Value) : Prop where
  b1 : W.heap[w.heap.size]? = some (.cells #[v] 47 (0, 0))
  b2 : W.heap[w.heap.size + 1]? = some (.cells #[.pointer (some ⟨p, 0, none⟩)] 33 (0, 0))
  b3 : W.heap[w.heap.size + 1 + 1]? = some (.cells #[.int .i64 0] 3 (0, 0))
  ow : W.ownsRow (w.heap.size + 3) 56 6 v (rnsL X pre).length (rcL X (rnsL X pre))
  k : Below w.heap.size w W
section
variable {w W W' : World} {p : Nat} {X : RM} {pre : List Nat} {v : Value}
theorem RuM.below (h : RuM w W p X pre v) (hb : Below W.heap.size W W') : RuM w W' p X pre v := by
  have N : ∀ {k : Nat} {o : Obj}, W.heap[k]? = some o → W'.heap[k]? = some o := fun ho => (hb.block _ (blk_lt ho)).trans ho
  exact ⟨N h.b1, N h.b2, N h.b3, own_belowW h.ow hb, below_tr h.k hb⟩
theorem RuM.kept (h : RuM w W p X pre v) {row : Option Nat} {Z : Nat} (hZ : w.heap.size ≤ Z) (hg : W.grownBy W' row) (hr : ∀ r, row = some r → Z ≤ r ∧ ∃ o : Obj, W.heap[r]? = some o ∧ o.isCells = false) : RuM w W' p X pre v := by
  have hr2 := fun r e => (hr r e).2
  exact ⟨blk_kept7 h.b1 hg hr2, blk_kept7 h.b2 hg hr2, blk_kept7 h.b3 hg hr2, own_stays7 h.ow hg hr2, h.k.grown hg h.k.size (fun r e => by have := (hr r e).1; omega)⟩
end
theorem six_at (W : World) (a b c d e f : Value) (t : TypeId) : ∀ (j : Nat) (u : Value), [a, b, c, d, e, f][j]? = some u → (W.alloc (.cells #[a, b, c, d, e, f] t)).cell? ((⟨W.heap.size, 0, none⟩ : Addr).add j) = some u := by
  have hb := heap_alloc_new W (.cells #[a, b, c, d, e, f] t)
  intro j u h
  match j, h with
  | 0, h => obtain rfl : a = u := by simpa using h
            rw [show (⟨W.heap.size, 0, none⟩ : Addr).add 0 = ⟨W.heap.size, 0, none⟩ by rfl, cell_of_block hb]; rfl
  | 1, h => obtain rfl : b = u := by simpa using h
            rw [show (⟨W.heap.size, 0, none⟩ : Addr).add 1 = ⟨W.heap.size, 1, none⟩ by rfl, cell_of_block hb]; rfl
  | 2, h => obtain rfl : c = u := by simpa using h
            rw [show (⟨W.heap.size, 0, none⟩ : Addr).add 2 = ⟨W.heap.size, 2, none⟩ by rfl, cell_of_block hb]; rfl
  | 3, h => obtain rfl : d = u := by simpa using h
            rw [show (⟨W.heap.size, 0, none⟩ : Addr).add 3 = ⟨W.heap.size, 3, none⟩ by rfl, cell_of_block hb]; rfl
  | 4, h => obtain rfl : e = u := by simpa using h
            rw [show (⟨W.heap.size, 0, none⟩ : Addr).add 4 = ⟨W.heap.size, 4, none⟩ by rfl, cell_of_block hb]; rfl
  | 5, h => obtain rfl : f = u := by simpa using h
            rw [show (⟨W.heap.size, 0, none⟩ : Addr).add 5 = ⟨W.heap.size, 5, none⟩ by rfl, cell_of_block hb]; rfl
  | j + 6, h => exact absurd h (by simp)
theorem own_ge7 {W : World} {base : Nat} {e : TypeId} {size : Nat} {v : Value} {n : Nat} {xs : List Value} (h : W.ownsRow base e size v n xs) : ∀ r, v.ownBlock = some r → base ≤ r := fun r q => (h.lt r q).1
theorem own_ne7 {W : World} {base : Nat} {e : TypeId} {size : Nat} {v : Value} {n : Nat} {xs : List Value} (h : W.ownsRow base e size v n xs) : ∀ b, b < base → (some b : Option Nat) ≠ v.ownBlock := fun b hb q => by have := own_ge7 h b q.symm; omega
theorem box_cell7 {W : World} {b : Nat} {v : Value} {t : TypeId} (h : W.heap[b]? = some (.cells #[v] t (0, 0))) : W.cell? ⟨b, 0, none⟩ = some v := by rw [cell_of_block h]; rfl
theorem one6 (a b c d e : Int) (f : Bool) : ∀ u ∈ [Value.int .i64 a, .int .i64 b, .int .i64 c, .int .i64 d, .int .i64 e, .bool f], u.oneCell' = true := by
  intro u hu
  simp only [List.mem_cons, List.not_mem_nil, or_false] at hu
  rcases hu with rfl | rfl | rfl | rfl | rfl | rfl <;> rfl
section
variable {w : World} {B p q : Nat} {X : RM}
set_option maxRecDepth 100000 in
set_option maxHeartbeats 6400000 in
theorem runs_ok7 (h : TM w B p q X.st X.m X.r) (hG : RGood X) :
    Calls Tryd.prog 25 #[.pointer (some ⟨p, 0, none⟩)] w fun e w' => ∃ a c, e = .returned (.slice a (rnsL X (wL X 0 1024)).length c) ∧ w'.ownsRow w.heap.size 56 6 (.slice a (rnsL X (wL X 0 1024)).length c) (rnsL X (wL X 0 1024)).length (rcL X (rnsL X (wL X 0 1024))) ∧ Below w.heap.size w w' := by
  obtain ⟨i0, hi0, hz0, hz1, hz2'⟩ := info_parts info_run7
  have H := Lib.hid h
  have HG := Lib.hid hG
  have hlp := h.lp
  have hlq := h.lq
  clear h hG
  refine (callsIn_wide (n := 4)).1 ?_
  refine callsIn_of_wp_marks Tryd.func25 rfl trivial ?_ rfl
  simp only [Tryd.ntmps25, List.size_toArray, List.length_cons, List.length_nil, Nat.reduceAdd, Nat.reduceSub, Array.replicate_succ, Array.replicate_zero, List.push_toArray, List.append_toArray, List.nil_append, List.cons_append]
  gi_wp2_with fail
  refine ⟨trivial, (callsIn_wide.2 (walk_ok _ _ _)).mono ?_⟩
  rintro e w2 ⟨rfl, hw2⟩
  have hRM : RuM w w2 p X [] (.slice none 0 0) := by
    have b4 : Below w.heap.size w w2 := by
      rw [← hw2]
      exact ((((Below.refl _ w).alloc (Nat.le_refl _) _).alloc (by simp) _).alloc (by simp; omega) _)
    have N0 : ∀ (W : World) (A : Array Value) (t : TypeId) (k : Nat), k = W.heap.size → (W.alloc (.cells A t)).heap[k]? = some (.cells A t (0, 0)) := fun W A t k e => by rw [e]; exact heap_alloc_new W _
    refine ⟨?_, ?_, ?_, World.ownsRow_nil _ _ _ _, b4⟩
    · rw [← hw2]; refine (Below.heap_alloc _ _ _ (by simp <;> omega)).trans ?_; refine (Below.heap_alloc _ _ _ (by simp <;> omega)).trans ?_; exact N0 _ _ _ _ (by simp)
    · rw [← hw2]; refine (Below.heap_alloc _ _ _ (by simp <;> omega)).trans ?_; exact N0 _ _ _ _ (by simp)
    · rw [← hw2]; exact N0 _ _ _ _ (by simp)
  have hsz2 : w.heap.size + 3 ≤ w2.heap.size := by rw [← hw2]; simp
  have HRM := Lib.hid hRM
  clear hw2 hRM
  gi_wp2
  refine wpIn_iter_box rfl (by omega) (gf := 50) (lb := #[.pointer (some ⟨w.heap.size + 1, 0, none⟩), .pointer (some ⟨w.heap.size + 1 + 1, 0, none⟩)]) rfl trivial (enters_of Tryd.func50 (by kernel_rfl) rfl)
    (fun pre W => ∃ v, RuM w W p X pre v ∧ (∀ x ∈ pre, x < 1024))
    (walk_seq _ B p q (w.heap.size + 1) (w.heap.size + 1 + 1) X 0 _ ?keep _) (fun _ => rfl) (fun _ _ _ => False) ?own (fun _ _ _ _ _ hs _ _ => hs) ?start
    (fun a x Bx => { tmps := (((a.tmps.setIfInBounds 9 (.int .i64 x)).setIfInBounds 10 (getV X x)).setIfInBounds 4 (.int .i64 x)).setIfInBounds 5 (.pointer (some ⟨Bx, 0, none⟩)), defers := [] })
    (fun x Bx W => w.heap.size + 3 ≤ Bx ∧ W.heap[Bx]? = some (.cells #[.int .i64 (dO X x), .int .i64 (dS X x), .int .i64 (dT X x), .bool (dH X x)] 23 (0, 0))) ?ab
    ?assign ?body ?done (fun _ _ _ _ _ h _ => h.elim)
  case keep =>
    rintro pre W ⟨v, hM, _⟩
    exact ⟨X, H.out.below hM.k, HG.out, fun _ _ _ => rfl, by rw [cell_of_block hM.b2]; rfl, by rw [cell_of_block hM.b3]; rfl⟩
  case own =>
    rintro pre A C row ⟨v, hM, hx⟩ hg hr
    exact ⟨v, hM.kept (by omega) hg hr, hx⟩
  case start => exact ⟨_, HRM.out, fun x hx => absurd hx (List.not_mem_nil)⟩
  case ab =>
    rintro x Bx s A C row ⟨h1, h3⟩ hg hr
    exact ⟨h1, blk_kept7 h3 hg (fun r e => (hr r e).2)⟩
  case assign =>
    rintro l pre x W K ⟨v, hM, hx⟩ hgw hK
    have hv := getV_d X x
    have henc : encW X x = #[.int .i64 x, dsV (dO X x) (dS X x) (dT X x) (dH X x)] := by unfold encW; rw [hv]
    rw [hv] at hK
    rw [henc]
    simp only [List.setIfInBounds_toArray, List.set_cons_zero, List.set_cons_succ] at hK
    have bA := below_box0 W (.cells #[.int .i64 (dO X x), .int .i64 (dS X x), .int .i64 (dT X x), .bool (dH X x)] 23)
    have hBx := heap_alloc_new W (.cells #[.int .i64 (dO X x), .int .i64 (dS X x), .int .i64 (dT X x), .bool (dH X x)] 23)
    have hlt := blk_lt hM.b3
    clear hv henc
    gi_wp2
    exact hK _ _ ((KeepsOthers.alloc _ _).from _) ⟨v, hM.below bA, hx⟩ ⟨by have := hM.k.size; omega, hBx⟩
  case body =>
    rintro l pre x Bx W hl ⟨v, hM, hx⟩ ⟨hBx, hB⟩ ⟨hpre, hfx, hx1, hwx⟩
    rw [getV_d]
    have hN : ∀ y ∈ pre ++ [x], y < 1024 := fun y hy => by
      rw [List.mem_append, List.mem_singleton] at hy
      rcases hy with hy | rfl
      · exact hx y hy
      · exact hx1
    have HN := Lib.hid hN
    have hlen : (rnsL X pre).length ≤ 1024 := by
      have h1 := rnsL_len X pre
      have h2 : pre.length ≤ x := by
        rw [hpre]
        exact Nat.le_trans (List.length_filter_le _ _) (by simp)
      omega
    have HSN := Lib.hid (rnsL_snoc X pre x)
    obtain ⟨po, hpo⟩ : ∃ y, dO X x = y := ⟨_, rfl⟩
    obtain ⟨ps, hps⟩ : ∃ y, dS X x = y := ⟨_, rfl⟩
    obtain ⟨pt, hpt⟩ : ∃ y, dT X x = y := ⟨_, rfl⟩
    obtain ⟨ph, hph⟩ : ∃ y, dH X x = y := ⟨_, rfl⟩
    rw [hpo, hps, hpt, hph] at hB ⊢
    have k0 : W.cell? ⟨Bx, 0, none⟩ = some (.int .i64 po) := by rw [cell_of_block hB]; rfl
    have k1 : W.cell? ⟨Bx, 1, none⟩ = some (.int .i64 ps) := by rw [cell_of_block hB]; rfl
    have k2 : W.cell? ⟨Bx, 2, none⟩ = some (.int .i64 pt) := by rw [cell_of_block hB]; rfl
    have k3 : W.cell? ⟨Bx, 3, none⟩ = some (.bool ph) := by rw [cell_of_block hB]; rfl
    have lkx := blk_lt hB
    have lk3 := blk_lt hM.b3
    obtain ⟨L, hL⟩ : ∃ L, rnsL X pre = L := ⟨_, rfl⟩
    have hO := hM.ow
    rw [hL] at hO HSN hlen
    obtain ⟨va, vc, rfl⟩ := own_slice' hO
    obtain ⟨n, hn⟩ : ∃ n, L.length = n := ⟨_, rfl⟩
    rw [hn] at hO hlen hM
    have k9 : W.cell? ⟨w.heap.size, 0, none⟩ = some (.slice va n vc) := by rw [cell_of_block hM.b1]; rfl
    have HM := Lib.hid hM
    have HO := Lib.hid hO
    have HLL := Lib.hid hL
    have HLN := Lib.hid hn
    have HPD := Lib.hid (And.intro hpo (And.intro hps (And.intro hpt hph)))
    have HB := Lib.hid hB
    clear hM hO hL hn hpo hps hpt hph hB hx hpre hfx hwx hN
    simp only [List.setIfInBounds_toArray, List.set_cons_zero, List.set_cons_succ]
    have hways : (mergB X L x = false ∧ n = 0) ∨ (∃ m lst, n = m + 1 ∧ Hid (L.getD m rg0 = lst) ∧ (mergB X L x = false ∧ lst.2 ≠ x)) ∨ (∃ m lst, n = m + 1 ∧ Hid (L.getD m rg0 = lst) ∧ lst.2 = x ∧ (mergB X L x = dsame X lst.1 x)) := by
      by_cases c0 : n = 0
      · refine .inl ⟨?_, c0⟩
        unfold mergB
        rw [HLN.out, c0]; rfl
      · have hl : lastG L = L.getD (n - 1) rg0 := by unfold lastG; rw [HLN.out]
        by_cases c1 : (lastG L).2 = x
        · refine .inr (.inr ⟨n - 1, _, by omega, Lib.hid rfl, by rw [← hl]; exact c1, ?_⟩)
          unfold mergB
          rw [HLN.out, decide_eq_true (show 0 < n by omega), decide_eq_true c1, hl]; rfl
        · refine .inr (.inl ⟨n - 1, _, by omega, Lib.hid rfl, ?_, by rw [← hl]; exact c1⟩)
          unfold mergB
          rw [decide_eq_false c1, Bool.false_and, Bool.and_false]
    refine hways.elim ?wa (fun h => h.elim ?wb ?wc)
    case' wa =>
      rintro ⟨hmg, hn0⟩
      have hy : (n : Int) - 1 = -1 := by omega
      have HMG : Hid (rnsL X (pre ++ [x]) = L ++ [(x, x + 1)]) := Lib.hid (by rw [HSN.out]; unfold rnStep; rw [if_neg (by rw [hmg]; exact Bool.false_ne_true)])
      clear hways hmg hn0
      gi_wp2_with fail
      refine wpIn_quiet_lit (by kernel_rfl) (by kernel_rfl) (by kernel_rfl) ?_
      repeat (gi_big_quiet_step (fail))
      refine wpQuietIn_nil ?_
      intro _ hw'
      obtain ⟨nq, hw''⟩ := hw'
      subst hw''
    case' wb =>
      rintro ⟨m, lst, hm, HLST, hmg, hne⟩
      have hy : (n : Int) - 1 = (m : Int) := by omega
      have HMG : Hid (rnsL X (pre ++ [x]) = L ++ [(x, x + 1)]) := Lib.hid (by rw [HSN.out]; unfold rnStep; rw [if_neg (by rw [hmg]; exact Bool.false_ne_true)])
      obtain ⟨g, cap, hv⟩ := ownsRow_form HO.out (by omega)
      cases hv
      obtain ⟨f, t⟩ := lst
      have HCL : Hid (∀ i, i < 6 → W.cell? ⟨g, m * 6 + i, none⟩ = (rgC X (f, t))[i]?) := Lib.hid (fun i hi => by
        rw [HO.out.cellAt (m * 6 + i) (by omega), rcL_get X L m i (by rw [HLN.out]; omega) hi, HLST.out])
      obtain ⟨fo, hfo⟩ : ∃ y, dO X f = y := ⟨_, rfl⟩
      obtain ⟨fs, hfs⟩ : ∃ y, dS X f = y := ⟨_, rfl⟩
      obtain ⟨ft, hft⟩ : ∃ y, dT X f = y := ⟨_, rfl⟩
      obtain ⟨fh, hfh⟩ : ∃ y, dH X f = y := ⟨_, rfl⟩
      have q1 : W.cell? ⟨g, m * 6 + 1, none⟩ = some (.int .i64 t) := HCL.out 1 (by omega)
      have q2 : W.cell? ⟨g, m * 6 + 2, none⟩ = some (.int .i64 fo) := by rw [← hfo]; exact HCL.out 2 (by omega)
      have q3 : W.cell? ⟨g, m * 6 + 2 + 1, none⟩ = some (.int .i64 fs) := by rw [← hfs]; exact HCL.out 3 (by omega)
      have q4 : W.cell? ⟨g, m * 6 + 2 + 2, none⟩ = some (.int .i64 ft) := by rw [← hft]; exact HCL.out 4 (by omega)
      have q5 : W.cell? ⟨g, m * 6 + 2 + 3, none⟩ = some (.bool fh) := by rw [← hfh]; exact HCL.out 5 (by omega)
      have HDS : Hid (dsame X f x = (fo == po && (fs == ps && (ft == pt && fh == ph)))) := Lib.hid (by
        unfold dsame
        rw [hfo, hfs, hft, hfh, HPD.out.1, HPD.out.2.1, HPD.out.2.2.1, HPD.out.2.2.2])
      have hgl := (HO.out.lt g rfl).2
      have i0' : (0 : Int) ≤ (m : Int) := by omega
      have i1' : (m : Int) < (n : Int) := by omega
      clear hfo hfs hft hfh
      have d2 : ((t : Int) == (x : Int)) = false := by simp; dsimp only at hne; omega
      have HM6 := Lib.hid hm
      clear hways hmg hne hm
      gi_wp2_with fail
      refine wpIn_quiet_lit (by kernel_rfl) (by kernel_rfl) (by kernel_rfl) ?_
      repeat (gi_big_quiet_step (fail))
      refine wpQuietIn_nil ?_
      intro _ hw'
      obtain ⟨nq, hw''⟩ := hw'
      subst hw''
    case' wc =>
      rintro ⟨m, lst, hm, HLST, hte, hmg⟩
      have hy : (n : Int) - 1 = (m : Int) := by omega
      obtain ⟨g, cap, hv⟩ := ownsRow_form HO.out (by omega)
      cases hv
      obtain ⟨f, t⟩ := lst
      have HCL : Hid (∀ i, i < 6 → W.cell? ⟨g, m * 6 + i, none⟩ = (rgC X (f, t))[i]?) := Lib.hid (fun i hi => by
        rw [HO.out.cellAt (m * 6 + i) (by omega), rcL_get X L m i (by rw [HLN.out]; omega) hi, HLST.out])
      obtain ⟨fo, hfo⟩ : ∃ y, dO X f = y := ⟨_, rfl⟩
      obtain ⟨fs, hfs⟩ : ∃ y, dS X f = y := ⟨_, rfl⟩
      obtain ⟨ft, hft⟩ : ∃ y, dT X f = y := ⟨_, rfl⟩
      obtain ⟨fh, hfh⟩ : ∃ y, dH X f = y := ⟨_, rfl⟩
      have q1 : W.cell? ⟨g, m * 6 + 1, none⟩ = some (.int .i64 t) := HCL.out 1 (by omega)
      have q2 : W.cell? ⟨g, m * 6 + 2, none⟩ = some (.int .i64 fo) := by rw [← hfo]; exact HCL.out 2 (by omega)
      have q3 : W.cell? ⟨g, m * 6 + 2 + 1, none⟩ = some (.int .i64 fs) := by rw [← hfs]; exact HCL.out 3 (by omega)
      have q4 : W.cell? ⟨g, m * 6 + 2 + 2, none⟩ = some (.int .i64 ft) := by rw [← hft]; exact HCL.out 4 (by omega)
      have q5 : W.cell? ⟨g, m * 6 + 2 + 3, none⟩ = some (.bool fh) := by rw [← hfh]; exact HCL.out 5 (by omega)
      have HDS : Hid (dsame X f x = (fo == po && (fs == ps && (ft == pt && fh == ph)))) := Lib.hid (by
        unfold dsame
        rw [hfo, hfs, hft, hfh, HPD.out.1, HPD.out.2.1, HPD.out.2.2.1, HPD.out.2.2.2])
      have hgl := (HO.out.lt g rfl).2
      have i0' : (0 : Int) ≤ (m : Int) := by omega
      have i1' : (m : Int) < (n : Int) := by omega
      clear hfo hfs hft hfh
      have d2 : ((t : Int) == (x : Int)) = true := by simp; dsimp only at hte; omega
      obtain ⟨b, hb⟩ : ∃ b, (fo == po && (fs == ps && (ft == pt && fh == ph))) = b := ⟨_, rfl⟩
      have heq : ∀ W : World, Sem.run Tryd.prog (binOp .eql 23 (dsV fo fs ft fh) (dsV po ps pt ph)) W = .ok (.bool b) W := fun W => by rw [← hb]; exact eql_descB _ _ _ _ _ _ _ _ _
      have HTX : Hid (t = x) := Lib.hid hte
      have HMB : Hid (mergB X L x = b) := Lib.hid (by rw [hmg, HDS.out, hb])
      have HM6 := Lib.hid hm
      clear hways hmg hte hm hb
      gi_wp2_with fail
      refine wpIn_quiet_lit (by kernel_rfl) (by kernel_rfl) (by kernel_rfl) ?_
      repeat (gi_big_quiet_step (fail))
      refine wpQuietIn_nil ?_
      intro _ hw'
      obtain ⟨nq, hw''⟩ := hw'
      subst hw''
      by_cases hb1 : b = true
      · subst hb1
        obtain ⟨V, hV⟩ : ∃ V, W.drewN nq = V := ⟨_, rfl⟩
        have hbv := below_draw W nq
        rw [hV] at hbv ⊢
        have HBV := Lib.hid hbv
        have HMV := Lib.hid (HM.out.below hbv)
        have hO' := HMV.out.ow
        rw [HLL.out, HLN.out] at hO'
        have HO' := Lib.hid hO'
        have HMG : Hid (rnsL X (pre ++ [x]) = L.set m (f, x + 1)) := Lib.hid (by
          rw [HSN.out]; unfold rnStep; rw [if_pos HMB.out]
          have e : L.length - 1 = m := by rw [HLN.out, HM6.out]; omega
          unfold lastG
          rw [e, HLST.out])
        have kb9 : V.cell? ⟨w.heap.size, 0, none⟩ = some (.slice (some ⟨g, 0, none⟩) n vc) := by rw [cell_of_block HMV.out.b1]; rfl
        have qb1 : V.cell? ⟨g, m * 6 + 1, none⟩ = some (.int .i64 t) := (hbv.cell (p := ⟨g, m * 6 + 1, none⟩) hgl).trans q1
        have qf1 := hO'.frozenAt (m * 6 + 1)
        have hxt := HTX.out
        have hgB := (hO'.lt g rfl).1
        have HGB := Lib.hid hgB
        clear hV hbv hO' k0 k1 k2 k3 k9 q1 q2 q3 q4 q5 lkx lk3 heq d2
        gi_wp2
        have hst := (HO'.out.stored (m * 6 + 1) (.int .i64 ((x + 1 : Nat) : Int))).1
        rw [rcL_set X L m (x + 1) (by rw [HLN.out, HM6.out]; omega), HLST.out] at hst
        have hk' : Below w.heap.size w (V.setCell ⟨g, m * 6 + 1, none⟩ (.int .i64 ((x : Int) + 1))) := HMV.out.k.setCell (by dsimp only; have := HGB.out; omega) _
        have hn1 : ∀ b, b < w.heap.size + 3 → b ≠ (⟨g, m * 6 + 1, none⟩ : Addr).block := fun b hb e => by have := HGB.out; dsimp only at e; omega
        refine ⟨((KeepsOthers.of_grownBy (grown_of_below HBV.out) (fun j o h => by cases h)).trans (KeepsOthers.setCell _ _ _)).from _, trivial, .slice (some ⟨g, 0, none⟩) n vc, ?_, HN.out⟩
        refine ⟨?_, ?_, ?_, ?_, hk'⟩
        · exact (Below.heap_setCell _ _ _ _ (hn1 _ (by omega))).trans HMV.out.b1
        · exact (Below.heap_setCell _ _ _ _ (hn1 _ (by omega))).trans HMV.out.b2
        · exact (Below.heap_setCell _ _ _ _ (hn1 _ (by omega))).trans HMV.out.b3
        · rw [HMG.out, List.length_set, HLN.out]
          exact hst
      obtain rfl : b = false := by simpa using hb1
      have HMG : Hid (rnsL X (pre ++ [x]) = L ++ [(x, x + 1)]) := Lib.hid (by rw [HSN.out]; unfold rnStep; rw [if_neg (by rw [HMB.out]; exact Bool.false_ne_true)])
      clear hb1 heq
    all_goals
      obtain ⟨V, hV⟩ : ∃ V, W.drewN nq = V := ⟨_, rfl⟩
      have hbv := below_draw W nq
      rw [hV] at hbv ⊢
      have HBV := Lib.hid hbv
      have HMV := Lib.hid (HM.out.below hbv)
      have hO' := HMV.out.ow
      rw [HLL.out, HLN.out] at hO'
      have HO' := Lib.hid hO'
      have hBV := (hbv.block _ (blk_lt HB.out)).trans HB.out
      have kb0 : V.cell? ⟨Bx, 0, none⟩ = some (.int .i64 po) := by rw [cell_of_block hBV]; rfl
      have kb1 : V.cell? ⟨Bx, 1, none⟩ = some (.int .i64 ps) := by rw [cell_of_block hBV]; rfl
      have kb2 : V.cell? ⟨Bx, 2, none⟩ = some (.int .i64 pt) := by rw [cell_of_block hBV]; rfl
      have kb3 : V.cell? ⟨Bx, 3, none⟩ = some (.bool ph) := by rw [cell_of_block hBV]; rfl
      have kb9 := box_cell7 HMV.out.b1
      have lkv := blk_lt HMV.out.b1
      have lkv3 := blk_lt HMV.out.b3
      clear hV hbv hO' hBV k0 k1 k2 k3 k9 lkx lk3
      try clear q1 q2 q3 q4 q5 d2
      gi_wp2_with (gi_at_builtin; refine wpListIn_append_own _ rfl (.tmp 42) (.tmp 48) 47 rfl (w.heap.size + 3) 56 i0 (.agg #[.int .i64 0, .int .i64 0, .int .i64 0, .int .i64 0, .int .i64 0, .bool false]) 6 48 Tryd.underlying47 hi0 hz0 hz1 hz2' rfl (by decide) _ _ _ rfl (HO'.out.alloc _) ⟨V.heap.size, 0, none⟩ 1 1 [.int .i64 x, .int .i64 ((x : Int) + 1), .int .i64 po, .int .i64 ps, .int .i64 pt, .bool ph] rfl rfl (six_at V _ _ _ _ _ _ _) (one6 _ _ _ _ _ _) (by unfold maxLen; omega) (by omega) (by simp; omega) ?_)
      intro v' w3 hown hg _
      obtain ⟨va', vc', rfl⟩ := own_slice' hown
      have hrow := own_ge7 HO'.out
      have hne := own_ne7 HO'.out
      have bA := below_box0 V (.cells #[.int .i64 x, .int .i64 ((x : Int) + 1), .int .i64 po, .int .i64 ps, .int .i64 pt, .bool ph] 56)
      have HAl : Hid (∀ b o, b < w.heap.size + 3 → V.heap[b]? = some o → w3.heap[b]? = some o) := Lib.hid (fun b o hb ho => (hg.block b (by have := blk_lt ho; simp; omega) (hne b hb)).trans ((Below.heap_alloc V _ b (blk_lt ho)).trans ho))
      have hbz3 := HAl.out _ _ (by omega) HMV.out.b1
      have d1 := box_cell7 hbz3
      have d4 : w3.frozen? ⟨w.heap.size, 0, none⟩ = false := unfrozen_of_block hbz3 0
      have HW := Lib.hid hown
      have HGr := Lib.hid hg
      have HB3 := Lib.hid hbz3
      have HROW := Lib.hid hrow
      have HBA := Lib.hid bA
      clear hown hg hne hbz3 hrow bA
      gi_wp2
      have hne' : (Value.slice va' (n + 1) vc').ownBlock ≠ some (⟨w.heap.size, 0, none⟩ : Addr).block := fun e => by have := (HW.out.lt _ e).1; dsimp only at this; omega
      have hk' : Below w.heap.size w (w3.setCell ⟨w.heap.size, 0, none⟩ (.slice va' (n + 1) vc')) := ((below_tr HMV.out.k HBA.out).grown HGr.out (by have := HMV.out.k.size; simp; omega) (fun r e => by have := HROW.out r e; omega)).setCell (by dsimp only; omega) _
      refine ⟨((((KeepsOthers.of_grownBy (grown_of_below HBV.out) (fun j o h => by cases h)).trans (KeepsOthers.alloc V _)).trans (KeepsOthers.of_grownBy HGr.out (fun j o hj ho => by obtain ⟨cs, rfl⟩ := own_cells (HO'.out.alloc _) j o hj ho; rfl))).trans (KeepsOthers.setCell _ _ _)).from _, trivial, .slice va' (n + 1) vc', ?_, HN.out⟩
      refine ⟨(setCell_block HB3.out _).trans (by simp), ?_, ?_, ?_, hk'⟩
      · exact (Below.heap_setCell _ _ _ _ (show w.heap.size + 1 ≠ w.heap.size by omega)).trans (HAl.out _ _ (by omega) HMV.out.b2)
      · exact (Below.heap_setCell _ _ _ _ (show w.heap.size + 1 + 1 ≠ w.heap.size by omega)).trans (HAl.out _ _ (by omega) HMV.out.b3)
      · have := ownsRow_setCell_other HW.out hne' (.slice va' (n + 1) vc')
        rw [HMG.out, List.length_append, HLN.out, rcL_snoc]
        unfold rgC
        rw [HPD.out.1, HPD.out.2.1, HPD.out.2.2.1, HPD.out.2.2.2]
        exact this
  case done =>
    rintro D xs W hD hS2 ⟨v, hM, _⟩ hK
    have hS3 : xs = wL X 0 1024 := hS2
    subst hS3
    obtain ⟨va, vc, rfl⟩ := own_slice' hM.ow
    have k1 : W.cell? ⟨w.heap.size, 0, none⟩ = some (.slice va (rnsL X (wL X 0 1024)).length vc) := by rw [cell_of_block hM.b1]; rfl
    have HM2 := Lib.hid hM
    have HK := Lib.hid hK
    clear hM hK hS2
    gi_wp2
    refine ⟨by simp, .inl ⟨_, _, rfl, run_takeDeferred HK.out, ?_⟩⟩
    have hg := grownBy_putObj' W D (.deferred none)
    have hr : ∀ r, some D = some r → ∃ o : Obj, W.heap[r]? = some o ∧ o.isCells = false := fun r e => by cases e; exact ⟨_, HK.out, rfl⟩
    have hsz := HM2.out.k.size
    refine ⟨.slice va (rnsL X (wL X 0 1024)).length vc, ?_, va, vc, rfl, own_stays7 (own_leW HM2.out.ow (by omega)) hg hr, HM2.out.k.grown hg hsz (fun r e => by cases e; omega)⟩
    simp [results, Tryd.results25, go_sem]
end
end Go.Proofs.YtfmclbacoffdaaaDoor

namespace Go.Proofs.YtfmclbacoffdaaaDoor
open Go.RowKit Go.Sort Go.Joins
theorem dO_own {X : RM} (hw : RWk X) {q : Nat} (hq : q < 1024) (h : wdI X.st q ≠ 0) : dO X q = owI X q := by
  obtain ⟨s, t, g, hv⟩ := getV_word hw hq h
  rw [getV_d] at hv
  simp [dsV] at hv
  exact hv.1
/-- what holds of the map Y behind the pages pre, which were cleared; of the number 'at', of the number of pages of the owner 5 -/
structure WkP (X : RM) (f : Nat) (pre : List Nat) (Y : RM) (A C : Nat) : Prop where
  g : RGood Y
  wd : ∀ r, r < 1024 → wdI Y.st r = if r ∈ pre then 0 else wdI X.st r
  fa : f ≤ A
  al : ∀ y ∈ pre, y < A
  am : A = f ∨ ∃ y ∈ pre, A = y + 1
  c : C = (owL X 5 pre).length
section
variable {X Y : RM} {f A C : Nat} {pre : List Nat}
theorem WkP.start (h : RGood X) (f : Nat) : WkP X f [] X f 0 := ⟨h, fun r _ => by simp, Nat.le_refl _, fun y hy => absurd hy List.not_mem_nil, .inl rfl, rfl⟩
theorem WkP.at_le (h : WkP X f pre Y A C) {x : Nat} (hp : pre = wL X f x) (hf : f ≤ x) : A ≤ x := by
  rcases h.am with rfl | ⟨y, hy, rfl⟩
  · exact hf
  · rw [hp] at hy
    exact (wL_mem.1 hy).1
theorem WkP.zero (h : WkP X f pre Y A C) {x : Nat} (hp : pre = wL X f x) {r : Nat} (h1 : A ≤ r) (h2 : r < x) (h3 : r < 1024) : wdI Y.st r = 0 := by
  rw [h.wd r h3]
  by_cases c : r ∈ pre
  · rw [if_pos c]
  · rw [if_neg c]
    refine Classical.byContradiction fun hne => c ?_
    rw [hp, wL_mem]
    have := h.fa
    exact ⟨h2, by omega, hne⟩
theorem WkP.here (h : WkP X f pre Y A C) {x : Nat} (hp : pre = wL X f x) (h3 : x < 1024) : wdI Y.st x = wdI X.st x := by
  rw [h.wd x h3, if_neg]
  rw [hp, wL_mem]
  omega
theorem owL_snoc5 (X : RM) (o : Int) (pre : List Nat) (x : Nat) : (owL X o (pre ++ [x])).length = (owL X o pre).length + if owI X x = o then 1 else 0 := by
  rw [owL_snoc]
  split
  · rw [List.length_append]; rfl
  · rfl
theorem WkP.step (h : WkP X f pre Y A C) {x : Nat} (hp : pre = wL X f x) (hf : f ≤ x) (h3 : x < 1024) : WkP X f (pre ++ [x]) (clrX Y (x : Int) ((x : Int) + 1)) (x + 1) (C + if owI X x = 5 then 1 else 0) := by
  have hpa : paE (x : Int) ((x : Int) + 1) = 0 := by unfold paE; rw [if_neg (by omega)]
  refine ⟨h.g.clrX _ _, fun r hr => ?_, by omega, fun y hy => ?_, .inr ⟨x, by simp, rfl⟩, ?_⟩
  · rw [clr_words h.g hpa hr, h.wd r hr]
    by_cases e : r = x
    · subst e
      rw [if_pos (by omega), if_pos (by simp)]
    · rw [if_neg (by omega)]
      by_cases c : r ∈ pre
      · rw [if_pos c, if_pos (by simp [c])]
      · rw [if_neg c, if_neg (by simp [c, e])]
  · rw [List.mem_append, List.mem_singleton] at hy
    rcases hy with hy | rfl
    · have := h.al y hy
      have := h.at_le hp hf
      omega
    · exact Nat.lt_succ_self _
  · rw [owL_snoc5, h.c]
end
/-- the pages of an owner from one on -/
theorem own_from (X : RM) (o fr : Int) (f : Nat) (hf : f = (max fr 0).toNat) : (owL X o (wL X 0 1024)).countP (fun (q : Nat) => decide (fr ≤ (q : Int))) = (owL X o (wL X f 1024)).length := by
  rw [List.countP_eq_length_filter]
  unfold owL wL
  rw [List.filter_filter, List.filter_filter, List.filter_filter]
  refine congrArg List.length (List.filter_congr fun q _ => ?_)
  have e : decide (fr ≤ (q : Int)) = decide (f ≤ q) := by
    rw [decide_eq_decide]; omega
  rw [e]
  cases (owI X q == o) <;> cases decide (f ≤ q) <;> simp
def cntG (fr : Int) (L : List Nat) (k : Nat) : Nat := (L.take k).countP (fun (q : Nat) => decide (fr ≤ (q : Int)))
theorem cntG_zero (fr : Int) (L : List Nat) : cntG fr L 0 = 0 := rfl
theorem cntG_succ (fr : Int) (L : List Nat) {k : Nat} (hk : k < L.length) : cntG fr L (k + 1) = cntG fr L k + if fr ≤ ((L.getD k 0 : Nat) : Int) then 1 else 0 := by
  unfold cntG
  rw [List.take_succ_eq_append_getElem hk, List.countP_append, List.countP_singleton]
  have e : L[k] = L.getD k 0 := by simp [List.getD, hk]
  rw [e]
  simp
theorem cntG_all (fr : Int) (L : List Nat) : cntG fr L L.length = L.countP (fun (q : Nat) => decide (fr ≤ (q : Int))) := by
  unfold cntG
  rw [List.take_length]
theorem cntG_le (fr : Int) (L : List Nat) (k : Nat) : cntG fr L k ≤ L.length := Nat.le_trans List.countP_le_length (by rw [List.length_take]; omega)
theorem pgV_get (l : List Nat) {j : Nat} (hj : j < l.length) : (pgV l)[j]? = some (.int .i64 ((l.getD j 0 : Nat) : Int)) := by
  unfold pgV
  simp [List.getD, hj]
/-- what lies in memory while RadixWalks walks -/
structure WkM (w W : World) (q z7 z : Nat) (X Y : RM) (rv : Value) (fr : Int) (A C : Nat) : Prop where
  t : TM W w.heap.size (q + 1) q Y.st Y.m Y.r
  b0 : W.heap[w.heap.size]? = some (.cells #[.bool false] 4 (0, 0))
  b7 : W.heap[z7]? = some (.cells #[.pointer (some ⟨q + 1, 0, none⟩)] 33 (0, 0))
  b9 : W.heap[z]? = some (.cells #[.int .i64 C] 3 (0, 0))
  ba : W.heap[z + 1]? = some (.cells #[.int .i64 A] 3 (0, 0))
  bm : W.heap[z + 1 + 1]? = some (.cells #[.pointer (some ⟨q + 1, 0, none⟩)] 33 (0, 0))
  bf : W.heap[z + 1 + 1 + 1]? = some (.cells #[.int .i64 fr] 3 (0, 0))
  ow : W.ownsRow (z7 + 1) 56 6 rv (rnsL X (wL X 0 1024)).length (rcL X (rnsL X (wL X 0 1024)))
  rz : ∀ r, rv.ownBlock = some r → r < z
  o0 : w.heap.size < q
  o1 : q + 1 < z7
  o2 : z7 < z
  k : Below w.heap.size w W
theorem TM.keepAt {W W' : World} {B p q m : Nat} {st : List Nd} {r : Nat → Bool} {Z : Nat} (h : TM W B p q st m r) (hn : ∀ k o, k ≠ Z → W.heap[k]? = some o → W'.heap[k]? = some o) {cs : Array Value} {t : TypeId} (hZ : W.heap[Z]? = some (.cells cs t (0, 0))) (ht : t ≠ 95) (ht2 : t ≠ 90) (ht3 : t ≠ 24) : TM W' B p q st m r := by
  obtain ⟨ra, rcap, h1, h2⟩ := h.tbl
  have np : p ≠ Z := fun e => by rw [e, hZ] at h1; simp at h1; exact ht h1.2
  have nq : q ≠ Z := fun e => by have := h.nodes; rw [e, hZ] at this; simp at this; exact ht2 this.2
  refine ⟨h.hp, h.hq, h.ne, h.n1, h.n2, ⟨ra, rcap, hn _ _ np h1, ?_⟩, hn _ _ nq h.nodes, h.rb⟩
  obtain ⟨g1, g2⟩ := h2
  refine ⟨g1, ?_⟩
  rcases g2 with g2 | ⟨g, cap, cur, e1, e2, e3, e4⟩
  · exact .inl g2
  · exact .inr ⟨g, cap, cur, e1, e2, hn _ _ (fun e => by rw [e, hZ] at e3; simp at e3; exact ht3 e3.2) e3, e4⟩
section
variable {w W W' : World} {q z7 z : Nat} {X Y Z : RM} {rv : Value} {fr : Int} {A C : Nat}
theorem WkM.below (h : WkM w W q z7 z X Y rv fr A C) (hb : Below W.heap.size W W') : WkM w W' q z7 z X Y rv fr A C := by
  have N : ∀ {k : Nat} {o : Obj}, W.heap[k]? = some o → W'.heap[k]? = some o := fun ho => (hb.block _ (blk_lt ho)).trans ho
  exact ⟨h.t.below hb, N h.b0, N h.b7, N h.b9, N h.ba, N h.bm, N h.bf, own_belowW h.ow hb, h.rz, h.o0, h.o1, h.o2, below_tr h.k hb⟩
theorem WkM.kept (h : WkM w W q z7 z X Y rv fr A C) {row : Option Nat} {Z : Nat} (hZ : w.heap.size ≤ Z) (hg : W.grownBy W' row) (hr : ∀ r, row = some r → Z ≤ r ∧ ∃ o : Obj, W.heap[r]? = some o ∧ o.isCells = false) : WkM w W' q z7 z X Y rv fr A C := by
  have hr2 := fun r e => (hr r e).2
  exact ⟨h.t.kept hg hr2, blk_kept7 h.b0 hg hr2, blk_kept7 h.b7 hg hr2, blk_kept7 h.b9 hg hr2, blk_kept7 h.ba hg hr2, blk_kept7 h.bm hg hr2, blk_kept7 h.bf hg hr2, own_stays7 h.ow hg hr2, h.rz, h.o0, h.o1, h.o2, h.k.grown hg h.k.size (fun r e => by have := (hr r e).1; omega)⟩
theorem WkM.frm (h : WkM w W q z7 z X Y rv fr A C) (f : Fr (q + 1) q W W') (t : TM W' w.heap.size (q + 1) q Z.st Z.m Z.r) : WkM w W' q z7 z X Z rv fr A C := by
  have o0 := h.o0
  have o1 := h.o1
  have o2 := h.o2
  have N : ∀ {k : Nat} {o : Obj}, k ≠ q + 1 → k ≠ q → W.heap[k]? = some o → W'.heap[k]? = some o := fun h1 h2 ho => (f.block _ (blk_lt ho) h1 h2).trans ho
  exact ⟨t, N (by omega) (by omega) h.b0, N (by omega) (by omega) h.b7, N (by omega) (by omega) h.b9, N (by omega) (by omega) h.ba, N (by omega) (by omega) h.bm, N (by omega) (by omega) h.bf, own_fr h.ow f (by omega) (by omega), h.rz, o0, o1, o2, Fr.below h.k f (by omega) (by omega) h.k.size⟩
theorem int_ne7 : (3 : Nat) ≠ 95 ∧ (3 : Nat) ≠ 90 ∧ (3 : Nat) ≠ 24 := by decide
theorem WkM.set9 (h : WkM w W q z7 z X Y rv fr A C) (C' : Nat) : WkM w (W.setCell ⟨z, 0, none⟩ (.int .i64 C')) q z7 z X Y rv fr A C' := by
  have o0 := h.o0
  have o1 := h.o1
  have o2 := h.o2
  have N : ∀ k o, k ≠ z → W.heap[k]? = some o → (W.setCell ⟨z, 0, none⟩ (.int .i64 C')).heap[k]? = some o := fun k o hk ho => (Below.heap_setCell _ _ _ _ hk).trans ho
  exact ⟨h.t.keepAt N h.b9 int_ne7.1 int_ne7.2.1 int_ne7.2.2, N _ _ (by omega) h.b0, N _ _ (by omega) h.b7, (setCell_block h.b9 _).trans (by simp), N _ _ (by omega) h.ba, N _ _ (by omega) h.bm, N _ _ (by omega) h.bf,
    ownsRow_setCell_other h.ow (fun e => by have := h.rz _ e; dsimp only at this; omega) _, h.rz, o0, o1, o2, h.k.setCell (by dsimp only; omega) _⟩
theorem WkM.seta (h : WkM w W q z7 z X Y rv fr A C) (A' : Nat) : WkM w (W.setCell ⟨z + 1, 0, none⟩ (.int .i64 A')) q z7 z X Y rv fr A' C := by
  have o0 := h.o0
  have o1 := h.o1
  have o2 := h.o2
  have N : ∀ k o, k ≠ z + 1 → W.heap[k]? = some o → (W.setCell ⟨z + 1, 0, none⟩ (.int .i64 A')).heap[k]? = some o := fun k o hk ho => (Below.heap_setCell _ _ _ _ hk).trans ho
  exact ⟨h.t.keepAt N h.ba int_ne7.1 int_ne7.2.1 int_ne7.2.2, N _ _ (by omega) h.b0, N _ _ (by omega) h.b7, N _ _ (by omega) h.b9, (setCell_block h.ba _).trans (by simp), N _ _ (by omega) h.bm, N _ _ (by omega) h.bf,
    ownsRow_setCell_other h.ow (fun e => by have := h.rz _ e; dsimp only at this; omega) _, h.rz, o0, o1, o2, h.k.setCell (by dsimp only; omega) _⟩
theorem WkM.c7 (h : WkM w W q z7 z X Y rv fr A C) : W.cell? ⟨z7, 0, none⟩ = some (.pointer (some ⟨q + 1, 0, none⟩)) := box_cell7 h.b7
theorem WkM.c9 (h : WkM w W q z7 z X Y rv fr A C) : W.cell? ⟨z, 0, none⟩ = some (.int .i64 C) := box_cell7 h.b9
theorem WkM.ca (h : WkM w W q z7 z X Y rv fr A C) : W.cell? ⟨z + 1, 0, none⟩ = some (.int .i64 A) := box_cell7 h.ba
theorem WkM.f9 (h : WkM w W q z7 z X Y rv fr A C) : W.frozen? ⟨z, 0, none⟩ = false := unfrozen_of_block h.b9 0
theorem WkM.ff (h : WkM w W q z7 z X Y rv fr A C) : W.frozen? ⟨z + 1, 0, none⟩ = false := unfrozen_of_block h.ba 0
/-- the number 'at' -/
def atW (z : Nat) (W : World) : Int := intOf ((W.cell? ⟨z + 1, 0, none⟩).getD undef)
theorem WkM.at_ (h : WkM w W q z7 z X Y rv fr A C) : atW z W = A := by unfold atW; rw [h.ca]; rfl
end
end Go.Proofs.YtfmclbacoffdaaaDoor

namespace Go.Proofs.YtfmclbacoffdaaaDoor
open Go.RowKit Go.Sort Go.Joins
attribute [local go_sem] cell_grow frozen_grow size_grow
theorem stS_bd (X : RM) (j : Nat) : ((stS X).getD j rn0).ks.length ≤ 10000 ∧ ((stS X).getD j rn0).ws.length ≤ 10000 := by
  by_cases hj : j < X.st.length
  · rw [stS_get X hj]
    unfold rnOf kN wN
    simp only [List.length_map, List.length_range]
    constructor
    · split
      · decide
      · split <;> decide
    · split <;> decide
  · have e : (stS X).getD j rn0 = rn0 := by
      rw [List.getD_eq_getElem?_getD, List.getElem?_eq_none (by rw [stS_len]; omega)]; rfl
    rw [e]; decide
/-- Same of two saved states -/
theorem same_st {w : World} {a1 a2 : Option Addr} {c1 c2 n1 n2 : Nat} {X Y : RM} (h1 : StR w a1 (stS X)) (h2 : StR w a2 (stS Y)) (l1 : X.st.length = n1) (l2 : Y.st.length = n2) (hn : n1 ≤ 145) (m1 m2 : Int) :
    Calls Tryd.prog 23 #[.agg #[.int .i64 m1, .slice a1 n1 c1], .agg #[.int .i64 m2, .slice a2 n2 c2]] w fun e w' => e = .returned (.bool (smS m1 m2 (stS X) (stS Y))) ∧ Below w.heap.size w w' := by
  have h := same_ok (c1 := c1) (c2 := c2) (m1 := m1) (m2 := m2) h1 h2 (by rw [stS_len]; omega) (fun j => (stS_bd X j).1) (fun j => (stS_bd X j).2)
  rwa [stS_len, stS_len, l1, l2] at h
section
variable {w : World} {a : Option Addr} {n cap : Nat} {C : Nat → Cl}
set_option maxRecDepth 100000 in
set_option maxHeartbeats 1600000 in
theorem empty_nil (N : Int) (h : N < 1 ∨ 145 < N ∨ 40 < n) (hT : Tab w) : Calls Tryd.prog 5 #[.int .i64 N, .slice a n cap] w fun e w' => e = .returned (.bool true) ∧ Below w.heap.size w w' := by
  have HM := Lib.hid (mkd_nil (w := w) (a := a) (cap := cap) N h)
  have HT := Lib.hid hT
  clear h hT
  go_enter Tryd.func5, Tryd.ntmps5
  go_wp2_with fail
  refine HM.out.mono ?_
  rintro e w1 ⟨rfl, b1⟩
  have B1 := Lib.hid b1
  clear b1
  go_wp2_with fail
  refine (awake_ok _ (HT.out.below B1.out)).mono ?_
  rintro e w2 ⟨rfl, b2⟩
  have B2 := Lib.hid (below_tr B1.out b2)
  clear b2
  go_wp2
  go_ret
  exact ⟨rfl, B2.out⟩
set_option maxRecDepth 100000 in
set_option maxHeartbeats 6400000 in
theorem empty_in (N : Nat) (h1 : 1 ≤ N) (h2 : N ≤ 145) (hn : n ≤ 40) (hC : SlC w a n C) (hT : Tab w) : Calls Tryd.prog 5 #[.int .i64 N, .slice a n cap] w fun e w' => e = .returned (.bool true) ∧ Below w.heap.size w w' := by
  have HM := Lib.hid (mkd_ok (cap := cap) N h1 h2 hn hC hT)
  have hG := RGood.mkM h1 C n
  have hl := (mkM_all h1 C n).2.2
  have hv := LvS.mkM N C n
  obtain ⟨X, hX⟩ : ∃ X, mkM N C n = X := ⟨_, rfl⟩
  rw [hX] at HM hG hl hv
  obtain ⟨hE1, hE2, hE3, hE4⟩ := clr_all hG.a hv
  have HG := Lib.hid hG
  have HL := Lib.hid hl
  obtain ⟨Y, hY⟩ : ∃ Y, clrX X 0 1024 = Y := ⟨_, rfl⟩
  rw [hY] at hE1 hE2 hE3 hE4
  have HY := Lib.hid hY
  have HYL : Hid (Y.st.length = N) := Lib.hid (hE3.trans hl)
  have HNL : Hid ((newM N).st.length = N) := Lib.hid (newM_len N)
  have HSM : Hid (smS (N : Int) (N : Int) (stS Y) (stS (newM N)) = true) := Lib.hid (decide_eq_true ⟨rfl, by rw [hE4, hl]⟩)
  have HYM := Lib.hid hE2
  have HT := Lib.hid hT
  have HN := Lib.hid (fun w => newm_ok N w h1 h2)
  have HN145 := Lib.hid h2
  clear hG hl hv hX hE1 hE2 hE3 hE4 hY hC hT
  go_enter Tryd.func5, Tryd.ntmps5
  go_wp2_with fail
  refine HM.out.mono ?_
  rintro e w1 ⟨rfl, m1, b1⟩
  have M1 := Lib.hid m1
  have B1 := Lib.hid b1
  clear m1 b1 HM
  go_wp2_with fail
  refine (HN.out _).mono ?_
  rintro e w2 ⟨rfl, m2, b2⟩
  have M2 := Lib.hid (M1.out.below b2)
  have N2 := Lib.hid m2
  have B2 := Lib.hid (below_tr B1.out b2)
  clear m2 b2 HN
  have hs1 := B1.out.size
  have hlp := M1.out.lp
  have HCL := Lib.hid (clear_ok M2.out HG.out.a B2.out.size 0 1024)
  rw [HY.out, show paE 0 1024 = 0 by decide] at HCL
  go_wp2_with fail
  refine HCL.out.mono ?_
  rintro e w3 ⟨rfl, m3, f3⟩
  have M3 := Lib.hid m3
  have N3 := Lib.hid (TM.other N2.out M2.out f3 (by omega) (by omega))
  have B3 := Lib.hid (Fr.below B2.out f3 (Nat.le_succ _) (Nat.le_refl _) B2.out.size)
  clear m3 f3 HCL
  have HND := Lib.hid (nodes_ok M3.out)
  rw [HYM.out] at HND
  go_wp2_with fail
  refine HND.out.mono ?_
  rintro e w4 ⟨rfl, rfl⟩
  have HSV := Lib.hid (save_ok M3.out)
  have HSV2 := Lib.hid (fun w' hb => save_ok (N3.out.below (w' := w') hb))
  rw [HYL.out] at HSV
  rw [HNL.out] at HSV2
  go_wp2_with fail
  refine HSV.out.mono ?_
  rintro e w5 ⟨a5, c5, rfl, ⟨K5, L5, o5⟩, b5⟩
  have S5 := Lib.hid o5.str
  have B5 := Lib.hid b5
  clear o5 b5 HSV
  go_wp2_with fail
  refine (HSV2.out _ B5.out).mono ?_
  rintro e w6 ⟨a6, c6, rfl, ⟨K6, L6, o6⟩, b6⟩
  have S6 := Lib.hid o6.str
  have S5' := Lib.hid (S5.out.below b6)
  have B6 := Lib.hid (below_tr B3.out (below_tr B5.out b6))
  clear o6 b6 HSV2
  have HSA := Lib.hid (same_st (c1 := c5) (c2 := c6) S5'.out S6.out HYL.out HNL.out HN145.out (N : Int) (N : Int))
  rw [HSM.out] at HSA
  go_wp2_with fail
  refine HSA.out.mono ?_
  rintro e w7 ⟨rfl, b7⟩
  have B7 := Lib.hid (below_tr B6.out b7)
  clear b7
  go_wp2_with fail
  refine (awake_ok _ (HT.out.below B7.out)).mono ?_
  rintro e w8 ⟨rfl, b8⟩
  have B8 := Lib.hid (below_tr B7.out b8)
  clear b8
  go_wp2
  go_ret
  exact ⟨rfl, B8.out⟩
/-- RadixEmpty returns true -/
theorem law_empty (N : Int) (hC : SlC w a n C) (hT : Tab w) : Calls Tryd.prog 5 #[.int .i64 N, .slice a n cap] w fun e w' => e = .returned (.bool true) ∧ Below w.heap.size w w' := by
  by_cases h : N < 1 ∨ 145 < N ∨ 40 < n
  · exact empty_nil N h hT
  · obtain ⟨N', rfl⟩ := Int.eq_ofNat_of_zero_le (show 0 ≤ N by omega)
    exact empty_in N' (by omega) (by omega) (by omega) hC hT
end
end Go.Proofs.YtfmclbacoffdaaaDoor
