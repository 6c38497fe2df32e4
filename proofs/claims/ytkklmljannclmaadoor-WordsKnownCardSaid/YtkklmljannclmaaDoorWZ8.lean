/- Words: List: what is kept while the items are asked. | Regions that draw their order and only read, inside a fence, in a round as well: one walk of the text's order serves every order. No program. | Regions that draw their order, in a round of a range over a function: held cells (the kit's moves of OrdersHeld) serve there too. No program. | A walk cut at a region: the code from there on, by its number. No program. | Words: the least text of a list, by the program. | Words: the builder of List, and what it leaves. -/
import Derived.Test.YtkklmljannclmaaDoorWZ7
import Derived.Test.YtkklmljannclmaaDoorWZ5
import Derived.Sort.QuietIn
import Derived.OwnWalkIn
import Derived.OrdersHeld
import Derived.Deep.RegionHeld
import Derived.RangeFuncCalls
import Derived.Walk
import Derived.Test.YtkklmljannclmaaDoorWZ1
import Derived.ControlIn
import Derived.Test.YtkklmljannclmaaDoorWZ4
import Derived.Deep.OwnRows
import Derived.Deep.RegionHeld3
import Derived.Deep.Cut
namespace Go.Proofs.YtkklmljannclmaaDoor
open Go.RowKit Go.Sort Go.Joins

/-- wpIn_iter, the act behind the assignment told out of the act ahead of the loop -/
theorem wpIn_iter_ax {α : Type} {F : Fence} {n : Nat} {P : Program} {g : Operand} {ps : Array Tmp} {assign body : Code} {Q : Exit → Act → World → Prop} {a : Act} {w : World}
    (hro : F.round = none) (h1 : 1 ≤ n) {gf : Nat} {lb : Array Value} (hg : a.eval g = .func (.func gf) #[] lb) (hFg : F.fn gf) (eg : ∀ args w, (callFunc gf args).run P w = .ok (.enter gf args) w)
    {encs : α → Array Value} {G : List α → α → Prop} {S : List α → Prop} (I : List α → World → Prop) (hseq : SeqI F (n - 1) P gf lb encs I G S w)
    (hps : ∀ x, (encs x).size = ps.size) (Ix : Code → List α → World → Prop) (hI : OwnFrom w.heap.size I) (hIx : ∀ c, OwnFrom w.heap.size (Ix c)) (h0 : I [] w) (Af : Act → α → Act → World → Prop) (hAx : ∀ x a', OwnFrom w.heap.size (fun (_ : Unit) W => Af a x a' W))
    (hassign : ∀ (l : Nat) (pre : List α) (x : α) (W : World) (K : Act → World → Prop), I pre W → G pre x → (∀ a' W', KeepsFrom w.heap.size W W' → I pre W' → Af a x a' W' → K a' W') →
      assign.wpIn (F.inRound l) (n - 1 - 1) P (Exit.then K (fun _ _ _ => False)) { tmps := (ps.zip (encs x)).foldl (fun t (p, v) => t.setIfInBounds p v) a.tmps, defers := [] } W)
    (hbody : ∀ (l : Nat) (pre : List α) (x : α) (a' : Act) (W : World), w.heap.size ≤ l → I pre W → Af a x a' W → G pre x → body.wpIn (F.inRound l) (n - 1 - 1) P (roundPost w.heap.size I Ix (pre ++ [x]) W) a' W)
    (hdone : ∀ (D : Nat) (xs : List α) (W : World), w.heap.size ≤ D → S xs → I xs W → W.heap[D]? = some (.deferred (some [])) → Q .normal { a with defers := { target := .collected D, args := #[] } :: a.defers } W)
    (hstop : ∀ (D : Nat) (c : Code) (pre : List α) (W : World), w.heap.size ≤ D → Ix c pre W → W.heap[D]? = some (.deferred (some [])) → c.wpIn F n P Q { a with defers := { target := .collected D, args := #[] } :: a.defers } W) :
    (Code.rangeFunc g ps assign body).wpIn F n P Q a w :=
  wpIn_iter hro h1 hg hFg eg I hseq hps Ix hI hIx h0 (Af a) hAx hassign hbody hdone hstop
def frB (x : ItB) : Itm := (x.1.data.toList, x.2)
theorem fr_to (x : Itm) : frB (toB x) = x := rfl
theorem fr_items (M : List Nat) : (itB M).map frB = itemsL M := by
  unfold itB
  rw [List.map_map]
  conv => rhs; rw [← List.map_id (itemsL M)]
  exact List.map_congr_left fun x _ => fr_to x
theorem git_mem {M : List Nat} {pre : List ItB} {x : ItB} (h : GIt M pre x) : ∃ y, y ∈ itemsL M ∧ x = toB y := by
  obtain ⟨i, _, hx⟩ := h
  obtain ⟨y, hy, e⟩ := List.mem_map.1 (List.mem_of_getElem? hx)
  exact ⟨y, hy, e.symm⟩
theorem items_size {M : List Nat} (h9 : ∀ x, x ∈ M → x ≤ 9999) (hl : M.length ≤ 500) {y : Itm} (hy : y ∈ itemsL M) : y.1.length ≤ 11 := by
  have dl : ∀ n, n ≤ 99999 → (Lib.decDigits n).length ≤ 5 := fun n h => dec_size h
  cases M with
  | nil => cases hy
  | cons f r =>
    have hf := h9 f (by simp)
    have hm := (items_many hy).2
    rcases mem_items.1 hy with rfl | ⟨j, hj, rfl⟩ | ⟨j, hj, rfl⟩
    · have := dl f (by omega); dsimp only; omega
    · have hu := runU_le (f :: r) f
      have h1 := dl f (by omega)
      have h2 := dl (f + j + 1) (by omega)
      unfold upI
      simp only [List.length_append, List.length_cons]; omega
    · have hu := runA_le f (f :: r)
      have h1 := dl f (by omega)
      have h2 := dl (j + 2) (by omega)
      unfold alI
      simp only [List.length_append, List.length_cons]; omega
theorem SlN.drop {w : World} {b o : Nat} {I : List Int} (h : SlN w (some ⟨b, o, none⟩) I) (j : Nat) : SlN w (some ⟨b, o + j, none⟩) (I.drop j) := by
  by_cases h0 : I.drop j = []
  · exact .inl h0
  · refine .inr ⟨b, o + j, rfl, fun i hi => ?_⟩
    rw [List.length_drop] at hi
    obtain ⟨b', o', e, hc⟩ := h.at_ (j := j + i) (by omega)
    cases e
    rw [List.getD_eq_getElem?_getD, List.getElem?_drop, ← List.getD_eq_getElem?_getD, Nat.add_assoc]
    exact hc
theorem ints_drop (N : List Nat) (j : Nat) : (ints N).drop j = ints (N.drop j) := by unfold ints; rw [List.map_drop]
/-- the lengths while the items at j are asked -/
def minP (N : List Nat) (j : Nat) (pre : List ItB) (i : Nat) : Nat := if i = j then minV N j (pre.map frB) (oneB N j) else bst N (j + 1) i
theorem minP_snoc (N : List Nat) (j : Nat) (pre : List ItB) (x : ItB) (i : Nat) : minP N j (pre ++ [x]) i = if i = j then min (minV N j (pre.map frB) (oneB N j)) (valB N j (frB x)) else minP N j pre i := by
  unfold minP
  by_cases h : i = j
  · rw [if_pos h, if_pos h, List.map_append, List.map_cons, List.map_nil, minV_snoc]
  · rw [if_neg h, if_neg h, if_neg h]
theorem minP_all {N : List Nat} {j : Nat} (h : j < N.length) (i : Nat) : minP N j (itB (N.drop j)) i = bst N j i := by
  unfold minP
  by_cases e : i = j
  · subst e
    rw [if_pos rfl, fr_items, minV_all h]
    unfold bst
    rw [if_pos (Nat.le_refl _)]
  · rw [if_neg e]
    unfold bst
    by_cases h1 : j + 1 ≤ i
    · rw [if_pos h1, if_pos (by omega)]
    · rw [if_neg h1, if_neg (by omega)]
/-- memory while the items at j are asked -/
structure IV (w : World) (n : Nat) (P : Nat → Nat) (ds : List Nat) (zq : Nat) (V : Value) (q : Nat) (j : Nat) (W : World) : Prop where
  lm : LM w n P ds W
  zb : W.heap[zq]? = some (.cells #[V] 39 (0, 0))
  qb : BoxI W q (j : Int)
section
variable {w W W' : World} {n : Nat} {P P' : Nat → Nat} {ds : List Nat} {zq q j : Nat} {V : Value}
theorem IV.below (h : IV w n P ds zq V q j W) (hb : Below W.heap.size W W') : IV w n P ds zq V q j W' :=
  ⟨h.lm.below hb, (hb.block _ (blk_lt h.zb)).trans h.zb, (hb.block _ (blk_lt h.qb)).trans h.qb⟩
theorem IV.grown {Z : Nat} {row : Option Nat} (h : IV w n P ds zq V q j W) (hZ : w.heap.size ≤ Z) (hds : ∀ D ∈ ds, D < Z) (hg : W.grownBy W' row) (hr : ∀ r, row = some r → Z ≤ r ∧ ∃ o : Obj, W.heap[r]? = some o ∧ o.isCells = false) : IV w n P ds zq V q j W' :=
  ⟨h.lm.grown hZ hds hg hr, blk_kept h.zb hg (fun r e => (hr r e).2), blk_kept h.qb hg (fun r e => (hr r e).2)⟩
theorem IV.store {m v : Nat} (h : IV w n P ds zq V q j W) (hz : w.heap.size ≠ zq) (hq : w.heap.size ≠ q) (hM : ∀ i, i < n + 1 → P' i = if i = m then v else P i) : IV w n P' ds zq V q j (W.setCell ⟨w.heap.size, m, none⟩ (.int .i64 (v : Int))) :=
  ⟨h.lm.store hM, (Below.heap_setCell _ _ _ _ (Ne.symm hz)).trans h.zb, (Below.heap_setCell _ _ _ _ (Ne.symm hq)).trans h.qb⟩
end
end Go.Proofs.YtkklmljannclmaaDoor

namespace Go.Proofs.YtkklmljannclmaaDoor
open Go
/-- no defer statement -/
def plainOp (o : Oper) : Bool := match o.op with
  | .defer _ => false
  | _ => true
theorem plainOp_ne {o : Oper} (h : plainOp o = true) : ∀ c, o.op ≠ .defer c := fun c e => by
  unfold plainOp at h
  rw [e] at h
  cases h
section
variable {F : Fence} {n : Nat} {P : Program} {ops : Array Oper} {md : Region.Mode} {C : World → Prop}
theorem quiet_wpIn {o : Oper} {a : Act} {K : Act → Prop} {K' : Act → World → Prop} {Q' : Exit → Act → World → Prop} {w : World} (hro : ∀ c, o.op ≠ .defer c) (hw : C w) (h : ∀ a w', C w' → K a → K' a w')
    (ha : o.askedIn F P a C) (hh : o.quietIn F n P a C K) : o.wpIn F n P a w K' Q' := by
  obtain ⟨v, h1, h2⟩ := hh
  have h3 := h1 w hw
  unfold Oper.quietAtIn at h3
  unfold Oper.wpIn
  refine ⟨ha w hw, ?_⟩
  rw [Oper.semAt_plain F _ _ hro]
  generalize (execOp a.eval o).run P w = r at *
  cases r with
  | ok x w' =>
    cases x <;> simp only [Oper.quietUponIn] at h3 <;> simp only [Oper.uponIn]
    case value u =>
      obtain ⟨e1, e2⟩ := h3
      rw [e1, e2]
      exact h _ _ hw h2
    case skip =>
      obtain ⟨e1, e2⟩ := h3
      rw [e1, ← e2]
      exact h _ _ hw h2
    case enter f args =>
      obtain ⟨e1, hd, hc⟩ := h3
      rw [e1]
      exact ⟨hd, hc.mono fun e w'' ⟨he, hw''⟩ => by subst he; exact h _ _ hw'' h2⟩
  | halt x w' => simp only [Oper.quietUponIn] at h3
theorem wpOpIn_quiet {i : Nat} {a : Act} {K : Act → Prop} {K' : Act → World → Prop} {Q' : Exit → Act → World → Prop} {w : World} (hro : ∀ (i : Nat) (o : Oper), ops[i]? = some o → ∀ c, o.op ≠ .defer c) (hC : C w) (h : ∀ a w', C w' → K a → K' a w')
    (hh : qOpIn F n P ops C i K a) : wpOpIn F n P ops Q' i K' a w := by
  unfold qOpIn at hh
  unfold wpOpIn
  split
  · rename_i ho; simp only [ho] at hh; exact h _ _ hC hh
  · rename_i o ho
    simp only [ho] at hh
    obtain ⟨ha, hh⟩ := hh
    split
    · rename_i hw; simp only [hw, if_true] at hh; exact quiet_wpIn (hro _ _ ho) hC h ha hh
    · rename_i hw; simp only [hw] at hh; exact ⟨ha w hC, h _ _ hC hh⟩
theorem wpAnyIn_quiet {Q : Act → Prop} {Q' : Exit → Act → World → Prop} (hro : ∀ (i : Nat) (o : Oper), ops[i]? = some o → ∀ c, o.op ≠ .defer c) (hQ : ∀ a w, C w → Q a → Q' .normal a w) : ∀ (fuel : Nat) (listed : Array Bool) (a : Act) (w : World), C w →
    wpAnyQIn F n P md ops C Q fuel listed a → wpAnyIn F n P md ops Q' fuel listed a w
  | 0, _, _, _, hw, h => ⟨h.1, hQ _ _ hw h.2⟩
  | fuel + 1, _, _, _, hw, h => ⟨fun h0 => hQ _ _ hw (h.1 h0), fun i hi => wpOpIn_quiet hro hw (fun a' w' hw' => wpAnyIn_quiet hro hQ fuel _ a' w' hw') (h.2 i hi)⟩
theorem wpIn_quiet_lit {id : Nat} {Q : Exit → Act → World → Prop} {a : Act} {w : World} {l : List Oper} (hro : l.all plainOp = true) (hm : P.follows .mixedOrders = true) (hB : Region.lexB .any l.toArray = true)
    (h : wpQuietIn F n P l.toArray (fun w' => ∃ n, w' = w.drewN n) (fun a' => ∀ w', (∃ n, w' = w.drewN n) → Q .normal a' w') l a) : (Code.region id l.toArray true).wpIn F n P Q a w := by
  simp only [Region.lexB, Bool.and_eq_true] at hB
  have hp : ∀ (i : Nat) (o : Oper), l.toArray[i]? = some o → ∀ c, o.op ≠ .defer c := fun i o ho =>
    plainOp_ne (List.all_eq_true.1 hro o (by
      rw [List.getElem?_toArray] at ho
      exact List.mem_of_getElem? ho))
  refine wpIn_region_any hm (wpAnyIn_quiet (C := fun w' => ∃ n, w' = w.drewN n) (Q := fun a' => ∀ w', (∃ n, w' = w.drewN n) → Q .normal a' w') hp (fun _ w' hw' h => h w' hw') _ _ _ _ ⟨1, rfl⟩ ?_)
  have := wpAnyQIn_lex (F := F) (n := n) (C := fun w' => ∃ n, w' = w.drewN n) (md := .any) hB.1 l 0 (Array.replicate l.toArray.size false) a (by simp) (by simpa using hB.2) h
  simpa using this
end
end Go.Proofs.YtkklmljannclmaaDoor

namespace Go.Proofs.YtkklmljannclmaaDoor
open Go
section
variable {P : Program} {ops : Array Oper} {Q : Exit → Act → World → Prop} {md : Region.Mode} {S : World → Prop} {l n : Nat}
theorem rowsIn_wideR {row : String} {args : Array Value} {w : World} {R : Value → World → Prop} (h : Rows P row args w R) : RowsIn (Fence.wide.inRound l) n P row args w R :=
  fun c cs _ => let ⟨v, w', r, s⟩ := h c cs; ⟨v, w', r, stepsIn_wide.2 s⟩
theorem callsIn_wideR {f : FuncId} {args : Array Value} {w : World} {R : Ending → World → Prop} (h : Calls P f args w R) : CallsIn (Fence.wide.inRound l) n P f args w R :=
  CallsIn.inRound l (callsIn_wide.2 h)
theorem operIn_wideR {o : Oper} {a : Act} {K : Act → World → Prop} {w : World} (hp : plainOp o = true) (h : o.wp P a w K Q) : o.wpIn (Fence.wide.inRound l) n P a w K Q := by
  unfold Oper.wp at h
  unfold Oper.wpIn
  refine ⟨fun _ _ => trivial, ?_⟩
  rw [Oper.semAt_plain (Fence.wide.inRound l) _ _ (plainOp_ne hp)]
  generalize (execOp a.eval o).run P w = r at *
  cases r with
  | ok x w' =>
    cases x <;> simp only [Oper.upon] at h <;> simp only [Oper.uponIn]
    case value u => exact h
    case skip => exact h
    case defer d => exact h
    case enter f args =>
      refine ⟨fun e => by simp [Fence.inRound, Fence.wide] at e, callsIn_wideR ?_⟩
      refine h.mono ?_
      intro e w'' he
      cases e with
      | returned v => exact he
      | panicked c => exact he
      | outgrown => exact he
    case row row args => exact ⟨fun e => by simp [Fence.inRound, Fence.wide] at e, rowsIn_wideR h⟩
  | halt x w' => cases x <;> simp only [Oper.upon] at h <;> simp only [Oper.uponIn]; exact h
theorem wpOpIn_wideR {i : Nat} {a : Act} {K : Act → World → Prop} {w : World} (hp : ∀ (i : Nat) (o : Oper), ops[i]? = some o → plainOp o = true) (hL : ¬ LetsOut Q) (h : wpOp P ops Q i K a w) : wpOpIn (Fence.wide.inRound l) n P ops Q i K a w := by
  unfold wpOp at h
  unfold wpOpIn
  split
  · rename_i ho; simp only [ho] at h; exact h
  · rename_i o ho
    simp only [ho] at h
    split
    · rename_i hw
      simp only [hw, if_true] at h
      rcases h with h | ⟨_, h⟩
      · exact operIn_wideR (hp _ _ ho) h
      · exact absurd h hL
    · rename_i hw; simp only [hw] at h; exact ⟨fun _ _ => trivial, h⟩
theorem wpAnyIn_wideR (hp : ∀ (i : Nat) (o : Oper), ops[i]? = some o → plainOp o = true) (hL : ¬ LetsOut Q) : ∀ (fuel : Nat) (listed : Array Bool) (a : Act) (w : World), wpAny P md ops Q fuel listed a w → wpAnyIn (Fence.wide.inRound l) n P md ops Q fuel listed a w
  | 0, _, _, _, h => h
  | fuel + 1, _, _, _, h => ⟨h.1, fun i hi => wpOpIn_wideR hp hL (wpOp_mono (fun a' w' h' => wpAnyIn_wideR hp hL fuel _ a' w' h') (h.2 i hi))⟩
theorem wpIn_heldR (S : World → Prop) {id : Nat} {a : Act} {w : World} {lo : List Oper} (hp : lo.all plainOp = true) (hm : P.follows .mixedOrders = true) (hL : ¬ LetsOut Q) (hS : S w.drew)
    (h : S w.drew → wpAnyH P .any lo.toArray Q S lo.toArray.size (Array.replicate lo.toArray.size false) a w.drew) : (Code.region id lo.toArray true).wpIn (Fence.wide.inRound l) n P Q a w := by
  have hq : ∀ (i : Nat) (o : Oper), lo.toArray[i]? = some o → plainOp o = true := fun i o ho => List.all_eq_true.1 hp o (by
    rw [List.getElem?_toArray] at ho
    exact List.mem_of_getElem? ho)
  exact wpIn_region_any hm (wpAnyIn_wideR hq hL _ _ _ _ (wpAny_of_held _ _ _ _ (h hS)))
end
end Go.Proofs.YtkklmljannclmaaDoor

namespace Go.Proofs.YtkklmljannclmaaDoor
open Go

def isReg (k : Nat) : Code → Bool
  | .region id _ _ => id == k
  | _ => false
/-- the first place (in the text's order) where a region's number is followed by more code -/
def fndC (k : Nat) : Code → Option Code
  | .seq x y => bif isReg k x then some (.seq x y) else (match fndC k x with
    | some c => some c
    | none => fndC k y)
  | .cond _ x y => (match fndC k x with
    | some c => some c
    | none => fndC k y)
  | .block _ c => fndC k c
  | .loop c => fndC k c
  | .scope c => fndC k c
  | .rangeFunc _ _ x y => (match fndC k x with
    | some c => some c
    | none => fndC k y)
  | _ => none
def codeAt (f : Func) (k : Nat) : Code := match f.body with
  | some c => (fndC k c).getD .skip
  | none => .skip
theorem use_code {c d : Code} {F : Fence} {n : Nat} {P : Program} {Q : Exit → Act → World → Prop} {a : Act} {w : World} (h : d = c) (hw : d.wpIn F n P Q a w) : c.wpIn F n P Q a w := h ▸ hw
end Go.Proofs.YtkklmljannclmaaDoor

namespace Go.Proofs.YtkklmljannclmaaDoor
open Go.RowKit Go.Sort Go.Joins Go.Shelf
attribute [local go_sem] cell_grow frozen_grow size_grow Oper.semAt_some

def lsBad (x : Int) : Bool := decide (x < 0) || decide (9999 < x)
def lstE (I : List Int) : Int := if 500 < I.length then 3 else if I.any lsBad then 7 else 0
def nats (I : List Int) : List Nat := I.map Int.toNat
def lstL (I : List Int) : List UInt8 := if lstE I = 0 then bestS (nats I) else []
/-- what List hands back -/
def LsPost (w : World) (L : List UInt8) (E : Int) (x : Ending) (w' : World) : Prop :=
  ∃ S : ByteArray, x = .returned (.tuple #[.string S, .int .i64 E]) ∧ S.data.toList = L ∧ Below w.heap.size w w'
theorem ints_nats {I : List Int} (h : I.any lsBad = false) : ints (nats I) = I := by
  unfold ints nats
  rw [List.map_map]
  conv => rhs; rw [← List.map_id I]
  apply List.map_congr_left
  intro x hx
  have := List.any_eq_false.1 h x hx
  unfold lsBad at this
  simp at this
  simp; omega
theorem nats_le {I : List Int} (h : I.any lsBad = false) : ∀ x, x ∈ nats I → x ≤ 9999 := by
  intro x hx
  obtain ⟨y, hy, rfl⟩ := List.mem_map.1 hx
  have := List.any_eq_false.1 h y hy
  unfold lsBad at this
  simp at this
  omega
set_option maxRecDepth 100000 in
set_option maxHeartbeats 6400000 in
theorem wlist_bad (I : List Int) (a : Option Addr) (c : Nat) (w : World) (hS : SlN w a I) (_ : I.length ≤ c) (hT : T1 w) (hlen : I.length ≤ 4611686018427387904) (hbad : lstE I ≠ 0) :
    Calls Tryd.prog 21 #[.slice a I.length c] w (LsPost w (lstL I) (lstE I)) := by
  by_cases h1 : 500 < I.length
  · have d1 : decide ((500 : Int) < (I.length : Int)) = true := decide_eq_true (by omega)
    have hE : lstE I = 3 := by unfold lstE; rw [if_pos h1]
    have hL : lstL I = [] := by unfold lstL; rw [hE, if_neg (by decide)]
    rw [hE, hL]
    clear hS hT
    go_enter Tryd.func21, Tryd.ntmps21
    go_wp2
    go_ret2
    exact ⟨_, rfl, rfl, Below.refl _ _⟩
  · have d1 : decide ((500 : Int) < (I.length : Int)) = false := decide_eq_false (by omega)
    have hE : lstE I = if I.any lsBad then 7 else 0 := by unfold lstE; rw [if_neg h1]
    have HS := Lib.hid hS
    have HT := Lib.hid hT
    obtain ⟨n, hn⟩ : ∃ n, I.length = n := ⟨_, rfl⟩
    have HN := Lib.hid hn
    cases hany : I.any lsBad with
    | true =>
      rw [hany] at hE
      have hL : lstL I = [] := by unfold lstL; rw [hE]; rfl
      have HA := Lib.hid hany
      rw [hE, hL]
      rw [hn] at d1 h1 ⊢
      clear hS hT hE hn hlen hany hL
      go_enter Tryd.func21, Tryd.ntmps21
      go_wp2
      go_loopw [18] (fun i wr => ∃ k : Nat, i = .int .i64 (k : Int) ∧ k ≤ n ∧ wr = w ∧ Hid (∀ j, j < k → lsBad (I.getD j 0) = false)) (fun i _ => n - (intOf i).toNat)
      case atStart => exact ⟨0, rfl, Nat.zero_le _, rfl, Lib.hid (fun j hj => absurd hj (Nat.not_lt_zero _))⟩
      case round =>
        obtain ⟨k, rfl, hk, rfl, HG⟩ := hrel
        by_cases hlt : k < n
        · obtain ⟨b, o, rfl, g0⟩ := HS.out.at_ (j := k) (by rw [HN.out]; exact hlt)
          obtain ⟨x, hx⟩ : ∃ x, I.getD k 0 = x := ⟨_, rfl⟩
          rw [hx] at g0
          cases hb : lsBad x with
          | true =>
            have hb' := hb
            unfold lsBad at hb'
            clear hb hx
            have hor : decide (x < 0) = true ∨ (decide (x < 0) = false ∧ decide (9999 < x) = true) := by
              cases h : decide (x < 0)
              · right; rw [h] at hb'; exact ⟨rfl, by simpa using hb'⟩
              · exact .inl rfl
            clear hb'
            rcases hor with d2 | ⟨d2, d3⟩
            all_goals
              go_wp2
              go_ret2
              exact ⟨_, rfl, rfl, Below.refl _ _⟩
          | false =>
            have hb' := hb
            unfold lsBad at hb'
            simp only [Bool.or_eq_false_iff] at hb'
            obtain ⟨d2, d3⟩ := hb'
            have HG2 : Hid (∀ j, j < k + 1 → lsBad (I.getD j 0) = false) := Lib.hid (fun j hj => by
              by_cases e : j = k
              · rw [e, hx]; exact hb
              · exact HG.out j (by omega))
            clear hb hx
            go_wp2
            go_roundw
            case rel => exact ⟨k + 1, by go_num, by omega, trivial, HG2⟩
            case measure => simp [intOf]; omega
        · exfalso
          obtain ⟨x, hx, hxb⟩ := List.any_eq_true.1 HA.out
          obtain ⟨j, hj, rfl⟩ := List.mem_iff_getElem.1 hx
          have := HG.out j (by rw [HN.out] at hj; omega)
          rw [List.getD_eq_getElem?_getD, List.getElem?_eq_getElem hj] at this
          have : lsBad I[j] = false := this
          rw [hxb] at this; cases this
    | false => exact absurd (by rw [hE, hany]; rfl) hbad
set_option maxRecDepth 100000 in
set_option maxHeartbeats 6400000 in
theorem wlA (N : List Nat) (a : Option Addr) (n c : Nat) (w : World)
    (hG : ∀ A W, L2e w a n c N A W → (codeAt Tryd.f21 19).wpIn Fence.wide 8 Tryd.prog (bodyPostM Fence.wide 8 Tryd.prog Tryd.f21 (LsPost w (bestS N) 0)) A W)
    (hS : SlN w a (ints N)) (h9 : ∀ x, x ∈ N → x ≤ 9999) (hNl : N.length = n) (h1 : n ≤ 500) (hc : n ≤ c) (hT : T1 w) :
    Calls Tryd.prog 21 #[.slice a n c] w (LsPost w (bestS N) 0) := by
      have HGG := Lib.hid hG
      have HS := Lib.hid hS
      have HT := Lib.hid hT
      have HNL := Lib.hid hNl
      have H9 := Lib.hid h9
      have HA : Hid (∀ x, x ∈ ints N → lsBad x = false) := Lib.hid (fun x hx => by
        unfold ints at hx
        obtain ⟨y, hy, rfl⟩ := List.mem_map.1 hx
        have := H9.out y hy
        unfold lsBad
        rw [decide_eq_false (by omega), decide_eq_false (by omega)]; rfl)
      have d1 : decide ((500 : Int) < (n : Int)) = false := decide_eq_false (by omega)
      clear hG hS hT hNl h9
      have hmk := fun W => run_make_row' (P := Tryd.prog) 39 3 (.int .i64 0) 8 Tryd.underlying39 info_int rfl .i64 .i64 (n + 1) (by omega) (by omega) W
      rw [show ((n + 1 : Nat) : Int) = (n : Int) + 1 by omega] at hmk
      refine (callsIn_wide (n := 8)).1 ?_
      refine callsIn_of_wp_marks Tryd.func21 rfl trivial ?_ rfl
      simp only [Tryd.ntmps21, List.size_toArray, List.length_cons, List.length_nil, Nat.reduceAdd, Nat.reduceSub, Array.replicate_succ, Array.replicate_zero, List.push_toArray, List.append_toArray, List.nil_append, List.cons_append]
      gi_wp2
      gi_loopw [18] (fun i wr => ∃ k : Nat, i = .int .i64 (k : Int) ∧ k ≤ n ∧ w = wr) (fun i _ => n - (intOf i).toNat)
      case atStart => exact ⟨0, rfl, Nat.zero_le _, rfl⟩
      case round =>
        obtain ⟨k, rfl, hk, rfl⟩ := hrel
        by_cases hlt : k < n
        · obtain ⟨b, o, rfl, g0⟩ := HS.out.at_ (j := k) (by rw [ints_len, HNL.out]; exact hlt)
          have hmem : (ints N).getD k 0 ∈ ints N := by
            rw [List.getD_eq_getElem?_getD, List.getElem?_eq_getElem (by rw [ints_len, HNL.out]; exact hlt)]
            exact List.getElem_mem _
          have hb := HA.out _ hmem
          obtain ⟨x, hx⟩ : ∃ x, (ints N).getD k 0 = x := ⟨_, rfl⟩
          rw [hx] at g0 hb
          unfold lsBad at hb
          simp only [Bool.or_eq_false_iff] at hb
          obtain ⟨d2, d3⟩ := hb
          clear hx hmem hmk
          gi_wp2
          go_roundw
          case rel => exact ⟨k + 1, by go_num, by omega, trivial⟩
          case measure => simp [intOf]; omega
        · obtain rfl : n = k := by omega
          clear HA
          gi_wp2
          refine wpIn_loop (L2 w a n c N) mu2 ?_ ?_
          · refine ⟨n, _, _, _, _, _, _, _, _, _, _, _, _, _, _, _, _, _, _, _, _, _, _, _, _, _, _, _, _, _, _, _, _, _, _, _, _, _, _, _, _, _, _, _, _, _, _, _, _, _, _, _, _, _, _, _, _, _, _, _, [], rfl, Nat.le_refl _, ?_, ?_, ?_⟩
            rotate_left
            · exact heap_alloc_is _ _ _ _ (by simp)
            · have h0 := zeros_il w (n + 1) (by omega)
              have h1 := own_below h0 (below_box0 _ (.cells #[.slice (some ⟨w.heap.size, 0, none⟩) (n + 1) (n + 1)] 39))
              have h2 := own_below h1 (below_box0 _ (.cells #[.int .i64 ((n : Int) - 1)] 3))
              refine ⟨?_, ?_, ?_, MksAt.nil _ _⟩
              · rw [il_congr (q := fun _ => 0) (fun i hi => by
                  unfold bst
                  split
                  · rw [show i = N.length by rw [HNL.out]; omega, lenB_end]
                  · rfl)]
                exact h2
              · exact (Below.heap_alloc _ _ _ (by simp)).trans (heap_alloc_is _ _ _ _ (by simp))
              · exact (((Below.refl _ _).alloc (Nat.le_refl _) _).alloc (by simp) _).alloc (by simp; omega) _
            · omega
          · rintro A W ⟨j1, q, u2, u3, u5, u20, u21, u22, u23, u24, u25, u26, u27, u28, u8, u36, u37, u38, u39, u40, u41, u42, u43, u44, u45, u46, u47, u48, u49, u50, u51, u52, u53, u54, u55, u56, u57, u58, u59, u60, u61, u62, u63, u64, u65, u66, u67, u68, u69, u70, u71, u72, u73, u74, u75, u76, u77, u78, u79, u80, ds, rfl, hj, hq, hB, hM⟩
            by_cases h0 : j1 = 0
            · subst h0
              have x7 : W.cell? ⟨q, 0, none⟩ = some (.int .i64 (-1)) := by rw [cell_of_block hB]; rfl
              have HMM := Lib.hid hM
              have HBB := Lib.hid hB
              clear hM hB
              refine wpIn_wide.2 ?_
              go_upto_region 19 with fail
              try dsimp +zetaDelta only
              obtain ⟨A, hA⟩ : ∃ A : Act, A = { tmps := #[.slice a n c, undef, u2, u3, undef, u5, .pointer (some ⟨w.heap.size + 1, 0, none⟩), .pointer (some ⟨q, 0, none⟩), u8, undef, undef, undef, undef, .slice a n c, .int .i64 (n : Int), .bool false, .slice a n c, .int .i64 (n : Int), .int .i64 (n : Int), .bool false, u20, u21, u22, u23, u24, u25, u26, u27, u28, .slice a n c, .int .i64 (n : Int), .int .i64 ((n : Int) + 1), .slice (some ⟨w.heap.size, 0, none⟩) (n + 1) (n + 1), .slice a n c, .int .i64 (n : Int), .int .i64 ((n : Int) - 1), .int .i64 (-1), .bool false, u38, u39, u40, u41, u42, u43, u44, u45, u46, u47, u48, u49, u50, u51, u52, u53, u54, u55, u56, u57, u58, u59, u60, u61, u62, u63, u64, u65, u66, u67, u68, u69, u70, u71, u72, u73, u74, u75, u76, u77, u78, u79, u80, undef, undef, undef, undef, undef, undef, undef, undef, undef, undef, undef, undef, undef, undef, undef, undef, undef, undef, undef, undef, undef, undef, undef, undef, undef, undef, undef, undef, undef, undef, undef, undef, undef, undef, undef, undef, undef, undef, undef, undef, undef, undef, undef, undef, undef, undef, undef, undef, undef, undef, undef, undef, undef, undef], defers := mks ds } := ⟨_, rfl⟩
              rw [← hA]
              refine use_code (d := codeAt Tryd.f21 19) (by kernel_rfl) ?_
              exact HGG.out A W ⟨q, u2, u3, u5, u20, u21, u22, u23, u24, u25, u26, u27, u28, u8, u38, u39, u40, u41, u42, u43, u44, u45, u46, u47, u48, u49, u50, u51, u52, u53, u54, u55, u56, u57, u58, u59, u60, u61, u62, u63, u64, u65, u66, u67, u68, u69, u70, u71, u72, u73, u74, u75, u76, u77, u78, u79, u80, ds, hA, hq, HBB.out, HMM.out⟩
            · obtain ⟨j, rfl⟩ : ∃ j, j1 = j + 1 := ⟨j1 - 1, by omega⟩
              rw [show ((j + 1 : Nat) : Int) - 1 = (j : Int) by omega] at hB
              have x7 : W.cell? ⟨q, 0, none⟩ = some (.int .i64 (j : Int)) := by rw [cell_of_block hB]; rfl
              have k6 := hM.cell
              have kb := hM.at_ (j := j + 1) hj
              have kf := hM.own.frozenAt j
              have kj := hM.at_ (j := j) (by omega)
              have kl := World.block_lt_of_cell? _ _ kj
              dsimp only at kl
              obtain ⟨b, o, rfl, g0w⟩ := HS.out.at_ (j := j) (by rw [ints_len, HNL.out]; omega)
              rw [ints_at (by rw [HNL.out]; omega)] at g0w
              have hbz := World.block_lt_of_cell? _ _ g0w
              dsimp only at hbz
              have g0 := cell_later hM.k g0w
              have hx9 : N.getD j 0 ≤ 9999 := H9.out _ (by rw [List.getD_eq_getElem?_getD, List.getElem?_eq_getElem (by rw [HNL.out]; omega)]; exact List.getElem_mem _)
              obtain ⟨x, hx⟩ : ∃ x, N.getD j 0 = x := ⟨_, rfl⟩
              rw [hx] at g0 hx9
              have hx' := hx
              clear g0w
              have HSZ := Lib.hid (size_ok x hx9 W.drew ((HT.out.below hM.k).below (Below.refl _ W).drew))
              have HM := Lib.hid hM
              have HB := Lib.hid hB
              have hjn : j < n := by omega
              have HX7 := Lib.hid x7
              have i0 : (0 : Int) ≤ (j : Int) := by omega
              have i1 : (j : Int) < (n : Int) := by omega
              have i2 : (j : Int) < (n : Int) + 1 := by omega
              have i3 : (0 : Int) ≤ (j : Int) + 1 := by omega
              have i4 : (j : Int) + 1 < (n : Int) + 1 := by omega
              obtain ⟨v, hv⟩ : ∃ v, bst N (j + 1) (j + 1) = v := ⟨_, rfl⟩
              have hvb : v ≤ 2500 := by
                rw [← hv]
                unfold bst
                have := lenB_bound H9.out (j + 1)
                rw [HNL.out] at this
                split <;> omega
              rw [hv] at kb
              obtain ⟨e, he⟩ : ∃ e, (Lib.decDigits x).length = e := ⟨_, rfl⟩
              have heb : e ≤ 5 := by
                have := dec_size (n := x) (by omega)
                rw [← he]; exact this
              rw [he] at HSZ
              have hw1 : IntKind.i64.wrap ((j : Int) + 1) = (j : Int) + 1 := IntWalk.i64_in _ (by omega)
              have hw2 : IntKind.i64.wrap ((e : Int) + 1) = (e : Int) + 1 := IntWalk.i64_in _ (by omega)
              have hw3 : IntKind.i64.wrap ((e : Int) + 1 + (v : Int)) = (e : Int) + 1 + (v : Int) := IntWalk.i64_in _ (by omega)
              have n0 : ∀ u, (W.setCell ⟨w.heap.size, j, none⟩ u).cell? ⟨w.heap.size + 1, 0, none⟩ = some (.slice (some ⟨w.heap.size, 0, none⟩) (n + 1) (n + 1)) := fun u => (World.cell?_setCell_other _ _ _ _ (fun e => by injection e with e1 e2; omega)).trans k6
              have n1 : ∀ u, (W.setCell ⟨w.heap.size, j, none⟩ u).cell? ⟨q, 0, none⟩ = some (.int .i64 (j : Int)) := fun u => (World.cell?_setCell_other _ _ _ _ (fun e => by injection e with e1 e2; omega)).trans x7
              have n2 : ∀ u, (W.setCell ⟨w.heap.size, j, none⟩ u).cell? ⟨b, o + j, none⟩ = some (.int .i64 (x : Int)) := fun u => (World.cell?_setCell_other _ _ _ _ (fun e => by injection e with e1 e2; omega)).trans g0
              have n3 : ∀ u, (W.setCell ⟨w.heap.size, j, none⟩ u).cell? ⟨w.heap.size, j + 1, none⟩ = some (.int .i64 (v : Int)) := fun u => (World.cell?_setCell_other _ _ _ _ (fun e => by injection e with e1 e2; omega)).trans kb
              gi_wp2_with fail
              refine wpIn_wide.2 ?_
              go_region_held3 (fun w' => w'.cell? ⟨w.heap.size + 1, 0, none⟩ = some (.slice (some ⟨w.heap.size, 0, none⟩) (n + 1) (n + 1)) ∧ w'.cell? ⟨q, 0, none⟩ = some (.int .i64 (j : Int)) ∧ w'.cell? ⟨b, o + j, none⟩ = some (.int .i64 (x : Int)) ∧ w'.cell? ⟨w.heap.size, j + 1, none⟩ = some (.int .i64 (v : Int)))
                (first | (refine ⟨n0 _, n1 _, n2 _, n3 _⟩; done) | go_keep)
                (first | (go_at_call 49; refine HSZ.out.mono ?_; rintro e w' ⟨rfl, rfl⟩))
              rename_i hHeld
              simp only [Exit.then]
              refine use_k (by assumption) ?_
              have HM1 : Hid (LM w n (minP N j []) ds ((W.setCell ⟨w.heap.size, j, none⟩ (.int .i64 ((e : Int) + 1 + (v : Int)))).drew)) := Lib.hid (by
                have e1 : minV N j [] (oneB N j) = e + 1 + v := by
                  show oneB N j = _
                  unfold oneB
                  rw [hx', he, ← hv]
                  unfold bst
                  rw [if_pos (Nat.le_refl _)]
                have e2 : ((e + 1 + v : Nat) : Int) = (e : Int) + 1 + (v : Int) := by omega
                rw [← e2]
                exact (HM.out.store (m := j) (v := e + 1 + v) (fun i _ => by unfold minP; rw [← e1]; rfl)).below (Below.refl _ _).drew)
              have HB1 : Hid (BoxI ((W.setCell ⟨w.heap.size, j, none⟩ (.int .i64 ((e : Int) + 1 + (v : Int)))).drew) q (j : Int)) := Lib.hid ((Below.heap_setCell _ _ _ _ (show q ≠ w.heap.size by omega)).trans HB.out)
              have hk1 := HM1.out.cell
              obtain ⟨W1, hW1⟩ : ∃ V, (W.setCell ⟨w.heap.size, j, none⟩ (.int .i64 ((e : Int) + 1 + (v : Int)))).drew = V := ⟨_, rfl⟩
              rw [hW1] at HM1 HB1 hk1 ⊢
              clear hW1 n0 n1 n2 n3 hw1 hw2 hw3 hHeld HM HB kf kj kl k6 kb x7 g0 HSZ he heb hv hvb
              have x7 : W1.cell? ⟨q, 0, none⟩ = some (.int .i64 (j : Int)) := by rw [cell_of_block HB1.out]; rfl
              gi_wp2_with fail
              refine ⟨trivial, (callsIn_wide.2 (items_ok _ _ _ _)).mono ?_⟩
              rintro e w2 ⟨rfl, hw2⟩
              have b2 : Below W1.heap.size W1 w2 := by rw [← hw2]; exact below_box0 _ _
              have hz2 : w2.heap.size = W1.heap.size + 1 := by rw [← hw2]; simp
              have hzb : w2.heap[W1.heap.size]? = some (.cells #[.slice (some ⟨b, o + j, none⟩) (n - j) (c - j)] 39 (0, 0)) := by rw [← hw2]; exact heap_alloc_new W1 _
              have HIV : Hid (IV w n (minP N j []) ds W1.heap.size (.slice (some ⟨b, o + j, none⟩) (n - j) (c - j)) q j w2) := Lib.hid ⟨HM1.out.below b2, hzb, (b2.block _ (blk_lt HB1.out)).trans HB1.out⟩
              have hqW := blk_lt HB1.out
              have hzz : w.heap.size ≠ W1.heap.size := by have := blk_lt HM1.out.box; omega
              have HDs : Hid (∀ D ∈ ds, D < w2.heap.size) := Lib.hid (fun D hD => HIV.out.lm.dm.lt hD)
              have hnj : j < N.length := by rw [HNL.out]; exact hjn
              have hdr := drop_at hnj
              rw [hx'] at hdr
              have hdl : (N.drop j).length = n - j := by rw [List.length_drop, HNL.out]
              have h9d : ∀ y, y ∈ x :: N.drop (j + 1) → y ≤ 9999 := fun y hy => H9.out y (List.mem_of_mem_drop (by rw [hdr]; exact hy))
              have HKI : Hid (∀ pre W, IV w n (minP N j pre) ds W1.heap.size (.slice (some ⟨b, o + j, none⟩) (n - j) (c - j)) q j W → KeepI W1.heap.size (some ⟨b, o + j, none⟩) (c - j) (N.drop j) W) := Lib.hid (fun pre W h => ⟨by rw [cell_of_block h.zb, hdl]; rfl, by
                have := ((HS.out.below h.lm.k).drop j)
                rw [ints_drop] at this
                exact this, (HT.out.below h.lm.k).tw⟩)
              have hseq := items_seq 7 x (N.drop (j + 1)) h9d (by rw [← hdr, hdl]; omega) W1.heap.size (some ⟨b, o + j, none⟩) (c - j) (fun pre W => IV w n (minP N j pre) ds W1.heap.size (.slice (some ⟨b, o + j, none⟩) (n - j) (c - j)) q j W) (fun pre W h => by rw [← hdr]; exact HKI.out pre W h) w2
              rw [← hdr] at hseq
              have HSQ := Lib.hid hseq
              have HDR := Lib.hid hdl
              clear hw2 hseq hdr hdl h9d b2 hzb HM1 HB1 hk1 x7 hx hx'
              gi_wp2
              refine wpIn_iter_ax rfl (by omega) (gf := 77) (lb := #[.pointer (some ⟨W1.heap.size, 0, none⟩)]) rfl trivial (enters_of Tryd.func77 (by kernel_rfl) rfl)
                (fun pre W => IV w n (minP N j pre) ds W1.heap.size (.slice (some ⟨b, o + j, none⟩) (n - j) (c - j)) q j W) HSQ.out (fun _ => rfl) (fun _ _ _ => False) ?own (fun _ _ _ _ _ hs _ _ => hs) HIV.out
                (fun a x a' W' => ∃ g : Nat, a' = { tmps := (a.tmps.setIfInBounds 59 (.agg #[.string x.1, .int .i64 (x.2 : Int)])).setIfInBounds 8 (.pointer (some ⟨g, 0, none⟩)), defers := [] } ∧ W'.heap[g]? = some (.cells #[.string x.1, .int .i64 (x.2 : Int)] 82 (0, 0))) ?hax
                ?assign ?body ?done (fun _ _ _ _ _ h _ => h.elim)
              case own =>
                rintro pre A B row h hg hr
                exact h.grown (by have := HIV.out.lm.k.size; exact this) HDs.out hg hr
              case hax =>
                rintro x a' _ A B row ⟨g, h2, h3⟩ hg hr
                exact ⟨g, h2, blk_kept h3 hg (fun r e => (hr r e).2)⟩
              case assign =>
                intro l pre x W K hI hG hK
                simp only [List.setIfInBounds_toArray, List.set_cons_zero, List.set_cons_succ] at hK
                gi_wp2
                exact hK _ _ ((KeepsOthers.alloc _ _).from _) (hI.below (below_box0 _ _)) ⟨W.heap.size, rfl, heap_alloc_new _ _⟩
              case body =>
                rintro l pre y a' W hl hI ⟨g, rfl, hg⟩ hG
                simp only [List.setIfInBounds_toArray, List.set_cons_zero, List.set_cons_succ]
                obtain ⟨yi, hyi, hy⟩ := git_mem hG
                have hm := items_many hyi
                have hsz := items_size (fun x hx => H9.out x (List.mem_of_mem_drop hx)) (by rw [HDR.out]; omega) hyi
                rw [HDR.out] at hm
                obtain ⟨T, s⟩ := y
                have hTd : T.data.toList = yi.1 := by have := congrArg (fun p : ItB => p.1.data.toList) hy; exact this
                have hsy : s = yi.2 := congrArg (fun p : ItB => p.2) hy
                have hTl := len_of hTd
                have hfr : frB (T, s) = yi := by unfold frB; rw [hTd, hsy]
                rw [hTl] at hsz
                rw [← hsy] at hm
                obtain ⟨hm1, hm2⟩ := hm
                have hvx : bst N (j + 1) (j + s) = lenB N (j + s) := by unfold bst; rw [if_pos (by omega)]
                have hmv : minP N j pre (j + s) = bst N (j + 1) (j + s) := by unfold minP; rw [if_neg (by omega)]
                have hval : valB N j yi = T.size + 1 + lenB N (j + s) := by unfold valB; rw [hTl, hsy]
                have kv := hI.lm.at_ (j := j + s) (by omega)
                rw [hmv, hvx] at kv
                have kj := hI.lm.at_ (j := j) (by omega)
                have hmj : minP N j pre j = minV N j (pre.map frB) (oneB N j) := by unfold minP; rw [if_pos rfl]
                rw [hmj] at kj
                have hvb : lenB N (j + s) ≤ 2500 := by have := lenB_bound H9.out (j + s); rw [HNL.out] at this; omega
                have hmb : minV N j (pre.map frB) (oneB N j) ≤ 3000 := by
                  have h1 := (minV_le N j (pre.map frB) (oneB N j)).1
                  have h2 := lenB_bound H9.out (j + 1)
                  rw [HNL.out] at h2
                  have h3 : (Lib.decDigits (N.getD j 0)).length ≤ 5 := dec_size (by have := H9.out (N.getD j 0) (by rw [List.getD_eq_getElem?_getD, List.getElem?_eq_getElem hnj]; exact List.getElem_mem _); omega)
                  unfold oneB at h1 ⊢
                  omega
                have hsn : ∀ i, i < n + 1 → minP N j (pre ++ [(T, s)]) i = if i = j then min (minV N j (pre.map frB) (oneB N j)) (T.size + 1 + lenB N (j + s)) else minP N j pre i := fun i _ => by rw [minP_snoc, hfr, hval]
                obtain ⟨m, hmd⟩ : ∃ m, minV N j (pre.map frB) (oneB N j) = m := ⟨_, rfl⟩
                obtain ⟨v, hvd⟩ : ∃ v, lenB N (j + s) = v := ⟨_, rfl⟩
                rw [hmd] at kj hmb hsn
                rw [hvd] at kv hvb hsn
                have HSN := Lib.hid hsn
                have hgz : g ≠ w.heap.size := fun e => by have h1 := hg; rw [e] at h1; have h2 := own_ne hI.lm.own h1 (by decide); simp [Value.ownBlock] at h2
                have hqz := hI.lm.k.size
                have HI := Lib.hid hI
                have HG := Lib.hid hg
                have k6 := hI.lm.cell
                have kf := hI.lm.own.frozenAt j
                have kl := World.block_lt_of_cell? _ _ kj
                dsimp only at kl
                have x7 : W.cell? ⟨q, 0, none⟩ = some (.int .i64 (j : Int)) := by rw [cell_of_block hI.qb]; rfl
                have g0 : W.cell? ⟨g, 0, none⟩ = some (.string T) := by rw [cell_of_block hg]; rfl
                have g1 : W.cell? ⟨g, 1, none⟩ = some (.int .i64 (s : Int)) := by rw [cell_of_block hg]; rfl
                have i0 : (0 : Int) ≤ (j : Int) := by omega
                have i1 : (j : Int) < (n : Int) + 1 := by omega
                have i2 : (0 : Int) ≤ (j : Int) + (s : Int) := by omega
                have i3 : (j : Int) + (s : Int) < (n : Int) + 1 := by omega
                have ht : ((j : Int) + (s : Int)).toNat = j + s := by omega
                have hw1 : IntKind.i64.wrap ((j : Int) + (s : Int)) = (j : Int) + (s : Int) := IntWalk.i64_in _ (by omega)
                have hw2 : IntKind.i64.wrap ((T.size : Int) + 1) = (T.size : Int) + 1 := IntWalk.i64_in _ (by omega)
                have hw3 : IntKind.i64.wrap ((T.size : Int) + 1 + (v : Int)) = (T.size : Int) + 1 + (v : Int) := IntWalk.i64_in _ (by omega)
                clear hI hg hG hyi hy hTd hsy hTl hfr hvx hmv hval hmj hsn hmd hvd HIV HSQ
                have n0 : ∀ u, (W.setCell ⟨w.heap.size, j, none⟩ u).cell? ⟨w.heap.size + 1, 0, none⟩ = some (.slice (some ⟨w.heap.size, 0, none⟩) (n + 1) (n + 1)) := fun u => (World.cell?_setCell_other _ _ _ _ (fun e => by injection e with e1 e2; omega)).trans k6
                have n1 : ∀ u, (W.setCell ⟨w.heap.size, j, none⟩ u).cell? ⟨q, 0, none⟩ = some (.int .i64 (j : Int)) := fun u => (World.cell?_setCell_other _ _ _ _ (fun e => by injection e with e1 e2; omega)).trans x7
                have n2 : ∀ u, (W.setCell ⟨w.heap.size, j, none⟩ u).cell? ⟨g, 0, none⟩ = some (.string T) := fun u => (World.cell?_setCell_other _ _ _ _ (fun e => by injection e with e1 e2; omega)).trans g0
                have n3 : ∀ u, (W.setCell ⟨w.heap.size, j, none⟩ u).cell? ⟨g, 1, none⟩ = some (.int .i64 (s : Int)) := fun u => (World.cell?_setCell_other _ _ _ _ (fun e => by injection e with e1 e2; omega)).trans g1
                have n4 : ∀ u, (W.setCell ⟨w.heap.size, j, none⟩ u).cell? ⟨w.heap.size, j + s, none⟩ = some (.int .i64 (v : Int)) := fun u => (World.cell?_setCell_other _ _ _ _ (fun e => by injection e with e1 e2; omega)).trans kv
                gi_wp2_with fail
                refine wpIn_heldR (fun w' => w'.cell? ⟨w.heap.size + 1, 0, none⟩ = some (.slice (some ⟨w.heap.size, 0, none⟩) (n + 1) (n + 1)) ∧ w'.cell? ⟨q, 0, none⟩ = some (.int .i64 (j : Int)) ∧ w'.cell? ⟨g, 0, none⟩ = some (.string T) ∧ w'.cell? ⟨g, 1, none⟩ = some (.int .i64 (s : Int)) ∧ w'.cell? ⟨w.heap.size, j + s, none⟩ = some (.int .i64 (v : Int))) (by rfl) (by kernel_rfl) (by rintro ⟨_, _, h⟩; exact h) ⟨k6, x7, g0, g1, kv⟩ (fun hHeld => ?_)
                refine wpAnyH_take (i := 0) (v := ?_) rfl (by kernel_rfl) (by kernel_rfl) (by kernel_rfl) (fun _ _ _ h => h) (Or.inl ⟨by rfl, ?_⟩) (by assumption) ?_
                rotate_left
                · (intro w hSw; (try dsimp only at hSw); go_simp; (try with_reducible rfl))
                (try simp only [Act.put, List.setIfInBounds_toArray])
                refine wpAnyH_take (i := 1) (v := ?_) rfl (by kernel_rfl) (by kernel_rfl) (by kernel_rfl) (fun _ _ _ h => h) (Or.inl ⟨by rfl, ?_⟩) (by assumption) ?_
                rotate_left
                · (intro w hSw; (try dsimp only at hSw); go_simp; (try with_reducible rfl))
                (try simp only [Act.put])
                refine wpAnyH_take (i := 2) (v := ?_) rfl (by kernel_rfl) (by kernel_rfl) (by kernel_rfl) (fun _ _ _ h => h) (Or.inl ⟨by rfl, ?_⟩) (by assumption) ?_
                rotate_left
                · (intro w hSw; (try dsimp only at hSw); go_simp; (try with_reducible rfl))
                (try simp only [Act.put])
                refine wpAnyH_take (i := 3) (v := ?_) rfl (by kernel_rfl) (by kernel_rfl) (by kernel_rfl) (fun _ _ _ h => h) (Or.inl ⟨by rfl, ?_⟩) (by assumption) ?_
                rotate_left
                · (intro w hSw; (try dsimp only at hSw); go_simp; (try with_reducible rfl))
                (try simp only [Act.put])
                refine wpAnyH_take (i := 4) (v := ?_) rfl (by kernel_rfl) (by kernel_rfl) (by kernel_rfl) (fun _ _ _ h => h) (Or.inl ⟨by rfl, ?_⟩) (by assumption) ?_
                rotate_left
                · (intro w hSw; (try dsimp only at hSw); go_simp; (try with_reducible rfl))
                (try simp only [Act.put])
                refine wpAnyH_take (i := 6) (v := ?_) rfl (by kernel_rfl) (by kernel_rfl) (by kernel_rfl) (fun _ _ _ h => h) (Or.inl ⟨by rfl, ?_⟩) (by assumption) ?_
                rotate_left
                · (intro w hSw; (try dsimp only at hSw); go_simp; (try with_reducible rfl))
                (try simp only [Act.put])
                refine wpAnyH_take (i := 7) (v := ?_) rfl (by kernel_rfl) (by kernel_rfl) (by kernel_rfl) (fun _ _ _ h => h) (Or.inl ⟨by rfl, ?_⟩) (by assumption) ?_
                rotate_left
                · (intro w hSw; (try dsimp only at hSw); go_simp; (try with_reducible rfl))
                (try simp only [Act.put])
                refine wpAnyH_take (i := 8) (v := ?_) rfl (by kernel_rfl) (by kernel_rfl) (by kernel_rfl) (fun _ _ _ h => h) (Or.inl ⟨by rfl, ?_⟩) (by assumption) ?_
                rotate_left
                · (intro w hSw; (try dsimp only at hSw); go_simp; (try with_reducible rfl))
                (try simp only [Act.put])
                refine wpAnyH_take (i := 9) (v := ?_) rfl (by kernel_rfl) (by kernel_rfl) (by kernel_rfl) (fun _ _ _ h => h) (Or.inl ⟨by rfl, ?_⟩) (by assumption) ?_
                rotate_left
                · (intro w hSw; (try dsimp only at hSw); go_simp; (try with_reducible rfl))
                (try simp only [Act.put])
                refine wpAnyH_take (i := 10) (v := ?_) rfl (by kernel_rfl) (by kernel_rfl) (by kernel_rfl) (fun _ _ _ h => h) (Or.inl ⟨by rfl, ?_⟩) (by assumption) ?_
                rotate_left
                · (intro w hSw; (try dsimp only at hSw); go_simp; (try with_reducible rfl))
                (try simp only [Act.put])
                refine wpAnyH_take (i := 11) (v := ?_) rfl (by kernel_rfl) (by kernel_rfl) (by kernel_rfl) (fun _ _ _ h => h) (Or.inl ⟨by rfl, ?_⟩) (by assumption) ?_
                rotate_left
                · (intro w hSw; (try dsimp only at hSw); go_simp; (try with_reducible rfl))
                (try simp only [Act.put])
                refine wpAnyH_take (i := 12) (v := ?_) rfl (by kernel_rfl) (by kernel_rfl) (by kernel_rfl) (fun _ _ _ h => h) (Or.inl ⟨by rfl, ?_⟩) (by assumption) ?_
                rotate_left
                · (intro w hSw; (try dsimp only at hSw); go_simp; (try with_reducible rfl))
                (try simp only [Act.put])
                refine wpAnyH_take (i := 13) (v := ?_) rfl (by kernel_rfl) (by kernel_rfl) (by kernel_rfl) (fun _ _ _ h => h) (Or.inl ⟨by rfl, ?_⟩) (by assumption) ?_
                rotate_left
                · (intro w hSw; (try dsimp only at hSw); go_simp; (try with_reducible rfl))
                (try simp only [Act.put])
                refine wpAnyH_take (i := 14) (v := ?_) rfl (by kernel_rfl) (by kernel_rfl) (by kernel_rfl) (fun _ _ _ h => h) (Or.inl ⟨by rfl, ?_⟩) (by assumption) ?_
                rotate_left
                · (intro w hSw; (try dsimp only at hSw); go_simp; (try with_reducible rfl))
                (try simp only [Act.put])
                refine wpAnyH_take (i := 15) (v := ?_) rfl (by kernel_rfl) (by kernel_rfl) (by kernel_rfl) (fun _ _ _ h => h) (Or.inl ⟨by rfl, ?_⟩) (by assumption) ?_
                rotate_left
                · (intro w hSw; (try dsimp only at hSw); go_simp; (try with_reducible rfl))
                (try simp only [Act.put])
                refine wpAnyH_take (i := 16) (v := ?_) rfl (by kernel_rfl) (by kernel_rfl) (by kernel_rfl) (fun _ _ _ h => h) (Or.inl ⟨by rfl, ?_⟩) (by assumption) ?_
                rotate_left
                · (intro w hSw; (try dsimp only at hSw); go_simp; (try with_reducible rfl))
                (try simp only [Act.put])
                refine wpAnyH_take (i := 17) (v := ?_) rfl (by kernel_rfl) (by kernel_rfl) (by kernel_rfl) (fun _ _ _ h => h) (Or.inl ⟨by rfl, ?_⟩) (by assumption) ?_
                rotate_left
                · (intro w hSw; (try dsimp only at hSw); go_simp; (try with_reducible rfl))
                (try simp only [Act.put])
                refine wpAnyH_ready (rs := [5]) (by kernel_rfl) (by simp) ?_
                refine AllReadyH.cons (i := 5) rfl (fun K hK => ?_) AllReadyH.nil
                go_simp
                refine hK.out _ _ (by first | (refine ⟨n0 _, n1 _, n2 _, n3 _, n4 _⟩; done) | go_keep) (fun hHeld => ?_)
                clear hK K
                (try simp only [Act.put, List.setIfInBounds_toArray, List.set_cons_zero, List.set_cons_succ])
                refine wpAnyH_take (i := 18) (v := ?_) rfl (by kernel_rfl) (by kernel_rfl) (by kernel_rfl) (fun _ _ _ h => h) (Or.inl ⟨by rfl, ?_⟩) (by assumption) ?_
                rotate_left
                · (intro w hSw; (try dsimp only at hSw); go_simp; (try with_reducible rfl))
                (try simp only [Act.put, List.setIfInBounds_toArray])
                refine wpAnyH_take (i := 19) (v := ?_) rfl (by kernel_rfl) (by kernel_rfl) (by kernel_rfl) (fun _ _ _ h => h) (Or.inl ⟨by rfl, ?_⟩) (by assumption) ?_
                rotate_left
                · (intro w hSw; (try dsimp only at hSw); go_simp; (try with_reducible rfl))
                (try simp only [Act.put])
                refine wpAnyH_ready (rs := [20]) (by kernel_rfl) (by simp) ?_
                refine AllReadyH.cons (i := 20) rfl (fun K hK => ?_) AllReadyH.nil
                go_simp
                refine hK.out _ _ (by first | (refine ⟨n0 _, n1 _, n2 _, n3 _, n4 _⟩; done) | go_keep) (fun hHeld => ?_)
                clear hK K
                (try simp only [Act.put, List.setIfInBounds_toArray, List.set_cons_zero, List.set_cons_succ])
                refine wpAnyH_done (by kernel_rfl) ?_ _
                have em : ((min m (T.size + 1 + v) : Nat) : Int) = min (m : Int) ((T.size : Int) + 1 + (v : Int)) := by omega
                rw [← em]
                refine ⟨((KeepsOthers.setCell _ _ _).from _).trans (keeps_below (Below.refl _ _).drew _), trivial, ?_⟩
                exact (HI.out.store (m := j) (v := min m (T.size + 1 + v)) hzz (by omega) HSN.out).below (Below.refl _ _).drew
              case done =>
                rintro D xs V hD hS2 hI hK
                have hlm : LM w n (bst N j) ds V := hI.lm.congr fun i hi => by
                  have e : xs = itB (N.drop j) := hS2
                  rw [e, minP_all hnj]
                have hvz := blk_lt hlm.box
                have hlm2 := hlm.below (below_box0 V (.cells #[.int .i64 ((j : Int) - 1)] 3))
                have hk2 := ((below_box0 V (.cells #[.int .i64 ((j : Int) - 1)] 3)).block _ (blk_lt hK)).trans hK
                have HLM := Lib.hid (⟨hlm2.own, hlm2.box, hlm2.k, hlm2.dm.cons (by omega) (fun h => by have := HDs.out D h; omega) hk2⟩ : LM w n (bst N j) (D :: ds) _)
                have x7 : V.cell? ⟨q, 0, none⟩ = some (.int .i64 (j : Int)) := by rw [cell_of_block hI.qb]; rfl
                have hw4 : IntKind.i64.wrap ((j : Int) - 1) = (j : Int) - 1 := IntWalk.i64_in _ (by omega)
                have HY7 : Hid ((V.alloc (.cells #[.int .i64 ((j : Int) - 1)] 3)).cell? ⟨V.heap.size, 0, none⟩ = some (.int .i64 ((j : Int) - 1))) := Lib.hid (by rw [cell_of_block (heap_alloc_new _ _)]; rfl)
                clear hlm hlm2 hk2 hI hK hS2
                gi_wp2
                refine ⟨⟨j, _, _, _, _, _, _, _, _, _, _, _, _, _, _, _, _, _, _, _, _, _, _, _, _, _, _, _, _, _, _, _, _, _, _, _, _, _, _, _, _, _, _, _, _, _, _, _, _, _, _, _, _, _, _, _, _, _, _, _, D :: ds, rfl, by omega, by omega, heap_alloc_new _ _, HLM.out⟩, ?_⟩
                unfold mu2
                simp [HY7.out, HX7.out]
end Go.Proofs.YtkklmljannclmaaDoor

namespace Go.Proofs.YtkklmljannclmaaDoor
open Go.RowKit Go.Sort Go.Joins Go.Shelf

/-- a builder that holds a text -/
abbrev Bld (w : World) (b : Nat) (l : List UInt8) (wr : World) : Prop := Lib.IsBuilderF 85 5 w.heap.size b (Lib.byteCells l) wr
theorem wrStr {w wr : World} {b : Nat} {l s : List UInt8} {S : ByteArray} (hS : S.data.toList = s) (h : Bld w b l wr) (hl : l.length + s.length ≤ 1000000) (hB : Below w.heap.size w wr) :
    Calls Tryd.prog 52 #[.pointer (some ⟨b, 0, none⟩), .string S] wr fun e w' => ∃ v, e = .returned v ∧ Bld w b (l ++ s) w' ∧ Below w.heap.size wr w' ∧ Lib.OthersKept 5 (some b) wr w' := by
  have hs : S.size = s.length := by rw [← hS, Array.length_toList]; rfl
  refine (bldString w.heap.size b _ S wr h (by rw [Lib.byteCells_length]; omega) hB.size).mono ?_
  rintro e w' ⟨rfl, h1, h2, h3⟩
  refine ⟨_, rfl, .inr ?_, h2, h3⟩
  rw [Lib.byteCells_append, ← hS, ← Lib.strCells_eq]
  exact h1
theorem wrByte {w wr : World} {b : Nat} {l : List UInt8} (c : UInt8) (h : Bld w b l wr) (hl : l.length + 1 ≤ 1000000) (hB : Below w.heap.size w wr) :
    Calls Tryd.prog 51 #[.pointer (some ⟨b, 0, none⟩), .int .u8 (c.toNat : Int)] wr fun e w' => ∃ v, e = .returned v ∧ Bld w b (l ++ [c]) w' ∧ Below w.heap.size wr w' ∧ Lib.OthersKept 5 (some b) wr w' := by
  refine (bldByte w.heap.size b _ (c.toNat : Int) wr h (by rw [Lib.byteCells_length]; omega) hB.size).mono ?_
  rintro e w' ⟨rfl, h1, h2, h3⟩
  refine ⟨_, rfl, .inr ?_, h2, h3⟩
  rw [Lib.byteCells_append]
  exact h1
theorem bldAt_kept {T e : TypeId} {B b : Nat} {p : Value} {bs : List Value} {w w' : World} (h : Lib.BuilderAtF T e B b p bs w) (hk : ∀ (k : Nat) (c : Array Value) (t : TypeId) (fz : Nat × Nat), w.heap[k]? = some (.cells c t fz) → t = T ∨ t = e → w'.heap[k]? = some (.cells c t fz)) : Lib.BuilderAtF T e B b p bs w' := by
  obtain ⟨h1, v, h2, h3, h4⟩ := h
  refine ⟨h1, v, hk _ _ _ _ h2 (.inl rfl), ⟨h3.1, ?_⟩, h4⟩
  rcases h3.2 with h5 | ⟨g, cap, cur, fz, hv, hB, hh, r⟩
  · exact .inl h5
  · exact .inr ⟨g, cap, cur, fz, hv, hB, hk _ _ _ _ hh (.inr rfl), r⟩
theorem bld_kept {T e : TypeId} {B b : Nat} {bs : List Value} {w w' : World} (h : Lib.IsBuilderF T e B b bs w) (hk : ∀ (k : Nat) (c : Array Value) (t : TypeId) (fz : Nat × Nat), w.heap[k]? = some (.cells c t fz) → t = T ∨ t = e → w'.heap[k]? = some (.cells c t fz)) : Lib.IsBuilderF T e B b bs w' :=
  h.elim (fun h => .inl (bldAt_kept h hk)) (fun h => .inr (bldAt_kept h hk))
theorem bld_grown {w W W' : World} {b : Nat} {l : List UInt8} {row : Option Nat} (h : Bld w b l W) (hg : W.grownBy W' row) (hr : ∀ r, row = some r → ∃ o : Obj, W.heap[r]? = some o ∧ o.isCells = false) : Bld w b l W' :=
  bld_kept h fun _ _ _ _ hk _ => (grownBy_keeps_cells hg hr hk rfl).trans hk
theorem bld_set {w W : World} {b q i : Nat} {l : List UInt8} {cs : Array Value} {t : TypeId} {fz : Nat × Nat} (h : Bld w b l W) (hq : W.heap[q]? = some (.cells cs t fz)) (ht : t ≠ 85) (hu : t ≠ 5) (v : Value) : Bld w b l (W.setCell ⟨q, i, none⟩ v) :=
  bld_kept h fun k c t' fz' hk ht' => (Below.heap_setCell _ _ _ _ (show k ≠ q from fun e => by
    rw [e, hq] at hk
    simp only [Option.some.injEq, Obj.cells.injEq] at hk
    rcases ht' with e' | e'
    · exact ht (hk.2.1.trans e')
    · exact hu (hk.2.1.trans e'))).trans hk
/-- the builder's own block -/
theorem bld_blk {w W : World} {b : Nat} {l : List UInt8} (h : Bld w b l W) : w.heap.size ≤ b ∧ ∃ c, W.heap[b]? = some (.cells c 85 (0, 0)) := by
  rcases h with ⟨h1, v, h2, _⟩ | ⟨h1, v, h2, _⟩
  · exact ⟨h1, _, h2⟩
  · exact ⟨h1, _, h2⟩
theorem own_str {W W' : World} {base b : Nat} {e u : TypeId} {size : Nat} {v : Value} {n : Nat} {xs : List Value} {c : Array Value} {t : TypeId} {fz : Nat × Nat} (h : W.ownsRow base e size v n xs) (ho : Lib.OthersKept u (some b) W W') (hb : W.heap[b]? = some (.cells c t fz)) (ht : e ≠ t) (hu : e ≠ u) : W'.ownsRow base e size v n xs := by
  obtain ⟨h1, h2⟩ := h
  refine ⟨h1, ?_⟩
  rcases h2 with h2 | ⟨g, cap, cur, hv, hg, hh, r⟩
  · exact Or.inl h2
  · refine Or.inr ⟨g, cap, cur, hv, hg, ?_, r⟩
    refine cell_kept_o ho hh ?_ hu
    intro e'
    rw [e', hb] at hh
    simp only [Option.some.injEq, Obj.cells.injEq] at hh
    exact ht hh.2.1.symm
theorem LM.str {w W W' : World} {n b : Nat} {P : Nat → Nat} {ds : List Nat} {c : Array Value} (h : LM w n P ds W) (hb : Below w.heap.size W W') (ho : Lib.OthersKept 5 (some b) W W') (hc : W.heap[b]? = some (.cells c 85 (0, 0))) : LM w n P ds W' :=
  ⟨own_str h.own ho hc (by decide) (by decide), cell_kept_o ho h.box (fun e => by have h1 := h.box; rw [e, hc] at h1; cases h1) (by decide), h.k.trans hb, h.dm.keep fun D hD hk => ho D _ hk (fun e => by
    have e := Option.some.inj e
    rw [e, hc] at hk; cases hk) (fun _ _ e => by cases e)⟩
/-- memory while the text is written -/
structure SW (w : World) (n : Nat) (N : List Nat) (bz q i : Nat) (ds : List Nat) (u : List UInt8) (W : World) : Prop where
  lm : LM w n (bst N 0) ds W
  bl : Bld w bz u W
  qb : BoxI W q (i : Int)
section
variable {w W W' : World} {n : Nat} {N : List Nat} {bz q i : Nat} {ds : List Nat} {u : List UInt8}
theorem SW.below (h : SW w n N bz q i ds u W) (hb : Below W.heap.size W W') : SW w n N bz q i ds u W' :=
  ⟨h.lm.below hb, bld_below h.bl hb, (hb.block _ (blk_lt h.qb)).trans h.qb⟩
theorem SW.grown {Z : Nat} {row : Option Nat} (h : SW w n N bz q i ds u W) (hZ : w.heap.size ≤ Z) (hds : ∀ D ∈ ds, D < Z) (hg : W.grownBy W' row) (hr : ∀ r, row = some r → Z ≤ r ∧ ∃ o : Obj, W.heap[r]? = some o ∧ o.isCells = false) : SW w n N bz q i ds u W' :=
  ⟨h.lm.grown hZ hds hg hr, bld_grown h.bl hg (fun r e => (hr r e).2), blk_kept h.qb hg (fun r e => (hr r e).2)⟩
theorem SW.str {v : List UInt8} (h : SW w n N bz q i ds u W) (hb : Below w.heap.size W W') (ho : Lib.OthersKept 5 (some bz) W W') (hl : Bld w bz v W') : SW w n N bz q i ds v W' := by
  obtain ⟨_, c, hc⟩ := bld_blk h.bl
  exact ⟨h.lm.str hb ho hc, hl, cell_kept_o ho h.qb (fun e => by
    have h1 : W.heap[q]? = some (.cells #[.int .i64 (i : Int)] 3 (0, 0)) := h.qb
    rw [e, hc] at h1; cases h1) (by decide)⟩
/-- a store into a box of another kind -/
theorem SW.set {g k : Nat} {cs : Array Value} {t : TypeId} (h : SW w n N bz q i ds u W) (hg : W.heap[g]? = some (.cells cs t (0, 0))) (ht : t ≠ 85) (hu : t ≠ 5) (hi : t ≠ 3) (_ : t ≠ 39) (hw : w.heap.size + 2 ≤ g) (v : Value) : SW w n N bz q i ds u (W.setCell ⟨g, k, none⟩ v) :=
  ⟨h.lm.other (p := ⟨g, k, none⟩) hw (fun D hD e => by
    have h1 := (h.lm.dm.2 D hD).2
    rw [e, hg] at h1; cases h1) v, bld_set h.bl hg ht hu v, (Below.heap_setCell _ _ _ _ (show q ≠ g from fun e => by
    have h1 : W.heap[q]? = some (.cells #[.int .i64 (i : Int)] 3 (0, 0)) := h.qb
    rw [e, hg] at h1
    simp only [Option.some.injEq, Obj.cells.injEq] at h1
    exact hi h1.2.1)).trans h.qb⟩
end
/-- a box with an item -/
abbrev BoxT (W : World) (g : Nat) (T : ByteArray) (s : Nat) : Prop := W.heap[g]? = some (.cells #[.string T, .int .i64 (s : Int)] 82 (0, 0))
end Go.Proofs.YtkklmljannclmaaDoor
