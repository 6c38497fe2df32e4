/- A range over a function whose iterator knows what the loop keeps: the loop's invariant I is told to the iterator, and the iterator tells the loop's body G of what it hands over. No program. | Leaving a function in which ranges over functions stood in a loop: as many marks as there were ranges. No program. | Refusals: the calls of a rule, one by one; the marks of a plan. | Refusals: the marks of a plan. | Refusals: Hits: program and reference. | strings.Builder: the writing methods at this program (their copy check ends in a refusal here, so the kit's contracts do not lie). | Package-level tables: what a row lists, read out; kept by growth. -/
import Derived.Test.YtgbdhmdaefbglaaDoorPPZ1
import Derived.RangeFuncNested
import Derived.RangeFuncBound
import Derived.RangeFuncCalls
import Derived.RangeFuncLeaves
import Derived.Test.YtgbdhmdaefbglaaDoorPPZ2
import Derived.Shelf.RegionOpen
import Derived.OwnWalkIn
import Derived.TacticsInMore
import Derived.LoopNIn
import Derived.LoopIn
import Derived.Test.YtgbdhmdaefbglaaDoorShelf
import Derived.Shelf.Strings.BuilderK
import Derived.Lib.LaidTab
namespace Go.Proofs.YtgbdhmdaefbglaaDoor
open Go.RowKit

/-- what an iterator promises to a loop that keeps I -/
def SeqI {α : Type} (F : Fence) (n : Nat) (P : Program) (gf : Nat) (lb : Array Value) (encs : α → Array Value) (I : List α → World → Prop) (G : List α → α → Prop) (S : List α → Prop) (w : World) : Prop :=
  ∀ (l : Nat) (J Jx : List α → World → Prop) (W : World), Below w.heap.size w W → AbidesFrom W.heap.size J → AbidesFrom W.heap.size Jx → (∀ pre W1, J pre W1 → I pre W1) →
    (∀ pre x W1, J pre W1 → G pre x → YieldAt F (n - 1) P l (encs x) W1 fun e W' => (e = .returned (.bool true) ∧ J (pre ++ [x]) W') ∨ (e = .returned (.bool false) ∧ Jx (pre ++ [x]) W')) →
    J [] W →
    CallsIn F n P gf (#[.func (.yield l) #[] #[]] ++ lb) W fun e W' => (∃ v, e = .returned v) ∧ ((∃ xs, S xs ∧ J xs W') ∨ (∃ pre, Jx pre W'))

/-- how a round may end -/
abbrev roundPost {α : Type} (B : Nat) (I : List α → World → Prop) (Ix : Code → List α → World → Prop) (xs : List α) (W : World) : Exit → Act → World → Prop := ownPostG B (fun _ _ => True) I Ix xs W

theorem wpIn_iter {α : Type} {F : Fence} {n : Nat} {P : Program} {g : Operand} {ps : Array Tmp} {assign body : Code} {Q : Exit → Act → World → Prop} {a : Act} {w : World}
    (hro : F.round = none) (h1 : 1 ≤ n) {gf : Nat} {lb : Array Value} (hg : a.eval g = .func (.func gf) #[] lb) (hFg : F.fn gf) (eg : ∀ args w, (callFunc gf args).run P w = .ok (.enter gf args) w)
    {encs : α → Array Value} {G : List α → α → Prop} {S : List α → Prop} (I : List α → World → Prop) (hseq : SeqI F (n - 1) P gf lb encs I G S w)
    (hps : ∀ x, (encs x).size = ps.size) (Ix : Code → List α → World → Prop) (hI : OwnFrom w.heap.size I) (hIx : ∀ c, OwnFrom w.heap.size (Ix c)) (h0 : I [] w) (Ax : α → Act → World → Prop) (hAx : ∀ x a', OwnFrom w.heap.size (fun (_ : Unit) W => Ax x a' W))
    (hassign : ∀ (l : Nat) (pre : List α) (x : α) (W : World) (K : Act → World → Prop), I pre W → G pre x → (∀ a' W', KeepsFrom w.heap.size W W' → I pre W' → Ax x a' W' → K a' W') →
      assign.wpIn (F.inRound l) (n - 1 - 1) P (Exit.then K (fun _ _ _ => False)) { tmps := (ps.zip (encs x)).foldl (fun t (p, v) => t.setIfInBounds p v) a.tmps, defers := [] } W)
    (hbody : ∀ (l : Nat) (pre : List α) (x : α) (a' : Act) (W : World), w.heap.size ≤ l → I pre W → Ax x a' W → G pre x → body.wpIn (F.inRound l) (n - 1 - 1) P (roundPost w.heap.size I Ix (pre ++ [x]) W) a' W)
    (hdone : ∀ (D : Nat) (xs : List α) (W : World), w.heap.size ≤ D → S xs → I xs W → W.heap[D]? = some (.deferred (some [])) → Q .normal { a with defers := { target := .collected D, args := #[] } :: a.defers } W)
    (hstop : ∀ (D : Nat) (c : Code) (pre : List α) (W : World), w.heap.size ≤ D → Ix c pre W → W.heap[D]? = some (.deferred (some [])) → c.wpIn F n P Q { a with defers := { target := .collected D, args := #[] } :: a.defers } W) :
    (Code.rangeFunc g ps assign body).wpIn F n P Q a w := by
  refine wpIn_rangeFunc fun fn hfn => ?_
  rw [hro]
  obtain ⟨rec, hrec⟩ : ∃ rec : LoopState → Option Code → Loop, rec = fun st pe => { state := st, pending := pe, fn, tmps := a.tmps, params := ps, assign, body, defers := w.heap.size } := ⟨_, rfl⟩
  obtain ⟨W1, hW1⟩ : ∃ W1, (w.alloc (.deferred (some []))).alloc (.loop (rec .ready none)) = W1 := ⟨_, rfl⟩
  have hL1 : W1.heap[w.heap.size + 1]? = some (.loop (rec .ready none)) := by
    rw [← hW1]; have := World.alloc_heap_new (w.alloc (.deferred (some []))) (.loop (rec .ready none)); rwa [World.size_alloc] at this
  have hK1 : W1.heap[w.heap.size]? = some (.deferred (some [])) := by
    rw [← hW1]; exact (Below.heap_alloc _ _ _ (by simp)).trans (World.alloc_heap_new w _)
  have hI1 : I [] W1 := by rw [← hW1]; exact hI.alloc _ (hI.alloc _ h0)
  have hb1 : Below w.heap.size w W1 := by
    rw [← hW1]; exact ((Below.refl _ w).alloc (Nat.le_refl _) _).alloc (by simp) _
  have hs1 : w.heap.size ≤ W1.heap.size := hb1.size
  refine ⟨w.heap.size + 1, [{ target := .collected w.heap.size, args := #[] }], W1, { target := .fn (.func gf) lb, args := #[.func (.yield (w.heap.size + 1)) #[] #[]] }, W1, gf,
    #[.func (.yield (w.heap.size + 1)) #[] #[]] ++ lb, W1, ?_, ?_, ?_, ?_, fun _ => h1, ?_⟩
  · rw [← hW1, hrec]; exact run_enterLoop_outer _ _ _ _ _
  · simp only [resolve, hg]
    simp [go_sem]
  · intro f' hf'; simp [Target.leads] at hf'; subst hf'; exact hFg
  · simp [invoke, go_sem, eg]
  · have hnw : ∀ {A : World} {row : Option Nat}, (∀ r, row = some r → W1.heap.size ≤ r ∧ ∃ o : Obj, A.heap[r]? = some o ∧ o.isWalk = true) → (∀ r, row = some r → w.heap.size ≤ r ∧ ∃ o : Obj, A.heap[r]? = some o ∧ o.isCells = false) :=
      fun hr r e => by obtain ⟨hB, o, ho, hw⟩ := hr r e; exact ⟨Nat.le_trans hs1 hB, o, ho, Obj.not_cells_of_walk hw⟩
    refine (hseq (w.heap.size + 1)
      (fun pre W => I pre W ∧ W.heap[w.heap.size + 1]? = some (.loop (rec .ready none)) ∧ W.heap[w.heap.size]? = some (.deferred (some [])))
      (fun pre W => ∃ c, Ix c pre W ∧ W.heap[w.heap.size + 1]? = some (.loop (rec .done (some c))) ∧ W.heap[w.heap.size]? = some (.deferred (some [])))
      W1 hb1
      (fun s A B row hs hg' hr => ⟨hI s A B row hs.1 hg' (hnw hr), (grownBy_keeps hg' (fun r e => (hr r e).2) hs.2.1 rfl).trans hs.2.1, (grownBy_keeps hg' (fun r e => (hr r e).2) hs.2.2 rfl).trans hs.2.2⟩)
      (fun s A B row hs hg' hr => by
        obtain ⟨c, hc, hl, hk⟩ := hs
        exact ⟨c, hIx c s A B row hc hg' (hnw hr), (grownBy_keeps hg' (fun r e => (hr r e).2) hl rfl).trans hl, (grownBy_keeps hg' (fun r e => (hr r e).2) hk rfl).trans hk⟩)
      (fun _ _ h => h.1) ?_ ⟨hI1, hL1, hK1⟩).mono ?_
    · rintro pre x W ⟨hi, hl, hk⟩ hG
      have hy := run_yield (P := P) (args := encs x) hl (by rw [hrec]; exact hps x)
      rw [hrec] at hy
      refine ⟨fn, _, assign, body, hy, roundIn_of_wpIn hfn (hassign _ pre x W _ hi hG ?_)⟩
      clear hy
      intro a' Wa hkfa hia hax
      have hl := hkfa.same _ _ (Nat.le_succ _) hl rfl
      have hk := hkfa.same _ _ (Nat.le_refl _) hk rfl
      have hlt : w.heap.size + 1 < Wa.heap.size := (Array.getElem?_eq_some_iff.1 hl).1
      refine ⟨_, run_beginRound hl (by rw [hrec]), ?_⟩
      have hl2 : (Wa.putObj (w.heap.size + 1) (.loop { rec .ready none with state := .busy })).heap[w.heap.size + 1]? = some (.loop { rec .ready none with state := .busy }) := World.putObj_heap_same hlt
      have hk2 : (Wa.putObj (w.heap.size + 1) (.loop { rec .ready none with state := .busy })).heap[w.heap.size]? = some (.deferred (some [])) := (World.putObj_heap_other (by omega)).trans hk
      refine wpIn_mono (hbody _ pre x a' _ (Nat.le_succ _) (hI.putObj _ hia (Nat.le_succ _) hl rfl) ((hAx x a').putObj (s := ()) _ hax (Nat.le_succ _) hl rfl) hG) ?_
      have fin : ∀ (jump : Option Code) (W3 : World), KeepsFrom w.heap.size (Wa.putObj (w.heap.size + 1) (.loop { rec .ready none with state := .busy })) W3 →
          (Instr.endRound (w.heap.size + 1) jump).run P W3 = .ok (.bool jump.isNone) (W3.putObj (w.heap.size + 1) (.loop (rec (if jump.isNone then .ready else .done) jump))) ∧
          W3.heap[w.heap.size + 1]? = some (.loop { rec .ready none with state := .busy }) ∧
          (W3.putObj (w.heap.size + 1) (.loop (rec (if jump.isNone then .ready else .done) jump))).heap[w.heap.size + 1]? = some (.loop (rec (if jump.isNone then .ready else .done) jump)) ∧
          (W3.putObj (w.heap.size + 1) (.loop (rec (if jump.isNone then .ready else .done) jump))).heap[w.heap.size]? = some (.deferred (some [])) := fun jump W3 hk3 => by
        have hl3 := hk3.same _ _ (Nat.le_succ _) hl2 rfl
        have := run_endRound (P := P) jump hl3
        rw [hrec] at this ⊢
        exact ⟨this, by rw [hrec] at hl3; exact hl3, World.putObj_heap_same (Array.getElem?_eq_some_iff.1 hl3).1, (World.putObj_heap_other (by omega)).trans (hk3.same _ _ (Nat.le_refl _) hk2 rfl)⟩
      rintro e a3 W3 hp
      cases e with
      | normal =>
        obtain ⟨hk3, -, hi3⟩ := hp
        obtain ⟨hr, hl3, hl4, hk4⟩ := fin none W3 hk3
        exact ⟨_, _, hr, .inl ⟨rfl, hI.putObj _ hi3 (Nat.le_succ _) hl3 rfl, hl4, hk4⟩⟩
      | ret =>
        obtain ⟨hk3, hi3⟩ := hp
        obtain ⟨hr, hl3, hl4, hk4⟩ := fin (some .ret) W3 hk3
        exact ⟨_, _, hr, .inr ⟨rfl, .ret, (hIx _).putObj _ hi3 (Nat.le_succ _) hl3 rfl, hl4, hk4⟩⟩
      | exit id =>
        obtain ⟨hk3, hi3⟩ := hp
        obtain ⟨hr, hl3, hl4, hk4⟩ := fin (some (.exit id)) W3 hk3
        exact ⟨_, _, hr, .inr ⟨rfl, .exit id, (hIx _).putObj _ hi3 (Nat.le_succ _) hl3 rfl, hl4, hk4⟩⟩
      | goto t =>
        obtain ⟨hk3, hi3⟩ := hp
        obtain ⟨hr, hl3, hl4, hk4⟩ := fin (some (.goto t)) W3 hk3
        exact ⟨_, _, hr, .inr ⟨rfl, .goto t, (hIx _).putObj _ hi3 (Nat.le_succ _) hl3 rfl, hl4, hk4⟩⟩
      | panic ch => exact hp.elim
      | outgrown => exact hp.elim
    · rintro e W2 ⟨⟨v, rfl⟩, (⟨xs, hS, hi, hl, hk⟩ | ⟨pre, c, hi, hl, hk⟩)⟩
      · exact ⟨none, _, by have := run_endLoop (P := P) hl (by rw [hrec]; simp); rw [hrec] at this; exact this, hdone _ xs _ (Nat.le_refl _) hS (hI.putObj _ hi (Nat.le_succ _) hl rfl) ((World.putObj_heap_other (by omega)).trans hk)⟩
      · exact ⟨some c, _, by have := run_endLoop (P := P) hl (by rw [hrec]; simp); rw [hrec] at this; exact this, hstop _ c pre _ (Nat.le_refl _) ((hIx c).putObj _ hi (Nat.le_succ _) hl rfl) ((World.putObj_heap_other (by omega)).trans hk)⟩
/-- .. where the assigned variables lie in the frame -/
theorem wpIn_iter_moves {α : Type} {F : Fence} {n : Nat} {P : Program} {g : Operand} {ps : Array Tmp} {assign body : Code} {Q : Exit → Act → World → Prop} {a : Act} {w : World}
    (hro : F.round = none) (h1 : 1 ≤ n) {gf : Nat} {lb : Array Value} (hg : a.eval g = .func (.func gf) #[] lb) (hFg : F.fn gf) (eg : ∀ args w, (callFunc gf args).run P w = .ok (.enter gf args) w)
    {encs : α → Array Value} {G : List α → α → Prop} {S : List α → Prop} (I : List α → World → Prop) (hseq : SeqI F (n - 1) P gf lb encs I G S w)
    (hps : ∀ x, (encs x).size = ps.size) (Ix : Code → List α → World → Prop) (hI : OwnFrom w.heap.size I) (hIx : ∀ c, OwnFrom w.heap.size (Ix c)) (h0 : I [] w) (A1 : Act → α → Act)
    (hassign : ∀ (l : Nat) (x : α) (W : World) (K : Act → World → Prop), K (A1 a x) W →
      assign.wpIn (F.inRound l) (n - 1 - 1) P (Exit.then K (fun _ _ _ => False)) { tmps := (ps.zip (encs x)).foldl (fun t (p, v) => t.setIfInBounds p v) a.tmps, defers := [] } W)
    (hbody : ∀ (l : Nat) (pre : List α) (x : α) (W : World), w.heap.size ≤ l → I pre W → G pre x → body.wpIn (F.inRound l) (n - 1 - 1) P (roundPost w.heap.size I Ix (pre ++ [x]) W) (A1 a x) W)
    (hdone : ∀ (D : Nat) (xs : List α) (W : World), w.heap.size ≤ D → S xs → I xs W → W.heap[D]? = some (.deferred (some [])) → Q .normal { a with defers := { target := .collected D, args := #[] } :: a.defers } W)
    (hstop : ∀ (D : Nat) (c : Code) (pre : List α) (W : World), w.heap.size ≤ D → Ix c pre W → W.heap[D]? = some (.deferred (some [])) → c.wpIn F n P Q { a with defers := { target := .collected D, args := #[] } :: a.defers } W) :
    (Code.rangeFunc g ps assign body).wpIn F n P Q a w :=
  wpIn_iter hro h1 hg hFg eg I hseq hps Ix hI hIx h0 (fun x a' _ => a' = A1 a x) (fun _ _ _ _ _ _ h _ _ => h)
    (fun l _ x W _ hi _ hK => hassign l x W _ (hK _ _ (KeepsFrom.refl _ _) hi rfl)) (fun l pre x a' W hl hi ha hG => by subst ha; exact hbody l pre x W hl hi hG) hdone hstop
end Go.Proofs.YtgbdhmdaefbglaaDoor

namespace Go.Proofs.YtgbdhmdaefbglaaDoor
open Go.RowKit
/-- the marks that ranges over functions leave -/
def mks (ds : List Nat) : List Deferred := ds.map fun D => { target := .collected D, args := #[] }
theorem mks_cons (D : Nat) (ds : List Nat) : mks (D :: ds) = { target := .collected D, args := #[] } :: mks ds := rfl
/-- the blocks of the marks lie there -/
def MksAt (B : Nat) (ds : List Nat) (W : World) : Prop := ds.Nodup ∧ ∀ D ∈ ds, B ≤ D ∧ W.heap[D]? = some (.deferred (some []))
theorem MksAt.nil (B : Nat) (W : World) : MksAt B [] W := ⟨List.nodup_nil, fun _ h => by cases h⟩
theorem MksAt.cons {B D : Nat} {ds : List Nat} {W : World} (h : MksAt B ds W) (hD : B ≤ D) (hn : D ∉ ds) (hk : W.heap[D]? = some (.deferred (some []))) : MksAt B (D :: ds) W :=
  ⟨List.nodup_cons.2 ⟨hn, h.1⟩, fun E hE => by
    rcases List.mem_cons.1 hE with rfl | hE
    · exact ⟨hD, hk⟩
    · exact h.2 E hE⟩
theorem MksAt.keep {B : Nat} {ds : List Nat} {W W' : World} (h : MksAt B ds W) (hk : ∀ D ∈ ds, W.heap[D]? = some (.deferred (some [])) → W'.heap[D]? = some (.deferred (some []))) : MksAt B ds W' :=
  ⟨h.1, fun D hD => ⟨(h.2 D hD).1, hk D hD (h.2 D hD).2⟩⟩
theorem MksAt.below {B : Nat} {ds : List Nat} {W W' : World} (h : MksAt B ds W) (hb : Below W.heap.size W W') : MksAt B ds W' :=
  h.keep fun D hD hk => (hb.block _ (Array.getElem?_eq_some_iff.1 hk).1).trans hk
theorem MksAt.lt {B : Nat} {ds : List Nat} {W : World} (h : MksAt B ds W) {D : Nat} (hD : D ∈ ds) : D < W.heap.size := (Array.getElem?_eq_some_iff.1 (h.2 D hD).2).1
/-- all marks are taken, one by one; J is what is kept -/
theorem leaves_marks {F : Fence} {n : Nat} {P : Program} {fn : Func} {tmps : Array Value} {R : Ending → World → Prop} {B : Nat} (J : World → Prop)
    (hJ : ∀ W D, B ≤ D → W.heap[D]? = some (.deferred (some [])) → J W → J (W.putObj D (.deferred none)))
    (hend : ∀ W, J W → LeavesIn F n P fn tmps R [] .returning W) :
    ∀ (ds : List Nat) (W : World), MksAt B ds W → J W → LeavesInM F n P fn tmps R (mks ds) .returning W
  | [], W, _, h => hend W h
  | D :: ds, W, hM, h => by
    have hD := hM.2 D (by simp)
    refine ⟨by simp, .inl ⟨D, _, rfl, run_takeDeferred hD.2, ?_⟩⟩
    refine leaves_marks J hJ hend ds _ ?_ (hJ W D hD.1 hD.2 h)
    have hn := List.nodup_cons.1 hM.1
    refine ⟨hn.2, fun E hE => ⟨(hM.2 E (by simp [hE])).1, ?_⟩⟩
    have hne : D ≠ E := fun e => hn.1 (by rw [e]; exact hE)
    exact (World.putObj_heap_other (Ne.symm hne)).trans (hM.2 E (by simp [hE])).2
end Go.Proofs.YtgbdhmdaefbglaaDoor

namespace Go.Proofs.YtgbdhmdaefbglaaDoor
open Go.RowKit Go.Sort Go.Joins Go.Shelf
attribute [local go_sem] cell_grow frozen_grow size_grow Oper.semAt_some

theorem wide_any' (d : Nat) : Fence.wide.depth.isSome = true → 1 ≤ d := fun h => by simp [Fence.wide] at h
theorem calls_ok (x : Rl) (L : Int) (w : World) : Calls Tryd.prog 64 #[rV x, .int .i64 L] w fun e w' => e = .returned (.func (.func 81) #[] #[.pointer (some ⟨w.heap.size, 0, none⟩), .pointer (some ⟨w.heap.size + 1, 0, none⟩)]) ∧
    (w.alloc (.cells #[.int .i64 x.1, .int .i64 x.2.1, .int .i64 x.2.2.1, .int .i64 x.2.2.2] 45)).alloc (.cells #[.int .i64 L] 3) = w' := by
  go_enter Tryd.func64, Tryd.ntmps64
  go_wp2
  go_ret
  exact ⟨rfl, rfl⟩
/-- the first k calls of a rule -/
def calL (x : Rl) (k : Nat) : List Int := (List.range k).map fun (j : Nat) => x.2.1 + (j : Int) * x.2.2.1
theorem calL_succ (x : Rl) (k : Nat) : calL x (k + 1) = calL x k ++ [x.2.1 + (k : Int) * x.2.2.1] := by unfold calL; rw [List.range_succ, List.map_append]; rfl
theorem calL_length (x : Rl) (k : Nat) : (calL x k).length = k := by simp [calL]
/-- the first k calls were all to be made -/
def CalOk (x : Rl) (L : Int) (k : Nat) : Prop := ∀ j : Nat, j < k → x.2.1 + (j : Int) * x.2.2.1 ≤ L ∧ (x.2.2.2 = 0 ∨ (j : Int) < x.2.2.2)
def CalEnd (x : Rl) (L : Int) (k : Nat) : Prop := L < x.2.1 + (k : Int) * x.2.2.1 ∨ (x.2.2.2 ≠ 0 ∧ x.2.2.2 ≤ (k : Int))
abbrev encC (m : Int) : Array Value := #[.int .i64 m]
def GCal (x : Rl) (L : Int) (pre : List Int) (m : Int) : Prop := ∃ k, pre = calL x k ∧ m = x.2.1 + (k : Int) * x.2.2.1 ∧ CalOk x L (k + 1)
def SCal (x : Rl) (L : Int) (xs : List Int) : Prop := ∃ k, xs = calL x k ∧ CalOk x L k ∧ CalEnd x L k
/-- what the loop keeps for the iterator -/
def KeepC (x : Rl) (L : Int) (B1 B2 : Nat) (W : World) : Prop :=
  W.cell? ⟨B1, 1, none⟩ = some (.int .i64 x.2.1) ∧ W.cell? ⟨B1, 2, none⟩ = some (.int .i64 x.2.2.1) ∧ W.cell? ⟨B1, 3, none⟩ = some (.int .i64 x.2.2.2) ∧ W.cell? ⟨B2, 0, none⟩ = some (.int .i64 L)
theorem yform {R S : World → Prop} {e : Ending} {W : World} (h : (e = .returned (.bool true) ∧ R W) ∨ (e = .returned (.bool false) ∧ S W)) : ∃ b, e = .returned (.bool b) ∧ Hid ((b = true → R W) ∧ (b = false → S W)) := by
  rcases h with ⟨h1, h2⟩ | ⟨h1, h2⟩
  · exact ⟨true, h1, Lib.hid ⟨(fun _ => h2), (fun h => by cases h)⟩⟩
  · exact ⟨false, h1, Lib.hid ⟨(fun h => by cases h), (fun _ => h2)⟩⟩

set_option maxRecDepth 100000 in
set_option maxHeartbeats 3200000 in
theorem calls_seq (d : Nat) (x : Rl) (hx : RlOk x) (L : Int) (hL0 : 0 ≤ L) (hL1 : L ≤ 2000000) (B1 B2 : Nat) (I : List Int → World → Prop) (hI : ∀ pre W, I pre W → KeepC x L B1 B2 W) (w : World) :
    SeqI Fence.wide d Tryd.prog 81 #[.pointer (some ⟨B1, 0, none⟩), .pointer (some ⟨B2, 0, none⟩)] encC I (GCal x L) (SCal x L) w := by
  intro l J Jx W _ hJ _ hJI hY h0
  have hx0 := hx.f0
  have hx1 := hx.f1
  have hx2 := hx.e0
  have hx3 := hx.e1
  have hx4 := hx.t0
  have hx5 := hx.t1
  have HX := Lib.hid hx
  clear hx
  obtain ⟨K, F, E, T⟩ := x
  dsimp only at hx0 hx1 hx2 hx3 hx4 hx5
  obtain ⟨z1, z2, z3, z4⟩ := hI _ _ (hJI _ _ h0)
  dsimp only at z1 z2 z3
  refine callsIn_of_wp Tryd.func81 rfl trivial ?_ rfl
  simp only [Tryd.ntmps81, List.size_toArray, List.length_cons, List.length_nil, Nat.reduceAdd, Nat.reduceSub, Array.replicate_succ, Array.replicate_zero, List.push_toArray, List.append_toArray, List.nil_append, List.cons_append]
  gi_wp2
  gi_loopw [4, 5] (fun s i wr => ∃ k : Nat, ∃ y : Int, i = .int .i64 k ∧ s = .int .i64 y ∧ Hid (y = F + (k : Int) * E) ∧ (k : Int) ≤ L + 1 ∧ 1 ≤ y ∧ y ≤ L + 10012 ∧ Hid (CalOk (K, F, E, T) L k) ∧ Hid (J (calL (K, F, E, T) k) wr)) (fun _ i _ => (L + 2 - intOf i).toNat)
  case atStart => exact ⟨0, F, rfl, rfl, Lib.hid (by simp), by omega, by omega, by omega, Lib.hid (fun j hj => by omega), Lib.hid (by exact h0)⟩
  case round =>
    clear z1 z2 z3 z4 h0
    obtain ⟨k, y, rfl, rfl, HY, hk, hy0, hy1, HO, HJ⟩ := hrel
    obtain ⟨z1, z2, z3, z4⟩ := hI _ _ (hJI _ _ HJ.out)
    dsimp only at z1 z2 z3
    by_cases hgo : y ≤ L ∧ (T = 0 ∨ (k : Int) < T)
    · obtain ⟨hyL, hT⟩ := hgo
      have d1 : decide (y ≤ L) = true := by simpa using hyL
      have HOK : Hid (CalOk (K, F, E, T) L (k + 1)) := Lib.hid (fun j hj => by
        by_cases ej : j = k
        · subst ej; dsimp only; rw [← HY.out]; exact ⟨hyL, hT⟩
        · exact HO.out j (by omega))
      have HBd := Lib.hid (cal_bound HX.out HOK.out hL0)
      have hb1 : ((k + 1 : Nat) : Int) ≤ L + 1 := HBd.out.2.2
      have hst : F + ((k + 1 : Nat) : Int) * E = y + E := by rw [step_mul, HY.out]
      have hb2 := HBd.out.1
      have hb3 := HBd.out.2.1
      dsimp only at hb2 hb3
      rw [hst] at hb2 hb3
      have HST := Lib.hid hst
      clear hst
      obtain ⟨fn, tmps, assign, body, hy, hR⟩ := hY (calL (K, F, E, T) k) y wr HJ.out ⟨k, rfl, by rw [HY.out], HOK.out⟩
      have hmore : (T == 0) = true ∨ ((T == 0) = false ∧ decide ((k : Int) < T) = true) := by
        by_cases hT0 : T = 0
        · left; simpa using hT0
        · right; refine ⟨by simpa using hT0, ?_⟩; simp; omega
      clear hT
      rcases hmore with d2 | ⟨d2, d3⟩
      all_goals
        gi_wp2_with fail
        refine ⟨wide_any' _, hR.mono ?_⟩
        intro e W3 hW3
        obtain ⟨b, rfl, HBB⟩ := yform hW3
        clear hW3 hR
        cases b with
        | true =>
          have HX2 := Lib.hid (HBB.out.1 rfl)
          clear HBB z1 z2 z3 z4
          obtain ⟨z1, z2, z3, z4⟩ := hI _ _ (hJI _ _ HX2.out)
          dsimp only at z1 z2 z3
          gi_wp2
          go_roundw
          case rel => exact ⟨k + 1, y + E, by go_num, rfl, Lib.hid HST.out.symm, hb1, hb2, hb3, HOK, Lib.hid (by rw [calL_succ]; dsimp only; rw [← HY.out]; exact HX2.out)⟩
          case measure => simp [intOf]; omega
        | false =>
          have HX2 := Lib.hid (HBB.out.2 rfl)
          clear HBB z1 z2 z3 z4
          gi_wp2
          refine bodyPost_ret (results_none rfl _ _ _) rfl ?_
          exact ⟨⟨_, rfl⟩, .inr ⟨_, HX2.out⟩⟩
    · have HE : Hid (CalEnd (K, F, E, T) L k) := Lib.hid (by
        unfold CalEnd
        dsimp only
        rw [← HY.out]
        omega)
      have hno : decide (y ≤ L) = false ∨ (decide (y ≤ L) = true ∧ (T == 0) = false ∧ decide ((k : Int) < T) = false) := by
        by_cases h1 : y ≤ L
        · right; refine ⟨by simpa using h1, ?_, ?_⟩
          · simp; omega
          · simp; omega
        · left; simpa using h1
      clear hgo
      rcases hno with d1 | ⟨d1, d2, d3⟩
      all_goals
        gi_wp2
        go_end0
        exact ⟨⟨_, rfl⟩, .inl ⟨_, ⟨k, rfl, HO.out, HE.out⟩, HJ.out⟩⟩
end Go.Proofs.YtgbdhmdaefbglaaDoor

namespace Go.Proofs.YtgbdhmdaefbglaaDoor
open Go.RowKit Go.Sort Go.Joins Go.Shelf
attribute [local go_sem] cell_grow frozen_grow size_grow Oper.semAt_some

theorem cal_mem {x : Rl} {k : Nat} {m : Int} : m ∈ calL x k ↔ cal x k m = true := by
  rw [cal_iff]
  unfold calL
  rw [List.mem_map]
  constructor
  · rintro ⟨j, hj, rfl⟩; exact ⟨j, List.mem_range.1 hj, rfl⟩
  · rintro ⟨j, hj, rfl⟩; exact ⟨j, List.mem_range.2 hj, rfl⟩
theorem heap_alloc_is (w : World) (cs : Array Value) (t : TypeId) (k : Nat) (hk : k = w.heap.size) : (w.alloc (.cells cs t)).heap[k]? = some (.cells cs t (0, 0)) := by
  subst hk
  exact heap_alloc_new w _
/-- what lies in memory: the marks, their box -/
structure MAt (w : World) (L : Nat) (M : Nat → Bool) (ds : List Nat) (W : World) : Prop where
  own : W.ownsRow w.heap.size 4 1 (.slice (some ⟨w.heap.size + 1, 0, none⟩) (L + 1) (L + 1)) (L + 1) (bl M (L + 1))
  box : W.heap[w.heap.size + 1 + 1]? = some (.cells #[.slice (some ⟨w.heap.size + 1, 0, none⟩) (L + 1) (L + 1)] 89 (0, 0))
  k : Below w.heap.size w W
  dm : MksAt (w.heap.size + 3) ds W
theorem own_below' {W W' : World} {base : Nat} {e : TypeId} {size : Nat} {v : Value} {n : Nat} {xs : List Value} (h : W.ownsRow base e size v n xs) (hb : Below W.heap.size W W') : W'.ownsRow base e size v n xs := own_below h hb
theorem MAt.below {w W W' : World} {L : Nat} {M : Nat → Bool} {ds : List Nat} (h : MAt w L M ds W) (hb : Below W.heap.size W W') : MAt w L M ds W' :=
  ⟨own_below h.own hb, (hb.block _ (blk_lt h.box)).trans h.box, h.k.trans (hb.mono h.k.size), h.dm.below hb⟩
theorem MAt.congr {w W : World} {L : Nat} {M M' : Nat → Bool} {ds : List Nat} (h : MAt w L M ds W) (hM : ∀ j, j < L + 1 → M j = M' j) : MAt w L M' ds W :=
  ⟨by rw [← bl_congr hM]; exact h.own, h.box, h.k, h.dm⟩
theorem own_stays {W W' : World} {base : Nat} {e : TypeId} {size : Nat} {v : Value} {n : Nat} {xs : List Value} {row : Option Nat} (h : W.ownsRow base e size v n xs) (hg : W.grownBy W' row) (hr : ∀ r, row = some r → ∃ o : Obj, W.heap[r]? = some o ∧ o.isCells = false) : W'.ownsRow base e size v n xs := by
  refine h.kept hg ?_
  rcases h.2 with ⟨rfl, _⟩ | ⟨g, cap, cur, rfl, _, hgb, _⟩
  · exact .inl rfl
  · refine .inr fun e' => ?_
    obtain ⟨o, ho, hc⟩ := hr g e'.symm
    rw [hgb] at ho; cases ho; cases hc
theorem blk_kept {W W' : World} {row : Option Nat} {k : Nat} {cs : Array Value} {t : TypeId} (h : W.heap[k]? = some (.cells cs t (0, 0))) (hg : W.grownBy W' row) (hr : ∀ r, row = some r → ∃ o : Obj, W.heap[r]? = some o ∧ o.isCells = false) : W'.heap[k]? = some (.cells cs t (0, 0)) :=
  (grownBy_keeps_cells hg hr h rfl).trans h
theorem MAt.grown {w W W' : World} {L Z : Nat} {M : Nat → Bool} {ds : List Nat} {row : Option Nat} (h : MAt w L M ds W) (hZ : w.heap.size ≤ Z) (hds : ∀ D ∈ ds, D < Z) (hg : W.grownBy W' row) (hr : ∀ r, row = some r → Z ≤ r ∧ ∃ o : Obj, W.heap[r]? = some o ∧ o.isCells = false) : MAt w L M ds W' :=
  ⟨own_stays h.own hg (fun r e => (hr r e).2), blk_kept h.box hg (fun r e => (hr r e).2), h.k.grown hg h.k.size (fun r e => by have := (hr r e).1; omega),
    h.dm.keep fun D hD hk => (hg.block D (Array.getElem?_eq_some_iff.1 hk).1 (fun e => by have := (hr D e.symm).1; have := hds D hD; omega)).trans hk⟩
theorem MAt.store {w W : World} {L m : Nat} {M M' : Nat → Bool} {ds : List Nat} (h : MAt w L M ds W) (hM : ∀ i, i < L + 1 → M' i = if i = m then true else M i) : MAt w L M' ds (W.setCell ⟨w.heap.size + 1, m, none⟩ (.bool true)) := by
  refine ⟨bl_stored h.own hM, (Below.heap_setCell _ _ _ _ (show w.heap.size + 1 + 1 ≠ w.heap.size + 1 by omega)).trans h.box, h.k.setCell (p := ⟨w.heap.size + 1, m, none⟩) (by simp) _, h.dm.keep fun D hD hk => (Below.heap_setCell _ _ _ _ (show D ≠ w.heap.size + 1 from fun e => by have := (h.dm.2 D hD).1; omega)).trans hk⟩
theorem MAt.cell {w W : World} {L : Nat} {M : Nat → Bool} {ds : List Nat} (h : MAt w L M ds W) : W.cell? ⟨w.heap.size + 1 + 1, 0, none⟩ = some (.slice (some ⟨w.heap.size + 1, 0, none⟩) (L + 1) (L + 1)) := by
  rw [cell_of_block h.box]; rfl

/-- where the loop over the rules stands -/
def MI (w : World) (a : Option Addr) (n c : Nat) (q : Int) (L z : Nat) (R : Nat → Rl) (A : Act) (W : World) : Prop :=
  ∃ (k : Nat) (u9 u18 u19 u20 u21 u22 u23 u24 u25 u26 u27 u32 : Value) (ds : List Nat), A = { tmps := #[pV a n c, .int .i64 q, .int .i64 (L : Int), .pointer (some ⟨z, 0, none⟩), undef, undef, .slice none 0 0, .pointer (some ⟨z + 1 + 1, 0, none⟩), undef, u9, undef, .int .i64 (L : Int), .int .i64 ((L : Int) + 1), .slice (some ⟨z + 1, 0, none⟩) (L + 1) (L + 1), .pointer (some ⟨z, 0, none⟩), .slice a n c, .int .i64 (n : Int), .int .i64 (k : Int), u18, u19, u20, u21, u22, u23, u24, u25, u26, u27, undef, undef, undef, undef, u32, undef], defers := mks ds } ∧ k ≤ n ∧ MAt w L (fun j => rfP k R q (j : Int)) ds W
def Mmu (n : Nat) (A : Act) (_ : World) : Nat := n - (intOf (A.tmps.getD 17 undef)).toNat

section
variable {w : World} {a : Option Addr} {n c : Nat} {R : Nat → Rl}
set_option maxRecDepth 100000 in
set_option maxHeartbeats 3200000 in
theorem marks_ok (hS : SlR w a n R) (hn : n ≤ 50) (hR : ∀ i, i < n → RlOk (R i)) (q : Int) (L : Nat) (hL : L ≤ 2000000) :
    Calls Tryd.prog 46 #[pV a n c, .int .i64 q, .int .i64 L] w fun e w' => ∃ v, e = .returned v ∧ w'.ownsRow w.heap.size 4 1 v (L + 1) (bl (fun j => rfP n R q (j : Int)) (L + 1)) ∧ Below w.heap.size w w' := by
  have hmk := fun W => run_make_row' (P := Tryd.prog) 89 4 (.bool false) 1 Tryd.underlying89 info_b rfl .i64 .i64 (L + 1) (by omega) (by omega) W
  have HZ := Lib.hid (zeros_bl (w.alloc (.cells #[.slice a n c] 24)) (L + 1) (by omega))
  have HS := Lib.hid hS
  have HR := Lib.hid hR
  have hLi : ((L + 1 : Nat) : Int) = (L : Int) + 1 := by omega
  rw [hLi] at hmk
  clear hS hR hLi
  refine (callsIn_wide (n := 4)).1 ?_
  refine callsIn_of_wp_marks Tryd.func46 rfl trivial ?_ rfl
  simp only [Tryd.ntmps46, List.size_toArray, List.length_cons, List.length_nil, Nat.reduceAdd, Nat.reduceSub, Array.replicate_succ, Array.replicate_zero, List.push_toArray, List.append_toArray, List.nil_append, List.cons_append]
  gi_wp2
  clear hmk
  refine wpIn_loop (MI w a n c q L w.heap.size R) (Mmu n) ?_ ?_
  · refine ⟨0, _, _, _, _, _, _, _, _, _, _, _, _, [], rfl, Nat.zero_le _, ?_⟩
    have h0 := HZ.out
    rw [World.size_alloc] at h0
    have hb := below_box0 (((w.alloc (.cells #[.slice a n c] 24)).alloc (.cells (madeCells #[.bool false] (L + 1)) 4))) (.cells #[.slice (some ⟨w.heap.size + 1, 0, none⟩) (L + 1) (L + 1)] 89)
    refine ⟨ownsRow_le (own_below h0 hb) (by omega), heap_alloc_is _ _ _ _ (by simp), ?_, MksAt.nil _ _⟩
    exact (((Below.refl _ w).alloc (Nat.le_refl _) _).alloc (by simp) _).alloc (by simp; omega) _
  · rintro A wr ⟨k, u9, u18, u19, u20, u21, u22, u23, u24, u25, u26, u27, u32, ds, rfl, hk, hM⟩
    by_cases hlt : k < n
    · obtain ⟨b, o, rfl, g0, g1, g2, g3⟩ := (HS.out.below hM.k).at_ hlt
      have hbl := World.block_lt_of_cell? _ _ g0
      dsimp only at hbl
      have hlb : decide (k < n) = true := by simpa using hlt
      have hli : (k : Int) < (n : Int) := by omega
      have hk0 : (0 : Int) ≤ (k : Int) := by omega
      have HM := Lib.hid hM
      have HX := Lib.hid (HR.out k hlt)
      clear hM
      by_cases hkq : (R k).1 = q
      · have d1 : ((R k).1 != q) = false := by simpa using hkq
        have HK := Lib.hid hkq
        clear hkq
        gi_wp2_with fail
        refine ⟨trivial, (callsIn_wide.2 (calls_ok (R k) (L : Int) _)).mono ?_⟩
        rintro e w1 ⟨rfl, hw1⟩
        have b1 : Below wr.heap.size wr w1 := by
          rw [← hw1]
          exact (((Below.refl _ wr).alloc (Nat.le_refl _) _).alloc (by simp) _).alloc (by simp; omega) _
        have hz1 : w1.heap.size = wr.heap.size + 3 := by rw [← hw1]; simp
        have HM1 := Lib.hid (HM.out.below b1)
        have k0 : KeepC (R k) (L : Int) (wr.heap.size + 1) (wr.heap.size + 1 + 1) w1 := by
          rw [← hw1]
          refine ⟨?_, ?_, ?_, ?_⟩ <;> simp [go_sem]
        have HK0 := Lib.hid k0
        have HDs : Hid (∀ D ∈ ds, D < w1.heap.size) := Lib.hid (fun D hD => HM1.out.dm.lt hD)
        clear b1 k0 hw1 g0 g1 g2 g3 hbl
        gi_wp2
        refine wpIn_iter_moves rfl (by omega) (gf := 81) (lb := #[.pointer (some ⟨wr.heap.size + 1, 0, none⟩), .pointer (some ⟨wr.heap.size + 1 + 1, 0, none⟩)]) rfl trivial (enters_of Tryd.func81 (by kernel_rfl) rfl)
          (fun pre W => KeepC (R k) (L : Int) (wr.heap.size + 1) (wr.heap.size + 1 + 1) W ∧ MAt w L (fun j => rfP k R q (j : Int) || decide ((j : Int) ∈ pre)) ds W)
          (calls_seq _ (R k) HX.out (L : Int) (by omega) (by omega) _ _ _ (fun pre W h => h.1) _) (fun _ => rfl) (fun _ _ _ => False) ?own (fun _ _ _ _ _ hs _ _ => hs) ?start
          (fun a x => { tmps := (a.tmps.setIfInBounds 28 (.int .i64 x)).setIfInBounds 10 (.int .i64 x), defers := [] })
          ?assign ?body ?done (fun _ _ _ _ _ h _ => h.elim)
        case own =>
          rintro pre A B row ⟨⟨e1, e2, e3, e4⟩, h2⟩ hg hr
          exact ⟨⟨cell_kept e1 hg (fun r e => (hr r e).2), cell_kept e2 hg (fun r e => (hr r e).2), cell_kept e3 hg (fun r e => (hr r e).2), cell_kept e4 hg (fun r e => (hr r e).2)⟩, h2.grown (HM1.out.k.size) HDs.out hg hr⟩
        case start => exact ⟨HK0.out, HM1.out.congr fun j _ => by simp⟩
        case assign =>
          intro l x W K hK
          simp only [List.setIfInBounds_toArray, List.set_cons_zero, List.set_cons_succ] at hK
          gi_wp2
          exact hK
        case body =>
          rintro l pre x W hl ⟨hKp, hMp⟩ ⟨i, hpre, hx, hok⟩
          obtain ⟨p1, p2, _⟩ := cal_bound HX.out (i := i) (fun j hj => hok j (by omega)) (show (0 : Int) ≤ (L : Int) by omega)
          have hxL := (hok i (by omega)).1
          rw [← hx] at p1 hxL
          obtain ⟨m, rfl⟩ : ∃ m : Nat, x = m := ⟨x.toNat, by omega⟩
          have hm : m < L + 1 := by omega
          have c7 := hMp.cell
          have cm := own_bl hMp.own m hm
          have fz := hMp.own.frozenAt m
          have hmi : (m : Int) < (L : Int) + 1 := by omega
          have hm0 : (0 : Int) ≤ (m : Int) := by omega
          have HKp := Lib.hid hKp
          have HMp := Lib.hid hMp
          have hzz : wr.heap.size + 3 ≤ w1.heap.size := by omega
          clear hKp hMp hx hok hpre p1 p2 hxL
          simp only [List.setIfInBounds_toArray, List.set_cons_zero, List.set_cons_succ]
          gi_wp2
          have hne : ∀ d, wr.heap.size + d ≠ w.heap.size + 1 := fun d => by have := blk_lt HM.out.box; omega
          obtain ⟨e1, e2, e3, e4⟩ := HKp.out
          refine ⟨(KeepsOthers.setCell _ _ _).from _, trivial, ⟨?_, ?_, ?_, ?_⟩, ?_⟩
          · rw [World.cell?_of_block (w := W) (Below.heap_setCell _ _ _ _ (hne 1))]; exact e1
          · rw [World.cell?_of_block (w := W) (Below.heap_setCell _ _ _ _ (hne 1))]; exact e2
          · rw [World.cell?_of_block (w := W) (Below.heap_setCell _ _ _ _ (hne 1))]; exact e3
          · rw [World.cell?_of_block (w := W) (Below.heap_setCell _ _ _ _ (hne 2))]; exact e4
          · refine HMp.out.store fun j hj => ?_
            by_cases ej : j = m
            · subst ej; simp
            · have hji : ¬ ((j : Int) = (m : Int)) := by omega
              simp [ej, hji]
        case done =>
          rintro D xs W hD ⟨i, hxs, hok, hend⟩ ⟨hKp, hMp⟩ hK
          have HK2 := Lib.hid hK
          have HM2 := Lib.hid hMp
          have HO2 := Lib.hid hok
          have HE2 := Lib.hid hend
          clear hKp hMp hok hend hK
          gi_wp2
          refine ⟨⟨k + 1, _, _, _, _, _, _, _, _, _, _, _, _, D :: ds, rfl, hlt, ?_⟩, ?_⟩
          · have hM3 := HM2.out.congr (M' := fun j => rfP (k + 1) R q (j : Int)) fun j hj => by
              rw [rfP_succ, hxs, ← HK.out, ← cal_end HX.out HO2.out HE2.out (c := (j : Int)) (by omega)]
              congr 1
              rw [Bool.eq_iff_iff, decide_eq_true_eq]
              exact cal_mem
            exact ⟨hM3.own, hM3.box, hM3.k, hM3.dm.cons (by have := HM1.out.k.size; have := blk_lt HM1.out.box; omega) (fun h => by have := HDs.out D h; omega) HK2.out⟩
          · unfold Mmu; simp [intOf]; omega
      · have d1 : ((R k).1 != q) = true := by simpa using hkq
        have HK := Lib.hid hkq
        clear hkq
        gi_wp2
        refine ⟨⟨k + 1, _, _, _, _, _, _, _, _, _, _, _, _, ds, rfl, hlt, ?_⟩, ?_⟩
        · refine (HM.out.below (below_box0 _ _)).congr fun j hj => ?_
          rw [rfP_succ, show rfz (R k) q (j : Int) = false from by rw [Bool.eq_false_iff]; exact fun e => HK.out (rfz_kind e), Bool.or_false]
        · unfold Mmu; simp [intOf]; omega
    · obtain rfl : k = n := by omega
      have hlb : decide (k < k) = false := by simp
      have HM := Lib.hid hM
      have c7 := hM.cell
      clear hM
      gi_wp2
      refine leaves_marks (fun W => W.ownsRow w.heap.size 4 1 (.slice (some ⟨w.heap.size + 1, 0, none⟩) (L + 1) (L + 1)) (L + 1) (bl (fun j => rfP k R q (j : Int)) (L + 1)) ∧ Below w.heap.size w W) ?_ ?_ ds _ HM.out.dm ⟨HM.out.own, HM.out.k⟩
      · rintro W D hD hk ⟨h1, h2⟩
        exact ⟨own_stays h1 (grownBy_putObj' _ D (.deferred none)) (fun r e => by cases e; exact ⟨_, hk, rfl⟩), h2.trans (belowK_b (w := w) (Nat.le_refl _) _ D _ _ (by omega) hk rfl rfl)⟩
      · rintro W ⟨h1, h2⟩
        refine ⟨_, results_tmp (t := 6) rfl _ _ _, .slice (some ⟨w.heap.size + 1, 0, none⟩) (L + 1) (L + 1), rfl, h1, h2⟩
end
end Go.Proofs.YtgbdhmdaefbglaaDoor

namespace Go.Proofs.YtgbdhmdaefbglaaDoor
open Go.RowKit Go.Sort Go.Joins Go.Shelf
attribute [local go_sem] cell_grow frozen_grow size_grow

/-- what Hits answers -/
def htV (n : Nat) (R : Nat → Rl) (k c : Int) : Int := if askE n R k c 0 = 0 then (hitP n R k c.toNat : Nat) else 0
theorem ht_cases {C : Int → Int → Prop} (n : Nat) (R : Nat → Rl) (k c : Int) (h1 : ∀ e, e ≠ 0 → askE n R k c 0 = e → C 0 e) (h2 : askE n R k c 0 = 0 → C (hitP n R k c.toNat : Nat) 0) : C (htV n R k c) (askE n R k c 0) := by
  unfold htV
  by_cases h : askE n R k c 0 = 0
  · rw [if_pos h, h]; exact h2 h
  · rw [if_neg h]; exact h1 _ h rfl
theorem hitM_le (n : Nat) (R : Nat → Rl) (k : Int) : ∀ c, hitM n R k c ≤ c
  | 0 => by unfold hitM; rw [cnt_zero (Nat.le_refl _)]; exact Nat.le_refl _
  | c + 1 => by
    have := hitM_le n R k c
    rw [hitM_succ]
    split <;> omega
section
variable {w : World} {a : Option Addr} {n c : Nat} {R : Nat → Rl}
set_option maxRecDepth 100000 in
set_option maxHeartbeats 1600000 in
theorem hits_ok (hS : SlR w a n R) (hn : n ≤ 50) (hR : ∀ i, i < n → RlOk (R i)) (q : Int) (m : Nat) (h1 : m ≤ 1000000) :
    Calls Tryd.prog 32 #[pV a n c, .int .i64 q, .int .i64 m] w fun e w' => e = .returned (.int .i64 (hitP n R q m : Nat)) ∧ Below w.heap.size w w' := by
  have HB0 := Lib.hid (below_box0 w (.cells #[.slice a n c] 24))
  have HC := Lib.hid (marks_ok (c := c) (hS.below HB0.out) hn hR q m (by omega))
  have HR := Lib.hid hR
  clear hS hR
  go_enter Tryd.func32, Tryd.ntmps32
  go_wp2_with fail
  refine HC.out.mono ?_
  rintro e w1 ⟨v, rfl, o1, b1⟩
  obtain ⟨g, cap, rfl⟩ := ownsRow_form o1 (by omega)
  have HO := Lib.hid o1
  have HB1 := Lib.hid (below_tr HB0.out b1)
  clear o1 b1
  go_wp2
  go_loop [6, 14] (fun s i => ∃ k y : Nat, i = .int .i64 k ∧ k ≤ m + 1 ∧ s = .int .i64 y ∧ y ≤ k ∧ Hid (y = hitM n R q k)) (fun _ i => m + 1 - (intOf i).toNat)
  case atStart => exact ⟨0, 0, rfl, Nat.zero_le _, rfl, Nat.le_refl _, Lib.hid (by unfold hitM; rw [cnt_zero (Nat.le_refl _)])⟩
  case round =>
    obtain ⟨k, y, rfl, hk, rfl, hy, HY⟩ := hrel
    by_cases hlt : k < m + 1
    · have cm := own_bl HO.out k hlt
      have hs := hitM_succ n R q k
      have hli : (k : Int) < (m : Int) + 1 := by omega
      have hk0 : (0 : Int) ≤ (k : Int) := by omega
      cases hr : rfP n R q (k : Int)
      all_goals
        rw [hr] at cm hs
        simp only [Bool.false_eq_true, ↓reduceIte] at hs
        have HSu := Lib.hid hs
        clear hr hs
        go_wp2
        go_round
      · exact ⟨k + 1, y, by go_num, by omega, rfl, by omega, Lib.hid (by rw [HSu.out, HY.out]; omega)⟩
      · simp [intOf]; omega
      · exact ⟨k + 1, y + 1, by go_num, by omega, by go_num, by omega, Lib.hid (by rw [HSu.out, HY.out])⟩
      · simp [intOf]; omega
    · obtain rfl : k = m + 1 := by omega
      have hle : ¬ ((m + 1 : Nat) : Int) < (m : Int) + 1 := by omega
      go_wp2
      go_ret
      exact ⟨ret_i64 (by rw [HY.out, hitM_eq HR.out]), HB1.out⟩
set_option maxRecDepth 100000 in
set_option maxHeartbeats 1600000 in
theorem Hits_ok (hS : SlR w a n R) (hn : n ≤ 9223372036854775807) (q m : Int) :
    Calls Tryd.prog 14 #[pV a n c, .int .i64 q, .int .i64 m] w fun e w' => e = .returned (.tuple #[.int .i64 (htV n R q m), .int .i64 (askE n R q m 0)]) ∧ Below w.heap.size w w' := by
  have b0 := below_box0 w (.cells #[.slice a n c] 24)
  have HS := Lib.hid (hS.below b0)
  have HC := Lib.hid (ask_ok (c := c) HS.out hn q m 0)
  have HB := Lib.hid b0
  clear b0 hS
  refine ht_cases (C := fun v e => Calls Tryd.prog 14 #[pV a n c, .int .i64 q, .int .i64 m] w fun e' w' => e' = .returned (.tuple #[.int .i64 v, .int .i64 e]) ∧ Below w.heap.size w w') n R q m (fun e he ha => ?_) (fun ha => ?_)
  · have d1 := bne0_true he
    rw [ha] at HC
    clear ha he
    go_enter Tryd.func14, Tryd.ntmps14
    go_wp2_with fail
    refine HC.out.mono ?_
    rintro e' w1 ⟨rfl, b1⟩
    have HB1 := Lib.hid (below_tr HB.out b1)
    clear b1
    go_wp2
    go_ret2
    exact ⟨rfl, HB1.out⟩
  · obtain ⟨hp, _, _, hm0, hm1⟩ := askE_zero ha
    have HR := Lib.hid (pE_zero hp).2
    have hn50 := (pE_zero hp).1
    rw [ha] at HC
    clear ha hp
    obtain ⟨m, rfl⟩ := Int.eq_ofNat_of_zero_le hm0
    rw [Int.toNat_natCast]
    go_enter Tryd.func14, Tryd.ntmps14
    go_wp2_with fail
    refine HC.out.mono ?_
    rintro e' w1 ⟨rfl, b1⟩
    have k0 : w1.cell? ⟨w.heap.size, 0, none⟩ = some (.slice a n c) := cell_later b1 (by simp [go_sem])
    have HB1 := Lib.hid (below_tr HB.out b1)
    have HS1 := Lib.hid (HS.out.below b1)
    clear b1
    go_wp2_with fail
    refine (hits_ok HS1.out hn50 HR.out q m (by omega)).mono ?_
    rintro e' w2 ⟨rfl, b2⟩
    have HB2 := Lib.hid (below_tr HB1.out b2)
    clear b2
    go_wp2
    go_ret2
    exact ⟨rfl, HB2.out⟩
end
end Go.Proofs.YtgbdhmdaefbglaaDoor

namespace Go.Proofs.YtgbdhmdaefbglaaDoor
open Go.RowKit Go.Sort Go.Joins Go.Shelf

theorem szBuilder : (Tryd.prog.info? 43).map (·.size) = some 2 := by kernel_rfl
theorem liesBuilder : liesAt Tryd.prog Tryd.prog.depth 43 (2 / Tryd.prog.cellsOf 43) 0 43 1 = true := by kernel_rfl
theorem infoByte : (Tryd.prog.info? 5).map (fun i => (i.zero, i.size, i.bytes)) = some (some (.int .u8 0), 1, 1) := by kernel_rfl
set_option maxHeartbeats 1000000 in
set_option maxRecDepth 100000 in
theorem bldUsed (b : Nat) (w : World) (h0 : w.cell? ⟨b, 0, none⟩ = some (.pointer (some ⟨b, 0, none⟩))) :
    Calls Tryd.prog 35 #[.pointer (some ⟨b, 0, none⟩)] w fun e w' => e = .returned (.tuple #[]) ∧ w' = w := by
  obtain ⟨j, hj, _⟩ := Option.map_eq_some_iff.1 szBuilder
  go_enter Tryd.func35, Tryd.ntmps35
  go_wp2
  rw [Lib.run_neq_ptr_same w _ Tryd.underlying40 hj]
  go_wp2
  go_end0
  exact ⟨rfl, rfl⟩
set_option maxHeartbeats 1000000 in
set_option maxRecDepth 100000 in
theorem bldFresh (b : Nat) (w : World) (h0 : w.cell? ⟨b, 0, none⟩ = some (.pointer none)) (hsh : w.shape? b = some (43, 2)) (hfz : w.frozen? ⟨b, 0, none⟩ = false) :
    Calls Tryd.prog 35 #[.pointer (some ⟨b, 0, none⟩)] w fun e w' => e = .returned (.tuple #[]) ∧ w' = w.setCell ⟨b, 0, none⟩ (.pointer (some ⟨b, 0, none⟩)) := by
  obtain ⟨j, hj, hjs⟩ := Option.map_eq_some_iff.1 szBuilder
  go_enter Tryd.func35, Tryd.ntmps35
  go_wp2
  rw [Lib.run_to_unsafe w ⟨b, 0, none⟩ Tryd.underlying40 Tryd.underlying93 hj (by rw [hjs]; decide) hsh (Nat.zero_lt_succ 1)]
  simp only [Result.andThen]
  rw [Oper.upon_value]
  go_wp2
  rw [run_callFunc_extern Tryd.func49 (by kernel_rfl) (by kernel_rfl) (by kernel_rfl) (e := Extern.AbiNoEscape.same) (by kernel_rfl)]
  rw [Lib.run_noEscape]
  simp only [Result.andThen]
  rw [Oper.upon_value]
  go_wp2
  rw [Lib.run_from_unsafe w ⟨b, 0, none⟩ Tryd.underlying93 Tryd.underlying40 hj hsh liesBuilder]
  simp only [Result.andThen]
  rw [Oper.upon_value]
  go_wp2
  go_end0
  exact ⟨rfl, rfl⟩
theorem bldCheck (B b : Nat) (bs : List Value) (w : World) (h : Lib.IsBuilderF 43 5 B b bs w) :
    Calls Tryd.prog 35 #[.pointer (some ⟨b, 0, none⟩)] w fun e w' => e = .returned (.tuple #[]) ∧ (Lib.BuilderAtF 43 5 B b (.pointer (some ⟨b, 0, none⟩)) bs w' ∧ Below B w w' ∧ Lib.OthersKept 5 (some b) w w') := by
  rcases h with h | h
  · refine (bldFresh b w h.cell0 h.shape h.frozen0).mono ?_
    rintro e w' ⟨rfl, rfl⟩
    exact ⟨rfl, h.used _, (Below.refl B w).setCell (p := ⟨b, 0, none⟩) h.1 _, (Lib.OthersKept.refl _ _ w).setCell ⟨b, 0, none⟩ rfl _⟩
  · refine (bldUsed b w h.cell0).mono ?_
    rintro e w' ⟨rfl, rfl⟩
    exact ⟨rfl, h, Below.refl B _, Lib.OthersKept.refl _ _ _⟩
set_option maxHeartbeats 2000000 in
set_option maxRecDepth 100000 in
theorem bldByte (B b : Nat) (bs : List Value) (c : Int) (w : World) (h : Lib.IsBuilderF 43 5 B b bs w) (hlen : bs.length + 1 ≤ 140737488355328) (hBw : B ≤ w.heap.size) :
    Calls Tryd.prog 19 #[.pointer (some ⟨b, 0, none⟩), .int .u8 c] w fun e w' => e = .returned .nilIface ∧ (Lib.BuilderAtF 43 5 B b (.pointer (some ⟨b, 0, none⟩)) (bs ++ [.int .u8 c]) w' ∧ Below B w w' ∧ Lib.OthersKept 5 (some b) w w') := by
  obtain ⟨i0, hi, hz0, hz1, hz2⟩ := info_parts infoByte
  go_enter Tryd.func19, Tryd.ntmps19
  go_wp2_with (go_at_call 35; refine (bldCheck B b bs _ h).mono ?_)
  rintro e w1 ⟨rfl, h1, hb1, hk1⟩
  obtain ⟨hB, v, hbk, hown, hne⟩ := h1
  have c0 : w1.cell? ⟨b, 0, none⟩ = some (.pointer (some ⟨b, 0, none⟩)) := by rw [Lib.cell_of_heap hbk]; rfl
  have c1 : w1.cell? ⟨b, 1, none⟩ = some v := by rw [Lib.cell_of_heap hbk]; rfl
  go_wp2_with (at_builtin; refine wpList_append_ownF _ rfl _ _ 41 rfl B 5 i0 (.int .u8 0) 1 1 Tryd.underlying41 hi hz0 hz1 hz2 rfl (by decide) _ _ _ rfl (hown.alloc _) ⟨w1.heap.size, 0, none⟩ 1 1 [.int .u8 c] rfl rfl ?c1 ?c2 ?c3 ?c4 ?c5 ?_)
  case c1 =>
    intro j u hj
    match j, hj with
    | 0, hj => simp at hj; subst hj; simp [Addr.add]
  case c2 => intro u hu; simp at hu; subst hu; rfl
  case c3 => unfold maxLen; omega
  case c4 => omega
  case c5 => have := hb1.size; simp; omega
  intro v' w2 hown' hgrow _
  have hlt : b < w1.heap.size := by
    rcases Nat.lt_or_ge b w1.heap.size with h' | h'
    · exact h'
    · simp [Array.getElem?_eq_none h'] at hbk
  have hb2 : w2.heap[b]? = some (.cells #[.pointer (some ⟨b, 0, none⟩), v] 43 (0, 0)) := by
    rw [hgrow.block b (by simp; omega) (fun e => hne e.symm), Lib.alloc_old w1 _ b hlt]
    exact hbk
  have d0 : w2.cell? ⟨b, 0, none⟩ = some (.pointer (some ⟨b, 0, none⟩)) := by rw [Lib.cell_of_heap hb2]; rfl
  have d1 : w2.cell? ⟨b, 1, none⟩ = some v := by rw [Lib.cell_of_heap hb2]; rfl
  have f1 : w2.frozen? ⟨b, 1, none⟩ = false := Lib.frozen_of_heap hb2 1
  obtain ⟨g, cap, rfl⟩ : ∃ g cap, v' = .slice (some ⟨g, 0, none⟩) (bs.length + 1) cap := by
    rcases hown'.2 with ⟨_, h0⟩ | ⟨g, cap, cur, fz, hv, _⟩
    · omega
    · exact ⟨g, cap, hv⟩
  go_wp2
  go_ret
  refine ⟨rfl, ?_, ?_, ((hk1.alloc _).grown hgrow (Lib.ownsRowF_kind (hown.alloc _))).setCell ⟨b, 1, none⟩ rfl _⟩
  · exact Lib.BuilderAtF.put (T := 43) (e := 5) hB hb2 (bs' := bs ++ [.int .u8 c]) (by simpa using hown') (by decide)
  · exact ((hb1.alloc (by have := hb1.size; omega) _).grown hgrow (by have := hb1.size; simp; omega) (fun k hk => (hown.lt k hk).1)).setCell (p := ⟨b, 1, none⟩) hB _
set_option maxHeartbeats 2000000 in
set_option maxRecDepth 100000 in
theorem bldString (B b : Nat) (bs : List Value) (s : ByteArray) (w : World) (h : Lib.IsBuilderF 43 5 B b bs w) (hlen : bs.length + s.size ≤ 140737488355328) (hBw : B ≤ w.heap.size) :
    Calls Tryd.prog 17 #[.pointer (some ⟨b, 0, none⟩), .string s] w fun e w' => e = .returned (.tuple #[.int .i64 s.size, .nilIface]) ∧ (Lib.BuilderAtF 43 5 B b (.pointer (some ⟨b, 0, none⟩)) (bs ++ Lib.strCells s) w' ∧ Below B w w' ∧ Lib.OthersKept 5 (some b) w w') := by
  obtain ⟨i0, hi, hz0, hz1, hz2⟩ := info_parts infoByte
  go_enter Tryd.func17, Tryd.ntmps17
  go_wp2_with (go_at_call 35; refine (bldCheck B b bs _ h).mono ?_)
  rintro e w1 ⟨rfl, h1, hb1, hk1⟩
  obtain ⟨hB, v, hbk, hown, hne⟩ := h1
  have c0 : w1.cell? ⟨b, 0, none⟩ = some (.pointer (some ⟨b, 0, none⟩)) := by rw [Lib.cell_of_heap hbk]; rfl
  have c1 : w1.cell? ⟨b, 1, none⟩ = some v := by rw [Lib.cell_of_heap hbk]; rfl
  go_wp2_with (at_builtin; refine Lib.wpList_append_own_stringF _ rfl _ _ 41 9 rfl B 5 i0 Tryd.underlying41 Tryd.underlying9 hi hz0 hz1 hz2 _ _ _ rfl hown s rfl ?c3 ?c4 ?c5 ?_)
  case c3 => unfold maxLen; omega
  case c4 => omega
  case c5 => have := hb1.size; omega
  intro v' w2 hown' hgrow _
  have hlt : b < w1.heap.size := by
    rcases Nat.lt_or_ge b w1.heap.size with h' | h'
    · exact h'
    · simp [Array.getElem?_eq_none h'] at hbk
  have hb2 : w2.heap[b]? = some (.cells #[.pointer (some ⟨b, 0, none⟩), v] 43 (0, 0)) := by
    rw [hgrow.block b hlt (fun e => hne e.symm)]
    exact hbk
  have d0 : w2.cell? ⟨b, 0, none⟩ = some (.pointer (some ⟨b, 0, none⟩)) := by rw [Lib.cell_of_heap hb2]; rfl
  have d1 : w2.cell? ⟨b, 1, none⟩ = some v := by rw [Lib.cell_of_heap hb2]; rfl
  have f1 : w2.frozen? ⟨b, 1, none⟩ = false := Lib.frozen_of_heap hb2 1
  obtain ⟨ao, n', cap, rfl⟩ : ∃ ao n' cap, v' = .slice ao n' cap := by
    rcases hown'.2 with ⟨hv, _⟩ | ⟨g, cap, cur, fz, hv, _⟩
    · exact ⟨_, _, _, hv⟩
    · exact ⟨_, _, _, hv⟩
  go_wp2
  go_ret2
  refine ⟨rfl, ?_, ?_, (hk1.grown hgrow (Lib.ownsRowF_kind hown)).setCell ⟨b, 1, none⟩ rfl _⟩
  · exact Lib.BuilderAtF.put (T := 43) (e := 5) hB hb2 (bs' := bs ++ Lib.strCells s) (by simpa [Lib.strCells_length] using hown') (by decide)
  · exact (hb1.grown hgrow (by have := hb1.size; omega) (fun k hk => (hown.lt k hk).1)).setCell (p := ⟨b, 1, none⟩) hB _
/-- a builder that is new -/
theorem bldNew (w : World) (B : Nat) (hB : B ≤ w.heap.size) : Lib.IsBuilderF 43 5 B w.heap.size [] (w.alloc (.cells #[.pointer none, .slice none 0 0] 43)) := by
  refine .inl ⟨hB, .slice none 0 0, heap_alloc_new w _, World.ownsRowF_of (World.ownsRow_nil _ _ _ _), by simp [Value.ownBlock]⟩
end Go.Proofs.YtgbdhmdaefbglaaDoor

namespace Go.Proofs.YtgbdhmdaefbglaaDoor
open Go.RowKit Go.Sort Go.Joins Go.Lib
theorem tabIs_below {P : Program} {w w' : World} {nm : String} {k : IntKind} {zs : List Int} (h : TabIs P w nm k zs) (hb : Below w.heap.size w w') : TabIs P w' nm k zs := by
  unfold TabIs World.var? at *
  cases hg : P.globalNamed nm with
  | none => rw [hg] at h; cases h
  | some g =>
    rw [hg] at h
    simp only [Option.bind_some] at h ⊢
    cases hh : w.heap[g]? with
    | none => rw [hh] at h; cases h
    | some o =>
      rw [hh] at h
      rw [hb.block g (blk_lt hh), hh]
      exact h
/-- an array of strings that reads as the table holds its strings, cell for cell -/
theorem cells_of_strs {H : Type} {enc : TypeId × Value → H} {P : Program} {w : World} {base : Nat} {sp : Nat → Bool} {held : Bool} {fuel : Nat} {t e : TypeId} {n : Nat} {cs : List Value} {ss : List (List UInt8)} {p : List MemPlace}
    (ht : P.underlying t = some (.array n e)) (he : P.underlying e = some .string) (hce : P.cellsOf e = 1) (hct : P.cellsOf t = n)
    (h : DataW.trod enc P w base sp held fuel t cs = some (.agg (ss.map fun s => .lit (.string s)), p)) : cs = ss.map fun s => Value.string ⟨s.toArray⟩ := by
  cases fuel with
  | zero => simp [DataW.trod] at h
  | succ fuel =>
    simp only [DataW.trod, ht, hce, hct, Nat.mul_one] at h
    split at h
    · rename_i hl
      obtain ⟨xs, hm, hx⟩ := Option.map_eq_some_iff.1 h
      have hxs : xs.map (·.1) = ss.map fun s => (DataW.lit (.string s) : DataW H) := by
        have := congrArg Prod.fst hx
        simpa using this
      have hxl : xs.length = n := by simpa using mapM_length hm
      have hzl : ss.length = n := by
        have := congrArg List.length hxs
        simp at this
        omega
      apply List.ext_getElem?
      intro i
      by_cases hi : i < n
      · obtain ⟨b, hb, hf⟩ := mapM_at hm i i (by simp [hi])
        obtain ⟨z, hc, rfl, _⟩ := DataW.trod_string he hf
        have h1 : cs[i]? = some (.string z) := by
          have := congrArg (·[0]?) hc
          simpa [List.getElem?_take, List.getElem?_drop] using this
        have h2 : (xs.map (·.1))[i]? = some (DataW.lit (.string z.data.toList) : DataW H) := by simp [hb]
        rw [hxs] at h2
        simp only [List.getElem?_map, Option.map_eq_some_iff, DataW.lit.injEq, Lit.string.injEq] at h2
        obtain ⟨z', hz', rfl⟩ := h2
        simp [h1, hz']
      · rw [List.getElem?_eq_none (by omega), List.getElem?_eq_none (by simp; omega)]
    · cases h
theorem nD_le : ∀ (k u : Nat), u < 10 ^ (k + 1) → Lib.nDigits u ≤ k + 1
  | 0, u, h => by rw [Lib.nDigits_small (by simpa using h)]; exact Nat.le_refl _
  | k + 1, u, h => by
    by_cases hu : u < 10
    · rw [Lib.nDigits_small hu]; omega
    · rw [Lib.nDigits_big hu]
      have := nD_le k (u / 10) (by rw [Nat.div_lt_iff_lt_mul (by decide)]; rw [Nat.pow_succ] at h; exact h)
      omega
theorem itoa_len {n : Int} {k : Nat} (h0 : 0 ≤ n) (h1 : n < (10 ^ (k + 1) : Nat)) : (Lib.itoa n).length ≤ k + 1 := by
  unfold Lib.itoa
  rw [if_neg (by omega), Lib.decDigits_length]
  exact nD_le k _ (by omega)
theorem bldAt_below {T e : TypeId} {B b : Nat} {p : Value} {bs : List Value} {w w' : World} (h : Lib.BuilderAtF T e B b p bs w) (hb : Below w.heap.size w w') : Lib.BuilderAtF T e B b p bs w' := by
  obtain ⟨h1, v, h2, h3, h4⟩ := h
  refine ⟨h1, v, (hb.block _ (blk_lt h2)).trans h2, ⟨h3.1, ?_⟩, h4⟩
  rcases h3.2 with h5 | ⟨g, cap, cur, fz, hv, hB, hh, r⟩
  · exact .inl h5
  · exact .inr ⟨g, cap, cur, fz, hv, hB, (hb.block _ (blk_lt hh)).trans hh, r⟩
theorem bld_below {T e : TypeId} {B b : Nat} {bs : List Value} {w w' : World} (h : Lib.IsBuilderF T e B b bs w) (hb : Below w.heap.size w w') : Lib.IsBuilderF T e B b bs w' :=
  h.elim (fun h => .inl (bldAt_below h hb)) (fun h => .inr (bldAt_below h hb))
/-- strings one behind the other, as lists -/
theorem cat2 (a b : List UInt8) : (⟨a.toArray⟩ ++ ⟨b.toArray⟩ : ByteArray).data.toList = a ++ b := by simp
theorem cat3 (a b c : List UInt8) : (⟨a.toArray⟩ ++ ⟨b.toArray⟩ ++ ⟨c.toArray⟩ : ByteArray).data.toList = a ++ b ++ c := by simp
theorem cell_kept_o {e : TypeId} {b : Nat} {w w' : World} {k : Nat} {cs : Array Value} {t : TypeId} {fz : Nat × Nat} (h : Lib.OthersKept e (some b) w w') (hk : w.heap[k]? = some (.cells cs t fz)) (hb : k ≠ b) (ht : t ≠ e) : w'.heap[k]? = some (.cells cs t fz) :=
  h k _ hk (fun e' => hb (by simpa using e')) (fun c fz' e' => by cases e'; exact ht rfl)
end Go.Proofs.YtgbdhmdaefbglaaDoor
