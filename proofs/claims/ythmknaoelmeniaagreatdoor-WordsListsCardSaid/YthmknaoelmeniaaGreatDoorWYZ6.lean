/- A range over a function whose iterator knows what the loop keeps: the loop's invariant I is told to the iterator, and the iterator tells the loop's body G of what it hands over. No program. | A range over a function whose iterator keeps memory of its own: the loop's body promises to leave it alone (Kp). No program. | Words: the iterator of a line's pieces. | Words: Text, right, Quote and Unquote of the program. | Leaving a function in which ranges over functions stood in a loop: as many marks as there were ranges. No program. -/
import Derived.Test.YthmknaoelmeniaaGreatDoorWYZ3
import Derived.RangeFuncNested
import Derived.RangeFuncBound
import Derived.RangeFuncCalls
import Derived.RangeFuncLeaves
import Derived.Test.YthmknaoelmeniaaGreatDoorWYZ4
import Derived.Shelf.Abstract
import Derived.Shelf.RegionOpen
import Derived.OwnWalkIn
import Derived.TacticsInMore
import Derived.LoopNIn
import Derived.LoopIn
import Derived.Laws.EntriesVeiled
namespace Go.Proofs.YthmknaoelmeniaaGreatDoor
open Go.RowKit

/-- what an iterator promises to a loop that keeps I -/
def SeqI {α : Type} (F : Fence) (n : Nat) (P : Program) (gf : Nat) (lb : Array Value) (encs : α → Array Value) (I : List α → World → Prop) (G : List α → α → Prop) (S : List α → Prop) (w : World) : Prop :=
  ∀ (l : Nat) (J Jx : List α → World → Prop) (W : World), Below w.heap.size w W → AbidesFrom W.heap.size J → AbidesFrom W.heap.size Jx → (∀ pre W1, J pre W1 → I pre W1) →
    (∀ pre x W1, J pre W1 → G pre x → YieldAt F (n - 1) P l (encs x) W1 fun e W' => (e = .returned (.bool true) ∧ J (pre ++ [x]) W') ∨ (e = .returned (.bool false) ∧ Jx (pre ++ [x]) W')) →
    J [] W →
    CallsIn F n P gf (#[.func (.yield l) #[] #[]] ++ lb) W fun e W' => (∃ v, e = .returned v) ∧ ((∃ xs, S xs ∧ J xs W') ∨ (∃ pre, Jx pre W'))

/-- how a round may end -/
abbrev roundPost {α : Type} (B : Nat) (I : List α → World → Prop) (Ix : Code → List α → World → Prop) (xs : List α) (W : World) : Exit → Act → World → Prop := ownPostG B (fun _ _ => True) I Ix xs W

theorem wpIn_iter {α : Type} {F : Fence} {n : Nat} {P : Program} {g : Operand} {ps : Array Tmp} {assign body : Code} {Q : Exit → Act → World → Prop} {a : Act} {w : World}
    (hro : F.round = none) (h1 : 1 ≤ n) {gf : Nat} {lb : Array Value} (hg : a.eval g = .func (.func gf) #[] lb) (hFg : F.fn gf) (eg : ∀ args w, (callFunc gf args).run P w = .ok (.enter gf args) w)
    {encs : α → Array Value} {G : List α → α → Prop} {S : List α → Prop} (I : List α → World → Prop) (hseq : SeqI F (n - 1) P gf lb encs I G S w)
    (hps : ∀ x, (encs x).size = ps.size) (Ix : Code → List α → World → Prop) (hI : OwnFrom w.heap.size I) (hIx : ∀ c, OwnFrom w.heap.size (Ix c)) (h0 : I [] w) (Ax : α → Act → World → Prop) (hAx : ∀ x a', OwnFrom w.heap.size (fun (_ : Unit) W => Ax x a' W))
    (hassign : ∀ (l : Nat) (pre : List α) (x : α) (W : World) (K : Act → World → Prop), I pre W → G pre x → (∀ a' W', KeepsFrom w.heap.size W W' → I pre W' → Ax x a' W' → K a' W') →
      assign.wpIn (F.inRound l) (n - 1 - 1) P (Exit.then K (fun _ _ _ => False)) { tmps := (ps.zip (encs x)).foldl (fun t (p, v) => t.setIfInBounds p v) a.tmps, defers := [] } W)
    (hbody : ∀ (l : Nat) (pre : List α) (x : α) (a' : Act) (W : World), w.heap.size ≤ l → I pre W → Ax x a' W → G pre x → body.wpIn (F.inRound l) (n - 1 - 1) P (roundPost w.heap.size I Ix (pre ++ [x]) W) a' W)
    (hdone : ∀ (D : Nat) (xs : List α) (W : World), w.heap.size ≤ D → S xs → I xs W → W.heap[D]? = some (.deferred (some [])) → Q .normal { a with defers := { target := .collected D, args := #[] } :: a.defers } W)
    (hstop : ∀ (D : Nat) (c : Code) (pre : List α) (W : World), w.heap.size ≤ D → Ix c pre W → W.heap[D]? = some (.deferred (some [])) → c.wpIn F n P Q { a with defers := { target := .collected D, args := #[] } :: a.defers } W) :
    (Code.rangeFunc g ps assign body).wpIn F n P Q a w := by
  refine wpIn_rangeFunc fun fn hfn => ?_
  rw [hro]
  obtain ⟨rec, hrec⟩ : ∃ rec : LoopState → Option Code → Loop, rec = fun st pe => { state := st, pending := pe, fn, tmps := a.tmps, params := ps, assign, body, defers := w.heap.size } := ⟨_, rfl⟩
  obtain ⟨W1, hW1⟩ : ∃ W1, (w.alloc (.deferred (some []))).alloc (.loop (rec .ready none)) = W1 := ⟨_, rfl⟩
  have hL1 : W1.heap[w.heap.size + 1]? = some (.loop (rec .ready none)) := by
    rw [← hW1]; have := World.alloc_heap_new (w.alloc (.deferred (some []))) (.loop (rec .ready none)); rwa [World.size_alloc] at this
  have hK1 : W1.heap[w.heap.size]? = some (.deferred (some [])) := by
    rw [← hW1]; exact (Below.heap_alloc _ _ _ (by simp)).trans (World.alloc_heap_new w _)
  have hI1 : I [] W1 := by rw [← hW1]; exact hI.alloc _ (hI.alloc _ h0)
  have hb1 : Below w.heap.size w W1 := by
    rw [← hW1]; exact ((Below.refl _ w).alloc (Nat.le_refl _) _).alloc (by simp) _
  have hs1 : w.heap.size ≤ W1.heap.size := hb1.size
  refine ⟨w.heap.size + 1, [{ target := .collected w.heap.size, args := #[] }], W1, { target := .fn (.func gf) lb, args := #[.func (.yield (w.heap.size + 1)) #[] #[]] }, W1, gf,
    #[.func (.yield (w.heap.size + 1)) #[] #[]] ++ lb, W1, ?_, ?_, ?_, ?_, fun _ => h1, ?_⟩
  · rw [← hW1, hrec]; exact run_enterLoop_outer _ _ _ _ _
  · simp only [resolve, hg]
    simp [go_sem]
  · intro f' hf'; simp [Target.leads] at hf'; subst hf'; exact hFg
  · simp [invoke, go_sem, eg]
  · have hnw : ∀ {A : World} {row : Option Nat}, (∀ r, row = some r → W1.heap.size ≤ r ∧ ∃ o : Obj, A.heap[r]? = some o ∧ o.isWalk = true) → (∀ r, row = some r → w.heap.size ≤ r ∧ ∃ o : Obj, A.heap[r]? = some o ∧ o.isCells = false) :=
      fun hr r e => by obtain ⟨hB, o, ho, hw⟩ := hr r e; exact ⟨Nat.le_trans hs1 hB, o, ho, Obj.not_cells_of_walk hw⟩
    refine (hseq (w.heap.size + 1)
      (fun pre W => I pre W ∧ W.heap[w.heap.size + 1]? = some (.loop (rec .ready none)) ∧ W.heap[w.heap.size]? = some (.deferred (some [])))
      (fun pre W => ∃ c, Ix c pre W ∧ W.heap[w.heap.size + 1]? = some (.loop (rec .done (some c))) ∧ W.heap[w.heap.size]? = some (.deferred (some [])))
      W1 hb1
      (fun s A B row hs hg' hr => ⟨hI s A B row hs.1 hg' (hnw hr), (grownBy_keeps hg' (fun r e => (hr r e).2) hs.2.1 rfl).trans hs.2.1, (grownBy_keeps hg' (fun r e => (hr r e).2) hs.2.2 rfl).trans hs.2.2⟩)
      (fun s A B row hs hg' hr => by
        obtain ⟨c, hc, hl, hk⟩ := hs
        exact ⟨c, hIx c s A B row hc hg' (hnw hr), (grownBy_keeps hg' (fun r e => (hr r e).2) hl rfl).trans hl, (grownBy_keeps hg' (fun r e => (hr r e).2) hk rfl).trans hk⟩)
      (fun _ _ h => h.1) ?_ ⟨hI1, hL1, hK1⟩).mono ?_
    · rintro pre x W ⟨hi, hl, hk⟩ hG
      have hy := run_yield (P := P) (args := encs x) hl (by rw [hrec]; exact hps x)
      rw [hrec] at hy
      refine ⟨fn, _, assign, body, hy, roundIn_of_wpIn hfn (hassign _ pre x W _ hi hG ?_)⟩
      clear hy
      intro a' Wa hkfa hia hax
      have hl := hkfa.same _ _ (Nat.le_succ _) hl rfl
      have hk := hkfa.same _ _ (Nat.le_refl _) hk rfl
      have hlt : w.heap.size + 1 < Wa.heap.size := (Array.getElem?_eq_some_iff.1 hl).1
      refine ⟨_, run_beginRound hl (by rw [hrec]), ?_⟩
      have hl2 : (Wa.putObj (w.heap.size + 1) (.loop { rec .ready none with state := .busy })).heap[w.heap.size + 1]? = some (.loop { rec .ready none with state := .busy }) := World.putObj_heap_same hlt
      have hk2 : (Wa.putObj (w.heap.size + 1) (.loop { rec .ready none with state := .busy })).heap[w.heap.size]? = some (.deferred (some [])) := (World.putObj_heap_other (by omega)).trans hk
      refine wpIn_mono (hbody _ pre x a' _ (Nat.le_succ _) (hI.putObj _ hia (Nat.le_succ _) hl rfl) ((hAx x a').putObj (s := ()) _ hax (Nat.le_succ _) hl rfl) hG) ?_
      have fin : ∀ (jump : Option Code) (W3 : World), KeepsFrom w.heap.size (Wa.putObj (w.heap.size + 1) (.loop { rec .ready none with state := .busy })) W3 →
          (Instr.endRound (w.heap.size + 1) jump).run P W3 = .ok (.bool jump.isNone) (W3.putObj (w.heap.size + 1) (.loop (rec (if jump.isNone then .ready else .done) jump))) ∧
          W3.heap[w.heap.size + 1]? = some (.loop { rec .ready none with state := .busy }) ∧
          (W3.putObj (w.heap.size + 1) (.loop (rec (if jump.isNone then .ready else .done) jump))).heap[w.heap.size + 1]? = some (.loop (rec (if jump.isNone then .ready else .done) jump)) ∧
          (W3.putObj (w.heap.size + 1) (.loop (rec (if jump.isNone then .ready else .done) jump))).heap[w.heap.size]? = some (.deferred (some [])) := fun jump W3 hk3 => by
        have hl3 := hk3.same _ _ (Nat.le_succ _) hl2 rfl
        have := run_endRound (P := P) jump hl3
        rw [hrec] at this ⊢
        exact ⟨this, by rw [hrec] at hl3; exact hl3, World.putObj_heap_same (Array.getElem?_eq_some_iff.1 hl3).1, (World.putObj_heap_other (by omega)).trans (hk3.same _ _ (Nat.le_refl _) hk2 rfl)⟩
      rintro e a3 W3 hp
      cases e with
      | normal =>
        obtain ⟨hk3, -, hi3⟩ := hp
        obtain ⟨hr, hl3, hl4, hk4⟩ := fin none W3 hk3
        exact ⟨_, _, hr, .inl ⟨rfl, hI.putObj _ hi3 (Nat.le_succ _) hl3 rfl, hl4, hk4⟩⟩
      | ret =>
        obtain ⟨hk3, hi3⟩ := hp
        obtain ⟨hr, hl3, hl4, hk4⟩ := fin (some .ret) W3 hk3
        exact ⟨_, _, hr, .inr ⟨rfl, .ret, (hIx _).putObj _ hi3 (Nat.le_succ _) hl3 rfl, hl4, hk4⟩⟩
      | exit id =>
        obtain ⟨hk3, hi3⟩ := hp
        obtain ⟨hr, hl3, hl4, hk4⟩ := fin (some (.exit id)) W3 hk3
        exact ⟨_, _, hr, .inr ⟨rfl, .exit id, (hIx _).putObj _ hi3 (Nat.le_succ _) hl3 rfl, hl4, hk4⟩⟩
      | goto t =>
        obtain ⟨hk3, hi3⟩ := hp
        obtain ⟨hr, hl3, hl4, hk4⟩ := fin (some (.goto t)) W3 hk3
        exact ⟨_, _, hr, .inr ⟨rfl, .goto t, (hIx _).putObj _ hi3 (Nat.le_succ _) hl3 rfl, hl4, hk4⟩⟩
      | panic ch => exact hp.elim
      | outgrown => exact hp.elim
    · rintro e W2 ⟨⟨v, rfl⟩, (⟨xs, hS, hi, hl, hk⟩ | ⟨pre, c, hi, hl, hk⟩)⟩
      · exact ⟨none, _, by have := run_endLoop (P := P) hl (by rw [hrec]; simp); rw [hrec] at this; exact this, hdone _ xs _ (Nat.le_refl _) hS (hI.putObj _ hi (Nat.le_succ _) hl rfl) ((World.putObj_heap_other (by omega)).trans hk)⟩
      · exact ⟨some c, _, by have := run_endLoop (P := P) hl (by rw [hrec]; simp); rw [hrec] at this; exact this, hstop _ c pre _ (Nat.le_refl _) ((hIx c).putObj _ hi (Nat.le_succ _) hl rfl) ((World.putObj_heap_other (by omega)).trans hk)⟩
/-- .. where the assigned variables lie in the frame -/
theorem wpIn_iter_moves {α : Type} {F : Fence} {n : Nat} {P : Program} {g : Operand} {ps : Array Tmp} {assign body : Code} {Q : Exit → Act → World → Prop} {a : Act} {w : World}
    (hro : F.round = none) (h1 : 1 ≤ n) {gf : Nat} {lb : Array Value} (hg : a.eval g = .func (.func gf) #[] lb) (hFg : F.fn gf) (eg : ∀ args w, (callFunc gf args).run P w = .ok (.enter gf args) w)
    {encs : α → Array Value} {G : List α → α → Prop} {S : List α → Prop} (I : List α → World → Prop) (hseq : SeqI F (n - 1) P gf lb encs I G S w)
    (hps : ∀ x, (encs x).size = ps.size) (Ix : Code → List α → World → Prop) (hI : OwnFrom w.heap.size I) (hIx : ∀ c, OwnFrom w.heap.size (Ix c)) (h0 : I [] w) (A1 : Act → α → Act)
    (hassign : ∀ (l : Nat) (x : α) (W : World) (K : Act → World → Prop), K (A1 a x) W →
      assign.wpIn (F.inRound l) (n - 1 - 1) P (Exit.then K (fun _ _ _ => False)) { tmps := (ps.zip (encs x)).foldl (fun t (p, v) => t.setIfInBounds p v) a.tmps, defers := [] } W)
    (hbody : ∀ (l : Nat) (pre : List α) (x : α) (W : World), w.heap.size ≤ l → I pre W → G pre x → body.wpIn (F.inRound l) (n - 1 - 1) P (roundPost w.heap.size I Ix (pre ++ [x]) W) (A1 a x) W)
    (hdone : ∀ (D : Nat) (xs : List α) (W : World), w.heap.size ≤ D → S xs → I xs W → W.heap[D]? = some (.deferred (some [])) → Q .normal { a with defers := { target := .collected D, args := #[] } :: a.defers } W)
    (hstop : ∀ (D : Nat) (c : Code) (pre : List α) (W : World), w.heap.size ≤ D → Ix c pre W → W.heap[D]? = some (.deferred (some [])) → c.wpIn F n P Q { a with defers := { target := .collected D, args := #[] } :: a.defers } W) :
    (Code.rangeFunc g ps assign body).wpIn F n P Q a w :=
  wpIn_iter hro h1 hg hFg eg I hseq hps Ix hI hIx h0 (fun x a' _ => a' = A1 a x) (fun _ _ _ _ _ _ h _ _ => h)
    (fun l _ x W _ hi _ hK => hassign l x W _ (hK _ _ (KeepsFrom.refl _ _) hi rfl)) (fun l pre x a' W hl hi ha hG => by subst ha; exact hbody l pre x W hl hi hG) hdone hstop
end Go.Proofs.YthmknaoelmeniaaGreatDoor

namespace Go.Proofs.YthmknaoelmeniaaGreatDoor
open Go.RowKit

/-- what an iterator promises to a loop that keeps I, and whose body keeps what Kp says -/
def SeqIK {α : Type} (F : Fence) (n : Nat) (P : Program) (gf : Nat) (lb : Array Value) (encs : α → Array Value) (Kp : World → World → Prop) (Ow : Nat → World → World → Prop) (I : List α → World → Prop) (G : List α → α → Prop) (S : List α → Prop) (w : World) : Prop :=
  ∀ (l : Nat) (J Jx : List α → World → Prop) (W : World), Below w.heap.size w W → AbidesFrom W.heap.size J → (∀ s A B, J s A → Ow W.heap.size A B → J s B) → AbidesFrom W.heap.size Jx → (∀ pre W1, J pre W1 → I pre W1) →
    (∀ pre x W1, J pre W1 → G pre x → YieldAt F (n - 1) P l (encs x) W1 fun e W' => (e = .returned (.bool true) ∧ J (pre ++ [x]) W' ∧ Kp W1 W') ∨ (e = .returned (.bool false) ∧ Jx (pre ++ [x]) W')) →
    J [] W →
    CallsIn F n P gf (#[.func (.yield l) #[] #[]] ++ lb) W fun e W' => (∃ v, e = .returned v) ∧ ((∃ xs, S xs ∧ J xs W') ∨ (∃ pre, Jx pre W'))

/-- how a round may end -/
abbrev roundPostK {α : Type} (B : Nat) (Kp : World → World → Prop) (I : List α → World → Prop) (Ix : Code → List α → World → Prop) (xs : List α) (W : World) : Exit → Act → World → Prop := ownPostG B Kp I Ix xs W

theorem wpIn_iterK {α : Type} {F : Fence} {n : Nat} {P : Program} {g : Operand} {ps : Array Tmp} {assign body : Code} {Q : Exit → Act → World → Prop} {a : Act} {w : World}
    (hro : F.round = none) (h1 : 1 ≤ n) {gf : Nat} {lb : Array Value} (hg : a.eval g = .func (.func gf) #[] lb) (hFg : F.fn gf) (eg : ∀ args w, (callFunc gf args).run P w = .ok (.enter gf args) w)
    {encs : α → Array Value} {Kp : World → World → Prop} {Ow : Nat → World → World → Prop} {G : List α → α → Prop} {S : List α → Prop} (I : List α → World → Prop) (hseq : SeqIK F (n - 1) P gf lb encs Kp Ow I G S w)
    (hOn : ∀ {B : Nat} {X Y : World} {k : Nat} {o : Obj}, Ow B X Y → X.heap[k]? = some o → o.isCells = false → Y.heap[k]? = some o) (hOm : ∀ {B B' : Nat} {X Y : World}, B ≤ B' → Ow B' X Y → Ow B X Y) (hIo : ∀ s X Y, I s X → Ow w.heap.size X Y → I s Y)
    (hKt : ∀ {A B C : World}, Kp A B → Kp B C → Kp A C) (hKb : ∀ (W : World) (l : Nat) (o o' : Obj), w.heap.size ≤ l → W.heap[l]? = some o → o.isCells = false → Kp W (W.putObj l o'))
    (hps : ∀ x, (encs x).size = ps.size) (Ix : Code → List α → World → Prop) (hI : OwnFrom w.heap.size I) (hIx : ∀ c, OwnFrom w.heap.size (Ix c)) (h0 : I [] w) (Ax : α → Act → World → Prop) (hAx : ∀ x a', OwnFrom w.heap.size (fun (_ : Unit) W => Ax x a' W))
    (hassign : ∀ (l : Nat) (pre : List α) (x : α) (W : World) (K : Act → World → Prop), I pre W → G pre x → (∀ a' W', KeepsFrom w.heap.size W W' → Kp W W' → I pre W' → Ax x a' W' → K a' W') →
      assign.wpIn (F.inRound l) (n - 1 - 1) P (Exit.then K (fun _ _ _ => False)) { tmps := (ps.zip (encs x)).foldl (fun t (p, v) => t.setIfInBounds p v) a.tmps, defers := [] } W)
    (hbody : ∀ (l : Nat) (pre : List α) (x : α) (a' : Act) (W : World), w.heap.size ≤ l → I pre W → Ax x a' W → G pre x → body.wpIn (F.inRound l) (n - 1 - 1) P (roundPostK w.heap.size Kp I Ix (pre ++ [x]) W) a' W)
    (hdone : ∀ (D : Nat) (xs : List α) (W : World), w.heap.size ≤ D → S xs → I xs W → W.heap[D]? = some (.deferred (some [])) → Q .normal { a with defers := { target := .collected D, args := #[] } :: a.defers } W)
    (hstop : ∀ (D : Nat) (c : Code) (pre : List α) (W : World), w.heap.size ≤ D → Ix c pre W → W.heap[D]? = some (.deferred (some [])) → c.wpIn F n P Q { a with defers := { target := .collected D, args := #[] } :: a.defers } W) :
    (Code.rangeFunc g ps assign body).wpIn F n P Q a w := by
  refine wpIn_rangeFunc fun fn hfn => ?_
  rw [hro]
  obtain ⟨rec, hrec⟩ : ∃ rec : LoopState → Option Code → Loop, rec = fun st pe => { state := st, pending := pe, fn, tmps := a.tmps, params := ps, assign, body, defers := w.heap.size } := ⟨_, rfl⟩
  obtain ⟨W1, hW1⟩ : ∃ W1, (w.alloc (.deferred (some []))).alloc (.loop (rec .ready none)) = W1 := ⟨_, rfl⟩
  have hL1 : W1.heap[w.heap.size + 1]? = some (.loop (rec .ready none)) := by
    rw [← hW1]; have := World.alloc_heap_new (w.alloc (.deferred (some []))) (.loop (rec .ready none)); rwa [World.size_alloc] at this
  have hK1 : W1.heap[w.heap.size]? = some (.deferred (some [])) := by
    rw [← hW1]; exact (Below.heap_alloc _ _ _ (by simp)).trans (World.alloc_heap_new w _)
  have hI1 : I [] W1 := by rw [← hW1]; exact hI.alloc _ (hI.alloc _ h0)
  have hb1 : Below w.heap.size w W1 := by
    rw [← hW1]; exact ((Below.refl _ w).alloc (Nat.le_refl _) _).alloc (by simp) _
  have hs1 : w.heap.size ≤ W1.heap.size := hb1.size
  refine ⟨w.heap.size + 1, [{ target := .collected w.heap.size, args := #[] }], W1, { target := .fn (.func gf) lb, args := #[.func (.yield (w.heap.size + 1)) #[] #[]] }, W1, gf,
    #[.func (.yield (w.heap.size + 1)) #[] #[]] ++ lb, W1, ?_, ?_, ?_, ?_, fun _ => h1, ?_⟩
  · rw [← hW1, hrec]; exact run_enterLoop_outer _ _ _ _ _
  · simp only [resolve, hg]
    simp [go_sem]
  · intro f' hf'; simp [Target.leads] at hf'; subst hf'; exact hFg
  · simp [invoke, go_sem, eg]
  · have hnw : ∀ {A : World} {row : Option Nat}, (∀ r, row = some r → W1.heap.size ≤ r ∧ ∃ o : Obj, A.heap[r]? = some o ∧ o.isWalk = true) → (∀ r, row = some r → w.heap.size ≤ r ∧ ∃ o : Obj, A.heap[r]? = some o ∧ o.isCells = false) :=
      fun hr r e => by obtain ⟨hB, o, ho, hw⟩ := hr r e; exact ⟨Nat.le_trans hs1 hB, o, ho, Obj.not_cells_of_walk hw⟩
    refine (hseq (w.heap.size + 1)
      (fun pre W => I pre W ∧ W.heap[w.heap.size + 1]? = some (.loop (rec .ready none)) ∧ W.heap[w.heap.size]? = some (.deferred (some [])))
      (fun pre W => ∃ c, Ix c pre W ∧ W.heap[w.heap.size + 1]? = some (.loop (rec .done (some c))) ∧ W.heap[w.heap.size]? = some (.deferred (some [])))
      W1 hb1
      (fun s A B row hs hg' hr => ⟨hI s A B row hs.1 hg' (hnw hr), (grownBy_keeps hg' (fun r e => (hr r e).2) hs.2.1 rfl).trans hs.2.1, (grownBy_keeps hg' (fun r e => (hr r e).2) hs.2.2 rfl).trans hs.2.2⟩)
      (fun s A B hs ho => ⟨hIo s A B hs.1 (hOm hs1 ho), hOn ho hs.2.1 rfl, hOn ho hs.2.2 rfl⟩)
      (fun s A B row hs hg' hr => by
        obtain ⟨c, hc, hl, hk⟩ := hs
        exact ⟨c, hIx c s A B row hc hg' (hnw hr), (grownBy_keeps hg' (fun r e => (hr r e).2) hl rfl).trans hl, (grownBy_keeps hg' (fun r e => (hr r e).2) hk rfl).trans hk⟩)
      (fun _ _ h => h.1) ?_ ⟨hI1, hL1, hK1⟩).mono ?_
    · rintro pre x W ⟨hi, hl, hk⟩ hG
      have hy := run_yield (P := P) (args := encs x) hl (by rw [hrec]; exact hps x)
      rw [hrec] at hy
      refine ⟨fn, _, assign, body, hy, roundIn_of_wpIn hfn (hassign _ pre x W _ hi hG ?_)⟩
      clear hy
      intro a' Wa hkfa hkpa hia hax
      have hl := hkfa.same _ _ (Nat.le_succ _) hl rfl
      have hk := hkfa.same _ _ (Nat.le_refl _) hk rfl
      have hlt : w.heap.size + 1 < Wa.heap.size := (Array.getElem?_eq_some_iff.1 hl).1
      refine ⟨_, run_beginRound hl (by rw [hrec]), ?_⟩
      have hl2 : (Wa.putObj (w.heap.size + 1) (.loop { rec .ready none with state := .busy })).heap[w.heap.size + 1]? = some (.loop { rec .ready none with state := .busy }) := World.putObj_heap_same hlt
      have hk2 : (Wa.putObj (w.heap.size + 1) (.loop { rec .ready none with state := .busy })).heap[w.heap.size]? = some (.deferred (some [])) := (World.putObj_heap_other (by omega)).trans hk
      refine wpIn_mono (hbody _ pre x a' _ (Nat.le_succ _) (hI.putObj _ hia (Nat.le_succ _) hl rfl) ((hAx x a').putObj (s := ()) _ hax (Nat.le_succ _) hl rfl) hG) ?_
      have fin : ∀ (jump : Option Code) (W3 : World), KeepsFrom w.heap.size (Wa.putObj (w.heap.size + 1) (.loop { rec .ready none with state := .busy })) W3 →
          (Instr.endRound (w.heap.size + 1) jump).run P W3 = .ok (.bool jump.isNone) (W3.putObj (w.heap.size + 1) (.loop (rec (if jump.isNone then .ready else .done) jump))) ∧
          W3.heap[w.heap.size + 1]? = some (.loop { rec .ready none with state := .busy }) ∧
          (W3.putObj (w.heap.size + 1) (.loop (rec (if jump.isNone then .ready else .done) jump))).heap[w.heap.size + 1]? = some (.loop (rec (if jump.isNone then .ready else .done) jump)) ∧
          (W3.putObj (w.heap.size + 1) (.loop (rec (if jump.isNone then .ready else .done) jump))).heap[w.heap.size]? = some (.deferred (some [])) := fun jump W3 hk3 => by
        have hl3 := hk3.same _ _ (Nat.le_succ _) hl2 rfl
        have := run_endRound (P := P) jump hl3
        rw [hrec] at this ⊢
        exact ⟨this, by rw [hrec] at hl3; exact hl3, World.putObj_heap_same (Array.getElem?_eq_some_iff.1 hl3).1, (World.putObj_heap_other (by omega)).trans (hk3.same _ _ (Nat.le_refl _) hk2 rfl)⟩
      rintro e a3 W3 hp
      cases e with
      | normal =>
        obtain ⟨hk3, hkp3, hi3⟩ := hp
        obtain ⟨hr, hl3, hl4, hk4⟩ := fin none W3 hk3
        exact ⟨_, _, hr, .inl ⟨rfl, ⟨hI.putObj _ hi3 (Nat.le_succ _) hl3 rfl, hl4, hk4⟩, hKt hkpa (hKt (hKb _ _ _ _ (Nat.le_succ _) hl rfl) (hKt hkp3 (hKb _ _ _ _ (Nat.le_succ _) hl3 rfl)))⟩⟩
      | ret =>
        obtain ⟨hk3, hi3⟩ := hp
        obtain ⟨hr, hl3, hl4, hk4⟩ := fin (some .ret) W3 hk3
        exact ⟨_, _, hr, .inr ⟨rfl, .ret, (hIx _).putObj _ hi3 (Nat.le_succ _) hl3 rfl, hl4, hk4⟩⟩
      | exit id =>
        obtain ⟨hk3, hi3⟩ := hp
        obtain ⟨hr, hl3, hl4, hk4⟩ := fin (some (.exit id)) W3 hk3
        exact ⟨_, _, hr, .inr ⟨rfl, .exit id, (hIx _).putObj _ hi3 (Nat.le_succ _) hl3 rfl, hl4, hk4⟩⟩
      | goto t =>
        obtain ⟨hk3, hi3⟩ := hp
        obtain ⟨hr, hl3, hl4, hk4⟩ := fin (some (.goto t)) W3 hk3
        exact ⟨_, _, hr, .inr ⟨rfl, .goto t, (hIx _).putObj _ hi3 (Nat.le_succ _) hl3 rfl, hl4, hk4⟩⟩
      | panic ch => exact hp.elim
      | outgrown => exact hp.elim
    · rintro e W2 ⟨⟨v, rfl⟩, (⟨xs, hS, hi, hl, hk⟩ | ⟨pre, c, hi, hl, hk⟩)⟩
      · exact ⟨none, _, by have := run_endLoop (P := P) hl (by rw [hrec]; simp); rw [hrec] at this; exact this, hdone _ xs _ (Nat.le_refl _) hS (hI.putObj _ hi (Nat.le_succ _) hl rfl) ((World.putObj_heap_other (by omega)).trans hk)⟩
      · exact ⟨some c, _, by have := run_endLoop (P := P) hl (by rw [hrec]; simp); rw [hrec] at this; exact this, hstop _ c pre _ (Nat.le_refl _) ((hIx c).putObj _ hi (Nat.le_succ _) hl rfl) ((World.putObj_heap_other (by omega)).trans hk)⟩
/-- .. where the assignment lays a box of its own -/
theorem wpIn_iterK_box {α : Type} {F : Fence} {n : Nat} {P : Program} {g : Operand} {ps : Array Tmp} {assign body : Code} {Q : Exit → Act → World → Prop} {a : Act} {w : World}
    (hro : F.round = none) (h1 : 1 ≤ n) {gf : Nat} {lb : Array Value} (hg : a.eval g = .func (.func gf) #[] lb) (hFg : F.fn gf) (eg : ∀ args w, (callFunc gf args).run P w = .ok (.enter gf args) w)
    {encs : α → Array Value} {Kp : World → World → Prop} {Ow : Nat → World → World → Prop} {G : List α → α → Prop} {S : List α → Prop} (I : List α → World → Prop) (hseq : SeqIK F (n - 1) P gf lb encs Kp Ow I G S w)
    (hOn : ∀ {B : Nat} {X Y : World} {k : Nat} {o : Obj}, Ow B X Y → X.heap[k]? = some o → o.isCells = false → Y.heap[k]? = some o) (hOm : ∀ {B B' : Nat} {X Y : World}, B ≤ B' → Ow B' X Y → Ow B X Y) (hIo : ∀ s X Y, I s X → Ow w.heap.size X Y → I s Y)
    (hKt : ∀ {A B C : World}, Kp A B → Kp B C → Kp A C) (hKb : ∀ (W : World) (l : Nat) (o o' : Obj), w.heap.size ≤ l → W.heap[l]? = some o → o.isCells = false → Kp W (W.putObj l o'))
    (hps : ∀ x, (encs x).size = ps.size) (Ix : Code → List α → World → Prop) (hI : OwnFrom w.heap.size I) (hIx : ∀ c, OwnFrom w.heap.size (Ix c)) (h0 : I [] w) (A1 : Act → α → Nat → Act) (PB : α → Nat → World → Prop) (hPB : ∀ x Bx, OwnFrom w.heap.size (fun (_ : Unit) W => PB x Bx W))
    (hassign : ∀ (l : Nat) (pre : List α) (x : α) (W : World) (K : Act → World → Prop), I pre W → G pre x → (∀ Bx W', KeepsFrom w.heap.size W W' → Kp W W' → I pre W' → PB x Bx W' → K (A1 a x Bx) W') →
      assign.wpIn (F.inRound l) (n - 1 - 1) P (Exit.then K (fun _ _ _ => False)) { tmps := (ps.zip (encs x)).foldl (fun t (p, v) => t.setIfInBounds p v) a.tmps, defers := [] } W)
    (hbody : ∀ (l : Nat) (pre : List α) (x : α) (Bx : Nat) (W : World), w.heap.size ≤ l → I pre W → PB x Bx W → G pre x → body.wpIn (F.inRound l) (n - 1 - 1) P (roundPostK w.heap.size Kp I Ix (pre ++ [x]) W) (A1 a x Bx) W)
    (hdone : ∀ (D : Nat) (xs : List α) (W : World), w.heap.size ≤ D → S xs → I xs W → W.heap[D]? = some (.deferred (some [])) → Q .normal { a with defers := { target := .collected D, args := #[] } :: a.defers } W)
    (hstop : ∀ (D : Nat) (c : Code) (pre : List α) (W : World), w.heap.size ≤ D → Ix c pre W → W.heap[D]? = some (.deferred (some [])) → c.wpIn F n P Q { a with defers := { target := .collected D, args := #[] } :: a.defers } W) :
    (Code.rangeFunc g ps assign body).wpIn F n P Q a w :=
  wpIn_iterK hro h1 hg hFg eg I hseq hOn hOm hIo hKt hKb hps Ix hI hIx h0 (fun x a' W => ∃ Bx, a' = A1 a x Bx ∧ PB x Bx W) (fun x a' s X Y row hs hg' hr => by obtain ⟨Bx, h2, h3⟩ := hs; exact ⟨Bx, h2, hPB x Bx () X Y row h3 hg' hr⟩)
    (fun l pre x W K hi hG hK => hassign l pre x W K hi hG fun Bx W' h2 h3 h4 h5 => hK _ _ h2 h3 h4 ⟨Bx, rfl, h5⟩) (fun l pre x a' W hl hi ha hG => by obtain ⟨Bx, rfl, h5⟩ := ha; exact hbody l pre x Bx W hl hi h5 hG) hdone hstop
/-- the walk's continuation, written out: so that a proof may be cut there -/
theorem wp_then_mono {P : Program} {x y : Code} {K : Act → World → Prop} {Q : Exit → Act → World → Prop} {a : Act} {w : World} (hK : ∀ a w, y.wp P Q a w → K a w) (h : x.wp P (Exit.then (y.wp P Q) Q) a w) : x.wp P (Exit.then K Q) a w :=
  wp_mono h fun e a w hq => by
    cases e with
    | normal => exact hK _ _ hq
    | exit i => exact hq
    | goto i => exact hq
    | ret => exact hq
    | panic c => exact hq
    | outgrown => exact hq
end Go.Proofs.YthmknaoelmeniaaGreatDoor

namespace Go.Proofs.YthmknaoelmeniaaGreatDoor
open Go.RowKit Go.Sort Go.Joins Go.Shelf
attribute [local go_sem] cell_grow frozen_grow size_grow Oper.semAt_some

theorem wide_any' (d : Nat) : Fence.wide.depth.isSome = true → 1 ≤ d := fun h => by simp [Fence.wide] at h
theorem yformK {R S : World → Prop} {K : World → Prop} {e : Ending} {W : World} (h : (e = .returned (.bool true) ∧ R W ∧ K W) ∨ (e = .returned (.bool false) ∧ S W)) : ∃ b, e = .returned (.bool b) ∧ Hid ((b = true → R W ∧ K W) ∧ (b = false → S W)) := by
  rcases h with ⟨h1, h2⟩ | ⟨h1, h2⟩
  · exact ⟨true, h1, Lib.hid ⟨(fun _ => h2), (fun h => by cases h)⟩⟩
  · exact ⟨false, h1, Lib.hid ⟨(fun h => by cases h), (fun _ => h2)⟩⟩
/-- the function that finds a field's end, as a value -/
abbrev endsV (q : Nat) : Value := .func (.func 43) #[] #[.pointer (some ⟨q, 0, none⟩)]
/-- what pieces lays -/
structure PiAt (w : World) (s : ByteArray) (W : World) : Prop where
  k : Below w.heap.size w W
  n : W.heap.size = w.heap.size + 3
  s : W.heap[w.heap.size]? = some (.cells #[.string s] 9 (0, 0))
  q : WB W (w.heap.size + 1) false
  f : W.heap[w.heap.size + 2]? = some (.cells #[endsV (w.heap.size + 1)] 90 (0, 0))
set_option maxRecDepth 100000 in
theorem pieces_ok (s : ByteArray) (w : World) : Calls Tryz.prog 28 #[.string s] w fun e w' =>
    e = .returned (.func (.func 44) #[] #[.pointer (some ⟨w.heap.size, 0, none⟩), .pointer (some ⟨w.heap.size + 2, 0, none⟩)]) ∧ PiAt w s w' := by
  go_enter Tryz.func28, Tryz.ntmps28
  go_wp2
  go_ret
  refine ⟨rfl, ?_⟩
  have h1 := heap_alloc_new w (.cells #[.string s] 9)
  have h2 := heap_alloc_new (w.alloc (.cells #[.string s] 9)) (.cells #[.bool false] 4)
  have h3 := heap_alloc_new ((w.alloc (.cells #[.string s] 9)).alloc (.cells #[.bool false] 4)) (.cells #[endsV (w.heap.size + 1)] 90)
  simp only [World.size_alloc] at h2 h3
  have b2 := below_box0 (w.alloc (.cells #[.string s] 9)) (.cells #[.bool false] 4)
  have b3 := below_box0 ((w.alloc (.cells #[.string s] 9)).alloc (.cells #[.bool false] 4)) (.cells #[endsV (w.heap.size + 1)] 90)
  exact ⟨(((Below.refl _ w).alloc (Nat.le_refl _) _).alloc (by simp) _).alloc (by simp; omega) _, by simp, (b3.block _ (by simp; omega)).trans ((b2.block _ (by simp)).trans h1), (b3.block _ (by simp)).trans h2, h3⟩
/-- what the iterator turns: the state's box -/
def OwP (q : Nat) (_ : Nat) (A B : World) : Prop := (∃ b, WB A q b) ∧ A.grownBy B (some q)
/-- what the loop's body leaves alone -/
def KpP (q : Nat) (A B : World) : Prop := ∀ b, WB A q b → WB B q b
abbrev encS (x : ByteArray) : Array Value := #[.string x]
def GP (L : List UInt8) (pre : List ByteArray) (x : ByteArray) : Prop := ∃ R, pcsL L = pre.map (·.data.toList) ++ x.data.toList :: R
def SP (L : List UInt8) (xs : List ByteArray) : Prop := pcsL L = xs.map (·.data.toList)
/-- what the loop keeps for the iterator -/
def KeepP (n : Nat) (s : ByteArray) (W : World) : Prop := W.cell? ⟨n, 0, none⟩ = some (.string s) ∧ W.cell? ⟨n + 2, 0, none⟩ = some (endsV (n + 1))
def strLen : Value → Nat
  | .string s => s.size
  | _ => 0
set_option maxRecDepth 100000 in
set_option maxHeartbeats 3200000 in
theorem pieces_seq (d n : Nat) (s : ByteArray) (L : List UInt8) (hL : s.data.toList = L) (hs : s.size ≤ 4611686018427387904) (I : List ByteArray → World → Prop) (hI : ∀ pre W, I pre W → KeepP n s W) (w : World) (hq : WB w (n + 1) false) :
    SeqIK Fence.wide d Tryz.prog 44 #[.pointer (some ⟨n, 0, none⟩), .pointer (some ⟨n + 2, 0, none⟩)] encS (KpP (n + 1)) (OwP (n + 1)) I (GP L) (SP L) w := by
  intro l J Jx W hbw _ hJo _ hJI hY h0
  have hqW : WB W (n + 1) false := (hbw.block _ (blk_lt hq)).trans hq
  obtain ⟨c0, c1⟩ := hI _ _ (hJI _ _ h0)
  have HJ0 := Lib.hid h0
  have HQ0 := Lib.hid hqW
  have HJo := Lib.hid hJo
  have HIJ := Lib.hid (fun pre W h => hI pre W (hJI pre W h))
  have HY := Lib.hid hY
  have HL := Lib.hid hL
  clear hJo hI hJI hY h0 hqW hq hbw hL
  refine callsIn_of_wp Tryz.func44 rfl trivial ?_ rfl
  simp only [Tryz.ntmps44, List.size_toArray, List.length_cons, List.length_nil, Nat.reduceAdd, Nat.reduceSub, Array.replicate_succ, Array.replicate_zero, List.push_toArray, List.append_toArray, List.nil_append, List.cons_append]
  gi_wp2
  clear c0 c1
  gi_loopw [4] (fun r wr => ∃ (T : ByteArray) (pre : List ByteArray), r = .string T ∧ T.size ≤ s.size ∧ Hid (pcsL L = pre.map (·.data.toList) ++ pcsL T.data.toList) ∧ Hid (J pre wr) ∧ Hid (WB wr (n + 1) false)) (fun r _ => strLen r)
  case atStart => exact ⟨s, [], rfl, Nat.le_refl _, Lib.hid (by rw [HL.out]; rfl), HJ0, HQ0⟩
  case round =>
    clear HJ0 HQ0
    obtain ⟨T, pre, rfl, hT, HP, HJ, HQ⟩ := hrel
    obtain ⟨c0, c1⟩ := HIJ.out _ _ HJ.out
    obtain ⟨D, hD⟩ : ∃ D, T.data.toList = D := ⟨_, rfl⟩
    have hDl := len_of hD
    have HI := Lib.hid (indexFuncT_ok T D hD (n + 1) false wr HQ.out)
    have hcl := cut_le D false
    have hpe := @pcsL_end D
    have hpc := @pcsL_cut D
    rw [hD] at HP
    have HD := Lib.hid hD
    obtain ⟨k, hk⟩ : ∃ k, cut false D = k := ⟨_, rfl⟩
    have hix : ixC false D = if k < D.length then (k : Int) else -1 := by unfold ixC; rw [hk]
    rw [hk] at HI hcl hpe hpc
    rw [hix] at HI
    clear hD hk hix
    by_cases hlt : k < D.length
    · rw [if_pos hlt] at HI
      have hpcs := hpc hlt
      have d0 : decide ((k : Int) < 0) = false := decide_eq_false (by omega)
      have hkT : k ≤ T.size := by omega
      have hk1 : k + 1 ≤ T.size := by omega
      have HTK : Hid ((T.extract 0 k).data.toList = D.take k) := Lib.hid (by rw [Lib.extract_from_zero, HD.out])
      have HTD : Hid ((T.extract (k + 1) T.size).data.toList = D.drop (k + 1)) := Lib.hid (by rw [ext_list HD.out, List.take_of_length_le (by rw [List.length_drop]; omega)])
      have hsz : (T.extract (k + 1) T.size).size = T.size - (k + 1) := by rw [ByteArray.size_extract]; omega
      have HPC := Lib.hid hpcs
      clear hpe hpc hpcs
      gi_wp2_with fail
      refine ⟨trivial, wide_any' _, (callsIn_wide.2 HI.out).mono ?_⟩
      rintro e w2 ⟨rfl, ⟨b', hb', hbf⟩, ho⟩
      have hbf := hbf hlt
      subst hbf
      have HJ2 := Lib.hid (HJo.out _ _ _ HJ.out ⟨⟨false, HQ.out⟩, ho.grown⟩)
      have HQ2 := Lib.hid hb'
      obtain ⟨fn, tmps, assign, body, hyl, hR⟩ := HY.out pre (T.extract 0 k) w2 HJ2.out ⟨pcsL (D.drop (k + 1)), by rw [HP.out, HPC.out, HTK.out]⟩
      clear HI HJ HQ hb' ho c0 c1
      gi_wp2_with fail
      refine ⟨wide_any' _, hR.mono ?_⟩
      intro e W3 hW3
      obtain ⟨b, rfl, HBB⟩ := yformK hW3
      clear hW3 hR
      cases b with
      | true =>
        have HX2 := Lib.hid (HBB.out.1 rfl)
        clear HBB
        gi_wp2
        go_roundw
        case rel => exact ⟨T.extract (k + 1) T.size, pre ++ [T.extract 0 k], rfl, by omega, Lib.hid (by rw [HP.out, HPC.out, HTD.out, List.map_append, ← HTK.out]; simp), Lib.hid HX2.out.1, Lib.hid (HX2.out.2 _ HQ2.out)⟩
        case measure => unfold strLen; dsimp only; omega
      | false =>
        have HX2 := Lib.hid (HBB.out.2 rfl)
        clear HBB
        gi_wp2
        refine bodyPost_ret (results_none rfl _ _ _) rfl ?_
        exact ⟨⟨_, rfl⟩, .inr ⟨_, HX2.out⟩⟩
    · rw [if_neg hlt] at HI
      have HPE := Lib.hid (hpe hlt)
      have d0 : decide ((-1 : Int) < 0) = true := rfl
      clear hpe hpc
      gi_wp2_with fail
      refine ⟨trivial, wide_any' _, (callsIn_wide.2 HI.out).mono ?_⟩
      rintro e w2 ⟨rfl, ⟨b', hb', hbf⟩, ho⟩
      have HJ2 := Lib.hid (HJo.out _ _ _ HJ.out ⟨⟨false, HQ.out⟩, ho.grown⟩)
      obtain ⟨fn, tmps, assign, body, hyl, hR⟩ := HY.out pre T w2 HJ2.out ⟨[], by rw [HP.out, HPE.out, HD.out]⟩
      clear HI HJ HQ hb' ho c0 c1 hbf
      gi_wp2_with fail
      refine ⟨wide_any' _, hR.mono ?_⟩
      intro e W3 hW3
      obtain ⟨b, rfl, HBB⟩ := yformK hW3
      clear hW3 hR
      cases b with
      | true =>
        have HX2 := Lib.hid (HBB.out.1 rfl)
        clear HBB
        gi_wp2
        refine bodyPost_ret (results_none rfl _ _ _) rfl ?_
        exact ⟨⟨_, rfl⟩, .inl ⟨pre ++ [T], by unfold SP; rw [HP.out, HPE.out, List.map_append, ← HD.out]; rfl, HX2.out.1⟩⟩
      | false =>
        have HX2 := Lib.hid (HBB.out.2 rfl)
        clear HBB
        gi_wp2
        refine bodyPost_ret (results_none rfl _ _ _) rfl ?_
        exact ⟨⟨_, rfl⟩, .inr ⟨_, HX2.out⟩⟩
end Go.Proofs.YthmknaoelmeniaaGreatDoor

namespace Go.Proofs.YthmknaoelmeniaaGreatDoor
open Go.RowKit Go.Sort Go.Joins Go.Shelf
attribute [local go_sem] cell_grow frozen_grow size_grow

set_option maxRecDepth 100000 in
set_option maxHeartbeats 1000000 in
theorem wprinted_ok (s : ByteArray) (L : List UInt8) (hL : s.data.toList = L) (hs : s.size ≤ 9223372036854775806) (m : Nat) (_hm : m < 256) (w : World) : Calls Tryz.prog 41 #[.string s, .int .u8 (m : Int)] w fun e w' => e = .returned (.bool (prB m L)) ∧ w = w' := by
  have hlen := len_of hL
  have HL := Lib.hid hL
  clear hL
  go_enter Tryz.func41, Tryz.ntmps41
  go_wp2
  go_loop [8] (fun i => ∃ k : Nat, i = .int .i64 k ∧ k ≤ s.size ∧ Hid (∀ j, j < k → m ≤ (bt L j).toNat ∧ (bt L j).toNat ≤ 126)) (fun i => s.size - (intOf i).toNat)
  case atStart => exact ⟨0, rfl, Nat.zero_le _, Lib.hid (fun j hj => by omega)⟩
  case round =>
    obtain ⟨k, rfl, hk, HA⟩ := hrel
    by_cases hlt : k < s.size
    · have hb := bt_get HL.out hlt
      have hb2 := (bt L k).toNat_lt
      have HN := Lib.hid (fun h => prB_no (m := m) (l := L) (j := k) (by omega) h)
      obtain ⟨c, hc⟩ : ∃ c, (bt L k).toNat = c := ⟨_, rfl⟩
      rw [hc] at hb hb2 HN
      have HC := Lib.hid hc
      clear hc
      by_cases h1 : c < m
      · have d1 : decide ((c : Int) < (m : Int)) = true := decide_eq_true (by omega)
        go_wp2
        all_goals go_ret
        all_goals exact ⟨ret_bool (HN.out (by omega)).symm, rfl⟩
      · have d1 : decide ((c : Int) < (m : Int)) = false := decide_eq_false (by omega)
        by_cases h2 : 126 < c
        · have d2 : decide ((126 : Int) < (c : Int)) = true := decide_eq_true (by omega)
          go_wp2
          all_goals go_ret
          all_goals exact ⟨ret_bool (HN.out (by omega)).symm, rfl⟩
        · have d2 : decide ((126 : Int) < (c : Int)) = false := decide_eq_false (by omega)
          go_wp2
          go_round
          case rel => exact ⟨k + 1, by go_num, by omega, Lib.hid (fun j hj => by
            by_cases ej : j = k
            · rw [ej, HC.out]; omega
            · exact HA.out j (by omega))⟩
          case measure => simp [intOf]; omega
    · obtain rfl : k = s.size := by omega
      have HT := Lib.hid (prB_all.2 (fun j hj => HA.out j (by omega)) : prB m L = true)
      go_wp2
      go_ret
      exact ⟨ret_bool HT.out.symm, rfl⟩
set_option maxRecDepth 100000 in
theorem wtext_ok (s : ByteArray) (L : List UInt8) (hL : s.data.toList = L) (hs : s.size ≤ 9223372036854775806) (w : World) : Calls Tryz.prog 26 #[.string s] w fun e w' => e = .returned (.bool (txB L)) ∧ w = w' := by
  have hlen := len_of hL
  have HP := Lib.hid (wprinted_ok s L hL hs 32 (by decide))
  by_cases h : s.size ≤ 200
  · have d0 : decide ((s.size : Int) ≤ 200) = true := decide_eq_true (by omega)
    have HX : Hid (txB L = prB 32 L) := Lib.hid (by unfold txB; rw [decide_eq_true (show L.length ≤ 200 by omega), Bool.and_true])
    obtain ⟨r, hr⟩ : ∃ r, prB 32 L = r := ⟨_, rfl⟩
    rw [hr] at HP HX
    clear hL
    go_enter Tryz.func26, Tryz.ntmps26
    go_wp2_with fail
    refine (HP.out _).mono ?_
    rintro e w1 ⟨rfl, hw⟩
    subst hw
    go_wp2_with fail
    go_ret
    exact ⟨ret_bool HX.out.symm, rfl⟩
  · have d0 : decide ((s.size : Int) ≤ 200) = false := decide_eq_false (by omega)
    have HX : Hid (txB L = false) := Lib.hid (by unfold txB; rw [decide_eq_false (show ¬ L.length ≤ 200 by omega), Bool.and_false])
    clear hL HP
    go_enter Tryz.func26, Tryz.ntmps26
    go_wp2_with fail
    go_ret
    exact ⟨ret_bool HX.out.symm, rfl⟩
/-- an unquoted field, as the program says it -/
theorem rtB_prog (l : List UInt8) : rtB l = (decide (l ≠ []) && (decide (l.length ≤ 200) && (prB 33 l && decide ((34 : UInt8) ∉ l)))) := by
  rw [Bool.eq_iff_iff, rtB_yes]
  simp only [Bool.and_eq_true, decide_eq_true_eq]
  constructor
  · rintro ⟨h0, ⟨h1, h2⟩, h3⟩
    obtain ⟨h4, h5⟩ := txB_yes.1 h3
    refine ⟨h0, h5, ?_, h2⟩
    rw [prB_all] at h4 ⊢
    intro j hj
    have hm : bt l j ∈ l := by rw [List.mem_iff_getElem?]; exact ⟨j, bt_at hj⟩
    have h6 : (bt l j).toNat ≠ 32 := fun e => h1 (by rw [← show bt l j = 32 from UInt8.toNat_inj.1 e]; exact hm)
    have := h4 j hj
    omega
  · rintro ⟨h0, h5, h4, h2⟩
    refine ⟨h0, ⟨fun hm => ?_, h2⟩, txB_yes.2 ⟨?_, h5⟩⟩
    · obtain ⟨i, hi⟩ := List.mem_iff_getElem?.1 hm
      have hlt : i < l.length := by
        rcases Nat.lt_or_ge i l.length with h' | h'
        · exact h'
        · rw [List.getElem?_eq_none h'] at hi; cases hi
      rw [bt_at hlt] at hi
      have := prB_all.1 h4 i hlt
      rw [Option.some.inj hi] at this
      exact absurd this.1 (by decide)
    · rw [prB_all] at h4 ⊢
      intro j hj
      have := h4 j hj
      omega
theorem ixb_mem (c : UInt8) (l : List UInt8) : decide (0 ≤ Lib.indexByte l c) = decide (c ∈ l) := by
  rw [← Lib.contains_iff_indexByte, Bool.eq_iff_iff]; simp
set_option maxRecDepth 100000 in
set_option maxHeartbeats 1000000 in
theorem wright_ok (b : Bool) (s : ByteArray) (L : List UInt8) (hL : s.data.toList = L) (hs : s.size ≤ 9223372036854775806) (w : World) : Calls Tryz.prog 31 #[.agg #[.bool b, .string s]] w fun e w' => e = .returned (.bool (flB (b, L))) ∧ Below w.heap.size w w' := by
  have hlen := len_of hL
  have HT := Lib.hid (wtext_ok s L hL hs)
  have HP := Lib.hid (wprinted_ok s L hL hs 33 (by decide))
  have hc := Tryz.strings_Contains_one s 34
  rw [hL, ixb_mem] at hc
  have HC := Lib.hid hc
  have HB := Lib.hid (below_box0 w (.cells #[.bool b, .string s] 78))
  have k0 : (w.alloc (.cells #[.bool b, .string s] 78)).cell? ⟨w.heap.size, 0, none⟩ = some (.bool b) := by rw [cell_of_block (heap_alloc_new w _)]; rfl
  have k1 : (w.alloc (.cells #[.bool b, .string s] 78)).cell? ⟨w.heap.size, 1, none⟩ = some (.string s) := by rw [cell_of_block (heap_alloc_new w _)]; rfl
  cases b
  · have HR : Hid (flB (false, L) = (decide (L ≠ []) && (decide (L.length ≤ 200) && (prB 33 L && decide ((34 : UInt8) ∉ L))))) := Lib.hid (rtB_prog L)
    have hne : (s.toList != []) = decide (L ≠ []) := by
      have := empty_nil hL
      rw [bne, this, Bool.eq_iff_iff]; simp
    have hne2 : (s.toList = []) = (L = []) := by rw [Lib.toList_data, hL]
    obtain ⟨F, hF⟩ : ∃ F, flB (false, L) = F := ⟨_, rfl⟩
    rw [hF] at HR ⊢
    by_cases h0 : L = []
    · have h1 : (s.toList != []) = false := by rw [hne]; simp [h0]
      have h2 : s.toList = [] := hne2.mpr h0
      have HX : Hid (F = false) := Lib.hid (by rw [HR.out, h0]; rfl)
      clear hL hc hne hne2 hF h0
      go_enter Tryz.func31, Tryz.ntmps31
      go_wp2_with fail
      go_ret
      exact ⟨ret_bool HX.out.symm, HB.out⟩
    · have h1 : (s.toList != []) = true := by rw [hne]; simp [h0]
      have h2 : ¬ s.toList = [] := fun e => h0 (hne2.mp e)
      by_cases h3 : s.size ≤ 200
      · have d3 : decide ((s.size : Int) ≤ 200) = true := decide_eq_true (by omega)
        have HX : Hid (F = (prB 33 L && decide ((34 : UInt8) ∉ L))) := Lib.hid (by rw [HR.out, decide_eq_true h0, decide_eq_true (show L.length ≤ 200 by omega)]; rfl)
        obtain ⟨r, hr⟩ : ∃ r, prB 33 L = r := ⟨_, rfl⟩
        obtain ⟨q, hq⟩ : ∃ q, decide ((34 : UInt8) ∈ L) = q := ⟨_, rfl⟩
        have hq2 : decide ((34 : UInt8) ∉ L) = !q := by rw [← hq]; simp
        rw [hr] at HP HX
        rw [hq2] at HX
        rw [hq] at HC
        clear hL hc hne hne2 hF hq hq2 h0 hr
        cases r
        · go_enter Tryz.func31, Tryz.ntmps31
          go_wp2_with fail
          refine (HP.out _).mono ?_
          rintro e w1 ⟨rfl, hw⟩
          subst hw
          go_wp2_with fail
          go_ret
          exact ⟨ret_bool HX.out.symm, HB.out⟩
        · go_enter Tryz.func31, Tryz.ntmps31
          go_wp2_with fail
          refine (HP.out _).mono ?_
          rintro e w1 ⟨rfl, hw⟩
          subst hw
          go_wp2_with fail
          refine (HC.out _).mono ?_
          rintro e w1 ⟨rfl, hw⟩
          subst hw
          go_wp2_with fail
          go_ret
          have h4 : s.toList.isEmpty = false := by cases h : s.toList with | nil => exact absurd h h2 | cons _ _ => rfl
          exact ⟨ret_bool (by rw [HX.out, h4]; rfl), HB.out⟩
      · have d3 : decide ((s.size : Int) ≤ 200) = false := decide_eq_false (by omega)
        have HX : Hid (F = false) := Lib.hid (by rw [HR.out, decide_eq_false (show ¬ L.length ≤ 200 by omega)]; simp)
        clear hL hc hne hne2 hF h0
        go_enter Tryz.func31, Tryz.ntmps31
        go_wp2_with fail
        go_ret
        exact ⟨ret_bool HX.out.symm, HB.out⟩
  · have HR : Hid (flB (true, L) = txB L) := Lib.hid rfl
    obtain ⟨F, hF⟩ : ∃ F, flB (true, L) = F := ⟨_, rfl⟩
    obtain ⟨r, hr⟩ : ∃ r, txB L = r := ⟨_, rfl⟩
    rw [hF, hr] at HR
    rw [hF]
    rw [hr] at HT
    clear hL hc hF hr
    go_enter Tryz.func31, Tryz.ntmps31
    go_wp2_with fail
    refine (HT.out _).mono ?_
    rintro e w1 ⟨rfl, hw⟩
    subst hw
    go_wp2_with fail
    go_ret
    exact ⟨ret_bool HR.out.symm, HB.out⟩
theorem c34 (c : UInt8) : ((c.toNat : Int) != 34) = !decide (c = 34) := by
  rw [Bool.eq_iff_iff]
  simp only [bne_iff_ne, ne_eq, Bool.not_eq_true', decide_eq_false_iff_not]
  refine not_congr ⟨fun h => UInt8.toNat_inj.1 ?_, fun h => by rw [h]; rfl⟩
  rw [show (34 : UInt8).toNat = 34 from rfl]; omega
theorem rpq_len (n : Nat) : ∀ l : List UInt8, l.length ≤ n → (rpq l).length ≤ l.length := by
  induction n with
  | zero =>
    intro l h
    have : l = [] := List.length_eq_zero_iff.1 (by omega)
    subst this
    rw [rpq]; exact Nat.le_refl _
  | succ n ih =>
    intro l h
    match l, h with
    | [], _ => rw [rpq]; exact Nat.le_refl _
    | [c], _ => rw [rpq]; exact Nat.le_refl _
    | c :: d :: r, h =>
      rw [rpq]
      simp only [List.length_cons] at h ⊢
      split
      · have := ih r (by omega); simp only [List.length_cons]; omega
      · have := ih (d :: r) (by simp only [List.length_cons]; omega); simp only [List.length_cons] at this ⊢; omega
/-- what Quote answers -/
def qtE (l : List UInt8) : Int := if txB l = true then 0 else 2
def qtV (l : List UInt8) : List UInt8 := if txB l = true then qtL l else []
set_option maxRecDepth 100000 in
set_option maxHeartbeats 1000000 in
theorem wquote_ok (s : ByteArray) (L : List UInt8) (hL : s.data.toList = L) (hs : s.size ≤ 4294967280) (w : World) (hM : ML w) :
    Calls Tryz.prog 10 #[.string s] w fun e w' => ∃ S : ByteArray, e = .returned (.tuple #[.string S, .int .i64 (qtE L)]) ∧ S.data.toList = qtV L ∧ Below w.heap.size w w' := by
  have hlen := len_of hL
  have HT := Lib.hid (wtext_ok s L hL (by omega))
  cases hr : txB L
  · have HE : Hid (qtE L = 2) := Lib.hid (by unfold qtE; rw [hr]; rfl)
    have HV : Hid (qtV L = []) := Lib.hid (by unfold qtV; rw [hr]; rfl)
    rw [hr] at HT
    clear hL hr hM
    go_enter Tryz.func10, Tryz.ntmps10
    go_wp2_with fail
    refine (HT.out _).mono ?_
    rintro e w1 ⟨rfl, hw⟩
    subst hw
    go_wp2_with fail
    go_ret2
    exact ⟨⟨#[]⟩, by rw [HE.out]; rfl, by rw [HV.out], Below.refl _ _⟩
  · have HE : Hid (qtE L = 0) := Lib.hid (by unfold qtE; rw [hr]; rfl)
    have HV : Hid (qtV L = qtL L) := Lib.hid (by unfold qtV; rw [hr]; rfl)
    have h200 := (txB_yes.1 hr).2
    obtain ⟨m, hm⟩ := hM
    have hct : Lib.countB s ⟨#[34]⟩ ≤ 200 := by
      rw [cntB_one, hL]
      have := List.count_le_length (a := (34 : UInt8)) (l := L)
      omega
    have hrp := Tryz.strings_ReplaceAll s ⟨#[34]⟩ ⟨#[34, 34]⟩ m w (by omega) hm (Nat.le_refl 1) (by
      rw [show (⟨#[34, 34]⟩ : ByteArray).size = 2 from rfl]; omega)
    rw [hL, show (⟨#[34]⟩ : ByteArray).data.toList = [34] from rfl, show (⟨#[34, 34]⟩ : ByteArray).data.toList = [34, 34] from rfl, dbl_all] at hrp
    have hdl := (dbl_len L).2
    have HR := Lib.hid hrp
    have HQ : Hid (qtL L = 34 :: (dbl L ++ [34])) := Lib.hid rfl
    rw [hr] at HT
    obtain ⟨D, hD⟩ : ∃ D, dbl L = D := ⟨_, rfl⟩
    rw [hD] at HR hdl HQ
    have z1 : (9223372036854775807 < 1 + D.length) = False := by simp; omega
    have z2 : (9223372036854775807 < 1 + D.length + 1) = False := by simp; omega
    clear hL hr hm hrp hct hD
    go_enter Tryz.func10, Tryz.ntmps10
    go_wp2_with fail
    refine (HT.out _).mono ?_
    rintro e w1 ⟨rfl, hw⟩
    subst hw
    go_wp2_with fail
    refine HR.out.mono ?_
    rintro e w2 ⟨rfl, b2⟩
    go_wp2_with fail
    go_ret2
    exact ⟨_, by rw [HE.out]; rfl, by rw [HV.out, HQ.out]; simp, b2⟩
/-- what Unquote does, by the quotation of what it reads -/
theorem unq_by {l : List UInt8} (_h : quB l = true) : (txB (rpq (inn l)) = true → qtL (rpq (inn l)) = l → unq l = some (rpq (inn l))) ∧ (¬ (txB (rpq (inn l)) = true ∧ qtL (rpq (inn l)) = l) → unq l = none) := by
  refine ⟨fun h1 h2 => ?_, fun h1 => ?_⟩
  · have := unq_qt h1
    rw [h2] at this
    exact this
  · cases hu : unq l with
    | none => rfl
    | some u =>
      exfalso
      obtain ⟨h3, h4⟩ := unq_some hu
      apply h1
      have : rpq (inn l) = u := by
        have h5 : inn l = dbl u := by rw [← h4]; exact inn_qt _
        rw [h5, rpq_dbl]
      rw [this]
      exact ⟨h3, h4⟩
theorem unq_bad {l : List UInt8} (h : quB l = false) : unq l = none := by unfold unq; rw [h]; rfl
set_option maxRecDepth 100000 in
set_option maxHeartbeats 1600000 in
theorem wunq_ok (s : ByteArray) (L : List UInt8) (hL : s.data.toList = L) (hs : s.size ≤ 4294967280) (w : World) (hM : ML w) :
    Calls Tryz.prog 30 #[.string s] w fun e w' => ∃ S : ByteArray, e = .returned (.tuple #[.string S, .int .i64 (unqE L)]) ∧ S.data.toList = unqR L ∧ Below w.heap.size w w' := by
  have hlen := len_of hL
  have H6 := Lib.hid (@unq_6 L)
  have H0 := Lib.hid (fun u (h : unq L = some u) => unq_0 h)
  have hq := @quB_bt L
  by_cases h2 : s.size < 2
  · have d0 : decide ((s.size : Int) < 2) = true := decide_eq_true (by omega)
    have hb : quB L = false := by unfold quB; rw [decide_eq_false (show ¬ 2 ≤ L.length by omega)]; rfl
    have HX := Lib.hid (H6.out (unq_bad hb))
    clear hL hM hq hb
    go_enter Tryz.func30, Tryz.ntmps30
    go_wp2_with fail
    go_ret2
    exact ⟨⟨#[]⟩, by rw [HX.out.1]; rfl, by rw [HX.out.2], Below.refl _ _⟩
  · have d0 : decide ((s.size : Int) < 2) = false := decide_eq_false (by omega)
    have hq := hq (by omega)
    rw [hlen] at hq
    have hp : 0 < s.size := by omega
    have hp1 : s.size - 1 < s.size := by omega
    have hb0 := bt_get hL hp
    have hb1 := bt_get hL hp1
    have hsz : (s.size : Int) - 1 = ((s.size - 1 : Nat) : Int) := by omega
    have hex : (s.extract 1 (s.size - 1)).data.toList = inn L := by
      rw [Lib.extract_data, hL]
      unfold inn
      rw [List.dropLast_eq_take, List.length_tail, hlen, ← List.drop_one]
    have hexs : (s.extract 1 (s.size - 1)).size = s.size - 2 := by rw [ByteArray.size_extract]; omega
    obtain ⟨B0, hB0⟩ : ∃ x, bt L 0 = x := ⟨_, rfl⟩
    obtain ⟨B1, hB1⟩ : ∃ x, bt L (s.size - 1) = x := ⟨_, rfl⟩
    rw [hB0] at hb0 hq
    rw [hB1] at hb1 hq
    have hc0 := c34 B0
    have hc1 := c34 B1
    clear hB0 hB1
    by_cases hgood : B0 = 34 ∧ B1 = 34
    · obtain ⟨g0, g1⟩ := hgood
      rw [decide_eq_true g0] at hc0
      rw [decide_eq_true g1] at hc1
      have hqb : quB L = true := by rw [hq, decide_eq_true g0, decide_eq_true g1]; rfl
      obtain ⟨hy, hn⟩ := unq_by hqb
      have hM2 := fun W (h : Below w.heap.size w W) => hM.below h
      obtain ⟨m, hm⟩ := hM
      have hct : Lib.countB (s.extract 1 (s.size - 1)) ⟨#[34, 34]⟩ ≤ 4294967281 := by
        have := Lib.countB_le ⟨#[34, 34]⟩ (show 1 ≤ 2 by decide) _ (s.extract 1 (s.size - 1)) (Nat.le_refl _)
        omega
      have hrp := Tryz.strings_ReplaceAll (s.extract 1 (s.size - 1)) ⟨#[34, 34]⟩ ⟨#[34]⟩ m w (by rw [hexs]; omega) hm (show 1 ≤ 2 by decide) (by
        rw [hexs, show (⟨#[34]⟩ : ByteArray).size = 1 from rfl]; omega)
      rw [hex, show (⟨#[34]⟩ : ByteArray).data.toList = [34] from rfl, show (⟨#[34, 34]⟩ : ByteArray).data.toList = [34, 34] from rfl, rpq_all] at hrp
      obtain ⟨T, hT⟩ : ∃ T, rpq (inn L) = T := ⟨_, rfl⟩
      rw [hT] at hrp hy hn
      have hTl : T.length ≤ 4294967280 := by
        have := rpq_len _ (inn L) (Nat.le_refl _)
        rw [hT] at this
        have h3 : (inn L).length = s.size - 2 := by rw [← hex, Array.length_toList]; exact hexs
        omega
      have HRP := Lib.hid hrp
      have HY := Lib.hid hy
      have HN := Lib.hid hn
      have HQT := Lib.hid (fun W (h : ML W) => wquote_ok ⟨T.toArray⟩ T (by simp) (show T.toArray.size ≤ _ by simpa using hTl) W h)
      have HM2 := Lib.hid hM2
      have HL := Lib.hid hL
      clear hL hm hq hqb hy hn hM2 hct hrp hT g0 g1 hex
      go_enter Tryz.func30, Tryz.ntmps30
      go_wp2_with fail
      refine HRP.out.mono ?_
      rintro e w1 ⟨rfl, b1⟩
      have HB1 := Lib.hid b1
      clear b1
      go_wp2_with fail
      refine (HQT.out _ (HM2.out _ HB1.out)).mono ?_
      rintro e w2 ⟨Q, rfl, hQ, b2⟩
      have HB2 := Lib.hid (below_tr HB1.out b2)
      have HQ := Lib.hid hQ
      clear b2 hQ
      cases hx : txB T
      · have hE : qtE T = 2 := by unfold qtE; rw [hx]; rfl
        have HX := Lib.hid (H6.out (HN.out (fun h => by rw [hx] at h; cases h.1)))
        rw [hE]
        clear hE hx
        go_wp2_with fail
        go_ret2
        exact ⟨⟨#[]⟩, by rw [HX.out.1]; rfl, by rw [HX.out.2], HB2.out⟩
      · have hE : qtE T = 0 := by unfold qtE; rw [hx]; rfl
        have hV : qtV T = qtL T := by unfold qtV; rw [hx]; rfl
        rw [hE]
        by_cases hc : qtL T = L
        · have hs2 : Q.toList = s.toList := by rw [Lib.toList_data, Lib.toList_data, HQ.out, HL.out, hV, hc]
          have hs3 : (Q.toList != s.toList) = false := by rw [hs2]; simp
          have HX := Lib.hid (H0.out T (HY.out hx hc))
          clear hE hV hx hc
          go_wp2_with fail
          go_ret2
          exact ⟨⟨T.toArray⟩, by rw [HX.out.1]; rfl, by rw [HX.out.2], HB2.out⟩
        · have hs2 : ¬ Q.toList = s.toList := fun e => by rw [Lib.toList_data, Lib.toList_data, HQ.out, HL.out, hV] at e; exact hc e
          have hs3 : (Q.toList == s.toList) = false := beq_eq_false_iff_ne.2 hs2
          have HX := Lib.hid (H6.out (HN.out (fun h => hc h.2)))
          clear hE hV hx hc
          go_wp2_with fail
          go_ret2
          exact ⟨⟨#[]⟩, by rw [HX.out.1]; rfl, by rw [HX.out.2], HB2.out⟩
    · have hd : decide (B0 = 34) = false ∨ (decide (B0 = 34) = true ∧ decide (B1 = 34) = false) := by
        by_cases g : B0 = 34
        · right; exact ⟨decide_eq_true g, decide_eq_false (fun h => hgood ⟨g, h⟩)⟩
        · left; exact decide_eq_false g
      have hb : quB L = false := by
        rw [hq]
        rcases hd with g | ⟨g, g'⟩
        · rw [g]; rfl
        · rw [g']; simp
      have HX := Lib.hid (H6.out (unq_bad hb))
      clear hL hM hq hb hgood
      rcases hd with g | ⟨g, g'⟩
      · rw [g] at hc0
        go_enter Tryz.func30, Tryz.ntmps30
        go_wp2_with fail
        go_ret2
        exact ⟨⟨#[]⟩, by rw [HX.out.1]; rfl, by rw [HX.out.2], Below.refl _ _⟩
      · rw [g] at hc0
        rw [g'] at hc1
        go_enter Tryz.func30, Tryz.ntmps30
        go_wp2_with fail
        go_ret2
        exact ⟨⟨#[]⟩, by rw [HX.out.1]; rfl, by rw [HX.out.2], Below.refl _ _⟩
end Go.Proofs.YthmknaoelmeniaaGreatDoor

namespace Go.Proofs.YthmknaoelmeniaaGreatDoor
open Go.RowKit
/-- the marks that ranges over functions leave -/
def mks (ds : List Nat) : List Deferred := ds.map fun D => { target := .collected D, args := #[] }
theorem mks_cons (D : Nat) (ds : List Nat) : mks (D :: ds) = { target := .collected D, args := #[] } :: mks ds := rfl
/-- the blocks of the marks lie there -/
def MksAt (B : Nat) (ds : List Nat) (W : World) : Prop := ds.Nodup ∧ ∀ D ∈ ds, B ≤ D ∧ W.heap[D]? = some (.deferred (some []))
theorem MksAt.nil (B : Nat) (W : World) : MksAt B [] W := ⟨List.nodup_nil, fun _ h => by cases h⟩
theorem MksAt.cons {B D : Nat} {ds : List Nat} {W : World} (h : MksAt B ds W) (hD : B ≤ D) (hn : D ∉ ds) (hk : W.heap[D]? = some (.deferred (some []))) : MksAt B (D :: ds) W :=
  ⟨List.nodup_cons.2 ⟨hn, h.1⟩, fun E hE => by
    rcases List.mem_cons.1 hE with rfl | hE
    · exact ⟨hD, hk⟩
    · exact h.2 E hE⟩
theorem MksAt.keep {B : Nat} {ds : List Nat} {W W' : World} (h : MksAt B ds W) (hk : ∀ D ∈ ds, W.heap[D]? = some (.deferred (some [])) → W'.heap[D]? = some (.deferred (some []))) : MksAt B ds W' :=
  ⟨h.1, fun D hD => ⟨(h.2 D hD).1, hk D hD (h.2 D hD).2⟩⟩
theorem MksAt.below {B : Nat} {ds : List Nat} {W W' : World} (h : MksAt B ds W) (hb : Below W.heap.size W W') : MksAt B ds W' :=
  h.keep fun _D _hD hk => (hb.block _ (Array.getElem?_eq_some_iff.1 hk).1).trans hk
theorem MksAt.lt {B : Nat} {ds : List Nat} {W : World} (h : MksAt B ds W) {D : Nat} (hD : D ∈ ds) : D < W.heap.size := (Array.getElem?_eq_some_iff.1 (h.2 D hD).2).1
/-- all marks are taken, one by one; J is what is kept -/
theorem leaves_marks {F : Fence} {n : Nat} {P : Program} {fn : Func} {tmps : Array Value} {R : Ending → World → Prop} {B : Nat} (J : World → Prop)
    (hJ : ∀ W D, B ≤ D → W.heap[D]? = some (.deferred (some [])) → J W → J (W.putObj D (.deferred none)))
    (hend : ∀ W, J W → LeavesIn F n P fn tmps R [] .returning W) :
    ∀ (ds : List Nat) (W : World), MksAt B ds W → J W → LeavesInM F n P fn tmps R (mks ds) .returning W
  | [], W, _, h => hend W h
  | D :: ds, W, hM, h => by
    have hD := hM.2 D (by simp)
    refine ⟨by simp, .inl ⟨D, _, rfl, run_takeDeferred hD.2, ?_⟩⟩
    refine leaves_marks J hJ hend ds _ ?_ (hJ W D hD.1 hD.2 h)
    have hn := List.nodup_cons.1 hM.1
    refine ⟨hn.2, fun E hE => ⟨(hM.2 E (by simp [hE])).1, ?_⟩⟩
    have hne : D ≠ E := fun e => hn.1 (by rw [e]; exact hE)
    exact (World.putObj_heap_other (Ne.symm hne)).trans (hM.2 E (by simp [hE])).2
end Go.Proofs.YthmknaoelmeniaaGreatDoor
