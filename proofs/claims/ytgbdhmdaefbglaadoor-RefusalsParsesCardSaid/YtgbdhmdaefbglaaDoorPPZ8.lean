/- Refusals: a line of a rule, by the reference: what is laid. | Refusals: the rule of a line's fields, by the tests of the reference. No program. | A range over a function whose iterator keeps memory of its own: the loop's body promises to leave it alone (Kp). No program. | Refusals: a line of a rule, by the reference: up to its first number. | Refusals: a line of a rule, by the reference: of 2 fields. | Refusals: a line of a rule, by the reference: of 2 fields, to its end. | Refusals: a line of a rule, by the reference: of 4 fields. -/
import Derived.Test.YtgbdhmdaefbglaaDoorPPZ7
import Derived.Laws.StructEq
import Derived.ChangeKeysEq
import Derived.WalkMore
import Derived.Test.YtgbdhmdaefbglaaDoorPPZ3
import Derived.BigRegion
import Derived.Deep.RegionLaw
import Derived.Deep.Cut
namespace Go.Proofs.YtgbdhmdaefbglaaDoor
open Go.RowKit Go.Sort Go.Joins Go.Shelf
attribute [local go_sem] cell_grow frozen_grow size_grow

section
attribute [local go_sem ↓] Go.wp_at_zero Go.wp_at_succ
theorem eql_field (b c : Bool) (S T : ByteArray) (w : World) : Sem.run Tryd.prog (binOp .eql 86 (.agg #[.bool b, .string S]) (.agg #[.bool c, .string T])) w = .ok (.bool (decide (b = c) && decide (S.data.toList = T.data.toList))) w := by
  have u3 := Tryd.underlying4
  have u9 := Tryd.underlying9
  have hS : Tryd.prog.underlying 86 = some (.struct (Tryd.prog.fieldsOf 86)) := by kernel_rfl
  have hp : Tryd.prog.stoodInHeld 86 = false := by kernel_rfl
  rw [run_eql_struct, show (10000 : Nat) = 9999 + 1 from rfl, run_equalIn_agg w 9999 86 _ _ hS hp]
  simp only [Program.fieldsOf, Tryd.underlying86]
  go_simp
  have he : (S.data = T.data) = (S.data.toList = T.data.toList) := propext ⟨fun h => by rw [h], fun h => Array.ext' h⟩
  by_cases h1 : b = c <;> by_cases h2 : S.data.toList = T.data.toList <;> simp [h1, h2, he, Lib.toList_data]
end
theorem guardF : Tryd.prog.eqGuardType Tryd.prog.depth 86 = false := by kernel_rfl
/-- what line hands back -/
def LinePost (w : World) (o : Option Rl) (x : Ending) (w' : World) : Prop :=
  ∃ k f e t : Int, x = .returned (.tuple #[.agg #[.int .i64 k, .int .i64 f, .int .i64 e, .int .i64 t], .bool o.isSome]) ∧ (∀ y, o = some y → y = (k, f, e, t)) ∧ Below w.heap.size w w'
theorem LinePost.none {w w' : World} {k f e t : Int} (h : Below w.heap.size w w') : LinePost w none (.returned (.tuple #[.agg #[.int .i64 k, .int .i64 f, .int .i64 e, .int .i64 t], .bool false])) w' := ⟨k, f, e, t, rfl, by simp, h⟩
theorem LinePost.some {w w' : World} {k f e t : Int} (h : Below w.heap.size w w') : LinePost w (some (k, f, e, t)) (.returned (.tuple #[.agg #[.int .i64 k, .int .i64 f, .int .i64 e, .int .i64 t], .bool true])) w' := ⟨k, f, e, t, rfl, fun y h => (Option.some.inj h).symm, h⟩
abbrev RB (W : World) (g : Nat) (k f e t : Int) : Prop := W.heap[g]? = some (.cells #[.int .i64 k, .int .i64 f, .int .i64 e, .int .i64 t] 45 (0, 0))
theorem SlF.at_ {w : World} {a : Option Addr} {fs : List Fl} (h : SlF w a fs) {j : Nat} (hj : j < fs.length) : ∃ b o, a = some ⟨b, o, none⟩ ∧ ∀ j, j < fs.length → w.cell? ⟨b, o + 2 * j, none⟩ = some (.bool (fs.getD j (false, [])).1) ∧ ∃ S : ByteArray, w.cell? ⟨b, o + 2 * j + 1, none⟩ = some (.string S) ∧ S.data.toList = (fs.getD j (false, [])).2 := by
  rcases h with rfl | h
  · simp at hj
  · exact h
/-- the rule's cells, written anew -/
theorem put4 {W : World} {g : Nat} {a b c d : Int} (h : RB W g a b c d) (k f e t : Value) : ((((W.setCell ⟨g, 0, none⟩ k).setCell ⟨g, 1, none⟩ f).setCell ⟨g, 2, none⟩ e).setCell ⟨g, 3, none⟩ t).heap[g]? = some (.cells #[k, f, e, t] 45 (0, 0)) := by
  have h1 : (W.setCell ⟨g, 0, none⟩ k).heap[g]? = some (.cells #[k, .int .i64 b, .int .i64 c, .int .i64 d] 45 (0, 0)) := (setCell_block h k).trans (by simp)
  have h2 : ((W.setCell ⟨g, 0, none⟩ k).setCell ⟨g, 1, none⟩ f).heap[g]? = some (.cells #[k, f, .int .i64 c, .int .i64 d] 45 (0, 0)) := (setCell_block h1 f).trans (by simp)
  have h3 : (((W.setCell ⟨g, 0, none⟩ k).setCell ⟨g, 1, none⟩ f).setCell ⟨g, 2, none⟩ e).heap[g]? = some (.cells #[k, f, e, .int .i64 d] 45 (0, 0)) := (setCell_block h2 e).trans (by simp)
  exact (setCell_block h3 t).trans (by simp)
theorem put4c {W : World} {g : Nat} {a b c d : Int} (h : RB W g a b c d) (k f e t : Value) :
    ((((W.setCell ⟨g, 0, none⟩ k).setCell ⟨g, 1, none⟩ f).setCell ⟨g, 2, none⟩ e).setCell ⟨g, 3, none⟩ t).cell? ⟨g, 0, none⟩ = some k ∧
    ((((W.setCell ⟨g, 0, none⟩ k).setCell ⟨g, 1, none⟩ f).setCell ⟨g, 2, none⟩ e).setCell ⟨g, 3, none⟩ t).cell? ⟨g, 1, none⟩ = some f ∧
    ((((W.setCell ⟨g, 0, none⟩ k).setCell ⟨g, 1, none⟩ f).setCell ⟨g, 2, none⟩ e).setCell ⟨g, 3, none⟩ t).cell? ⟨g, 2, none⟩ = some e ∧
    ((((W.setCell ⟨g, 0, none⟩ k).setCell ⟨g, 1, none⟩ f).setCell ⟨g, 2, none⟩ e).setCell ⟨g, 3, none⟩ t).cell? ⟨g, 3, none⟩ = some t := by
  have hp := put4 h k f e t
  exact ⟨by rw [cell_of_block hp]; rfl, by rw [cell_of_block hp]; rfl, by rw [cell_of_block hp]; rfl, by rw [cell_of_block hp]; rfl⟩
theorem below4 {w W : World} (h : Below w.heap.size w W) (k f e t : Value) : Below w.heap.size w ((((W.setCell ⟨w.heap.size, 0, none⟩ k).setCell ⟨w.heap.size, 1, none⟩ f).setCell ⟨w.heap.size, 2, none⟩ e).setCell ⟨w.heap.size, 3, none⟩ t) :=
  (((h.setCell (p := ⟨w.heap.size, 0, none⟩) (Nat.le_refl _) _).setCell (p := ⟨w.heap.size, 1, none⟩) (Nat.le_refl _) _).setCell (p := ⟨w.heap.size, 2, none⟩) (Nat.le_refl _) _).setCell (p := ⟨w.heap.size, 3, none⟩) (Nat.le_refl _) _
/-- the kind after the first names -/
def kkI (b : Bool) (p : List UInt8) (k : Nat) : Int := if b = false ∧ 0 ≤ knI p ∧ knI p < k then knI p else -1
theorem kk_step {b : Bool} {p : List UInt8} {k : Nat} (hk : k < 7) : kkI b p (k + 1) = if (decide (b = false) && decide (p = kname k)) = true then (k : Int) else kkI b p k := by
  unfold kkI
  cases b
  · rcases knI_ways p with ⟨q, hq, rfl, e⟩ | ⟨hn, e⟩
    · rw [e]
      by_cases hqk : q = k
      · subst hqk
        rw [if_pos ⟨rfl, by omega, by omega⟩, if_pos (show (decide (false = false) && decide (kname q = kname q)) = true by simp)]
      · have hne : kname q ≠ kname k := fun h => hqk (by have := knI_hit hq; rw [h, knI_hit hk] at this; omega)
        rw [if_neg (show ¬ (decide (false = false) && decide (kname q = kname k)) = true by simp [hne])]
        by_cases hlt : q < k
        · rw [if_pos (show false = false ∧ (0 : Int) ≤ (q : Int) ∧ (q : Int) < ((k + 1 : Nat) : Int) from ⟨rfl, by omega, by omega⟩), if_pos ⟨rfl, by omega, by omega⟩]
        · rw [if_neg (show ¬ (false = false ∧ (0 : Int) ≤ (q : Int) ∧ (q : Int) < ((k + 1 : Nat) : Int)) from fun h => by omega), if_neg (fun h => by omega)]
    · rw [if_neg (show ¬ (decide (false = false) && decide (p = kname k)) = true by simp only [Bool.and_eq_true, decide_eq_true_eq, true_and]; exact fun h => hn k hk h.symm), e, if_neg (fun h => by omega), if_neg (fun h => by omega)]
  · simp
theorem kk_0 (b : Bool) (p : List UInt8) : kkI b p 0 = -1 := by unfold kkI; rw [if_neg (fun h => by omega)]
theorem kk_7 (b : Bool) (p : List UInt8) : kkI b p 7 = if b = false then knI p else -1 := by
  unfold kkI
  cases b
  · rcases knI_ways p with ⟨q, hq, rfl, e⟩ | ⟨hn, e⟩
    · rw [e, if_pos ⟨rfl, by omega, by omega⟩, if_pos rfl]
    · rw [e, if_neg (fun h => by omega), if_pos rfl]
  · simp
end Go.Proofs.YtgbdhmdaefbglaaDoor

namespace Go.Proofs.YtgbdhmdaefbglaaDoor
open Go.RowKit

def fqB (fs : List Fl) (j : Nat) : Bool := (fs.getD j (false, [])).1
def fqP (fs : List Fl) (j : Nat) : List UInt8 := (fs.getD j (false, [])).2
def kkF (fs : List Fl) : Int := kkI (fqB fs 0) (fqP fs 0) 7
def isW (b : Bool) (p nm : List UInt8) : Bool := decide (b = false) && decide (p = nm)
theorem ln2 {fs : List Fl} (h : fs.length = 2) : lnF fs = if vB (fqB fs 1) (fqP fs 1) = true ∧ 0 ≤ kkF fs then some (kkF fs, numV (fqP fs 1), 0, 1) else none := by
  unfold kkF
  rw [kk_7]
  match fs, h with
  | [(b0, p0), (b1, p1)], _ =>
    show lnF [(b0, p0), (b1, p1)] = if vB b1 p1 = true ∧ 0 ≤ (if b0 = false then knI p0 else -1) then some ((if b0 = false then knI p0 else -1), numV p1, 0, 1) else none
    cases b0 <;> cases b1
    · show wdP [p0, p1] = _
      rw [wdP_2]
      simp [vB, and_comm]
    all_goals
      show none = _
      simp [vB]
theorem ln4 {fs : List Fl} (h : fs.length = 4) : lnF fs = if (vB (fqB fs 1) (fqP fs 1) && (vB (fqB fs 3) (fqP fs 3) && (isW (fqB fs 2) (fqP fs 2) everyL && decide (numV (fqP fs 3) ≠ 0)))) = true ∧ 0 ≤ kkF fs then some (kkF fs, numV (fqP fs 1), numV (fqP fs 3), 0) else none := by
  unfold kkF
  rw [kk_7]
  match fs, h with
  | [(b0, p0), (b1, p1), (b2, p2), (b3, p3)], _ =>
    show lnF [(b0, p0), (b1, p1), (b2, p2), (b3, p3)] = if (vB b1 p1 && (vB b3 p3 && (isW b2 p2 everyL && decide (numV p3 ≠ 0)))) = true ∧ 0 ≤ (if b0 = false then knI p0 else -1) then some ((if b0 = false then knI p0 else -1), numV p1, numV p3, 0) else none
    cases b0 <;> cases b1 <;> cases b2 <;> cases b3
    · show wdP [p0, p1, p2, p3] = _
      rw [wdP_4]
      by_cases h1 : 0 ≤ knI p0 <;> by_cases h2 : numE p1 = 0 <;> by_cases h3 : numE p3 = 0 <;> by_cases h4 : numV p3 = 0 <;> by_cases h5 : p2 = everyL <;> simp [vB, isW, h1, h2, h3, h4, h5]
    all_goals
      show none = _
      simp [vB, isW]
theorem ln6 {fs : List Fl} (h : fs.length = 6) : lnF fs = if ((vB (fqB fs 1) (fqP fs 1) && (vB (fqB fs 3) (fqP fs 3) && (isW (fqB fs 2) (fqP fs 2) everyL && decide (numV (fqP fs 3) ≠ 0)))) && (vB (fqB fs 5) (fqP fs 5) && (isW (fqB fs 4) (fqP fs 4) timesL && decide (numV (fqP fs 5) ≠ 0)))) = true ∧ 0 ≤ kkF fs then some (kkF fs, numV (fqP fs 1), numV (fqP fs 3), numV (fqP fs 5)) else none := by
  unfold kkF
  rw [kk_7]
  match fs, h with
  | [(b0, p0), (b1, p1), (b2, p2), (b3, p3), (b4, p4), (b5, p5)], _ =>
    show lnF [(b0, p0), (b1, p1), (b2, p2), (b3, p3), (b4, p4), (b5, p5)] = if ((vB b1 p1 && (vB b3 p3 && (isW b2 p2 everyL && decide (numV p3 ≠ 0)))) && (vB b5 p5 && (isW b4 p4 timesL && decide (numV p5 ≠ 0)))) = true ∧ 0 ≤ (if b0 = false then knI p0 else -1) then some ((if b0 = false then knI p0 else -1), numV p1, numV p3, numV p5) else none
    by_cases hb : b0 = false ∧ b1 = false ∧ b2 = false ∧ b3 = false ∧ b4 = false ∧ b5 = false
    · obtain ⟨rfl, rfl, rfl, rfl, rfl, rfl⟩ := hb
      show wdP [p0, p1, p2, p3, p4, p5] = _
      rw [wdP_6]
      apply ite_congr ?_ (fun _ => ?_) (fun _ => rfl)
      · apply propext
        simp only [vB, isW, Bool.and_eq_true, decide_eq_true_eq, Bool.not_false, and_true, true_and, if_pos]
        constructor
        · rintro ⟨a1, a2, a3, a4, a5, a6, a7, a8⟩; exact ⟨⟨⟨a2, a3, a5, a4⟩, a6, a8, a7⟩, a1⟩
        · rintro ⟨⟨⟨a2, a3, a5, a4⟩, a6, a8, a7⟩, a1⟩; exact ⟨a1, a2, a3, a4, a5, a6, a7, a8⟩
      · simp
    · have hn : lnF [(b0, p0), (b1, p1), (b2, p2), (b3, p3), (b4, p4), (b5, p5)] = none := by
        unfold lnF
        rw [if_neg]
        intro h
        simp only [List.all_cons, List.all_nil, Bool.and_eq_true, Bool.not_eq_true', Bool.and_true] at h
        exact hb ⟨h.1, h.2.1, h.2.2.1, h.2.2.2.1, h.2.2.2.2.1, h.2.2.2.2.2⟩
      rw [hn, if_neg]
      rintro ⟨h1, h2⟩
      simp only [vB, isW, Bool.and_eq_true, Bool.not_eq_true', decide_eq_true_eq] at h1
      refine hb ⟨?_, h1.1.1.2, h1.1.2.2.1.1, h1.1.2.1.2, h1.2.2.1.1, h1.2.1.2⟩
      cases b0
      · rfl
      · simp at h2
/-- what line hands back, by its last tests -/
theorem LinePost.of {w w' : World} {o : Option Rl} {r : Bool} {K k f e t : Int} (ho : o = if r = true ∧ 0 ≤ K then Option.some (K, f, e, t) else Option.none) (hk : k = K) (rr : Bool) (hr : rr = (r && decide (0 ≤ K))) (h : Below w.heap.size w w') :
    LinePost w o (.returned (.tuple #[.agg #[.int .i64 k, .int .i64 f, .int .i64 e, .int .i64 t], .bool rr])) w' := by
  subst hk
  refine ⟨k, f, e, t, ?_, ?_, h⟩
  · rw [hr, ho]
    cases r
    · simp
    · by_cases h0 : 0 ≤ k <;> simp [h0]
  · intro y hy
    rw [ho] at hy
    split at hy
    · exact (Option.some.inj hy).symm
    · cases hy
end Go.Proofs.YtgbdhmdaefbglaaDoor

namespace Go.Proofs.YtgbdhmdaefbglaaDoor
open Go.RowKit

/-- what an iterator promises to a loop that keeps I, and whose body keeps what Kp says -/
def SeqIK {α : Type} (F : Fence) (n : Nat) (P : Program) (gf : Nat) (lb : Array Value) (encs : α → Array Value) (Kp : World → World → Prop) (Ow : Nat → World → World → Prop) (I : List α → World → Prop) (G : List α → α → Prop) (S : List α → Prop) (w : World) : Prop :=
  ∀ (l : Nat) (J Jx : List α → World → Prop) (W : World), Below w.heap.size w W → AbidesFrom W.heap.size J → (∀ s A B, J s A → Ow W.heap.size A B → J s B) → AbidesFrom W.heap.size Jx → (∀ pre W1, J pre W1 → I pre W1) →
    (∀ pre x W1, J pre W1 → G pre x → YieldAt F (n - 1) P l (encs x) W1 fun e W' => (e = .returned (.bool true) ∧ J (pre ++ [x]) W' ∧ Kp W1 W') ∨ (e = .returned (.bool false) ∧ Jx (pre ++ [x]) W')) →
    J [] W →
    CallsIn F n P gf (#[.func (.yield l) #[] #[]] ++ lb) W fun e W' => (∃ v, e = .returned v) ∧ ((∃ xs, S xs ∧ J xs W') ∨ (∃ pre, Jx pre W'))

/-- how a round may end -/
abbrev roundPostK {α : Type} (B : Nat) (Kp : World → World → Prop) (I : List α → World → Prop) (Ix : Code → List α → World → Prop) (xs : List α) (W : World) : Exit → Act → World → Prop := ownPostG B Kp I Ix xs W

theorem wpIn_iterK {α : Type} {F : Fence} {n : Nat} {P : Program} {g : Operand} {ps : Array Tmp} {assign body : Code} {Q : Exit → Act → World → Prop} {a : Act} {w : World}
    (hro : F.round = none) (h1 : 1 ≤ n) {gf : Nat} {lb : Array Value} (hg : a.eval g = .func (.func gf) #[] lb) (hFg : F.fn gf) (eg : ∀ args w, (callFunc gf args).run P w = .ok (.enter gf args) w)
    {encs : α → Array Value} {Kp : World → World → Prop} {Ow : Nat → World → World → Prop} {G : List α → α → Prop} {S : List α → Prop} (I : List α → World → Prop) (hseq : SeqIK F (n - 1) P gf lb encs Kp Ow I G S w)
    (hOn : ∀ {B : Nat} {X Y : World} {k : Nat} {o : Obj}, Ow B X Y → X.heap[k]? = some o → o.isCells = false → Y.heap[k]? = some o) (hOm : ∀ {B B' : Nat} {X Y : World}, B ≤ B' → Ow B' X Y → Ow B X Y) (hIo : ∀ s X Y, I s X → Ow w.heap.size X Y → I s Y)
    (hKt : ∀ {A B C : World}, Kp A B → Kp B C → Kp A C) (hKb : ∀ (W : World) (l : Nat) (o o' : Obj), w.heap.size ≤ l → W.heap[l]? = some o → o.isCells = false → Kp W (W.putObj l o'))
    (hps : ∀ x, (encs x).size = ps.size) (Ix : Code → List α → World → Prop) (hI : OwnFrom w.heap.size I) (hIx : ∀ c, OwnFrom w.heap.size (Ix c)) (h0 : I [] w) (Ax : α → Act → World → Prop) (hAx : ∀ x a', OwnFrom w.heap.size (fun (_ : Unit) W => Ax x a' W))
    (hassign : ∀ (l : Nat) (pre : List α) (x : α) (W : World) (K : Act → World → Prop), I pre W → G pre x → (∀ a' W', KeepsFrom w.heap.size W W' → Kp W W' → I pre W' → Ax x a' W' → K a' W') →
      assign.wpIn (F.inRound l) (n - 1 - 1) P (Exit.then K (fun _ _ _ => False)) { tmps := (ps.zip (encs x)).foldl (fun t (p, v) => t.setIfInBounds p v) a.tmps, defers := [] } W)
    (hbody : ∀ (l : Nat) (pre : List α) (x : α) (a' : Act) (W : World), w.heap.size ≤ l → I pre W → Ax x a' W → G pre x → body.wpIn (F.inRound l) (n - 1 - 1) P (roundPostK w.heap.size Kp I Ix (pre ++ [x]) W) a' W)
    (hdone : ∀ (D : Nat) (xs : List α) (W : World), w.heap.size ≤ D → S xs → I xs W → W.heap[D]? = some (.deferred (some [])) → Q .normal { a with defers := { target := .collected D, args := #[] } :: a.defers } W)
    (hstop : ∀ (D : Nat) (c : Code) (pre : List α) (W : World), w.heap.size ≤ D → Ix c pre W → W.heap[D]? = some (.deferred (some [])) → c.wpIn F n P Q { a with defers := { target := .collected D, args := #[] } :: a.defers } W) :
    (Code.rangeFunc g ps assign body).wpIn F n P Q a w := by
  refine wpIn_rangeFunc fun fn hfn => ?_
  rw [hro]
  obtain ⟨rec, hrec⟩ : ∃ rec : LoopState → Option Code → Loop, rec = fun st pe => { state := st, pending := pe, fn, tmps := a.tmps, params := ps, assign, body, defers := w.heap.size } := ⟨_, rfl⟩
  obtain ⟨W1, hW1⟩ : ∃ W1, (w.alloc (.deferred (some []))).alloc (.loop (rec .ready none)) = W1 := ⟨_, rfl⟩
  have hL1 : W1.heap[w.heap.size + 1]? = some (.loop (rec .ready none)) := by
    rw [← hW1]; have := World.alloc_heap_new (w.alloc (.deferred (some []))) (.loop (rec .ready none)); rwa [World.size_alloc] at this
  have hK1 : W1.heap[w.heap.size]? = some (.deferred (some [])) := by
    rw [← hW1]; exact (Below.heap_alloc _ _ _ (by simp)).trans (World.alloc_heap_new w _)
  have hI1 : I [] W1 := by rw [← hW1]; exact hI.alloc _ (hI.alloc _ h0)
  have hb1 : Below w.heap.size w W1 := by
    rw [← hW1]; exact ((Below.refl _ w).alloc (Nat.le_refl _) _).alloc (by simp) _
  have hs1 : w.heap.size ≤ W1.heap.size := hb1.size
  refine ⟨w.heap.size + 1, [{ target := .collected w.heap.size, args := #[] }], W1, { target := .fn (.func gf) lb, args := #[.func (.yield (w.heap.size + 1)) #[] #[]] }, W1, gf,
    #[.func (.yield (w.heap.size + 1)) #[] #[]] ++ lb, W1, ?_, ?_, ?_, ?_, fun _ => h1, ?_⟩
  · rw [← hW1, hrec]; exact run_enterLoop_outer _ _ _ _ _
  · simp only [resolve, hg]
    simp [go_sem]
  · intro f' hf'; simp [Target.leads] at hf'; subst hf'; exact hFg
  · simp [invoke, go_sem, eg]
  · have hnw : ∀ {A : World} {row : Option Nat}, (∀ r, row = some r → W1.heap.size ≤ r ∧ ∃ o : Obj, A.heap[r]? = some o ∧ o.isWalk = true) → (∀ r, row = some r → w.heap.size ≤ r ∧ ∃ o : Obj, A.heap[r]? = some o ∧ o.isCells = false) :=
      fun hr r e => by obtain ⟨hB, o, ho, hw⟩ := hr r e; exact ⟨Nat.le_trans hs1 hB, o, ho, Obj.not_cells_of_walk hw⟩
    refine (hseq (w.heap.size + 1)
      (fun pre W => I pre W ∧ W.heap[w.heap.size + 1]? = some (.loop (rec .ready none)) ∧ W.heap[w.heap.size]? = some (.deferred (some [])))
      (fun pre W => ∃ c, Ix c pre W ∧ W.heap[w.heap.size + 1]? = some (.loop (rec .done (some c))) ∧ W.heap[w.heap.size]? = some (.deferred (some [])))
      W1 hb1
      (fun s A B row hs hg' hr => ⟨hI s A B row hs.1 hg' (hnw hr), (grownBy_keeps hg' (fun r e => (hr r e).2) hs.2.1 rfl).trans hs.2.1, (grownBy_keeps hg' (fun r e => (hr r e).2) hs.2.2 rfl).trans hs.2.2⟩)
      (fun s A B hs ho => ⟨hIo s A B hs.1 (hOm hs1 ho), hOn ho hs.2.1 rfl, hOn ho hs.2.2 rfl⟩)
      (fun s A B row hs hg' hr => by
        obtain ⟨c, hc, hl, hk⟩ := hs
        exact ⟨c, hIx c s A B row hc hg' (hnw hr), (grownBy_keeps hg' (fun r e => (hr r e).2) hl rfl).trans hl, (grownBy_keeps hg' (fun r e => (hr r e).2) hk rfl).trans hk⟩)
      (fun _ _ h => h.1) ?_ ⟨hI1, hL1, hK1⟩).mono ?_
    · rintro pre x W ⟨hi, hl, hk⟩ hG
      have hy := run_yield (P := P) (args := encs x) hl (by rw [hrec]; exact hps x)
      rw [hrec] at hy
      refine ⟨fn, _, assign, body, hy, roundIn_of_wpIn hfn (hassign _ pre x W _ hi hG ?_)⟩
      clear hy
      intro a' Wa hkfa hkpa hia hax
      have hl := hkfa.same _ _ (Nat.le_succ _) hl rfl
      have hk := hkfa.same _ _ (Nat.le_refl _) hk rfl
      have hlt : w.heap.size + 1 < Wa.heap.size := (Array.getElem?_eq_some_iff.1 hl).1
      refine ⟨_, run_beginRound hl (by rw [hrec]), ?_⟩
      have hl2 : (Wa.putObj (w.heap.size + 1) (.loop { rec .ready none with state := .busy })).heap[w.heap.size + 1]? = some (.loop { rec .ready none with state := .busy }) := World.putObj_heap_same hlt
      have hk2 : (Wa.putObj (w.heap.size + 1) (.loop { rec .ready none with state := .busy })).heap[w.heap.size]? = some (.deferred (some [])) := (World.putObj_heap_other (by omega)).trans hk
      refine wpIn_mono (hbody _ pre x a' _ (Nat.le_succ _) (hI.putObj _ hia (Nat.le_succ _) hl rfl) ((hAx x a').putObj (s := ()) _ hax (Nat.le_succ _) hl rfl) hG) ?_
      have fin : ∀ (jump : Option Code) (W3 : World), KeepsFrom w.heap.size (Wa.putObj (w.heap.size + 1) (.loop { rec .ready none with state := .busy })) W3 →
          (Instr.endRound (w.heap.size + 1) jump).run P W3 = .ok (.bool jump.isNone) (W3.putObj (w.heap.size + 1) (.loop (rec (if jump.isNone then .ready else .done) jump))) ∧
          W3.heap[w.heap.size + 1]? = some (.loop { rec .ready none with state := .busy }) ∧
          (W3.putObj (w.heap.size + 1) (.loop (rec (if jump.isNone then .ready else .done) jump))).heap[w.heap.size + 1]? = some (.loop (rec (if jump.isNone then .ready else .done) jump)) ∧
          (W3.putObj (w.heap.size + 1) (.loop (rec (if jump.isNone then .ready else .done) jump))).heap[w.heap.size]? = some (.deferred (some [])) := fun jump W3 hk3 => by
        have hl3 := hk3.same _ _ (Nat.le_succ _) hl2 rfl
        have := run_endRound (P := P) jump hl3
        rw [hrec] at this ⊢
        exact ⟨this, by rw [hrec] at hl3; exact hl3, World.putObj_heap_same (Array.getElem?_eq_some_iff.1 hl3).1, (World.putObj_heap_other (by omega)).trans (hk3.same _ _ (Nat.le_refl _) hk2 rfl)⟩
      rintro e a3 W3 hp
      cases e with
      | normal =>
        obtain ⟨hk3, hkp3, hi3⟩ := hp
        obtain ⟨hr, hl3, hl4, hk4⟩ := fin none W3 hk3
        exact ⟨_, _, hr, .inl ⟨rfl, ⟨hI.putObj _ hi3 (Nat.le_succ _) hl3 rfl, hl4, hk4⟩, hKt hkpa (hKt (hKb _ _ _ _ (Nat.le_succ _) hl rfl) (hKt hkp3 (hKb _ _ _ _ (Nat.le_succ _) hl3 rfl)))⟩⟩
      | ret =>
        obtain ⟨hk3, hi3⟩ := hp
        obtain ⟨hr, hl3, hl4, hk4⟩ := fin (some .ret) W3 hk3
        exact ⟨_, _, hr, .inr ⟨rfl, .ret, (hIx _).putObj _ hi3 (Nat.le_succ _) hl3 rfl, hl4, hk4⟩⟩
      | exit id =>
        obtain ⟨hk3, hi3⟩ := hp
        obtain ⟨hr, hl3, hl4, hk4⟩ := fin (some (.exit id)) W3 hk3
        exact ⟨_, _, hr, .inr ⟨rfl, .exit id, (hIx _).putObj _ hi3 (Nat.le_succ _) hl3 rfl, hl4, hk4⟩⟩
      | goto t =>
        obtain ⟨hk3, hi3⟩ := hp
        obtain ⟨hr, hl3, hl4, hk4⟩ := fin (some (.goto t)) W3 hk3
        exact ⟨_, _, hr, .inr ⟨rfl, .goto t, (hIx _).putObj _ hi3 (Nat.le_succ _) hl3 rfl, hl4, hk4⟩⟩
      | panic ch => exact hp.elim
      | outgrown => exact hp.elim
    · rintro e W2 ⟨⟨v, rfl⟩, (⟨xs, hS, hi, hl, hk⟩ | ⟨pre, c, hi, hl, hk⟩)⟩
      · exact ⟨none, _, by have := run_endLoop (P := P) hl (by rw [hrec]; simp); rw [hrec] at this; exact this, hdone _ xs _ (Nat.le_refl _) hS (hI.putObj _ hi (Nat.le_succ _) hl rfl) ((World.putObj_heap_other (by omega)).trans hk)⟩
      · exact ⟨some c, _, by have := run_endLoop (P := P) hl (by rw [hrec]; simp); rw [hrec] at this; exact this, hstop _ c pre _ (Nat.le_refl _) ((hIx c).putObj _ hi (Nat.le_succ _) hl rfl) ((World.putObj_heap_other (by omega)).trans hk)⟩
/-- .. where the assignment lays a box of its own -/
theorem wpIn_iterK_box {α : Type} {F : Fence} {n : Nat} {P : Program} {g : Operand} {ps : Array Tmp} {assign body : Code} {Q : Exit → Act → World → Prop} {a : Act} {w : World}
    (hro : F.round = none) (h1 : 1 ≤ n) {gf : Nat} {lb : Array Value} (hg : a.eval g = .func (.func gf) #[] lb) (hFg : F.fn gf) (eg : ∀ args w, (callFunc gf args).run P w = .ok (.enter gf args) w)
    {encs : α → Array Value} {Kp : World → World → Prop} {Ow : Nat → World → World → Prop} {G : List α → α → Prop} {S : List α → Prop} (I : List α → World → Prop) (hseq : SeqIK F (n - 1) P gf lb encs Kp Ow I G S w)
    (hOn : ∀ {B : Nat} {X Y : World} {k : Nat} {o : Obj}, Ow B X Y → X.heap[k]? = some o → o.isCells = false → Y.heap[k]? = some o) (hOm : ∀ {B B' : Nat} {X Y : World}, B ≤ B' → Ow B' X Y → Ow B X Y) (hIo : ∀ s X Y, I s X → Ow w.heap.size X Y → I s Y)
    (hKt : ∀ {A B C : World}, Kp A B → Kp B C → Kp A C) (hKb : ∀ (W : World) (l : Nat) (o o' : Obj), w.heap.size ≤ l → W.heap[l]? = some o → o.isCells = false → Kp W (W.putObj l o'))
    (hps : ∀ x, (encs x).size = ps.size) (Ix : Code → List α → World → Prop) (hI : OwnFrom w.heap.size I) (hIx : ∀ c, OwnFrom w.heap.size (Ix c)) (h0 : I [] w) (A1 : Act → α → Nat → Act) (PB : α → Nat → World → Prop) (hPB : ∀ x Bx, OwnFrom w.heap.size (fun (_ : Unit) W => PB x Bx W))
    (hassign : ∀ (l : Nat) (pre : List α) (x : α) (W : World) (K : Act → World → Prop), I pre W → G pre x → (∀ Bx W', KeepsFrom w.heap.size W W' → Kp W W' → I pre W' → PB x Bx W' → K (A1 a x Bx) W') →
      assign.wpIn (F.inRound l) (n - 1 - 1) P (Exit.then K (fun _ _ _ => False)) { tmps := (ps.zip (encs x)).foldl (fun t (p, v) => t.setIfInBounds p v) a.tmps, defers := [] } W)
    (hbody : ∀ (l : Nat) (pre : List α) (x : α) (Bx : Nat) (W : World), w.heap.size ≤ l → I pre W → PB x Bx W → G pre x → body.wpIn (F.inRound l) (n - 1 - 1) P (roundPostK w.heap.size Kp I Ix (pre ++ [x]) W) (A1 a x Bx) W)
    (hdone : ∀ (D : Nat) (xs : List α) (W : World), w.heap.size ≤ D → S xs → I xs W → W.heap[D]? = some (.deferred (some [])) → Q .normal { a with defers := { target := .collected D, args := #[] } :: a.defers } W)
    (hstop : ∀ (D : Nat) (c : Code) (pre : List α) (W : World), w.heap.size ≤ D → Ix c pre W → W.heap[D]? = some (.deferred (some [])) → c.wpIn F n P Q { a with defers := { target := .collected D, args := #[] } :: a.defers } W) :
    (Code.rangeFunc g ps assign body).wpIn F n P Q a w :=
  wpIn_iterK hro h1 hg hFg eg I hseq hOn hOm hIo hKt hKb hps Ix hI hIx h0 (fun x a' W => ∃ Bx, a' = A1 a x Bx ∧ PB x Bx W) (fun x a' s X Y row hs hg' hr => by obtain ⟨Bx, h2, h3⟩ := hs; exact ⟨Bx, h2, hPB x Bx () X Y row h3 hg' hr⟩)
    (fun l pre x W K hi hG hK => hassign l pre x W K hi hG fun Bx W' h2 h3 h4 h5 => hK _ _ h2 h3 h4 ⟨Bx, rfl, h5⟩) (fun l pre x a' W hl hi ha hG => by obtain ⟨Bx, rfl, h5⟩ := ha; exact hbody l pre x Bx W hl hi h5 hG) hdone hstop
/-- the walk's continuation, written out: so that a proof may be cut there -/
theorem wp_then_mono {P : Program} {x y : Code} {K : Act → World → Prop} {Q : Exit → Act → World → Prop} {a : Act} {w : World} (hK : ∀ a w, y.wp P Q a w → K a w) (h : x.wp P (Exit.then (y.wp P Q) Q) a w) : x.wp P (Exit.then K Q) a w :=
  wp_mono h fun e a w hq => by
    cases e with
    | normal => exact hK _ _ hq
    | exit i => exact hq
    | goto i => exact hq
    | ret => exact hq
    | panic c => exact hq
    | outgrown => exact hq
end Go.Proofs.YtgbdhmdaefbglaaDoor

namespace Go.Proofs.YtgbdhmdaefbglaaDoor
open Go.RowKit Go.Sort Go.Joins Go.Shelf
attribute [local go_sem] cell_grow frozen_grow size_grow

/-- where the walk stands behind the rule's first form -/
structure LnAt (w W : World) (fs : List Fl) (b o z : Nat) (K F : Int) : Prop where
  k : Below w.heap.size w W
  r : RB W w.heap.size 0 0 0 0
  x : RB W z K F 0 1
  lz : w.heap.size < z
  bz : b ≠ z
  cs : ∀ j, j < fs.length → W.cell? ⟨b, o + 2 * j, none⟩ = some (.bool (fqB fs j)) ∧ ∃ S : ByteArray, W.cell? ⟨b, o + 2 * j + 1, none⟩ = some (.string S) ∧ S.data.toList = fqP fs j ∧ S.size ≤ 9223372036854775806
theorem fld_cells {w w' : World} {fs : List Fl} {b o : Nat} (h : ∀ j, j < fs.length → w.cell? ⟨b, o + 2 * j, none⟩ = some (.bool (fqB fs j)) ∧ ∃ S : ByteArray, w.cell? ⟨b, o + 2 * j + 1, none⟩ = some (.string S) ∧ S.data.toList = fqP fs j ∧ S.size ≤ 9223372036854775806) (hb : Below w.heap.size w w') :
    ∀ j, j < fs.length → w'.cell? ⟨b, o + 2 * j, none⟩ = some (.bool (fqB fs j)) ∧ ∃ S : ByteArray, w'.cell? ⟨b, o + 2 * j + 1, none⟩ = some (.string S) ∧ S.data.toList = fqP fs j ∧ S.size ≤ 9223372036854775806 := fun j hj => by
  obtain ⟨h1, S, h2, h3, h4⟩ := h j hj
  exact ⟨cell_later hb h1, S, cell_later hb h2, h3, h4⟩
theorem kname_arr {k : Nat} (h : k < 7) : (⟨(kname k).toArray⟩ : ByteArray).data.toList = kname k := by simp
/-- where the walk stands behind Split -/
structure LnS (w W : World) (fs : List Fl) (b o : Nat) : Prop where
  k : Below w.heap.size w W
  r : RB W w.heap.size 0 0 0 0
  cs : ∀ j, j < fs.length → W.cell? ⟨b, o + 2 * j, none⟩ = some (.bool (fqB fs j)) ∧ ∃ S : ByteArray, W.cell? ⟨b, o + 2 * j + 1, none⟩ = some (.string S) ∧ S.data.toList = fqP fs j ∧ S.size ≤ 9223372036854775806
/-- two continuations, written out -/
theorem wp_then_mono2 {P : Program} {x y z : Code} {K0 K1 : Act → World → Prop} {Q : Exit → Act → World → Prop} {a : Act} {w : World} (h0 : ∀ a w, y.wp P (Exit.then K1 Q) a w → K0 a w) (h1 : ∀ a w, z.wp P Q a w → K1 a w)
    (h : x.wp P (Exit.then (y.wp P (Exit.then (z.wp P Q) Q)) (Exit.then (z.wp P Q) Q)) a w) : x.wp P (Exit.then K0 (Exit.then K1 Q)) a w :=
  wp_mono h fun e a w hq => by
    cases e with
    | normal => exact h0 _ _ (wp_mono hq fun e a w hq => by
        cases e with
        | normal => exact h1 _ _ hq
        | exit i => exact hq
        | goto i => exact hq
        | ret => exact hq
        | panic c => exact hq
        | outgrown => exact hq)
    | exit i => exact hq
    | goto i => exact hq
    | ret => exact hq
    | panic c => exact hq
    | outgrown => exact hq
end Go.Proofs.YtgbdhmdaefbglaaDoor

namespace Go.Proofs.YtgbdhmdaefbglaaDoor
open Go.RowKit Go.Sort Go.Joins Go.Shelf
attribute [local go_sem] cell_grow frozen_grow size_grow

set_option maxRecDepth 100000 in
set_option maxHeartbeats 6400000 in
noncomputable def rln2A (s : ByteArray) (L : List UInt8) (w : World) (fs : List Fl) : { G : World → Nat → Nat → Nat → Nat → ByteArray → Value → Value → Value → Value → Value → Value → Value → Value → Value → Value → Value → Value → Value → Value → Prop //
    (∀ W b o c z S1 u38 u39 u40 u41 u42 u43 u44 u45 u46 u47 u48 u49 u50 u51, LnAt w W fs b o z (kkF fs) (numV (fqP fs 1)) → G W b o c z S1 u38 u39 u40 u41 u42 u43 u44 u45 u46 u47 u48 u49 u50 u51) → s.data.toList = L → s.size ≤ 4611686018427387904 → splE L = 0 → splR L = fs → fs.length = 2 → (∀ j, j < 2 → (fqP fs j).length ≤ 9223372036854775806) →
      Calls Tryd.prog 29 #[.string s] w (LinePost w (lnP L)) } := by
  apply Subtype.mk
  case property =>
    intro hG hL hs hE hfs hn hsz
    have b0 := below_box0 w (.cells #[.int .i64 0, .int .i64 0, .int .i64 0, .int .i64 0] 45)
    have HX0 : Hid (RB (w.alloc (.cells #[.int .i64 0, .int .i64 0, .int .i64 0, .int .i64 0] 45)) w.heap.size 0 0 0 0) := Lib.hid (heap_alloc_new w _)
    have HSP := Lib.hid (rsplit_ok s L hL hs (w.alloc (.cells #[.int .i64 0, .int .i64 0, .int .i64 0, .int .i64 0] 45)))
    have HB0 := Lib.hid b0
    rw [hE, hfs] at HSP
    have HG := Lib.hid hG
    have HSZ := Lib.hid hsz
    have HFN := Lib.hid hn
    obtain ⟨B0, hB0⟩ : ∃ x, fqB fs 0 = x := ⟨_, rfl⟩
    obtain ⟨P0, hP0⟩ : ∃ x, fqP fs 0 = x := ⟨_, rfl⟩
    have hkk := fun k (hk : k < 7) => @kk_step B0 P0 k hk
    have hk0 := kk_0 B0 P0
    have hK7 : kkI B0 P0 7 = kkF fs := by unfold kkF; rw [hB0, hP0]
    obtain ⟨kk, hkd⟩ : ∃ kk, kkI B0 P0 = kk := ⟨_, rfl⟩
    rw [hkd] at hkk hk0 hK7
    have HKK := Lib.hid hkk
    have HK7 := Lib.hid hK7
    have HP0 := Lib.hid (And.intro hB0 hP0)
    clear b0 hL hE hfs hG hsz hn hkk hkd hK7 hB0 hP0
    go_enter Tryd.func29, Tryd.ntmps29
    go_wp2_with fail
    refine HSP.out.mono ?_
    rintro e w1 ⟨fa, fc, rfl, hF, b1⟩
    have HX1 : Hid (RB w1 w.heap.size 0 0 0 0) := Lib.hid ((b1.block _ (blk_lt HX0.out)).trans HX0.out)
    have HB1 := Lib.hid (below_tr HB0.out b1)
    rw [HFN.out]
    obtain ⟨b, o, rfl, hcs⟩ := hF.at_ (j := 0) (by have := HFN.out; omega)
    have HCS := Lib.hid (fun j (hj : j < fs.length) => show w1.cell? ⟨b, o + 2 * j, none⟩ = some (.bool (fqB fs j)) ∧ ∃ S : ByteArray, w1.cell? ⟨b, o + 2 * j + 1, none⟩ = some (.string S) ∧ S.data.toList = fqP fs j ∧ S.size ≤ 9223372036854775806 by
      obtain ⟨h1, S, h2, h3⟩ := hcs j hj
      exact ⟨h1, S, h2, h3, by have := HSZ.out j (by have := HFN.out; omega); have := len_of h3; unfold fqP at *; omega⟩)
    have HS1 : Hid (LnS w w1 fs b o) := Lib.hid ⟨HB1.out, HX1.out, HCS.out⟩
    clear b1 HX0 HB0 HSP hF hcs HSZ HX1 HB1
    have d2 : (((2 : Nat) : Int) != 2) = false := rfl
    go_wp2_with fail
    go_loopw [6, 7] (fun kv iv wr => ∃ k : Nat, kv = .int .i64 (kk k) ∧ iv = .int .i64 (k : Int) ∧ k ≤ 7 ∧ Hid (Below w1.heap.size w1 wr)) (fun _ iv _ => 7 - (intOf iv).toNat)
    case atStart => exact ⟨0, by rw [hk0], rfl, Nat.zero_le _, Lib.hid (Below.refl _ _)⟩
    case round =>
      obtain ⟨k, rfl, rfl, hk, HBr⟩ := hrel
      by_cases hlt : k < 7
      · obtain ⟨d0, S0, d1, hS0, _⟩ := fld_cells HCS.out HBr.out 0 (by have := HFN.out; omega)
        have hnx := HKK.out k hlt
        rw [HP0.out.1] at d0
        rw [HP0.out.2] at hS0
        have c0 : wr.cell? ⟨b, o, none⟩ = some (.bool B0) := d0
        have c1 : wr.cell? ⟨b, o + 1, none⟩ = some (.string S0) := d1
        obtain ⟨T, hT⟩ : ∃ T : ByteArray, ⟨(kname k).toArray⟩ = T := ⟨_, rfl⟩
        have hTd : T.data.toList = kname k := by rw [← hT]
        have heq := eql_field B0 false S0 T
        rw [hS0, hTd] at heq
        obtain ⟨r, hr⟩ : ∃ r, (decide (B0 = false) && decide (P0 = kname k)) = r := ⟨_, rfl⟩
        rw [hr] at heq hnx
        have hgd := guardF
        have HNM := Lib.hid (fun (W : World) (bb : Nat) (h : W.heap[bb]? = some (.cells nmRow 9 (0, 0))) => show W.cell? ⟨bb, k, none⟩ = some (.string T) by rw [← hT]; exact nm_cell h hlt)
        have HNX := Lib.hid hnx
        have lb := World.block_lt_of_cell? _ _ c0
        clear hT hTd hS0 hr hnx d0 d1
        cases r
        all_goals
          go_wp2_with fail
          go_region_with (first
            | (go_at_call 22; refine (rnames_ok _).mono ?_; rintro e w3 ⟨nb, rfl, hnb, b3⟩; have kn := HNM.out w3 nb hnb; have e0 := cell_later b3 c0; have e1 := cell_later b3 c1; have ln := blk_lt hnb; have g3 := Lib.hid (below_tr HBr.out (below_tr (below_drew wr) b3))))
          all_goals
            go_wp2_with fail
            go_roundw
            case rel => exact ⟨k + 1, by rw [HNX.out]; simp, by go_num, by omega, g3⟩
            case measure => simp [intOf]; omega
      · obtain rfl : k = 7 := by omega
        obtain ⟨d0, S1, d1, hS1, hz1⟩ := fld_cells HCS.out HBr.out 1 (by have := HFN.out; omega)
        have hV := fun W => rvalue_ok (fqB fs 1) S1 _ hS1 hz1 W
        have HBw := Lib.hid (HS1.out.k.trans (HBr.out.mono HS1.out.k.size))
        have HXw := Lib.hid ((HBr.out.block _ (blk_lt HS1.out.r)).trans HS1.out.r)
        have HCw := Lib.hid (fld_cells HCS.out HBr.out)
        have c0 : wr.cell? ⟨b, o + 2, none⟩ = some (.bool (fqB fs 1)) := d0
        have c1 : wr.cell? ⟨b, o + 2 + 1, none⟩ = some (.string S1) := d1
        obtain ⟨B1, hB1⟩ : ∃ x, fqB fs 1 = x := ⟨_, rfl⟩
        rw [hB1] at c0 hV
        obtain ⟨V, hVd⟩ : ∃ x, numV (fqP fs 1) = x := ⟨_, rfl⟩
        obtain ⟨q, hq⟩ : ∃ x, vB B1 (fqP fs 1) = x := ⟨_, rfl⟩
        rw [hVd, hq] at hV
        have HV := Lib.hid hV
        have HQ := Lib.hid (And.intro hB1 (And.intro hVd hq))
        obtain ⟨K, hKd⟩ : ∃ x, kk 7 = x := ⟨_, rfl⟩
        rw [HK7.out] at hKd
        rw [HK7.out, hKd]
        have HKd := Lib.hid hKd
        clear hV hB1 hVd hq hS1 hz1 hKd HBr HCS HKK hk0 d0 d1
        go_wp2_with fail
        refine (HV.out _).mono ?_
        rintro e w2 ⟨rfl, b2⟩
        have HB2 := Lib.hid (below_tr HBw.out b2)
        have HX2 := Lib.hid ((b2.block _ (blk_lt HXw.out)).trans HXw.out)
        have HC2 := Lib.hid (fld_cells HCw.out b2)
        clear b2 c0 c1
        go_upto_region 12 with fail
        obtain ⟨hK, hQ⟩ := And.intro HKd.out HQ.out
        obtain ⟨h1, h2, h3⟩ := hQ
        subst hK h1 h2 h3
        have HXn := Lib.hid (heap_alloc_new w2 (.cells #[.int .i64 (kkF fs), .int .i64 (numV (fqP fs 1)), .int .i64 0, .int .i64 1] 45))
        have bn := below_box0 w2 (.cells #[.int .i64 (kkF fs), .int .i64 (numV (fqP fs 1)), .int .i64 0, .int .i64 1] 45)
        have HAT : Hid (LnAt w _ fs b o w2.heap.size (kkF fs) (numV (fqP fs 1))) := Lib.hid ⟨below_tr HB2.out bn, (bn.block _ (blk_lt HX2.out)).trans HX2.out, HXn.out, Nat.lt_of_le_of_lt (Nat.le_refl _) (blk_lt HX2.out), Nat.ne_of_lt (World.block_lt_of_cell? _ _ (HC2.out 0 (by have := HFN.out; omega)).1), fld_cells HC2.out bn⟩
        obtain ⟨W, hW⟩ : ∃ W, w2.alloc (.cells #[.int .i64 (kkF fs), .int .i64 (numV (fqP fs 1)), .int .i64 0, .int .i64 1] 45) = W := ⟨_, rfl⟩
        rw [hW] at HAT ⊢
        clear hW bn HXn
        obtain ⟨z, hz⟩ : ∃ z, w2.heap.size = z := ⟨_, rfl⟩
        rw [hz] at HAT ⊢
        clear hz
        refine wp_then_mono2 (by assumption) (by assumption) ?_
        try dsimp +zetaDelta only
        exact HG.out W b o fc z S1 u38 u39 u40 u41 u42 u43 u44 u45 u46 u47 u48 u49 u50 u51 HAT.out
end Go.Proofs.YtgbdhmdaefbglaaDoor

namespace Go.Proofs.YtgbdhmdaefbglaaDoor
open Go.RowKit Go.Sort Go.Joins Go.Shelf
attribute [local go_sem] cell_grow frozen_grow size_grow

set_option maxRecDepth 100000 in
set_option maxHeartbeats 12800000 in
theorem rln2T (s : ByteArray) (L : List UInt8) (w : World) (fs : List Fl) (hE : splE L = 0) (hfs : splR L = fs) (hn : fs.length = 2) (W : World) (b o c z : Nat) (S1 : ByteArray) (u38 u39 u40 u41 u42 u43 u44 u45 u46 u47 u48 u49 u50 u51 : Value)
    (hA : LnAt w W fs b o z (kkF fs) (numV (fqP fs 1))) : (rln2A s L w fs).1 W b o c z S1 u38 u39 u40 u41 u42 u43 u44 u45 u46 u47 u48 u49 u50 u51 := by
  have hO := ln_fields L
  rw [if_pos hE, hfs, ln2 hn] at hO
  have HN := Lib.hid hn
  have HZ := Lib.hid hA.lz
  have HR := Lib.hid hA.r
  have hX := hA.x
  have HB := Lib.hid hA.k
  have HC := Lib.hid hA.cs
  have HBZ := Lib.hid hA.bz
  unfold rln2A
  dsimp only
  obtain ⟨O, hOd⟩ : ∃ O, lnP L = O := ⟨_, rfl⟩
  rw [hOd] at hO ⊢
  obtain ⟨K, hK⟩ : ∃ K, kkF fs = K := ⟨_, rfl⟩
  obtain ⟨V, hV⟩ : ∃ V, numV (fqP fs 1) = V := ⟨_, rfl⟩
  obtain ⟨q, hq⟩ : ∃ q, vB (fqB fs 1) (fqP fs 1) = q := ⟨_, rfl⟩
  rw [hK, hV] at hX
  rw [hK, hV, hq] at hO ⊢
  have HX := Lib.hid hX
  have hgd := guardF
  have HO := Lib.hid hO
  clear hA hX hn hE hfs hO hOd hK hV hq hgd
  have x0 : W.cell? ⟨z, 0, none⟩ = some (.int .i64 K) := by rw [cell_of_block HX.out]; rfl
  have x1 : W.cell? ⟨z, 1, none⟩ = some (.int .i64 V) := by rw [cell_of_block HX.out]; rfl
  have x2 : W.cell? ⟨z, 2, none⟩ = some (.int .i64 0) := by rw [cell_of_block HX.out]; rfl
  have x3 : W.cell? ⟨z, 3, none⟩ = some (.int .i64 1) := by rw [cell_of_block HX.out]; rfl
  have r0 : W.cell? ⟨w.heap.size, 0, none⟩ = some (.int .i64 0) := by rw [cell_of_block HR.out]; rfl
  have r1 : W.cell? ⟨w.heap.size, 1, none⟩ = some (.int .i64 0) := by rw [cell_of_block HR.out]; rfl
  have r2 : W.cell? ⟨w.heap.size, 2, none⟩ = some (.int .i64 0) := by rw [cell_of_block HR.out]; rfl
  have r3 : W.cell? ⟨w.heap.size, 3, none⟩ = some (.int .i64 0) := by rw [cell_of_block HR.out]; rfl
  have rx := unfrozen_of_block HR.out
  have rl := blk_lt HR.out
  obtain ⟨z0, z1, z2, z3⟩ := put4c HR.out (.int .i64 K) (.int .i64 V) (.int .i64 0) (.int .i64 1)
  cases q
  · go_wp2
    exact bodyPost_ret (v := .tuple #[.agg #[.int .i64 K, .int .i64 V, .int .i64 0, .int .i64 1], .bool false]) (by simp [results, Tryd.results29, go_sem, z0, z1, z2, z3]) rfl (LinePost.of HO.out rfl _ (by simp) (below4 HB.out _ _ _ _))
  · by_cases h0 : 0 ≤ K
    · have d0 : decide (0 ≤ K) = true := decide_eq_true h0
      go_wp2
      exact bodyPost_ret (v := .tuple #[.agg #[.int .i64 K, .int .i64 V, .int .i64 0, .int .i64 1], .bool true]) (by simp [results, Tryd.results29, go_sem, z0, z1, z2, z3]) rfl (LinePost.of (r := true) (by have := HO.out; simpa using this) rfl _ (by rw [d0]; rfl) (below4 HB.out _ _ _ _))
    · have d0 : decide (0 ≤ K) = false := decide_eq_false h0
      go_wp2
      exact bodyPost_ret (v := .tuple #[.agg #[.int .i64 K, .int .i64 V, .int .i64 0, .int .i64 1], .bool false]) (by simp [results, Tryd.results29, go_sem, z0, z1, z2, z3]) rfl (LinePost.of (r := true) (by have := HO.out; simpa using this) rfl _ (by rw [d0]; rfl) (below4 HB.out _ _ _ _))
end Go.Proofs.YtgbdhmdaefbglaaDoor

namespace Go.Proofs.YtgbdhmdaefbglaaDoor
open Go.RowKit Go.Sort Go.Joins Go.Shelf
attribute [local go_sem] cell_grow frozen_grow size_grow

set_option maxRecDepth 100000 in
set_option maxHeartbeats 6400000 in
noncomputable def rln4A (s : ByteArray) (L : List UInt8) (w : World) (fs : List Fl) : { G : World → Nat → Nat → Nat → Nat → ByteArray → Value → Value → Value → Value → Value → Value → Value → Value → Value → Value → Value → Value → Value → Value → Prop //
    (∀ W b o c z S1 u38 u39 u40 u41 u42 u43 u44 u45 u46 u47 u48 u49 u50 u51, LnAt w W fs b o z (kkF fs) (numV (fqP fs 1)) → G W b o c z S1 u38 u39 u40 u41 u42 u43 u44 u45 u46 u47 u48 u49 u50 u51) → s.data.toList = L → s.size ≤ 4611686018427387904 → splE L = 0 → splR L = fs → fs.length = 4 → (∀ j, j < 4 → (fqP fs j).length ≤ 9223372036854775806) →
      Calls Tryd.prog 29 #[.string s] w (LinePost w (lnP L)) } := by
  apply Subtype.mk
  case property =>
    intro hG hL hs hE hfs hn hsz
    have b0 := below_box0 w (.cells #[.int .i64 0, .int .i64 0, .int .i64 0, .int .i64 0] 45)
    have HX0 : Hid (RB (w.alloc (.cells #[.int .i64 0, .int .i64 0, .int .i64 0, .int .i64 0] 45)) w.heap.size 0 0 0 0) := Lib.hid (heap_alloc_new w _)
    have HSP := Lib.hid (rsplit_ok s L hL hs (w.alloc (.cells #[.int .i64 0, .int .i64 0, .int .i64 0, .int .i64 0] 45)))
    have HB0 := Lib.hid b0
    rw [hE, hfs] at HSP
    have HG := Lib.hid hG
    have HSZ := Lib.hid hsz
    have HFN := Lib.hid hn
    obtain ⟨B0, hB0⟩ : ∃ x, fqB fs 0 = x := ⟨_, rfl⟩
    obtain ⟨P0, hP0⟩ : ∃ x, fqP fs 0 = x := ⟨_, rfl⟩
    have hkk := fun k (hk : k < 7) => @kk_step B0 P0 k hk
    have hk0 := kk_0 B0 P0
    have hK7 : kkI B0 P0 7 = kkF fs := by unfold kkF; rw [hB0, hP0]
    obtain ⟨kk, hkd⟩ : ∃ kk, kkI B0 P0 = kk := ⟨_, rfl⟩
    rw [hkd] at hkk hk0 hK7
    have HKK := Lib.hid hkk
    have HK7 := Lib.hid hK7
    have HP0 := Lib.hid (And.intro hB0 hP0)
    clear b0 hL hE hfs hG hsz hn hkk hkd hK7 hB0 hP0
    go_enter Tryd.func29, Tryd.ntmps29
    go_wp2_with fail
    refine HSP.out.mono ?_
    rintro e w1 ⟨fa, fc, rfl, hF, b1⟩
    have HX1 : Hid (RB w1 w.heap.size 0 0 0 0) := Lib.hid ((b1.block _ (blk_lt HX0.out)).trans HX0.out)
    have HB1 := Lib.hid (below_tr HB0.out b1)
    rw [HFN.out]
    obtain ⟨b, o, rfl, hcs⟩ := hF.at_ (j := 0) (by have := HFN.out; omega)
    have HCS := Lib.hid (fun j (hj : j < fs.length) => show w1.cell? ⟨b, o + 2 * j, none⟩ = some (.bool (fqB fs j)) ∧ ∃ S : ByteArray, w1.cell? ⟨b, o + 2 * j + 1, none⟩ = some (.string S) ∧ S.data.toList = fqP fs j ∧ S.size ≤ 9223372036854775806 by
      obtain ⟨h1, S, h2, h3⟩ := hcs j hj
      exact ⟨h1, S, h2, h3, by have := HSZ.out j (by have := HFN.out; omega); have := len_of h3; unfold fqP at *; omega⟩)
    have HS1 : Hid (LnS w w1 fs b o) := Lib.hid ⟨HB1.out, HX1.out, HCS.out⟩
    clear b1 HX0 HB0 HSP hF hcs HSZ HX1 HB1
    have d2 : (((4 : Nat) : Int) != 2) = true := rfl
    have d4 : (((4 : Nat) : Int) != 4) = false := rfl
    go_wp2_with fail
    go_loopw [6, 7] (fun kv iv wr => ∃ k : Nat, kv = .int .i64 (kk k) ∧ iv = .int .i64 (k : Int) ∧ k ≤ 7 ∧ Hid (Below w1.heap.size w1 wr)) (fun _ iv _ => 7 - (intOf iv).toNat)
    case atStart => exact ⟨0, by rw [hk0], rfl, Nat.zero_le _, Lib.hid (Below.refl _ _)⟩
    case round =>
      obtain ⟨k, rfl, rfl, hk, HBr⟩ := hrel
      by_cases hlt : k < 7
      · obtain ⟨d0, S0, d1, hS0, _⟩ := fld_cells HCS.out HBr.out 0 (by have := HFN.out; omega)
        have hnx := HKK.out k hlt
        rw [HP0.out.1] at d0
        rw [HP0.out.2] at hS0
        have c0 : wr.cell? ⟨b, o, none⟩ = some (.bool B0) := d0
        have c1 : wr.cell? ⟨b, o + 1, none⟩ = some (.string S0) := d1
        obtain ⟨T, hT⟩ : ∃ T : ByteArray, ⟨(kname k).toArray⟩ = T := ⟨_, rfl⟩
        have hTd : T.data.toList = kname k := by rw [← hT]
        have heq := eql_field B0 false S0 T
        rw [hS0, hTd] at heq
        obtain ⟨r, hr⟩ : ∃ r, (decide (B0 = false) && decide (P0 = kname k)) = r := ⟨_, rfl⟩
        rw [hr] at heq hnx
        have hgd := guardF
        have HNM := Lib.hid (fun (W : World) (bb : Nat) (h : W.heap[bb]? = some (.cells nmRow 9 (0, 0))) => show W.cell? ⟨bb, k, none⟩ = some (.string T) by rw [← hT]; exact nm_cell h hlt)
        have HNX := Lib.hid hnx
        have lb := World.block_lt_of_cell? _ _ c0
        clear hT hTd hS0 hr hnx d0 d1
        cases r
        all_goals
          go_wp2_with fail
          go_region_with (first
            | (go_at_call 22; refine (rnames_ok _).mono ?_; rintro e w3 ⟨nb, rfl, hnb, b3⟩; have kn := HNM.out w3 nb hnb; have e0 := cell_later b3 c0; have e1 := cell_later b3 c1; have ln := blk_lt hnb; have g3 := Lib.hid (below_tr HBr.out (below_tr (below_drew wr) b3))))
          all_goals
            go_wp2_with fail
            go_roundw
            case rel => exact ⟨k + 1, by rw [HNX.out]; simp, by go_num, by omega, g3⟩
            case measure => simp [intOf]; omega
      · obtain rfl : k = 7 := by omega
        obtain ⟨d0, S1, d1, hS1, hz1⟩ := fld_cells HCS.out HBr.out 1 (by have := HFN.out; omega)
        have hV := fun W => rvalue_ok (fqB fs 1) S1 _ hS1 hz1 W
        have HBw := Lib.hid (HS1.out.k.trans (HBr.out.mono HS1.out.k.size))
        have HXw := Lib.hid ((HBr.out.block _ (blk_lt HS1.out.r)).trans HS1.out.r)
        have HCw := Lib.hid (fld_cells HCS.out HBr.out)
        have c0 : wr.cell? ⟨b, o + 2, none⟩ = some (.bool (fqB fs 1)) := d0
        have c1 : wr.cell? ⟨b, o + 2 + 1, none⟩ = some (.string S1) := d1
        obtain ⟨B1, hB1⟩ : ∃ x, fqB fs 1 = x := ⟨_, rfl⟩
        rw [hB1] at c0 hV
        obtain ⟨V, hVd⟩ : ∃ x, numV (fqP fs 1) = x := ⟨_, rfl⟩
        obtain ⟨q, hq⟩ : ∃ x, vB B1 (fqP fs 1) = x := ⟨_, rfl⟩
        rw [hVd, hq] at hV
        have HV := Lib.hid hV
        have HQ := Lib.hid (And.intro hB1 (And.intro hVd hq))
        obtain ⟨K, hKd⟩ : ∃ x, kk 7 = x := ⟨_, rfl⟩
        rw [HK7.out] at hKd
        rw [HK7.out, hKd]
        have HKd := Lib.hid hKd
        clear hV hB1 hVd hq hS1 hz1 hKd HBr HCS HKK hk0 d0 d1
        go_wp2_with fail
        refine (HV.out _).mono ?_
        rintro e w2 ⟨rfl, b2⟩
        have HB2 := Lib.hid (below_tr HBw.out b2)
        have HX2 := Lib.hid ((b2.block _ (blk_lt HXw.out)).trans HXw.out)
        have HC2 := Lib.hid (fld_cells HCw.out b2)
        clear b2 c0 c1
        go_upto_region 12 with fail
        obtain ⟨hK, hQ⟩ := And.intro HKd.out HQ.out
        obtain ⟨h1, h2, h3⟩ := hQ
        subst hK h1 h2 h3
        have HXn := Lib.hid (heap_alloc_new w2 (.cells #[.int .i64 (kkF fs), .int .i64 (numV (fqP fs 1)), .int .i64 0, .int .i64 1] 45))
        have bn := below_box0 w2 (.cells #[.int .i64 (kkF fs), .int .i64 (numV (fqP fs 1)), .int .i64 0, .int .i64 1] 45)
        have HAT : Hid (LnAt w _ fs b o w2.heap.size (kkF fs) (numV (fqP fs 1))) := Lib.hid ⟨below_tr HB2.out bn, (bn.block _ (blk_lt HX2.out)).trans HX2.out, HXn.out, Nat.lt_of_le_of_lt (Nat.le_refl _) (blk_lt HX2.out), Nat.ne_of_lt (World.block_lt_of_cell? _ _ (HC2.out 0 (by have := HFN.out; omega)).1), fld_cells HC2.out bn⟩
        obtain ⟨W, hW⟩ : ∃ W, w2.alloc (.cells #[.int .i64 (kkF fs), .int .i64 (numV (fqP fs 1)), .int .i64 0, .int .i64 1] 45) = W := ⟨_, rfl⟩
        rw [hW] at HAT ⊢
        clear hW bn HXn
        obtain ⟨z, hz⟩ : ∃ z, w2.heap.size = z := ⟨_, rfl⟩
        rw [hz] at HAT ⊢
        clear hz
        refine wp_then_mono2 (by assumption) (by assumption) ?_
        try dsimp +zetaDelta only
        exact HG.out W b o fc z S1 u38 u39 u40 u41 u42 u43 u44 u45 u46 u47 u48 u49 u50 u51 HAT.out
end Go.Proofs.YtgbdhmdaefbglaaDoor
