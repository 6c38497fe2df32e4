/- Leaving a function in which ranges over functions stood in a loop: as many marks as there were ranges. No program. -/
import Derived.Test.YtgbdhmdaefbglaaDoorIter
namespace Go.Proofs.YtgbdhmdaefbglaaDoor
open Go.RowKit
/-- the marks that ranges over functions leave -/
def mks (ds : List Nat) : List Deferred := ds.map fun D => { target := .collected D, args := #[] }
theorem mks_cons (D : Nat) (ds : List Nat) : mks (D :: ds) = { target := .collected D, args := #[] } :: mks ds := rfl
/-- the blocks of the marks lie there -/
def MksAt (B : Nat) (ds : List Nat) (W : World) : Prop := ds.Nodup ∧ ∀ D ∈ ds, B ≤ D ∧ W.heap[D]? = some (.deferred (some []))
theorem MksAt.nil (B : Nat) (W : World) : MksAt B [] W := ⟨List.nodup_nil, fun _ h => by cases h⟩
theorem MksAt.cons {B D : Nat} {ds : List Nat} {W : World} (h : MksAt B ds W) (hD : B ≤ D) (hn : D ∉ ds) (hk : W.heap[D]? = some (.deferred (some []))) : MksAt B (D :: ds) W :=
  ⟨List.nodup_cons.2 ⟨hn, h.1⟩, fun E hE => by
    rcases List.mem_cons.1 hE with rfl | hE
    · exact ⟨hD, hk⟩
    · exact h.2 E hE⟩
theorem MksAt.keep {B : Nat} {ds : List Nat} {W W' : World} (h : MksAt B ds W) (hk : ∀ D ∈ ds, W.heap[D]? = some (.deferred (some [])) → W'.heap[D]? = some (.deferred (some []))) : MksAt B ds W' :=
  ⟨h.1, fun D hD => ⟨(h.2 D hD).1, hk D hD (h.2 D hD).2⟩⟩
theorem MksAt.below {B : Nat} {ds : List Nat} {W W' : World} (h : MksAt B ds W) (hb : Below W.heap.size W W') : MksAt B ds W' :=
  h.keep fun D hD hk => (hb.block _ (Array.getElem?_eq_some_iff.1 hk).1).trans hk
theorem MksAt.lt {B : Nat} {ds : List Nat} {W : World} (h : MksAt B ds W) {D : Nat} (hD : D ∈ ds) : D < W.heap.size := (Array.getElem?_eq_some_iff.1 (h.2 D hD).2).1
/-- all marks are taken, one by one; J is what is kept -/
theorem leaves_marks {F : Fence} {n : Nat} {P : Program} {fn : Func} {tmps : Array Value} {R : Ending → World → Prop} {B : Nat} (J : World → Prop)
    (hJ : ∀ W D, B ≤ D → W.heap[D]? = some (.deferred (some [])) → J W → J (W.putObj D (.deferred none)))
    (hend : ∀ W, J W → LeavesIn F n P fn tmps R [] .returning W) :
    ∀ (ds : List Nat) (W : World), MksAt B ds W → J W → LeavesInM F n P fn tmps R (mks ds) .returning W
  | [], W, _, h => hend W h
  | D :: ds, W, hM, h => by
    have hD := hM.2 D (by simp)
    refine ⟨by simp, .inl ⟨D, _, rfl, run_takeDeferred hD.2, ?_⟩⟩
    refine leaves_marks J hJ hend ds _ ?_ (hJ W D hD.1 hD.2 h)
    have hn := List.nodup_cons.1 hM.1
    refine ⟨hn.2, fun E hE => ⟨(hM.2 E (by simp [hE])).1, ?_⟩⟩
    have hne : D ≠ E := fun e => hn.1 (by rw [e]; exact hE)
    exact (World.putObj_heap_other (Ne.symm hne)).trans (hM.2 E (by simp [hE])).2
end Go.Proofs.YtgbdhmdaefbglaaDoor
