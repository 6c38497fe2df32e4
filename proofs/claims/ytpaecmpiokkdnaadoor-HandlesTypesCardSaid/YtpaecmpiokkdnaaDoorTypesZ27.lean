/- Handles: HandlesPlays: what its walk uses. -/
import Derived.Test.YtpaecmpiokkdnaaDoorTypesZ24
import Derived.Test.YtpaecmpiokkdnaaDoorTypesZ25
import Derived.Test.YtpaecmpiokkdnaaDoorTypesZ26
namespace Go.Proofs.YtpaecmpiokkdnaaDoor
open Go.RowKit Go.Sort Go.Joins Go.Shelf
attribute [local go_sem] cell_grow frozen_grow size_grow

/-- a box of a state is stored anew -/
theorem set3 {W : World} {B p q n S : Nat} {st su : List Slt} {a0 a1 a2 : Option Addr} {k0 k1 k2 : Nat} {u0 u1 u2 : Value} (ht : Int.TT W B p q st) (ho : OS W n su a0 k0 a1 k1 a2 k2) (hT : Tab W) (hb : W.heap[S]? = some (.cells #[u0, u1, u2] 35 (0, 0))) (hp : p ≠ S) (hq : q ≠ S) (hs : 0 ≠ S) (x y z : Value) :
    Int.TT (((W.setCell ⟨S, 0, none⟩ x).setCell ⟨S, 1, none⟩ y).setCell ⟨S, 2, none⟩ z) B p q st ∧ OS (((W.setCell ⟨S, 0, none⟩ x).setCell ⟨S, 1, none⟩ y).setCell ⟨S, 2, none⟩ z) n su a0 k0 a1 k1 a2 k2 ∧
      Tab (((W.setCell ⟨S, 0, none⟩ x).setCell ⟨S, 1, none⟩ y).setCell ⟨S, 2, none⟩ z) ∧ (((W.setCell ⟨S, 0, none⟩ x).setCell ⟨S, 1, none⟩ y).setCell ⟨S, 2, none⟩ z).heap[S]? = some (.cells #[x, y, z] 35 (0, 0)) := by
  have hb1 : (W.setCell ⟨S, 0, none⟩ x).heap[S]? = some (.cells #[x, u1, u2] 35 (0, 0)) := by rw [setCell_block hb]; rfl
  have hb2 : ((W.setCell ⟨S, 0, none⟩ x).setCell ⟨S, 1, none⟩ y).heap[S]? = some (.cells #[x, y, u2] 35 (0, 0)) := by rw [setCell_block hb1]; rfl
  have keep : ∀ {bs : Nat} {e : TypeId} {v : Value} {m : Nat} {xs : List Value}, W.ownsRow bs e 1 v m xs → e ≠ 35 → (((W.setCell ⟨S, 0, none⟩ x).setCell ⟨S, 1, none⟩ y).setCell ⟨S, 2, none⟩ z).ownsRow bs e 1 v m xs := fun ho hne =>
    ownsRow_setCell_other (ownsRow_setCell_other (ownsRow_setCell_other ho (a := ⟨S, 0, none⟩) (own_ne ho hb hne) _) (a := ⟨S, 1, none⟩) (own_ne ho hb hne) _) (a := ⟨S, 2, none⟩) (own_ne ho hb hne) _
  exact ⟨Tb.set_other (Tb.set_other (Tb.set_other ht hb (by decide) hp hq _) hb1 (by decide) hp hq _) hb2 (by decide) hp hq _, ⟨keep ho.o0 (by decide), keep ho.o1 (by decide), keep ho.o2 (by decide), ho.n02⟩, ((hT.blk hs _).blk hs _).blk hs _, by rw [setCell_block hb2]; rfl⟩
theorem os_set3 {W : World} {n S : Nat} {su : List Slt} {a0 a1 a2 : Option Addr} {k0 k1 k2 : Nat} {u0 u1 u2 : Value} (ho : OS W n su a0 k0 a1 k1 a2 k2) (hb : W.heap[S]? = some (.cells #[u0, u1, u2] 35 (0, 0))) (x y z : Value) : OS (((W.setCell ⟨S, 0, none⟩ x).setCell ⟨S, 1, none⟩ y).setCell ⟨S, 2, none⟩ z) n su a0 k0 a1 k1 a2 k2 := by
  have keep : ∀ {bs : Nat} {e : TypeId} {v : Value} {m : Nat} {xs : List Value}, W.ownsRow bs e 1 v m xs → e ≠ 35 → (((W.setCell ⟨S, 0, none⟩ x).setCell ⟨S, 1, none⟩ y).setCell ⟨S, 2, none⟩ z).ownsRow bs e 1 v m xs := fun ho hne =>
    ownsRow_setCell_other (ownsRow_setCell_other (ownsRow_setCell_other ho (a := ⟨S, 0, none⟩) (own_ne ho hb hne) _) (a := ⟨S, 1, none⟩) (own_ne ho hb hne) _) (a := ⟨S, 2, none⟩) (own_ne ho hb hne) _
  exact ⟨keep ho.o0 (by decide), keep ho.o1 (by decide), keep ho.o2 (by decide), ho.n02⟩
/-- New, whatever it answers -/
theorem pnew_any (N : Int) (w : World) : Calls Tryd.prog 13 #[.int .i64 N] w fun e w' => ∃ pv ev, e = .returned (.tuple #[.pointer pv, .int .i64 ev]) ∧ Below w.heap.size w w' := by
  by_cases h : N < 1 ∨ 1024 < N
  · refine (Int.new_bad N w h).mono ?_
    rintro e w' ⟨rfl, rfl⟩
    exact ⟨_, _, rfl, Below.refl _ _⟩
  · obtain ⟨k, rfl⟩ := Int.eq_ofNat_of_zero_le (show 0 ≤ N by omega)
    refine (Int.tnew_ok k w (by omega) (by omega)).mono ?_
    rintro e w' ⟨rfl, _, hb⟩
    exact ⟨_, _, rfl, hb⟩
theorem prnew_any (N : Int) (w : World) : Calls Tryd.prog 46 #[.int .i64 N] w fun e w' => ∃ x0 y0 z0 x1 y1 z1 x2 y2 z2 ev, e = .returned (.tuple #[.agg #[.slice x0 y0 z0, .slice x1 y1 z1, .slice x2 y2 z2], .int .i64 ev]) ∧ Below w.heap.size w w' := by
  by_cases h : N < 1 ∨ 1024 < N
  · refine (rnew_err N w h).mono ?_
    rintro e w' ⟨rfl, hb⟩
    exact ⟨_, _, _, _, _, _, _, _, _, _, rfl, hb⟩
  · obtain ⟨k, rfl⟩ := Int.eq_ofNat_of_zero_le (show 0 ≤ N by omega)
    refine (rnew_ok k w (by omega) (by omega)).mono ?_
    rintro e w' ⟨x, rfl, hr, hb⟩
    obtain ⟨_, a0, k0, a1, k1, a2, k2, rfl, _⟩ := hr
    exact ⟨_, _, _, _, _, _, _, _, _, _, rfl, hb⟩
theorem field0 (w : World) : (Instr.field 35 (.agg #[.slice none 0 0, .slice none 0 0, .slice none 0 0]) 0).run Tryd.prog w = .ok (.slice none 0 0) w := by kernel_rfl
theorem PS.new (n : Nat) : PS n (List.replicate n (0, false, .int .i64 0)) := by
  have hg : ∀ j, j < (List.replicate n ((0, false, .int .i64 0) : Slt)).length → (List.replicate n ((0, false, .int .i64 0) : Slt)).getD j (0, false, undef) = (0, false, .int .i64 0) := fun j hj => by
    rw [List.length_replicate] at hj
    simp [List.getD_eq_getElem?_getD, hj]
  refine ⟨List.length_replicate, fun j hj => by rw [hg j hj]; exact Nat.zero_le _, fun j hj h => ?_, fun j hj => ⟨0, ?_⟩, fun j hj _ => ?_⟩
  · rw [hg j hj] at h; cases h
  · unfold sAt; rw [hg j hj]
  · unfold sAt; rw [hg j hj]
theorem PS.load {n : Nat} {G : Nat → Int} {A : Nat → Bool} {V : Nat → Int} (hb : ∀ j, j < n → badS G A j = false) : PS n (stP n G A (zI V) (.int .i64 0) n) := by
  have hg : ∀ j, j < (stP n G A (zI V) (.int .i64 0) n).length → (stP n G A (zI V) (.int .i64 0) n).getD j (0, false, undef) = ((G j).toNat, A j, if A j then .int .i64 (V j) else .int .i64 0) ∧ j < n := fun j hj => by
    rw [stP_length] at hj
    exact ⟨by rw [stP_get hj, if_pos hj], hj⟩
  refine ⟨stP_length, fun j hj => ?_, fun j hj h => ?_, fun j hj => ?_, fun j hj h => ?_⟩
  · obtain ⟨e, hn⟩ := hg j hj
    obtain ⟨b1, b2, b3⟩ := badS_ok (hb j hn)
    rw [e]; dsimp only; omega
  · obtain ⟨e, hn⟩ := hg j hj
    obtain ⟨b1, b2, b3⟩ := badS_ok (hb j hn)
    rw [e] at h ⊢
    have := b3 h
    dsimp only; omega
  · obtain ⟨e, hn⟩ := hg j hj
    unfold sAt; rw [e]
    cases A j
    · exact ⟨0, rfl⟩
    · exact ⟨V j, rfl⟩
  · obtain ⟨e, hn⟩ := hg j hj
    unfold sAt at h ⊢; rw [e] at h ⊢
    dsimp only at h ⊢
    rw [h]; rfl
theorem pall (W : World) {n : Nat} {st : List Slt} {a0 a1 a2 : Option Addr} {k0 k1 k2 : Nat} (hp : PS n st) (ho : OS W n st a0 k0 a1 k1 a2 k2) (hn : n ≤ 1024) :
    Calls Tryd.prog 50 #[.agg #[.slice a0 n k0, .slice a1 n k1, .slice a2 n k2]] W fun e w' => ∃ a k, e = .returned (.slice a (alvL st st.length).length k) ∧ SlF w' a (alvL st st.length).length (zI fun j => hndI st ((alvL st st.length).getD j 0)) ∧ Below W.heap.size W w' := by
  obtain rfl := hp.len
  refine (rall_ok W (ho.ra rfl) hn hp.gb).mono ?_
  rintro e w' ⟨a, k, rfl, ho', hb⟩
  exact ⟨a, k, rfl, SlF.of_own ho' (fun j hj => by simp [hndL, List.getElem?_map, List.getElem?_eq_getElem hj]), hb⟩
theorem SlCB.of {w W : World} {a : Option Addr} {n : Nat} {C : Nat → Cll} (h : SlC w a n C) (hb : Below w.heap.size w W) : SlCB W w.heap.size a n C := by
  rcases h with h | ⟨b, o, ha, hc⟩
  · exact .inl h
  · by_cases hn : n = 0
    · exact .inl hn
    · have hl := World.block_lt_of_cell? _ _ (hc 0 (by omega)).1
      dsimp only at hl
      refine .inr ⟨b, o, ha, hl, fun j hj => ?_⟩
      obtain ⟨h0, h1, h2, h3⟩ := hc j hj
      exact ⟨(hb.cell (p := ⟨b, o + j * 4, none⟩) hl).trans h0, (hb.cell (p := ⟨b, o + j * 4 + 1, none⟩) hl).trans h1, (hb.cell (p := ⟨b, o + j * 4 + 2, none⟩) hl).trans h2, (hb.cell (p := ⟨b, o + j * 4 + 3, none⟩) hl).trans h3⟩
end Go.Proofs.YtpaecmpiokkdnaaDoor
