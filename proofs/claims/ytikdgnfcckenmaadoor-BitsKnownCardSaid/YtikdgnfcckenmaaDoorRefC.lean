/- The reference for bits: Of. -/
import Derived.Test.YtikdgnfcckenmaaDoorRefB
import Derived.RegionTactic
import Derived.BigRegion
namespace Go.Proofs.YtikdgnfcckenmaaDoor
open Go.RowKit Go.Sort Go.Joins
attribute [local go_sem] cell_grow frozen_grow size_grow

/-- A slice of bools. -/
def SlB (w : World) (a : Option Addr) (len : Nat) (p : Nat → Bool) : Prop := len = 0 ∨ ∃ b off, a = some ⟨b, off, none⟩ ∧ ∀ j, j < len → w.cell? ⟨b, off + j, none⟩ = some (.bool (p j))
theorem SlB.below {w w' : World} {a : Option Addr} {len : Nat} {p : Nat → Bool} (h : SlB w a len p) (hb : Below w.heap.size w w') : SlB w' a len p := by
  rcases h with h0 | ⟨b, off, ha, hc⟩
  · exact .inl h0
  · refine .inr ⟨b, off, ha, fun j hj => ?_⟩
    have := hc j hj
    rw [hb.cell (p := ⟨b, off + j, none⟩) (World.block_lt_of_cell? _ _ this)]; exact this
theorem SlB.of_own {w : World} {base len n cap : Nat} {e : TypeId} {a : Option Addr} {p : Nat → Bool} (h : w.ownsRow base e 1 (.slice a len cap) n (bls p n)) : SlB w a n p := by
  by_cases h0 : n = 0
  · exact .inl h0
  · obtain ⟨g, cap', hv⟩ := ownsRow_form h (by omega)
    cases hv
    exact .inr ⟨g, 0, rfl, fun j hj => by rw [Nat.zero_add]; exact own_bool h j hj⟩

/-- where Of stands: the result's box, the bits' box, the words so far -/
structure OfAt (w : World) (n k : Nat) (b : Option Addr) (c : Nat) (ws : List Nat) (wr : World) : Prop where
  own : wr.ownsRow (w.heap.size + 1 + 1) 58 1 (.slice b k c) k (u64s ws)
  r0 : wr.cell? ⟨w.heap.size, 0, none⟩ = some (.int .i64 0)
  r1 : wr.cell? ⟨w.heap.size, 1, none⟩ = some (.slice none 0 0)
  b0 : wr.cell? ⟨w.heap.size + 1, 0, none⟩ = some (.int .i64 n)
  b1 : wr.cell? ⟨w.heap.size + 1, 1, none⟩ = some (.slice b k c)
  f0 : wr.frozen? ⟨w.heap.size, 0, none⟩ = false
  f1 : wr.frozen? ⟨w.heap.size, 1, none⟩ = false
  g1 : wr.frozen? ⟨w.heap.size + 1, 1, none⟩ = false
  z : w.heap.size + 1 < wr.heap.size
  k : Below w.heap.size w wr
theorem OfAt.ne {w wr : World} {n k : Nat} {b : Option Addr} {c : Nat} {ws : List Nat} (h : OfAt w n k b c ws wr) {x : Nat} (hx : x ≤ w.heap.size + 1) : (some x : Option Nat) ≠ (Value.slice b k c).ownBlock := fun e => by
  have := (h.own.lt _ e.symm).1; omega
theorem OfAt.grown {w wr w1 : World} {n k : Nat} {b : Option Addr} {c : Nat} {ws : List Nat} (h : OfAt w n k b c ws wr) (o : Obj) (hg : (wr.alloc o).grownBy w1 (Value.slice b k c).ownBlock) :
    w1.cell? ⟨w.heap.size, 0, none⟩ = some (.int .i64 0) ∧ w1.cell? ⟨w.heap.size, 1, none⟩ = some (.slice none 0 0) ∧ w1.cell? ⟨w.heap.size + 1, 0, none⟩ = some (.int .i64 n) ∧ w1.cell? ⟨w.heap.size + 1, 1, none⟩ = some (.slice b k c) ∧
    w1.frozen? ⟨w.heap.size, 0, none⟩ = false ∧ w1.frozen? ⟨w.heap.size, 1, none⟩ = false ∧ w1.frozen? ⟨w.heap.size + 1, 1, none⟩ = false ∧ w.heap.size + 1 < w1.heap.size ∧ Below w.heap.size w w1 := by
  have n0 := h.ne (x := w.heap.size) (by omega)
  have n1 := h.ne (x := w.heap.size + 1) (by omega)
  have hz := h.z
  have F : ∀ x j, x ≤ w.heap.size + 1 → wr.frozen? ⟨x, j, none⟩ = false → w1.frozen? ⟨x, j, none⟩ = false := fun x j hx hf => by
    rw [World.frozen?_of_block (hg.block x (by simp; omega) (h.ne hx)), World.frozen?_of_block (w := wr) (Below.heap_alloc _ _ _ (by dsimp only; omega))]
    exact hf
  refine ⟨hg.cell (cellA h.r0 _) n0, hg.cell (cellA h.r1 _) n0, hg.cell (cellA h.b0 _) n1, hg.cell (cellA h.b1 _) n1, F _ _ (by omega) h.f0, F _ _ (by omega) h.f1, F _ _ (by omega) h.g1, by have := hg.size; simp at this; omega, ?_⟩
  exact (h.k.alloc h.k.size o).grown hg (by simp; omega) (by intro r hr; have := (h.own.lt r hr).1; omega)
theorem OfAt.stored {w wr : World} {n k g : Nat} {c : Nat} {ws ws' : List Nat} (h : OfAt w n k (some ⟨g, 0, none⟩) c ws wr) {i v : Nat} (hs : ws.set i v = ws') :
    OfAt w n k (some ⟨g, 0, none⟩) c ws' (wr.setCell ⟨g, i, none⟩ (.int .u64 (v : Nat))).drew := by
  have hS := (h.own.stored i (.int .u64 (v : Int))).1
  rw [u64s_set, hs] at hS
  have hg : wr.grownBy (wr.setCell ⟨g, i, none⟩ (.int .u64 (v : Nat))) (some g) := gb_setCell (World.grownBy.refl _ _) i _
  have hne : ∀ x, x ≤ w.heap.size + 1 → (some x : Option Nat) ≠ some g := fun x hx e => h.ne hx (by simpa [Value.ownBlock] using e)
  have hz := h.z
  have F : ∀ x j, x ≤ w.heap.size + 1 → wr.frozen? ⟨x, j, none⟩ = false → (wr.setCell ⟨g, i, none⟩ (.int .u64 (v : Nat))).frozen? ⟨x, j, none⟩ = false := fun x j hx hf => by
    rw [World.frozen?_of_block (hg.block x (by omega) (hne x hx))]; exact hf
  exact ⟨hS.drew, hg.cell h.r0 (hne _ (by simp)), hg.cell h.r1 (hne _ (by simp)), hg.cell h.b0 (hne _ (by simp)), hg.cell h.b1 (hne _ (by simp)), F _ _ (by omega) h.f0, F _ _ (by omega) h.f1, F _ _ (by omega) h.g1,
    by have := hg.size; exact Nat.lt_of_lt_of_le h.z this, (h.k.grown hg (by omega) (by intro r hr; cases hr; have := (h.own.lt g rfl).1; omega)).drew⟩

set_option maxRecDepth 100000 in
set_option maxHeartbeats 3200000 in
theorem rOf_ok (n : Nat) (p : Nat → Bool) (a : Option Addr) (cap : Nat) (w : World) (hs : SlB w a n p) (hn : n ≤ 4096) :
    Calls Tryd.prog 67 #[.slice a n cap] w fun e w' => ∃ a' cap', e = .returned (.agg #[.int .i64 n, .slice a' ((n + 63) / 64) cap']) ∧ w'.ownsRow w.heap.size 58 1 (.slice a' ((n + 63) / 64) cap') ((n + 63) / 64) (u64s (pack (fun i => p i && decide (i < n)) ((n + 63) / 64))) ∧ Below w.heap.size w w' := by
  obtain ⟨i0, hi, hz0, hz1, hz2⟩ := info_parts info_u64
  obtain ⟨L, hL⟩ : ∃ L, (n + 63) / 64 = L := ⟨_, rfl⟩
  have hLi : ((n : Int) + 63) / 64 = (L : Int) := by omega
  have hL4 : L ≤ 64 := by omega
  rw [hL]
  have HL := Lib.hid hL
  have HS := Lib.hid hs
  clear hL hs
  go_enter Tryd.func67, Tryd.ntmps67
  go_wp2
  go_loopw [4] (fun i wr => ∃ k : Nat, i = .int .i64 k ∧ k ≤ L ∧ ∃ b c, Hid (OfAt w n k b c (pack (fun _ => false) k) wr)) (fun i _ => L - (intOf i).toNat)
  case atStart => exact ⟨0, rfl, Nat.zero_le _, none, 0, Lib.hid ⟨World.ownsRow_nil _ _ _ _, by simp [go_sem], by simp [go_sem], by simp [go_sem], by simp [go_sem], by simp [go_sem], by simp [go_sem], by simp [go_sem], by simp, below_alloc2 _ _ _⟩⟩
  case round =>
    obtain ⟨k, rfl, hk, b, c, HO⟩ := hrel
    have c1 := HO.out.b1
    by_cases hlt : k < L
    · have hlti : (k : Int) < (L : Int) := by omega
      go_wp2_with (first
        | (go_at_call 54; refine (rwords_ok _ _ (by omega) (by omega)).mono ?_; rintro e w1 ⟨rfl, rfl⟩; rw [hLi])
        | (at_builtin; refine wpList_append_own _ rfl (.tmp 17) (.tmp 18) 22 rfl (w.heap.size + 1 + 1) 58 i0 (.int .u64 0) 1 8 Tryd.underlying22 hi hz0 hz1 hz2 rfl (by decide) _ _ _ rfl (HO.out.own.alloc _) ⟨wr.heap.size, 0, none⟩ 1 1 [.int .u64 0] rfl rfl ?c1 ?c2 ?c3 ?c4 ?c5 ?_))
      case c1 => intro j u hu; cases j <;> simp at hu; subst hu; simp [go_sem]
      case c2 => intro u hu; simp at hu; subst hu; rfl
      case c3 => unfold maxLen; omega
      case c4 => omega
      case c5 => have := HO.out.z; simp; omega
      intro v' w1 hown1 hg _
      obtain ⟨b', c', rfl⟩ := own_slice hown1
      rw [zeros_pack] at hown1
      obtain ⟨q0, q1, q2, q3, q4, q5, q6, q7, q8⟩ := HO.out.grown _ hg
      have HW := Lib.hid hown1
      have Q0 := Lib.hid q0
      have Q1 := Lib.hid q1
      have Q2 := Lib.hid q2
      have Q8 := Lib.hid q8
      have hne : (Value.slice b' (k + 1) c').ownBlock ≠ some (w.heap.size + 1) := fun e => by have := (hown1.lt _ e).1; omega
      have HNE := Lib.hid hne
      clear hg hown1 q0 q1 q2 q8 hne c1
      go_wp2
      go_roundw
      case rel =>
        refine ⟨k + 1, by go_num, by omega, b', c', Lib.hid ⟨ownsRow_setCell_other HW.out HNE.out _, ?_, ?_, ?_, ?_, ?_, ?_, ?_, ?_, ?_⟩⟩
        · simp [go_sem, Q0.out]
        · simp [go_sem, Q1.out]
        · simp [go_sem, Q2.out]
        · simp [go_sem, q3]
        · simp [go_sem, q4]
        · simp [go_sem, q5]
        · simp [go_sem, q6]
        · simpa [World.setCell] using q7
        · exact Q8.out.setCell (p := ⟨w.heap.size + 1, 1, none⟩) (by simp) _
      case measure => simp [intOf]; omega
    · have hkL : k = L := by omega
      subst hkL
      have hlti : decide ((k : Int) < (k : Int)) = false := by simp
      go_wp2_with (go_at_call 54; refine (rwords_ok _ _ (by omega) (by omega)).mono ?_; rintro e w1 ⟨rfl, rfl⟩; rw [hLi])
      go_loopw [5] (fun i wr => ∃ j : Nat, i = .int .i64 j ∧ j ≤ n ∧ Hid (OfAt w n k b c (pack (fun i => p i && decide (i < j)) k) wr)) (fun i _ => n - (intOf i).toNat)
      case atStart => exact ⟨0, rfl, Nat.zero_le _, by simpa using HO⟩
      case round =>
        obtain ⟨j, rfl, hj, HO⟩ := hrel
        by_cases hlt : j < n
        · have hlti : (j : Int) < (n : Int) := by omega
          obtain ⟨lb, loff, rfl, hlc⟩ := (HS.out.below HO.out.k).resolve_left (by omega)
          have hck := hlc j hlt
          have hjL : j < 64 * k := by have := HL.out; omega
          clear hlc
          by_cases hp : p j = true
          · have hst := Lib.hid (pack_step p k j hjL hp)
            have hX := getD_lt (pack_lt (fun i => p i && decide (i < j)) k) (by decide) (j / 64)
            have hO := HO.out
            obtain ⟨g, cap', hv⟩ := ownsRow_form hO.own (by omega)
            cases hv
            have hcell := own_u64 hO.own (pack_length _ _) (j / 64) (by omega)
            have hfz := hO.own.frozenAt (j / 64)
            obtain ⟨X, hXd⟩ : ∃ X, (pack (fun i => p i && decide (i < j)) k).getD (j / 64) 0 = X := ⟨_, rfl⟩
            rw [hXd] at hcell hX
            have hor := or_bit X j hX
            have c1 := hO.b1
            have HXD := Lib.hid hXd
            have HO2 := Lib.hid hO
            have i0' : (0 : Int) ≤ (j : Int) / 64 := by omega
            have i1' : (j : Int) / 64 < (k : Int) := by omega
            rw [hp] at hck
            clear hp hXd hO
            go_wp2
            go_region
            go_wp2
            go_roundw
            case rel => exact ⟨j + 1, by go_num, by omega, Lib.hid (HO2.out.stored (by rw [← hst.out, HXD.out]))⟩
            case measure => simp [intOf]; omega
          · have hpf : p j = false := by simpa using hp
            have hst := Lib.hid (pack_skip p k j hpf)
            rw [hpf] at hck
            clear hp hpf
            go_wp2
            go_roundw
            case rel => exact ⟨j + 1, by go_num, by omega, by rw [← hst.out]; exact HO⟩
            case measure => simp [intOf]; omega
        · have hjn : j = n := by omega
          subst hjn
          have r0 := HO.out.r0
          have r1 := HO.out.r1
          have b0 := HO.out.b0
          have b1 := HO.out.b1
          have f0 := HO.out.f0
          have f1 := HO.out.f1
          go_wp2
          refine bodyPost_ret (v := .agg #[.int .i64 j, .slice b k c]) (by simp [results, Tryd.results67, go_sem, r0, r1]) rfl ?_
          have hob : ∀ i, (Value.slice b k c).ownBlock ≠ some (⟨w.heap.size, i, none⟩ : Addr).block := fun i e => HO.out.ne (x := w.heap.size) (by omega) e.symm
          exact ⟨b, c, rfl, ownsRow_le (ownsRow_setCell_other (ownsRow_setCell_other HO.out.own (hob 0) _) (hob 1) _) (by omega), (HO.out.k.setCell (p := ⟨w.heap.size, 0, none⟩) (Nat.le_refl _) _).setCell (p := ⟨w.heap.size, 1, none⟩) (Nat.le_refl _) _⟩
end Go.Proofs.YtikdgnfcckenmaaDoor
