/- Refusals: states in memory; CheckState: program and reference; wide. -/
import Derived.Test.YtpjhedkloljpjaaDoorRRR5H
namespace Go.Proofs.YtpjhedkloljpjaaDoorRR
open Go.RowKit Go.Sort Go.Joins Go.Shelf
attribute [local go_sem] cell_grow frozen_grow size_grow
attribute [local go_sem ↓] Go.wp_at_zero Go.wp_at_succ

/-- the value of a state -/
abbrev sV (a : Option Addr) (n c : Nat) (C H : Nat → Int) : Value := .agg #[.slice a n c, .int .i64 (C 0), .int .i64 (C 1), .int .i64 (C 2), .int .i64 (C 3), .int .i64 (C 4), .int .i64 (C 5), .int .i64 (C 6), .int .i64 (H 0), .int .i64 (H 1), .int .i64 (H 2), .int .i64 (H 3), .int .i64 (H 4), .int .i64 (H 5), .int .i64 (H 6)]
abbrev sA (a : Option Addr) (n c : Nat) (C H : Nat → Int) : Array Value := #[.slice a n c, .int .i64 (C 0), .int .i64 (C 1), .int .i64 (C 2), .int .i64 (C 3), .int .i64 (C 4), .int .i64 (C 5), .int .i64 (C 6), .int .i64 (H 0), .int .i64 (H 1), .int .i64 (H 2), .int .i64 (H 3), .int .i64 (H 4), .int .i64 (H 5), .int .i64 (H 6)]
abbrev cV (C : Nat → Int) : Value := .agg #[.int .i64 (C 0), .int .i64 (C 1), .int .i64 (C 2), .int .i64 (C 3), .int .i64 (C 4), .int .i64 (C 5), .int .i64 (C 6)]
/-- one number of seven turned -/
def upd (C : Nat → Int) (k : Nat) (v : Int) (j : Nat) : Int := if j = k then v else C j
theorem upd_same (C : Nat → Int) (k : Nat) (v : Int) : upd C k v k = v := if_pos rfl
theorem upd_other (C : Nat → Int) {k j : Nat} (v : Int) (h : j ≠ k) : upd C k v j = C j := if_neg h
/-- a state in a box -/
structure StC (W : World) (B : Nat) (a : Option Addr) (n c : Nat) (C H : Nat → Int) : Prop where
  b : W.heap[B]? = some (.cells (sA a n c C H) 38 (0, 0))
section
variable {W W' : World} {B : Nat} {a a' : Option Addr} {n c n' c' : Nat} {C H : Nat → Int}
theorem StC.new (w : World) : StC (w.alloc (.cells (sA a n c C H) 38)) w.heap.size a n c C H := ⟨heap_alloc_new w _⟩
theorem StC.below (h : StC W B a n c C H) (hb : Below W.heap.size W W') : StC W' B a n c C H := ⟨(hb.block _ (blk_lt h.b)).trans h.b⟩
theorem StC.lt (h : StC W B a n c C H) : B < W.heap.size := blk_lt h.b
theorem StC.c0 (h : StC W B a n c C H) : W.cell? ⟨B, 0, none⟩ = some (.slice a n c) := by rw [cell_of_block h.b]; rfl
theorem StC.fz (h : StC W B a n c C H) (j : Nat) : W.frozen? ⟨B, j, none⟩ = false := unfrozen_of_block h.b j
theorem StC.cC (h : StC W B a n c C H) {k : Nat} (hk : k < 7) : W.cell? ⟨B, 1 + k, none⟩ = some (.int .i64 (C k)) := by
  rw [cell_of_block h.b]
  match k, hk with
  | 0, _ => rfl
  | 1, _ => rfl
  | 2, _ => rfl
  | 3, _ => rfl
  | 4, _ => rfl
  | 5, _ => rfl
  | 6, _ => rfl
theorem StC.cH (h : StC W B a n c C H) {k : Nat} (hk : k < 7) : W.cell? ⟨B, 8 + k, none⟩ = some (.int .i64 (H k)) := by
  rw [cell_of_block h.b]
  match k, hk with
  | 0, _ => rfl
  | 1, _ => rfl
  | 2, _ => rfl
  | 3, _ => rfl
  | 4, _ => rfl
  | 5, _ => rfl
  | 6, _ => rfl
theorem StC.setC (h : StC W B a n c C H) {k : Nat} (hk : k < 7) (v : Int) : StC (W.setCell ⟨B, 1 + k, none⟩ (.int .i64 v)) B a n c (upd C k v) H := by
  refine ⟨(setCell_block h.b _).trans ?_⟩
  match k, hk with
  | 0, _ => simp [upd, sA]
  | 1, _ => simp [upd, sA]
  | 2, _ => simp [upd, sA]
  | 3, _ => simp [upd, sA]
  | 4, _ => simp [upd, sA]
  | 5, _ => simp [upd, sA]
  | 6, _ => simp [upd, sA]
theorem StC.setH (h : StC W B a n c C H) {k : Nat} (hk : k < 7) (v : Int) : StC (W.setCell ⟨B, 8 + k, none⟩ (.int .i64 v)) B a n c C (upd H k v) := by
  refine ⟨(setCell_block h.b _).trans ?_⟩
  match k, hk with
  | 0, _ => simp [upd, sA]
  | 1, _ => simp [upd, sA]
  | 2, _ => simp [upd, sA]
  | 3, _ => simp [upd, sA]
  | 4, _ => simp [upd, sA]
  | 5, _ => simp [upd, sA]
  | 6, _ => simp [upd, sA]
theorem StC.cells (h : StC W B a n c C H) : W.cell? ⟨B, 0, none⟩ = some (.slice a n c) ∧ W.cell? ⟨B, 1, none⟩ = some (.int .i64 (C 0)) ∧ W.cell? ⟨B, 2, none⟩ = some (.int .i64 (C 1)) ∧ W.cell? ⟨B, 3, none⟩ = some (.int .i64 (C 2)) ∧ W.cell? ⟨B, 4, none⟩ = some (.int .i64 (C 3)) ∧ W.cell? ⟨B, 5, none⟩ = some (.int .i64 (C 4)) ∧ W.cell? ⟨B, 6, none⟩ = some (.int .i64 (C 5)) ∧ W.cell? ⟨B, 7, none⟩ = some (.int .i64 (C 6)) ∧ W.cell? ⟨B, 8, none⟩ = some (.int .i64 (H 0)) ∧ W.cell? ⟨B, 9, none⟩ = some (.int .i64 (H 1)) ∧ W.cell? ⟨B, 10, none⟩ = some (.int .i64 (H 2)) ∧ W.cell? ⟨B, 11, none⟩ = some (.int .i64 (H 3)) ∧ W.cell? ⟨B, 12, none⟩ = some (.int .i64 (H 4)) ∧ W.cell? ⟨B, 13, none⟩ = some (.int .i64 (H 5)) ∧ W.cell? ⟨B, 14, none⟩ = some (.int .i64 (H 6)) := by
  have hb := h.b
  refine ⟨?_, ?_, ?_, ?_, ?_, ?_, ?_, ?_, ?_, ?_, ?_, ?_, ?_, ?_, ?_⟩ <;> (rw [cell_of_block hb]; rfl)
theorem StC.store {D J : Nat → Int} (h : StC W B a n c C H) : StC (((((((((((((((W.setCell ⟨B, 0, none⟩ (.slice a' n' c')).setCell ⟨B, 1, none⟩ (.int .i64 (D 0))).setCell ⟨B, 2, none⟩ (.int .i64 (D 1))).setCell ⟨B, 3, none⟩ (.int .i64 (D 2))).setCell ⟨B, 4, none⟩ (.int .i64 (D 3))).setCell ⟨B, 5, none⟩ (.int .i64 (D 4))).setCell ⟨B, 6, none⟩ (.int .i64 (D 5))).setCell ⟨B, 7, none⟩ (.int .i64 (D 6))).setCell ⟨B, 8, none⟩ (.int .i64 (J 0))).setCell ⟨B, 9, none⟩ (.int .i64 (J 1))).setCell ⟨B, 10, none⟩ (.int .i64 (J 2))).setCell ⟨B, 11, none⟩ (.int .i64 (J 3))).setCell ⟨B, 12, none⟩ (.int .i64 (J 4))).setCell ⟨B, 13, none⟩ (.int .i64 (J 5))).setCell ⟨B, 14, none⟩ (.int .i64 (J 6))) B a' n' c' D J := by
  have h0 := h.b
  have h1 := setCell_block (i := 0) h0 (.slice a' n' c')
  have h2 := setCell_block (i := 1) h1 (.int .i64 (D 0))
  have h3 := setCell_block (i := 2) h2 (.int .i64 (D 1))
  have h4 := setCell_block (i := 3) h3 (.int .i64 (D 2))
  have h5 := setCell_block (i := 4) h4 (.int .i64 (D 3))
  have h6 := setCell_block (i := 5) h5 (.int .i64 (D 4))
  have h7 := setCell_block (i := 6) h6 (.int .i64 (D 5))
  have h8 := setCell_block (i := 7) h7 (.int .i64 (D 6))
  have h9 := setCell_block (i := 8) h8 (.int .i64 (J 0))
  have h10 := setCell_block (i := 9) h9 (.int .i64 (J 1))
  have h11 := setCell_block (i := 10) h10 (.int .i64 (J 2))
  have h12 := setCell_block (i := 11) h11 (.int .i64 (J 3))
  have h13 := setCell_block (i := 12) h12 (.int .i64 (J 4))
  have h14 := setCell_block (i := 13) h13 (.int .i64 (J 5))
  have h15 := setCell_block (i := 14) h14 (.int .i64 (J 6))
  refine ⟨h15.trans ?_⟩
  simp [sA]
theorem StC.other {B' : Nat} (h : StC W B a n c C H) (hne : B ≠ B') (j : Nat) (v : Value) : StC (W.setCell ⟨B', j, none⟩ v) B a n c C H := ⟨(Below.heap_setCell _ _ _ _ hne).trans h.b⟩
theorem StC.set0 (h : StC W B a n c C H) : StC (W.setCell ⟨B, 0, none⟩ (.slice a' n' c')) B a' n' c' C H := by
  refine ⟨(setCell_block h.b _).trans ?_⟩
  simp [sA]
end
theorem SlR.set_other {W : World} {a : Option Addr} {n B : Nat} {R : Nat → Rl} (h : SlR W a n R) (hne : ∀ g, a = some g → g.block ≠ B) (j : Nat) (v : Value) : SlR (W.setCell ⟨B, j, none⟩ v) a n R := by
  rcases h with h | ⟨b, o, ha, hc⟩
  · exact .inl h
  · refine .inr ⟨b, o, ha, fun i hi => ?_⟩
    have hb : b ≠ B := hne _ ha
    obtain ⟨h0, h1, h2, h3⟩ := hc i hi
    exact ⟨by rw [World.cell?_of_block (w := W) (Below.heap_setCell _ _ _ _ hb)]; exact h0, by rw [World.cell?_of_block (w := W) (Below.heap_setCell _ _ _ _ hb)]; exact h1, by rw [World.cell?_of_block (w := W) (Below.heap_setCell _ _ _ _ hb)]; exact h2, by rw [World.cell?_of_block (w := W) (Below.heap_setCell _ _ _ _ hb)]; exact h3⟩
theorem below15 {w W : World} {b B : Nat} (hb : Below b w W) (hB : b ≤ B) (v0 v1 v2 v3 v4 v5 v6 v7 v8 v9 v10 v11 v12 v13 v14 : Value) : Below b w (((((((((((((((W.setCell ⟨B, 0, none⟩ v0).setCell ⟨B, 1, none⟩ v1).setCell ⟨B, 2, none⟩ v2).setCell ⟨B, 3, none⟩ v3).setCell ⟨B, 4, none⟩ v4).setCell ⟨B, 5, none⟩ v5).setCell ⟨B, 6, none⟩ v6).setCell ⟨B, 7, none⟩ v7).setCell ⟨B, 8, none⟩ v8).setCell ⟨B, 9, none⟩ v9).setCell ⟨B, 10, none⟩ v10).setCell ⟨B, 11, none⟩ v11).setCell ⟨B, 12, none⟩ v12).setCell ⟨B, 13, none⟩ v13).setCell ⟨B, 14, none⟩ v14) := (((((((((((((((hb.setCell (p := ⟨B, 0, none⟩) hB _).setCell (p := ⟨B, 1, none⟩) hB _).setCell (p := ⟨B, 2, none⟩) hB _).setCell (p := ⟨B, 3, none⟩) hB _).setCell (p := ⟨B, 4, none⟩) hB _).setCell (p := ⟨B, 5, none⟩) hB _).setCell (p := ⟨B, 6, none⟩) hB _).setCell (p := ⟨B, 7, none⟩) hB _).setCell (p := ⟨B, 8, none⟩) hB _).setCell (p := ⟨B, 9, none⟩) hB _).setCell (p := ⟨B, 10, none⟩) hB _).setCell (p := ⟨B, 11, none⟩) hB _).setCell (p := ⟨B, 12, none⟩) hB _).setCell (p := ⟨B, 13, none⟩) hB _).setCell (p := ⟨B, 14, none⟩) hB _)
theorem slr15 {W : World} {a : Option Addr} {n B : Nat} {R : Nat → Rl} (h : SlR W a n R) (hne : ∀ g, a = some g → g.block ≠ B) (v0 v1 v2 v3 v4 v5 v6 v7 v8 v9 v10 v11 v12 v13 v14 : Value) : SlR (((((((((((((((W.setCell ⟨B, 0, none⟩ v0).setCell ⟨B, 1, none⟩ v1).setCell ⟨B, 2, none⟩ v2).setCell ⟨B, 3, none⟩ v3).setCell ⟨B, 4, none⟩ v4).setCell ⟨B, 5, none⟩ v5).setCell ⟨B, 6, none⟩ v6).setCell ⟨B, 7, none⟩ v7).setCell ⟨B, 8, none⟩ v8).setCell ⟨B, 9, none⟩ v9).setCell ⟨B, 10, none⟩ v10).setCell ⟨B, 11, none⟩ v11).setCell ⟨B, 12, none⟩ v12).setCell ⟨B, 13, none⟩ v13).setCell ⟨B, 14, none⟩ v14) a n R := (((((((((((((((h.set_other hne 0 _).set_other hne 1 _).set_other hne 2 _).set_other hne 3 _).set_other hne 4 _).set_other hne 5 _).set_other hne 6 _).set_other hne 7 _).set_other hne 8 _).set_other hne 9 _).set_other hne 10 _).set_other hne 11 _).set_other hne 12 _).set_other hne 13 _).set_other hne 14 _)
theorem ix7_0 (C : Nat → Int) (W : World) : (Instr.index 36 (cV C) (.int .i64 0)).run Tryd.prog W = .ok (.int .i64 (C 0)) W := by kernel_rfl
theorem ix7_1 (C : Nat → Int) (W : World) : (Instr.index 36 (cV C) (.int .i64 1)).run Tryd.prog W = .ok (.int .i64 (C 1)) W := by kernel_rfl
theorem ix7_2 (C : Nat → Int) (W : World) : (Instr.index 36 (cV C) (.int .i64 2)).run Tryd.prog W = .ok (.int .i64 (C 2)) W := by kernel_rfl
theorem ix7_3 (C : Nat → Int) (W : World) : (Instr.index 36 (cV C) (.int .i64 3)).run Tryd.prog W = .ok (.int .i64 (C 3)) W := by kernel_rfl
theorem ix7_4 (C : Nat → Int) (W : World) : (Instr.index 36 (cV C) (.int .i64 4)).run Tryd.prog W = .ok (.int .i64 (C 4)) W := by kernel_rfl
theorem ix7_5 (C : Nat → Int) (W : World) : (Instr.index 36 (cV C) (.int .i64 5)).run Tryd.prog W = .ok (.int .i64 (C 5)) W := by kernel_rfl
theorem ix7_6 (C : Nat → Int) (W : World) : (Instr.index 36 (cV C) (.int .i64 6)).run Tryd.prog W = .ok (.int .i64 (C 6)) W := by kernel_rfl
theorem ix7 (C : Nat → Int) {k : Nat} (hk : k < 7) (W : World) : (Instr.index 36 (cV C) (.int .i64 (k : Int))).run Tryd.prog W = .ok (.int .i64 (C k)) W := by
  have e : k = 0 ∨ k = 1 ∨ k = 2 ∨ k = 3 ∨ k = 4 ∨ k = 5 ∨ k = 6 := by omega
  rcases e with rfl | rfl | rfl | rfl | rfl | rfl | rfl
  · exact ix7_0 C W
  · exact ix7_1 C W
  · exact ix7_2 C W
  · exact ix7_3 C W
  · exact ix7_4 C W
  · exact ix7_5 C W
  · exact ix7_6 C W
/-- is a state right for a kind? -/
def okK (n : Nat) (R : Nat → Rl) (C H : Nat → Int) (k : Nat) : Bool := decide (0 ≤ C k) && decide (C k ≤ 1000000) && decide (((hitP n R (k : Int) (C k).toNat : Nat) : Int) = H k)
theorem okK_yes {n : Nat} {R : Nat → Rl} {C H : Nat → Int} {k : Nat} : okK n R C H k = true ↔ 0 ≤ C k ∧ C k ≤ 1000000 ∧ ((hitP n R (k : Int) (C k).toNat : Nat) : Int) = H k := by
  unfold okK
  simp [Bool.and_eq_true, and_assoc]
/-- the error of a state -/
def csE (n : Nat) (R : Nat → Rl) (C H : Nat → Int) : Int := if pE n R ≠ 0 then pE n R else if (List.range 7).all (okK n R C H) = true then 0 else 6
theorem cs_err {n : Nat} {R : Nat → Rl} {C H : Nat → Int} (h : pE n R ≠ 0) : pE n R = csE n R C H := (if_pos h).symm
theorem cs_bad {n : Nat} {R : Nat → Rl} {C H : Nat → Int} {k : Nat} (h : pE n R = 0) (hk : k < 7) (hb : okK n R C H k = false) : 6 = csE n R C H := by
  unfold csE
  rw [if_neg (by simpa using h), if_neg]
  rw [List.all_eq_true]
  intro hall
  rw [hall k (List.mem_range.2 hk)] at hb
  cases hb
theorem cs_good {n : Nat} {R : Nat → Rl} {C H : Nat → Int} (h : pE n R = 0) (hb : ∀ k, k < 7 → okK n R C H k = true) : 0 = csE n R C H := by
  unfold csE
  rw [if_neg (by simpa using h), if_pos]
  rw [List.all_eq_true]
  exact fun k hk => hb k (List.mem_range.1 hk)
theorem csE_zero {n : Nat} {R : Nat → Rl} {C H : Nat → Int} (h : csE n R C H = 0) : pE n R = 0 ∧ ∀ k, k < 7 → 0 ≤ C k ∧ C k ≤ 1000000 ∧ ((hitP n R (k : Int) (C k).toNat : Nat) : Int) = H k := by
  unfold csE at h
  by_cases h0 : pE n R = 0
  · rw [if_neg (by simpa using h0)] at h
    by_cases h1 : (List.range 7).all (okK n R C H) = true
    · exact ⟨h0, fun k hk => okK_yes.1 (List.all_eq_true.1 h1 k (List.mem_range.2 hk))⟩
    · rw [if_neg h1] at h; cases h
  · rw [if_pos h0] at h; exact absurd h h0
section
variable {w : World} {a : Option Addr} {n c : Nat} {R : Nat → Rl} {C H : Nat → Int}
set_option maxRecDepth 100000 in
set_option maxHeartbeats 3200000 in
theorem chkst_ok (hS : SlR w a n R) (hn : n ≤ 9223372036854775807) :
    Calls Tryd.prog 22 #[sV a n c C H] w fun e w' => e = .returned (.int .i64 (csE n R C H)) ∧ Below w.heap.size w w' := by
  have b0 := below_box0 w (.cells (sA a n c C H) 38)
  have HS := Lib.hid (hS.below b0)
  have HC := Lib.hid (rfchk_ok (c := c) HS.out hn)
  have HB := Lib.hid b0
  have hnew := StC.new (a := a) (n := n) (c := c) (C := C) (H := H) w
  have HN := Lib.hid hnew
  clear b0 hS hnew
  obtain ⟨p, hp⟩ : ∃ p, pE n R = p := ⟨_, rfl⟩
  rw [hp] at HC
  by_cases hp0 : p = 0
  · subst hp0
    have HR := Lib.hid (pE_zero hp).2
    have hn50 := (pE_zero hp).1
    have HP := Lib.hid hp
    clear hp
    go_enter Tryd.func22, Tryd.ntmps22
    go_wp2_with fail
    refine HC.out.mono ?_
    rintro e w1 ⟨rfl, b1⟩
    obtain ⟨⟨dd, os⟩, rfl⟩ := regrown_of_below b1
    have HB1 := Lib.hid (below_tr HB.out b1)
    have HN1 := Lib.hid (HN.out.below b1)
    have HS1 := Lib.hid (HS.out.below b1)
    clear b1
    go_wp2
    obtain ⟨V, hV⟩ : ∃ V, grow (redrawn (w.alloc (.cells (sA a n c C H) 38)) dd) os = V := ⟨_, rfl⟩
    rw [hV] at HB1 HN1 HS1 ⊢
    clear hV
    go_loopw [18] (fun i wr => ∃ k : Nat, i = .int .i64 k ∧ k ≤ 7 ∧ Hid (∀ j, j < k → okK n R C H j = true) ∧ Hid (Below V.heap.size V wr)) (fun i _ => 7 - (intOf i).toNat)
    case atStart => exact ⟨0, rfl, by omega, Lib.hid (fun j hj => by omega), Lib.hid (Below.refl _ _)⟩
    case round =>
      obtain ⟨k, rfl, hk, HA, HBr⟩ := hrel
      have HBw := Lib.hid (HB1.out.trans (HBr.out.mono HB1.out.size))
      by_cases hlt : k < 7
      · have dl : decide (k < 7) = true := by simpa using hlt
        have dl2 : decide ((k : Int) < 7) = true := by simp; omega
        have hix := ix7 C hlt
        have HNr := Lib.hid (HN1.out.below HBr.out)
        have HSr := Lib.hid (HS1.out.below HBr.out)
        have hli : (k : Int) < 7 := by omega
        have hk0 : (0 : Int) ≤ (k : Int) := by omega
        have hok := okK_yes (n := n) (R := R) (C := C) (H := H) (k := k)
        have HOK := Lib.hid hok
        clear hok
        obtain ⟨x, hx⟩ : ∃ x, C k = x := ⟨_, rfl⟩
        obtain ⟨y, hy⟩ : ∃ y, H k = y := ⟨_, rfl⟩
        rw [hx] at hix HOK
        rw [hy] at HOK
        have hcH := HNr.out.cH hlt
        rw [hy] at hcH
        have hc0 := HNr.out.c0
        have HBad := Lib.hid (fun hb : okK n R C H k = false => cs_bad HP.out hlt hb)
        clear hx hy
        by_cases h1 : x < 0
        · have e1 : decide (x < 0) = true := by simpa using h1
          have HF := Lib.hid (HBad.out (by rw [Bool.eq_false_iff]; intro h; have := (HOK.out.1 h).1; omega))
          go_wp2_with fail
          go_quiet (fail)
          all_goals
            go_wp2
            go_ret
            exact ⟨ret_i64 HF.out, HBw.out.trans ((below_draw _ _).mono HBw.out.size)⟩
        · have e1 : decide (x < 0) = false := by simpa using h1
          by_cases h2 : 1000000 < x
          · have e2 : decide (1000000 < x) = true := by simpa using h2
            have HF := Lib.hid (HBad.out (by rw [Bool.eq_false_iff]; intro h; have := (HOK.out.1 h).2.1; omega))
            go_wp2_with fail
            go_quiet (fail)
            all_goals
              go_wp2
              go_ret
              exact ⟨ret_i64 HF.out, HBw.out.trans ((below_draw _ _).mono HBw.out.size)⟩
          · have e2 : decide (1000000 < x) = false := by simpa using h2
            obtain ⟨xn, rfl⟩ := Int.eq_ofNat_of_zero_le (show 0 ≤ x by omega)
            rw [Int.toNat_natCast] at HOK
            have HCh := Lib.hid (fun W' (h : Below wr.heap.size wr W') => hits_ok (c := c) (HSr.out.below h) hn50 HR.out (k : Int) xn (by omega))
            obtain ⟨z, hz⟩ : ∃ z : Nat, hitP n R (k : Int) xn = z := ⟨_, rfl⟩
            rw [hz] at HOK HCh
            clear hz
            have HK2 : Hid (∀ w', Below wr.heap.size wr w' → w'.cell? ⟨w.heap.size, 0, none⟩ = some (.slice a n c) ∧ w'.cell? ⟨w.heap.size, 8 + k, none⟩ = some (.int .i64 y)) := Lib.hid (fun w' h => ⟨cell_later h hc0, cell_later h hcH⟩)
            by_cases h3 : (z : Int) = y
            · have e3 : ((z : Int) != y) = false := by simpa using h3
              have HG : Hid (okK n R C H k = true) := Lib.hid (HOK.out.2 ⟨by omega, by omega, h3⟩)
              clear h3
              go_wp2_with fail
              go_region_held3 (fun w' => Below wr.heap.size wr w' ∧ w'.cell? ⟨w.heap.size, 0, none⟩ = some (.slice a n c) ∧ w'.cell? ⟨w.heap.size, 8 + k, none⟩ = some (.int .i64 y))
                ((refine keepN HK2 ?_; first | exact (Below.refl _ _).drew | exact And.left (by assumption) | exact bel_call (by assumption) (by assumption)))
                ((go_at_call 39; (refine (HCh.out _ (And.left (by assumption))).mono ?_); rintro e w2 ⟨rfl, b2⟩; have g2 := Lib.hid (bel_call (by assumption) b2)))
              all_goals
                go_wp2
                go_roundw
                · exact ⟨k + 1, by go_num, by omega, Lib.hid (fun j hj => by
                    by_cases ej : j = k
                    · rw [ej]; exact HG.out
                    · exact HA.out j (by omega)), Lib.hid (HBr.out.trans (g2.out.mono HBr.out.size))⟩
                · simp [intOf]; omega
            · have e3 : ((z : Int) != y) = true := by simpa using h3
              have HF := Lib.hid (HBad.out (by rw [Bool.eq_false_iff]; intro h; exact h3 (HOK.out.1 h).2.2))
              clear h3
              go_wp2_with fail
              go_region_held3 (fun w' => Below wr.heap.size wr w' ∧ w'.cell? ⟨w.heap.size, 0, none⟩ = some (.slice a n c) ∧ w'.cell? ⟨w.heap.size, 8 + k, none⟩ = some (.int .i64 y))
                ((refine keepN HK2 ?_; first | exact (Below.refl _ _).drew | exact And.left (by assumption) | exact bel_call (by assumption) (by assumption)))
                ((go_at_call 39; (refine (HCh.out _ (And.left (by assumption))).mono ?_); rintro e w2 ⟨rfl, b2⟩; have g2 := Lib.hid (bel_call (by assumption) b2)))
              all_goals
                go_wp2
                go_ret
                exact ⟨ret_i64 HF.out, HBw.out.trans (g2.out.mono HBw.out.size)⟩
      · obtain rfl : k = 7 := by omega
        go_wp2
        go_ret
        exact ⟨ret_i64 (cs_good HP.out HA.out), HBw.out⟩
  · have d1 := bne0_true hp0
    have HE := Lib.hid (cs_err (C := C) (H := H) (show pE n R ≠ 0 by rw [hp]; exact hp0))
    rw [hp] at HE
    clear hp hp0
    go_enter Tryd.func22, Tryd.ntmps22
    go_wp2_with fail
    refine HC.out.mono ?_
    rintro e w1 ⟨rfl, b1⟩
    have HB1 := Lib.hid (below_tr HB.out b1)
    clear b1
    go_wp2
    go_ret
    exact ⟨ret_i64 HE.out, HB1.out⟩
end
end Go.Proofs.YtpjhedkloljpjaaDoorRR
