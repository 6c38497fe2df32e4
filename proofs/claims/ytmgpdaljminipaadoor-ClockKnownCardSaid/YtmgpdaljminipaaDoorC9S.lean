/- Clocks: stamps: Old; the reference's Set, Age and Old. -/
import Derived.Test.YtmgpdaljminipaaDoorC9L
import Derived.Test.YtmgpdaljminipaaDoorSlZ
import Derived.Laws.OwnMore
import Derived.Deep.RegionHeld3
import Derived.Deep.DrawnRows
import Derived.BigGuard
namespace Go.Proofs.YtmgpdaljminipaaDoor
open Go.RowKit Go.Sort Go.Joins Go.Shelf
attribute [local go_sem] cell_grow frozen_grow size_grow
attribute [local go_sem ↓] Go.wp_at_zero Go.wp_at_succ

/-- a stamp that is no stamp of the clock -/
def badJ (x : Int) (U : Nat → Int) (j : Nat) : Bool := decide (U j < 0) || decide (x < U j)
def anyB (n : Nat) (x : Int) (U : Nat → Int) : Bool := (List.range n).any (badJ x U)
theorem anyB_no {n : Nat} {x : Int} {U : Nat → Int} (h : ∀ j, j < n → badJ x U j = false) : anyB n x U = false := by
  unfold anyB
  rw [List.any_eq_false]
  intro j hj
  rw [h j (List.mem_range.1 hj)]; simp
theorem anyB_yes {n j : Nat} {x : Int} {U : Nat → Int} (hj : j < n) (h : badJ x U j = true) : anyB n x U = true := by
  unfold anyB
  rw [List.any_eq_true]
  exact ⟨j, List.mem_range.2 hj, h⟩
theorem badJ_no {x : Int} {U : Nat → Int} {j : Nat} : badJ x U j = false ↔ 0 ≤ U j ∧ U j ≤ x := by
  unfold badJ
  rw [Bool.or_eq_false_iff, decide_eq_false_iff_not, decide_eq_false_iff_not]
  omega
theorem anyB_all {n : Nat} {x : Int} {U : Nat → Int} (h : anyB n x U = false) {j : Nat} (hj : j < n) : 0 ≤ U j ∧ U j ≤ x := by
  rw [← badJ_no]
  cases hb : badJ x U j with
  | false => rfl
  | true => rw [anyB_yes hj hb] at h; cases h
/-- what Old answers -/
def oldE (n : Nat) (U : Nat → Int) (x t : Int) : Int := if tmB x = false then 2 else if 1000 < n then 3 else if tmB t = false then 7 else if anyB n x U = true then 7 else 0
def oldL (U : Nat → Int) (x t : Int) : Nat → List Int
  | 0 => []
  | m + 1 => if U m ≤ x - t then oldL U x t m ++ [(m : Int)] else oldL U x t m
def oldR (n : Nat) (U : Nat → Int) (x t : Int) : List Int := if oldE n U x t = 0 then oldL U x t n else []
theorem oldL_len (U : Nat → Int) (x t : Int) : ∀ m, (oldL U x t m).length ≤ m
  | 0 => Nat.le_refl _
  | m + 1 => by
    have := oldL_len U x t m
    simp only [oldL]
    split
    · simp; omega
    · omega
theorem old_ways (n : Nat) (U : Nat → Int) (x t : Int) :
    (tmB x = false ∧ oldE n U x t = 2) ∨ (tmB x = true ∧ decide ((1000 : Int) < (n : Int)) = true ∧ oldE n U x t = 3) ∨
    (tmB x = true ∧ decide ((1000 : Int) < (n : Int)) = false ∧ tmB t = false ∧ oldE n U x t = 7) ∨
    (tmB x = true ∧ decide ((1000 : Int) < (n : Int)) = false ∧ tmB t = true ∧ anyB n x U = true ∧ oldE n U x t = 7) ∨
    (tmB x = true ∧ decide ((1000 : Int) < (n : Int)) = false ∧ tmB t = true ∧ anyB n x U = false ∧ oldE n U x t = 0 ∧ n ≤ 1000) := by
  unfold oldE
  cases e1 : tmB x
  · exact .inl ⟨rfl, if_pos rfl⟩
  · by_cases e2 : 1000 < n
    · exact .inr (.inl ⟨rfl, by simp; omega, by simp [e2]⟩)
    · have d2 : decide ((1000 : Int) < (n : Int)) = false := by simp; omega
      cases e3 : tmB t
      · exact .inr (.inr (.inl ⟨rfl, d2, rfl, by simp [e2]⟩))
      · cases e4 : anyB n x U
        · exact .inr (.inr (.inr (.inr ⟨rfl, d2, rfl, rfl, by simp [e2], by omega⟩)))
        · exact .inr (.inr (.inr (.inl ⟨rfl, d2, rfl, rfl, by simp [e2]⟩)))
/-- ints as cells -/
def inc (L : List Int) : List Value := L.map fun z => .int .i64 z
theorem info_int : (Tryd.prog.info? 3).map (fun i => (i.zero, i.size, i.bytes)) = some (some (.int .i64 0), 1, 8) := by kernel_rfl
theorem slz_own {w : World} {base len cap : Nat} {e : TypeId} {a : Option Addr} {L : List Int} (h : w.ownsRow base e 1 (.slice a len cap) L.length (inc L)) : SlZ .i64 w a L.length (fun j => L.getD j 0) := by
  by_cases h0 : L.length = 0
  · exact .inl h0
  · obtain ⟨g, cap', hv⟩ := ownsRow_form h (by omega)
    cases hv
    refine .inr ⟨g, 0, rfl, fun j hj => ?_⟩
    have c0 := h.cellAt j (by omega)
    rw [Nat.zero_add, c0]
    unfold inc
    simp [List.getD, hj]
/-- what a call of Old leaves -/
def OldPost (w : World) (n : Nat) (U : Nat → Int) (x t : Int) (e : Ending) (w' : World) : Prop :=
  ∃ (a : Option Addr) (c : Nat) (L : List Int), e = .returned (.tuple #[.slice a L.length c, .int .i64 (oldE n U x t)]) ∧ Hid (L = oldR n U x t) ∧ SlZ .i64 w' a L.length (fun j => L.getD j 0) ∧ Below w.heap.size w w'
theorem oldR_bad {n : Nat} {U : Nat → Int} {x t : Int} (h : oldE n U x t ≠ 0) : oldR n U x t = [] := if_neg h
theorem OldPost.bad {w w' : World} {n : Nat} {U : Nat → Int} {x t E : Int} (hE : oldE n U x t = E) (h0 : E ≠ 0) (hb : Below w.heap.size w w') : OldPost w n U x t (.returned (.tuple #[.slice none 0 0, .int .i64 E])) w' :=
  ⟨none, 0, [], by rw [hE]; rfl, Lib.hid (oldR_bad (by rw [hE]; exact h0)).symm, .inl rfl, hb⟩
theorem OldPost.good {w w' : World} {n c : Nat} {a : Option Addr} {U : Nat → Int} {x t : Int} {L : List Int} (hE : oldE n U x t = 0) (hL : L = oldL U x t n) (hs : SlZ .i64 w' a L.length (fun j => L.getD j 0)) (hb : Below w.heap.size w w') : OldPost w n U x t (.returned (.tuple #[.slice a L.length c, .int .i64 0])) w' :=
  ⟨a, c, L, by rw [hE], Lib.hid (by rw [hL]; unfold oldR; rw [if_pos hE]), hs, hb⟩
section
set_option maxRecDepth 100000 in
theorem oldcl_ok (x t : Int) (B : Nat) (w : World) (c : w.cell? ⟨B, 0, none⟩ = some (.int .i64 x)) :
    Calls Tryd.prog 35 #[.int .i64 t, .pointer (some ⟨B, 0, none⟩)] w fun e w' => e = .returned (.bool (decide (t < 0) || decide (x < t))) ∧ Below w.heap.size w w' := by
  have hl := World.block_lt_of_cell? _ _ c
  dsimp only at hl
  cases h1 : decide (t < 0)
  all_goals
    go_enter Tryd.func35, Tryd.ntmps35
    go_wp2
    go_ret
    exact ⟨by first | rfl | simp, Below.refl _ _⟩
variable {w : World} {a : Option Addr} {n c : Nat} {U : Nat → Int}
set_option maxRecDepth 100000 in
set_option maxHeartbeats 1600000 in
theorem indexS_ok (hS : SlZ .i64 w a n U) (hn : n ≤ 9223372036854775807) (x : Int) (B : Nat) (c1 : w.cell? ⟨B, 0, none⟩ = some (.int .i64 x)) :
    Calls Tryd.prog 52 #[.slice a n c, .func (.func 35) #[] #[.pointer (some ⟨B, 0, none⟩)]] w fun e w' => ∃ r : Int, e = .returned (.int .i64 r) ∧ decide (0 ≤ r) = anyB n x U ∧ Below w.heap.size w w' := by
  have HS := Lib.hid hS
  have HC1 := Lib.hid c1
  have eg : ∀ args w, (callFunc 35 args).run Tryd.prog w = .ok (.enter 35 args) w := enters_of Tryd.func35 (by kernel_rfl) rfl
  clear hS c1
  go_enter Tryd.func52, Tryd.ntmps52
  go_wp2
  go_loopw [8] (fun i wr => ∃ k : Nat, i = .int .i64 k ∧ k ≤ n ∧ Hid (Below w.heap.size w wr) ∧ Hid (∀ j, j < k → badJ x U j = false)) (fun i _ => n - (intOf i).toNat)
  case atStart => exact ⟨0, rfl, Nat.zero_le _, Lib.hid (Below.refl _ _), Lib.hid (fun j hj => by omega)⟩
  case round =>
    obtain ⟨k, rfl, hk, HB, HA⟩ := hrel
    by_cases hlt : k < n
    · obtain ⟨b, o, rfl, g0⟩ := (HS.out.below HB.out).at_ hlt
      have hbl := World.block_lt_of_cell? _ _ g0
      dsimp only at hbl
      have HC := Lib.hid (oldcl_ok x (U k) B wr (cell_later HB.out HC1.out))
      obtain ⟨r, hr⟩ : ∃ r, badJ x U k = r := ⟨_, rfl⟩
      have hr' : (decide (U k < 0) || decide (x < U k)) = r := hr
      rw [hr'] at HC
      clear hr'
      cases r
      all_goals
        have HE := Lib.hid hr
        clear hr
        go_wp2_with (go_at_fn 35; refine HC.out.mono ?_; rintro e' w1 ⟨rfl, b1⟩; have HB1 := Lib.hid (HB.out.trans (b1.mono HB.out.size)); clear b1)
      · go_roundw
        case rel => exact ⟨k + 1, by go_num, by omega, HB1, Lib.hid (fun j hj => by
          by_cases ej : j = k
          · rw [ej]; exact HE.out
          · exact HA.out j (by omega))⟩
        case measure => simp [intOf]; omega
      · go_ret
        exact ⟨_, rfl, by rw [anyB_yes hlt HE.out]; simp, HB1.out⟩
    · obtain rfl : k = n := by omega
      go_wp2
      go_ret
      exact ⟨_, rfl, by rw [anyB_no HA.out]; rfl, HB.out⟩
theorem containsS_ok (hS : SlZ .i64 w a n U) (hn : n ≤ 9223372036854775807) (x : Int) (B : Nat) (c1 : w.cell? ⟨B, 0, none⟩ = some (.int .i64 x)) :
    Calls Tryd.prog 34 #[.slice a n c, .func (.func 35) #[] #[.pointer (some ⟨B, 0, none⟩)]] w fun e w' => e = .returned (.bool (anyB n x U)) ∧ Below w.heap.size w w' := by
  have HC := Lib.hid (indexS_ok (c := c) hS hn x B c1)
  obtain ⟨r, hr⟩ : ∃ r, anyB n x U = r := ⟨_, rfl⟩
  rw [hr] at HC ⊢
  clear hS c1 hr
  go_enter Tryd.func34, Tryd.ntmps34
  go_wp2_with fail
  refine HC.out.mono ?_
  rintro e w1 ⟨i, rfl, hi, b1⟩
  have HB1 := Lib.hid b1
  clear b1
  go_wp2
  go_ret
  exact ⟨rfl, HB1.out⟩
end
end Go.Proofs.YtmgpdaljminipaaDoor
