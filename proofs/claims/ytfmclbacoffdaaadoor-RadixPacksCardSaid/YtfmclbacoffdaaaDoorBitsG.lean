/- Package bits: fill. -/
import Derived.Test.YtfmclbacoffdaaaDoorBitsF
import Derived.Test.YtfmclbacoffdaaaDoorPlainD
import Derived.Lib.SmallJoins
namespace Go.Proofs.YtfmclbacoffdaaaDoor
open Go.RowKit Go.Sort Go.Joins
attribute [local go_sem] cell_grow frozen_grow size_grow

theorem gb_drewN {a w : World} {row : Option Nat} (h : a.grownBy w row) (n : Nat) : a.grownBy (w.drewN n) row := ⟨h.os, h.tape, h.output, h.size, h.block⟩
theorem gb_setCell {a w : World} {g : Nat} (h : a.grownBy w (some g)) (o : Nat) (u : Value) : a.grownBy (w.setCell ⟨g, o, none⟩ u) (some g) :=
  ⟨h.os, h.tape, h.output, by simpa [World.setCell] using h.size, fun i hi hne => (Below.heap_setCell w ⟨g, o, none⟩ u i (fun e => hne (by rw [e]))).trans (h.block i hi hne)⟩
theorem own_drewN {w : World} {base : Nat} {e : TypeId} {size : Nat} {v : Value} {n : Nat} {xs : List Value} (h : w.ownsRow base e size v n xs) (k : Nat) : (w.drewN k).ownsRow base e size v n xs := h
/-- words as values -/
def u64s (ws : List Nat) : List Value := ws.map fun (x : Nat) => Value.int .u64 (x : Int)
theorem u64s_length (ws : List Nat) : (u64s ws).length = ws.length := by simp [u64s]
theorem u64s_get (ws : List Nat) (k : Nat) (h : k < ws.length) : (u64s ws)[k]? = some (.int .u64 (ws.getD k 0 : Nat)) := by
  simp [u64s, h]
theorem u64s_set (ws : List Nat) (k v : Nat) : (u64s ws).set k (.int .u64 (v : Int)) = u64s (ws.set k v) := by simp [u64s, List.map_set]

theorem or_val (x m : Nat) (hx : x < 18446744073709551616) (hm : m < 18446744073709551616) : bits BinOp.or IntKind.u64 (x : Int) (m : Int) = ((x ||| m : Nat) : Int) := u64_or_nat x m hx hm
theorem andNot_val (x m : Nat) (hx : x < 18446744073709551616) (hm : m < 18446744073709551616) : bits BinOp.andNot IntKind.u64 (x : Int) (m : Int) = ((x &&& (18446744073709551615 - m) : Nat) : Int) := u64_andNot_nat x m hx hm

/-- the store of a round -/
theorem fill_store {w wr : World} {base g cap len k m2 x v : Nat} {e : TypeId} {P L : List Nat} {op : BinOp} {m : Nat} (ho : wr.ownsRow base e 1 (.slice (some ⟨g, 0, none⟩) len cap) len (u64s P)) (hg : w.grownBy wr (some g))
    (hv : bits op IntKind.u64 (x : Int) (m : Int) = (v : Int)) (hS : P.set k v = L) :
    ((wr.drewN m2).setCell ⟨g, k, none⟩ (.int .u64 (bits op IntKind.u64 (x : Int) (m : Int)))).ownsRow base e 1 (.slice (some ⟨g, 0, none⟩) len cap) len (u64s L) ∧
    w.grownBy ((wr.drewN m2).setCell ⟨g, k, none⟩ (.int .u64 (bits op IntKind.u64 (x : Int) (m : Int)))) (some g) := by
  have h := (own_drewN ho m2).stored k (.int .u64 (v : Int))
  rw [hv]
  rw [u64s_set, hS] at h
  exact ⟨h.1, gb_setCell (gb_drewN hg _) _ _⟩

set_option maxHeartbeats 800000 in
theorem bfill_ok (base : Nat) (v : Value) (len f t : Nat) (on : Bool) (ws : List Nat) (w : World) (ho : w.ownsRow base 24 1 v len (u64s ws)) (hw : ∀ x ∈ ws, x < 18446744073709551616) (hl : ws.length = len) (ht : t ≤ 64 * len) (hlen : len ≤ 64) (hf : f ≤ t) :
    Calls Tryd.prog 61 #[v, .int .i64 f, .int .i64 t, .bool on] w fun e w' => e = .returned (.tuple #[]) ∧ w'.ownsRow base 24 1 v len (u64s (pack (filled (bat ws) f t on) len)) ∧ w.grownBy w' v.ownBlock := by
  go_enter Tryd.func61, Tryd.ntmps61
  go_wp2
  go_loopw [8] (fun i wr => ∃ k : Nat, f / 64 ≤ k ∧ k ≤ (t + 63) / 64 ∧ i = .int .i64 k ∧ wr.ownsRow base 24 1 v len (u64s (pack (filled (bat ws) f (min t (64 * k)) on) len)) ∧ w.grownBy wr v.ownBlock) (fun i _ => len - (intOf i).toNat)
  case atStart => exact ⟨f / 64, Nat.le_refl _, by omega, by go_num, by have := fill_start ws hw f t on; rw [hl] at this; rw [← this]; exact ho, World.grownBy.refl _ _⟩
  case round =>
    obtain ⟨k, hk1, hk2, rfl, hown, hg⟩ := hrel
    by_cases hlt : 64 * k < t
    · obtain ⟨g, cap, rfl⟩ := ownsRow_form hown (by omega)
      have S := Lib.hid (fill_step (bat ws) on hlt hk1 (by omega : k < len))
      have hcell := hown.cellAt k (by omega)
      rw [u64s_get _ _ (by rw [pack_length]; omega)] at hcell
      have hfz := hown.frozenAt k
      have hx := getD_lt (pack_lt (filled (bat ws) f (min t (64 * k)) on) len) (by decide) k
      generalize hPd : pack (filled (bat ws) f (min t (64 * k)) on) len = P at *
      obtain ⟨X, hX⟩ : ∃ X, X = P.getD k 0 := ⟨_, rfl⟩
      rw [← hX] at hcell hx S
      have hm := mk_lt (f - 64 * k) (min 64 (t - 64 * k))
      have e1 := lo_nat f k
      have e2 := hi_nat t k
      have HO := Lib.hid hown
      have HG := Lib.hid hg
      have hk0 : (0 : Int) ≤ (k : Int) := by omega
      have hk3 : (k : Int) < (len : Int) := by omega
      clear hown hg hX hPd ho hw hl
      cases on
      all_goals
        go_wp2_with (go_at_call 72; refine (mask_int _ _ _ (by omega) (by omega) (by omega) (by omega)).mono ?_; rintro e w1 ⟨rfl, m2, rfl⟩)
        go_roundw
        case rel =>
          have Q := fill_store (k := k) (m2 := m2) HO.out HG.out (by first | exact or_val X _ hx hm | exact andNot_val X _ hx hm) (S.out)
          exact ⟨k + 1, by omega, by omega, by go_num, Q.1, Q.2⟩
        case measure => simp [intOf]; omega
    · have HO := Lib.hid hown
      have HG := Lib.hid hg
      clear hown hg ho
      go_wp2
      go_end0
      have e := fill_end (bat ws) (f := f) (t := t) (k := k) on len (by omega)
      exact ⟨rfl, by rw [← e]; exact HO.out, HG.out⟩
end Go.Proofs.YtfmclbacoffdaaaDoor
