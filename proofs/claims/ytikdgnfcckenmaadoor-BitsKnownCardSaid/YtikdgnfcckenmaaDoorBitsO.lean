/- Package bits: Select, whatever it is handed. -/
import Derived.Test.YtikdgnfcckenmaaDoorRefD
import Derived.Test.YtikdgnfcckenmaaDoorBitsK
import Derived.Test.YtikdgnfcckenmaaDoorBAwake
namespace Go.Proofs.YtikdgnfcckenmaaDoor
open Go.RowKit Go.Sort Go.Joins
attribute [local go_sem] cell_grow frozen_grow size_grow

set_option maxRecDepth 100000 in
set_option maxHeartbeats 1600000 in
theorem bSelect_all (N k : Int) (on : Bool) (a : Option Addr) (len cap : Nat) (ws : List Nat) (w : World) (hT : Tab w) (hs : SlK .u64 w a len ws) (hw : ∀ x ∈ ws, x < 18446744073709551616) (hlen : len ≤ 9223372036854775807) (hk : k ≤ 9223372036854775807) :
    Calls Tryd.prog 27 #[.agg #[.int .i64 N, .slice a len cap], .int .i64 k, .bool on] w fun e w' => e = .returned (.tuple #[.int .i64 (selV N ws k on), .int .i64 (selE N ws k on)]) ∧ Below w.heap.size w w' := by
  by_cases hc : chk N ws = 0
  · obtain ⟨hN0, hN, -, -⟩ := chk_zero hc
    obtain ⟨n, rfl⟩ := Int.eq_ofNat_of_zero_le hN0
    by_cases hk0 : k < 0
    · have HC := Lib.hid hc
      have E : selE n ws k on = 7 := by unfold selE; rw [if_neg (by simpa using hc), if_pos hk0]
      have V : selV n ws k on = 0 := by unfold selV; rw [E]; rfl
      replace E := Lib.hid E
      replace V := Lib.hid V
      clear hc
      go_enter Tryd.func27, Tryd.ntmps27
      go_wp2_with (go_at_call 36; refine (bCheck_ok n a len cap ws _ (hs.alloc _) hw hlen).mono ?_; rintro e w1 ⟨rfl, hb⟩; rw [HC.out]; obtain ⟨⟨d1, os1⟩, rfl⟩ := regrown_of_below hb; clear hb)
      go_ret2
      exact ⟨ret_two V.out.symm E.out.symm, (below_box0 _ _).trans ((below_grow _ _ _).mono (by simp))⟩
    · obtain ⟨k, rfl⟩ := Int.eq_ofNat_of_zero_le (by omega : 0 ≤ k)
      have E : selE n ws k on = if selP (look ws on) n k < n then 0 else 4 := by unfold selE; rw [if_neg (by simpa using hc), if_neg hk0]; rfl
      have V : selV n ws k on = if selP (look ws on) n k < n then ((selP (look ws on) n k : Nat) : Int) else 0 := by
        unfold selV; rw [E]; by_cases h : selP (look ws on) n k < n <;> simp [h]
      refine (bSelect_ok n k on a len cap ws w hT hs hw hc (by omega)).mono fun e w' h => ⟨h.1.trans ?_, h.2⟩
      rw [E, V]
      unfold selOut
      by_cases hlt : selP (look ws on) n k < n
      · rw [if_pos hlt, if_pos hlt, if_pos hlt]
      · rw [if_neg hlt, if_neg hlt, if_neg hlt]
  · have hcb := bne0_true hc
    have E : selE N ws k on = chk N ws := by unfold selE; rw [if_pos hc]
    have V : selV N ws k on = 0 := by unfold selV; rw [E, if_neg hc]
    replace E := Lib.hid E
    replace V := Lib.hid V
    clear hc
    go_enter Tryd.func27, Tryd.ntmps27
    go_wp2_with (go_at_call 36; refine (bCheck_ok N a len cap ws _ (hs.alloc _) hw hlen).mono ?_; rintro e w1 ⟨rfl, hb⟩; obtain ⟨⟨d1, os1⟩, rfl⟩ := regrown_of_below hb; clear hb)
    go_ret2
    exact ⟨ret_two V.out.symm E.out.symm, (below_box0 _ _).trans ((below_grow _ _ _).mono (by simp))⟩

theorem far_ok (N : Int) (a : Option Addr) (len cap : Nat) (w : World) :
    Calls Tryd.prog 13 #[.agg #[.int .i64 N, .slice a len cap]] w fun e w' => e = .returned (.bool (decide (100 < len))) ∧ Below w.heap.size w w' := by
  go_enter Tryd.func13, Tryd.ntmps13
  go_wp2
  go_ret
  exact ⟨congrArg (fun b => Ending.returned (.bool b)) (decide_eq_decide.2 (by omega)), below_box0 _ _⟩

/-- bits and a part, each in a box -/
structure FAt (w : World) (N : Int) (a : Option Addr) (len cap : Nat) (ws : List Nat) (f t : Int) (on : Bool) (W : World) : Prop where
  b : AtBits W w.heap.size N a len cap
  s : SlK .u64 W a len ws
  tb : Tab W
  k : Below w.heap.size w W
  x0 : W.cell? ⟨w.heap.size + 1, 0, none⟩ = some (.int .i64 f)
  x1 : W.cell? ⟨w.heap.size + 1, 1, none⟩ = some (.int .i64 t)
  x2 : W.cell? ⟨w.heap.size + 1, 2, none⟩ = some (.bool on)
  l : w.heap.size + 1 < W.heap.size
theorem FAt.below {w : World} {N : Int} {a : Option Addr} {len cap : Nat} {ws : List Nat} {f t : Int} {on : Bool} {W W' : World} (h : FAt w N a len cap ws f t on W) (hb : Below W.heap.size W W') : FAt w N a len cap ws f t on W' :=
  have hl := h.l
  ⟨h.b.below hb, h.s.below hb, h.tb.below hb, h.k.trans (hb.mono (by omega)), (hb.cell (p := ⟨w.heap.size + 1, 0, none⟩) hl).trans h.x0, (hb.cell (p := ⟨w.heap.size + 1, 1, none⟩) hl).trans h.x1, (hb.cell (p := ⟨w.heap.size + 1, 2, none⟩) hl).trans h.x2, Nat.lt_of_lt_of_le h.l hb.size⟩
theorem FAt.new {w : World} {N : Int} {a : Option Addr} {len cap : Nat} {ws : List Nat} (hs : SlK .u64 w a len ws) (hT : Tab w) (f t : Int) (on : Bool) (T U : TypeId) :
    FAt w N a len cap ws f t on ((w.alloc (.cells #[.int .i64 N, .slice a len cap] T)).alloc (.cells #[.int .i64 f, .int .i64 t, .bool on] U)) :=
  ⟨(AtBits.new w N a len cap T).below (below_box0 _ _), (hs.alloc _).alloc _, (hT.alloc _).alloc _, below_alloc2 _ _ _, by simp [go_sem], by simp [go_sem], by simp [go_sem], by simp⟩
end Go.Proofs.YtikdgnfcckenmaaDoor
