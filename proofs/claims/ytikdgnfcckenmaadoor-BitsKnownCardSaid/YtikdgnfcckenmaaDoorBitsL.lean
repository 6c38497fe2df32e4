/- Package math/bits: Len64 (off the shelf), LeadingZeros64. -/
import Derived.Test.YtikdgnfcckenmaaDoorBitsB
import Derived.Shelf.Strconv.Itoa0
namespace Go.Proofs.YtikdgnfcckenmaaDoor
open Go.RowKit Go.Sort Go.Shelf

def len_ren : Ren := ⟨fun | 129 => 77 | n => n, fun | 53 => 58 | 3 => 3 | 4 => 4 | 46 => 35 | 5 => 5 | 9 => 9 | n => n, fun n => n⟩
theorem len_lays : Lays.n129 Tryd.prog len_ren := {
  mixed := by kernel_rfl
  f129 := Tryd.func77.trans (congrArg some (by kernel_rfl))
  t3 := Tryd.underlying3
  a3 := Tryd.isAgg3
  z3 := Tryd.sizeOf3
  v3 := Tryd.zeroValue3
  t4 := Tryd.underlying4
  a4 := Tryd.isAgg4
  z4 := Tryd.sizeOf4
  v4 := Tryd.zeroValue4
  t5 := Tryd.underlying5
  a5 := Tryd.isAgg5
  z5 := Tryd.sizeOf5
  v5 := Tryd.zeroValue5
  t9 := Tryd.underlying9
  a9 := Tryd.isAgg9
  z9 := Tryd.sizeOf9
  v9 := Tryd.zeroValue9
  t46 := Tryd.underlying35
  a46 := Tryd.isAgg35
  z46 := Tryd.sizeOf35
  v46 := Tryd.zeroValue35
  t53 := Tryd.underlying58
  a53 := Tryd.isAgg58
  z53 := Tryd.sizeOf58
  v53 := Tryd.zeroValue58 }
theorem len64_ok (x : Nat) (w : World) (hx : x < 18446744073709551616) :
    Calls Tryd.prog 77 #[.int .u64 x] w fun e w' => e = .returned (.int .i64 (Lib.bitLen x : Nat)) ∧ w = w' :=
  (Any.bits_Len64 len_lays x w (by omega) (by omega)).mono fun _ _ h => ⟨h.1.trans (by simp), h.2.symm⟩
theorem bitLenAux_le : ∀ f x, Lib.bitLenAux f x ≤ f
  | 0, _ => Nat.le_refl _
  | f + 1, x => by
    have := bitLenAux_le f (x / 2)
    simp only [Lib.bitLenAux]
    split <;> omega
theorem bitLen_le64 (x : Nat) : Lib.bitLen x ≤ 64 := bitLenAux_le 64 x
theorem lz_ok (x : Nat) (w : World) (hx : x < 18446744073709551616) :
    Calls Tryd.prog 64 #[.int .u64 x] w fun e w' => e = .returned (.int .i64 ((64 - Lib.bitLen x : Nat) : Int)) ∧ w = w' := by
  have hb := bitLen_le64 x
  go_enter Tryd.func64, Tryd.ntmps64
  go_wp2_with (go_at_call 77; refine (len64_ok x _ hx).mono ?_; rintro e w1 ⟨rfl, rfl⟩)
  go_ret
  exact ⟨ret_i64 (by omega), rfl⟩
end Go.Proofs.YtikdgnfcckenmaaDoor
