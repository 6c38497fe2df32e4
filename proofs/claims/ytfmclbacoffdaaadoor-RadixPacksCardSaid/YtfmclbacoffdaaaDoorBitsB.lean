/- Package bits: mask. math/bits: OnesCount64. What they return. -/
import Derived.Test.YtfmclbacoffdaaaDoorBitsA
import Derived.Test.YtfmclbacoffdaaaDoorPlainB
namespace Go.Proofs.YtfmclbacoffdaaaDoor
open Go.RowKit Go.Sort
attribute [local go_sem] cell_grow frozen_grow size_grow

theorem ret_u64 {a b : Int} (h : a = b) : Ending.returned (.int .u64 a) = .returned (.int .u64 b) := by rw [h]
theorem below_draw (w : World) (k : Nat) : Below w.heap.size w (w.drewN k) := ⟨rfl, rfl, rfl, Nat.le_refl _, fun _ _ => rfl⟩

theorem mask_val (f t : Nat) (_ht : t ≤ 64) : bits BinOp.and IntKind.u64 (IntKind.u64.wrap (18446744073709551615 * 2 ^ f)) (18446744073709551615 / 2 ^ (64 - t)) = ((mk f t : Nat) : Int) := by
  have e1 : IntKind.u64.wrap (18446744073709551615 * 2 ^ f) = ((18446744073709551615 * 2 ^ f % 18446744073709551616 : Nat) : Int) := by
    rw [IntKind.wrap_u64]; simp
  have e2 : (18446744073709551615 : Int) / 2 ^ (64 - t) = ((18446744073709551615 / 2 ^ (64 - t) : Nat) : Int) := by simp
  rw [e1, e2, u64_and_nat _ _ (Nat.mod_lt _ (by decide))]
  · rfl
  · exact Nat.lt_of_le_of_lt (Nat.div_le_self _ _) (by decide)
theorem mask_ok (f t : Nat) (w : World) (hf : f ≤ 64) (ht : t ≤ 64) :
    Calls Tryd.prog 72 #[.int .i64 f, .int .i64 t] w fun e w' => e = .returned (.int .u64 (mk f t : Nat)) ∧ ∃ m, w' = w.drewN m := by
  have h0 : (0 : Int) ≤ 64 - (t : Int) := by omega
  go_enter Tryd.func72, Tryd.ntmps72
  go_wp2
  go_quiet (fail)
  go_wp2
  go_ret
  exact ⟨ret_u64 (mask_val f t ht), _, rfl⟩

/-- the same, over integers -/
theorem mask_int (f t : Int) (w : World) (hf0 : 0 ≤ f) (hf : f ≤ 64) (ht0 : 0 ≤ t) (ht : t ≤ 64) :
    Calls Tryd.prog 72 #[.int .i64 f, .int .i64 t] w fun e w' => e = .returned (.int .u64 (mk f.toNat t.toNat : Nat)) ∧ ∃ m, w' = w.drewN m := by
  obtain ⟨f, rfl⟩ := Int.eq_ofNat_of_zero_le hf0
  obtain ⟨t, rfl⟩ := Int.eq_ofNat_of_zero_le ht0
  exact mask_ok f t w (by omega) (by omega)

def A1 (X : Int) : Int := IntKind.u64.wrap (bits BinOp.and IntKind.u64 (X / 2) 6148914691236517205 + bits BinOp.and IntKind.u64 X 6148914691236517205)
def A2 (X : Int) : Int := IntKind.u64.wrap (bits BinOp.and IntKind.u64 (X / 4) 3689348814741910323 + bits BinOp.and IntKind.u64 X 3689348814741910323)
def A3 (X : Int) : Int := bits BinOp.and IntKind.u64 (IntKind.u64.wrap (X / 16 + X)) 1085102592571150095
def A4 (X : Int) : Int := IntKind.u64.wrap (X + X / 256)
def A5 (X : Int) : Int := IntKind.u64.wrap (X + X / 65536)
def A6 (X : Int) : Int := IntKind.u64.wrap (X + X / 4294967296)
def A7 (X : Int) : Int := bits BinOp.and IntKind.i64 (wrap64 X) 127
theorem A1_nat (x : Nat) (hx : x < 18446744073709551616) : A1 x = ((s1 8 x : Nat) : Int) := by
  unfold A1
  rw [swar_s1, show (x : Int) / 2 = ((x / 2 : Nat) : Int) by simp, show (6148914691236517205 : Int) = ((6148914691236517205 : Nat) : Int) from rfl, u64_and_nat _ _ (by omega) (by omega), u64_and_nat _ _ hx (by omega)]
  have a1 : (x / 2) &&& 6148914691236517205 ≤ 6148914691236517205 := Nat.and_le_right
  have a2 : x &&& 6148914691236517205 ≤ 6148914691236517205 := Nat.and_le_right
  rw [IntWalk.u64_in _ (by omega)]; simp
theorem A2_nat (x : Nat) (hx : x < 18446744073709551616) : A2 x = ((s2 8 x : Nat) : Int) := by
  unfold A2
  rw [swar_s2, show (x : Int) / 4 = ((x / 4 : Nat) : Int) by simp, show (3689348814741910323 : Int) = ((3689348814741910323 : Nat) : Int) from rfl, u64_and_nat _ _ (by omega) (by omega), u64_and_nat _ _ hx (by omega)]
  have a1 : (x / 4) &&& 3689348814741910323 ≤ 3689348814741910323 := Nat.and_le_right
  have a2 : x &&& 3689348814741910323 ≤ 3689348814741910323 := Nat.and_le_right
  rw [IntWalk.u64_in _ (by omega)]; simp
theorem A3_nat (x : Nat) (hx : x / 16 + x < 18446744073709551616) : A3 x = ((s3 8 x : Nat) : Int) := by
  unfold A3
  rw [swar_s3, show (x : Int) / 16 + x = ((x / 16 + x : Nat) : Int) by simp, show (1085102592571150095 : Int) = ((1085102592571150095 : Nat) : Int) from rfl, IntWalk.u64_in _ (by omega), u64_and_nat _ _ hx (by omega)]
theorem s1_le (x : Nat) : s1 8 x ≤ 12297829382473034410 := by
  rw [swar_s1]
  have a1 : (x / 2) &&& 6148914691236517205 ≤ 6148914691236517205 := Nat.and_le_right
  have a2 : x &&& 6148914691236517205 ≤ 6148914691236517205 := Nat.and_le_right
  omega
theorem s2_le (x : Nat) : s2 8 x ≤ 7378697629483820646 := by
  rw [swar_s2]
  have a1 : (x / 4) &&& 3689348814741910323 ≤ 3689348814741910323 := Nat.and_le_right
  have a2 : x &&& 3689348814741910323 ≤ 3689348814741910323 := Nat.and_le_right
  omega
theorem A7_nat (x : Nat) (hx : x ≤ 9223372036854775807) : A7 x = ((x % 128 : Nat) : Int) := by
  unfold A7
  rw [IntWalk.wrap64_in _ (by omega), show (127 : Int) = 2 ^ 7 - 1 from rfl, bits_mask .i64 63 (by decide) (fun n h0 h1 => IntWalk.i64_in n (by omega)) 7 (by decide) x (by omega) (by omega)]
  simp
theorem ones_val (x : Nat) (hx : x < 18446744073709551616) : A7 (A6 (A5 (A4 (A3 (A2 (A1 x)))))) = ((pop x : Nat) : Int) := by
  obtain ⟨z, y, v, h1, h2, h3, h4, h5, h6, h7, h8⟩ := swar x hx
  have b1 := s1_le x
  have b2 := s2_le (s1 8 x)
  rw [A1_nat x hx, A2_nat _ (by omega), A3_nat _ (by omega), ← h1]
  have e4 : A4 z = ((y : Nat) : Int) := by unfold A4; rw [IntWalk.u64_in _ (by omega), h3]; simp
  have e5 : A5 y = ((v : Nat) : Int) := by unfold A5; rw [IntWalk.u64_in _ (by omega), h5]; simp
  have e6 : A6 v = ((v + v / 4294967296 : Nat) : Int) := by unfold A6; rw [IntWalk.u64_in _ (by omega)]; simp
  rw [e4, e5, e6, A7_nat _ h7, h8]

theorem and_rng (x y : Nat) (hx : x < 18446744073709551616) (hy : y < 18446744073709551616) : 0 ≤ bits BinOp.and IntKind.u64 (x : Int) (y : Int) ∧ bits BinOp.and IntKind.u64 (x : Int) (y : Int) < 18446744073709551616 := by
  rw [u64_and_nat _ _ hx hy]
  have : x &&& y ≤ x := Nat.and_le_left
  omega
theorem quiet_same {P : Program} {f : FuncId} {args : Array Value} {w : World} {n : Nat} {v : Value}
    (h : Calls P f args (w.drewN n) fun e w' => e = .returned v ∧ w.drewN n = w') : Calls P f args (w.drewN n) fun e w'' => e = .returned v ∧ ∃ m, w'' = w.drewN m :=
  h.mono fun _ _ ⟨he, hm⟩ => ⟨he, n, hm.symm⟩
end Go.Proofs.YtfmclbacoffdaaaDoor
