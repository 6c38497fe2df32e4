/- Package bits: Less. -/
import Derived.Test.YtikdgnfcckenmaaDoorJoinLess
namespace Go.Proofs.YtikdgnfcckenmaaDoor
open Go.RowKit Go.Sort Go.Joins
attribute [local go_sem] cell_grow frozen_grow size_grow

theorem bat_zip {o : Nat → Nat → Nat} {ob : Bool → Bool → Bool} (h : ∀ x y j, x < 18446744073709551616 → y < 18446744073709551616 → j < 64 → (o x y).testBit j = ob (x.testBit j) (y.testBit j)) {ws vs : List Nat} (hw : ∀ x ∈ ws, x < 18446744073709551616) (hv : ∀ x ∈ vs, x < 18446744073709551616) (hl : vs.length = ws.length) (i : Nat) (hi : i < 64 * ws.length) :
    bat (List.zipWith o ws vs) i = ob (bat ws i) (bat vs i) := by
  unfold bat
  have h1 : i / 64 < ws.length := by omega
  have e : (List.zipWith o ws vs).getD (i / 64) 0 = o (ws.getD (i / 64) 0) (vs.getD (i / 64) 0) := by
    rw [List.getD_eq_getElem?_getD, List.getElem?_zipWith, List.getElem?_eq_getElem h1, List.getElem?_eq_getElem (hl ▸ h1)]
    simp [List.getD_eq_getElem?_getD, h1, hl]
  rw [e, h _ _ _ (getD_lt hw (by decide) _) (getD_lt hv (by decide) _) (by omega)]
theorem zipW_join {o : Nat → Nat → Nat} {ob : Bool → Bool → Bool} (h : ∀ x y j, x < 18446744073709551616 → y < 18446744073709551616 → j < 64 → (o x y).testBit j = ob (x.testBit j) (y.testBit j)) (hlt : ∀ x y, x < 18446744073709551616 → y < 18446744073709551616 → o x y < 18446744073709551616) {N M : Int} {ws vs : List Nat} (hw : ∀ x ∈ ws, x < 18446744073709551616) (hv : ∀ x ∈ vs, x < 18446744073709551616) :
    zipW o N ws M vs = joinW ob N ws M vs := by
  unfold zipW joinW
  by_cases hE : bothE N ws M vs = 0
  · rw [if_pos hE, if_pos hE]
    obtain ⟨h1, h2, rfl⟩ := bothE_zero hE
    obtain ⟨_, _, hl1, _⟩ := chk_zero h1
    obtain ⟨_, _, hl2, _⟩ := chk_zero h2
    have hl : vs.length = ws.length := by omega
    refine pack_unique (by rw [List.length_zipWith]; omega) ?_ fun i hi => bat_zip h hw hv hl i hi
    rw [← zmid_end o ws vs hl]
    exact zmid_lt hlt hw hv _
  · rw [if_neg hE, if_neg hE]
theorem and_lt (x y : Nat) (hx : x < 18446744073709551616) : x &&& y < 18446744073709551616 := Nat.lt_of_le_of_lt Nat.and_le_left hx
theorem or_lt (x y : Nat) (hx : x < 18446744073709551616) (hy : y < 18446744073709551616) : x ||| y < 18446744073709551616 := by
  have := Nat.or_lt_two_pow (n := 64) (x := x) (y := y) (by simpa using hx) (by simpa using hy)
  simpa using this
theorem less_bit (x y j : Nat) (hy : y < 18446744073709551616) (hj : j < 64) : (x &&& (18446744073709551615 - y)).testBit j = (x.testBit j && !y.testBit j) := by
  rw [Nat.testBit_and, flip_testBit hy]; simp [hj]

theorem opLess : Op2 73 (fun x y => x &&& (18446744073709551615 - y)) := by
  refine ⟨fun x y hx hy => and_lt x _ hx, fun x y W hx hy => ?_⟩
  have hX := andNot_val x y hx hy
  go_enter Tryd.func73, Tryd.ntmps73
  go_wp2
  go_ret
  exact ⟨rfl, rfl⟩

set_option maxRecDepth 100000 in
set_option maxHeartbeats 1600000 in
theorem bLess_ok (N : Int) (a : Option Addr) (len cap : Nat) (ws : List Nat) (M : Int) (b : Option Addr) (lb cb : Nat) (vs : List Nat) (w : World) (hs : SlK .u64 w a len ws) (ht : SlK .u64 w b lb vs) (hw : ∀ x ∈ ws, x < 18446744073709551616) (hv : ∀ x ∈ vs, x < 18446744073709551616) (hlen : len ≤ 9223372036854775807) (hlb : lb ≤ 9223372036854775807) :
    Calls Tryd.prog 45 #[.agg #[.int .i64 N, .slice a len cap], .agg #[.int .i64 M, .slice b lb cb]] w fun e w' => ∃ v, e = .returned (.tuple #[v, .int .i64 (bothE N ws M vs)]) ∧ BtR w' v (joinN N ws M vs) (joinW (fun x y => x && !y) N ws M vs) ∧ Below w.heap.size w w' := by
  have R0 := Lib.hid ((RAt2.new (N := N) (M := M) (cap := cap) (cb := cb) hs ht 24 24).below (below_box0 _ (.cells #[.int .i64 0, .slice none 0 0] 24)))
  have hz0 : ZAt (w.heap.size + 2) (((w.alloc (.cells #[.int .i64 N, .slice a len cap] 24)).alloc (.cells #[.int .i64 M, .slice b lb cb] 24)).alloc (.cells #[.int .i64 0, .slice none 0 0] 24)) := by
    have := ZAt.new ((w.alloc (.cells #[.int .i64 N, .slice a len cap] 24)).alloc (.cells #[.int .i64 M, .slice b lb cb] 24)) 24
    rwa [World.size_alloc, World.size_alloc] at this
  have HZ0 := Lib.hid hz0
  have HJ := Lib.hid (zipW_join (o := fun x y => x &&& (18446744073709551615 - y)) (ob := (fun x y => x && !y)) (N := N) (M := M) (fun x y j hx hy hj => less_bit x y j hy hj) opLess.1 hw hv)
  clear hz0
  go_enter Tryd.func45, Tryd.ntmps45
  go_wp2_with fail
  refine (bjoinLess _ (Lib.hid opLess) w.heap.size (w.heap.size + 1) N a len cap ws M b lb cb vs _ R0.out.p R0.out.q R0.out.s R0.out.t hw hv hlen hlb).mono ?_
  rintro e w1 ⟨v, rfl, ⟨a', cap', rfl, hk⟩, b1⟩
  have Z1 := HZ0.out.below b1
  have r0 := Z1.r0
  have r1 := Z1.r1
  have f0 := Z1.f0
  have f1 := Z1.f1
  have HK := Lib.hid (hk.put r0 r1 (.int .i64 (zipN N ws M vs)) (.slice a' (zipW (fun x y => x &&& (18446744073709551615 - y)) N ws M vs).length cap'))
  have HB1 := Lib.hid (R0.out.below b1).k
  clear b1 Z1 hk
  go_wp2
  refine bodyPost_ret (v := .tuple #[.agg #[.int .i64 (zipN N ws M vs), .slice a' (zipW (fun x y => x &&& (18446744073709551615 - y)) N ws M vs).length cap'], .int .i64 (bothE N ws M vs)]) (by simp [results, Tryd.results45, go_sem, r0, r1]) rfl ⟨_, rfl, ?_, (HB1.out.setCell (p := ⟨w.heap.size + 2, 0, none⟩) (by simp) _).setCell (p := ⟨w.heap.size + 2, 1, none⟩) (by simp) _⟩
  rw [← HJ.out]
  exact ⟨a', cap', rfl, HK.out⟩
end Go.Proofs.YtikdgnfcckenmaaDoor
