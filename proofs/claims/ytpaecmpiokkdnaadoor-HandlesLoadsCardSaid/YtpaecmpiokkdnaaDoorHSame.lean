/- Handles: Same of the reference: two states that read alike. -/
import Derived.Test.YtpaecmpiokkdnaaDoorHCopy
namespace Go.Proofs.YtpaecmpiokkdnaaDoor
open Go.RowKit Go.Sort Go.Joins
attribute [local go_sem] cell_grow frozen_grow size_grow

set_option maxRecDepth 100000 in
set_option maxHeartbeats 3200000 in
theorem rsame_ok (w : World) {n : Nat} {G : Nat → Int} {A : Nat → Bool} {V : Nat → Value} {ga aa va gb ab vb : Option Addr} {gc ac vc gd ad vd : Nat} (hga : SlF w ga n (zI G)) (haa : SlF w aa n (zB A)) (hva : SlF w va n V) (hgb : SlF w gb n (zI G)) (hab : SlF w ab n (zB A)) (hvb : SlF w vb n V) (hVf : ∀ j, j < n → ∃ x : Int, V j = .int .i64 x) (hn : n ≤ 100000) :
    Calls Tryd.prog 20 #[.agg #[.slice ga n gc, .slice aa n ac, .slice va n vc], .agg #[.slice gb n gd, .slice ab n ad, .slice vb n vd]] w fun e w' => e = .returned (.bool true) ∧ Below w.heap.size w w' := by
  have bb := (below_box0 w (.cells #[.slice ga n gc, .slice aa n ac, .slice va n vc] 35)).trans ((below_box0 (w.alloc (.cells #[.slice ga n gc, .slice aa n ac, .slice va n vc] 35)) (.cells #[.slice gb n gd, .slice ab n ad, .slice vb n vd] 35)).mono (by simp))
  have HGA := Lib.hid (hga.below bb)
  have HAA := Lib.hid (haa.below bb)
  have HVA := Lib.hid (hva.below bb)
  have HGB := Lib.hid (hgb.below bb)
  have HAB := Lib.hid (hab.below bb)
  have HVB := Lib.hid (hvb.below bb)
  have HBB := Lib.hid bb
  have qn : ((n : Int) != (n : Int)) = false := by simp
  clear hga haa hva hgb hab hvb bb
  go_enter Tryd.func20, Tryd.ntmps20
  go_wp2
  generalize hW0 : World.alloc _ _ = W0 at *
  have HQ : Hid (∀ w', Below W0.heap.size W0 w' → (w'.cell? ⟨w.heap.size, 0, none⟩ = some (.slice ga n gc) ∧ w'.cell? ⟨w.heap.size, 1, none⟩ = some (.slice aa n ac) ∧ w'.cell? ⟨w.heap.size, 2, none⟩ = some (.slice va n vc)) ∧ w'.cell? ⟨w.heap.size + 1, 0, none⟩ = some (.slice gb n gd) ∧ w'.cell? ⟨w.heap.size + 1, 1, none⟩ = some (.slice ab n ad) ∧ w'.cell? ⟨w.heap.size + 1, 2, none⟩ = some (.slice vb n vd)) :=
    Lib.hid (fun w' hb => ⟨⟨cell_later hb (by rw [← hW0]; simp [go_sem]), cell_later hb (by rw [← hW0]; simp [go_sem]), cell_later hb (by rw [← hW0]; simp [go_sem])⟩, cell_later hb (by rw [← hW0]; simp [go_sem]), cell_later hb (by rw [← hW0]; simp [go_sem]), cell_later hb (by rw [← hW0]; simp [go_sem])⟩)
  have HR0 := Lib.hid (Below.refl W0.heap.size W0)
  clear hW0
  go_loopw [5] (fun i wr => ∃ k : Nat, i = .int .i64 k ∧ k ≤ n ∧ Hid (Below W0.heap.size W0 wr)) (fun i _ => n - (intOf i).toNat)
  case atStart => exact ⟨0, rfl, Nat.zero_le _, HR0⟩
  case round =>
    obtain ⟨k, rfl, hk, HD0⟩ := hrel
    obtain ⟨W1, rfl⟩ : ∃ W1 : World, W1 = wr := ⟨_, rfl⟩
    have a0 := (HQ.out _ HD0.out).1.1
    have b0 := (HQ.out _ HD0.out).2.1
    by_cases hlt : k < n
    · obtain ⟨xb, xo, rfl, ca⟩ := (HGA.out.below HD0.out).at_ hlt
      obtain ⟨yb, yo, rfl, cb⟩ := (HGB.out.below HD0.out).at_ hlt
      obtain ⟨g, hg⟩ : ∃ g, G k = g := ⟨_, rfl⟩
      dsimp only [zI] at ca cb
      rw [hg] at ca cb
      have qg : (g != g) = false := by simp
      clear hg
      have hlti : (k : Int) < (n : Int) := by omega
      have hk0 : (0 : Int) ≤ (k : Int) := by omega
      go_wp2
      go_quiet (fail)
      go_wp2
      go_roundw
      case rel => exact ⟨k + 1, by go_num, by omega, Lib.hid (HD0.out.trans ((below_draw _ _).mono HD0.out.size))⟩
      case measure => simp [intOf]; omega
    · go_wp2
      go_loopw [6] (fun i wr => ∃ k : Nat, i = .int .i64 k ∧ k ≤ n ∧ Hid (Below W0.heap.size W0 wr)) (fun i _ => n - (intOf i).toNat)
      case atStart => exact ⟨0, rfl, Nat.zero_le _, HD0⟩
      case round =>
        obtain ⟨k, rfl, hk, HD1⟩ := hrel
        obtain ⟨W2, rfl⟩ : ∃ W2 : World, W2 = wr := ⟨_, rfl⟩
        have a1 := (HQ.out _ HD1.out).1.2.1
        have b1 := (HQ.out _ HD1.out).2.2.1
        by_cases hlt : k < n
        · obtain ⟨xb, xo, rfl, ca⟩ := (HAA.out.below HD1.out).at_ hlt
          obtain ⟨yb, yo, rfl, cb⟩ := (HAB.out.below HD1.out).at_ hlt
          obtain ⟨g, hg⟩ : ∃ g, A k = g := ⟨_, rfl⟩
          dsimp only [zB] at ca cb
          rw [hg] at ca cb
          have qg : (g == g) = true := by simp
          have qh : (g != g) = false := by simp
          clear hg
          have hlti : (k : Int) < (n : Int) := by omega
          have hk0 : (0 : Int) ≤ (k : Int) := by omega
          go_wp2
          go_quiet (fail)
          go_wp2
          go_roundw
          case rel => exact ⟨k + 1, by go_num, by omega, Lib.hid (HD1.out.trans ((below_draw _ _).mono HD1.out.size))⟩
          case measure => simp [intOf]; omega
        · go_wp2
          go_loopw [7] (fun i wr => ∃ k : Nat, i = .int .i64 k ∧ k ≤ n ∧ Hid (Below W0.heap.size W0 wr)) (fun i _ => n - (intOf i).toNat)
          case atStart => exact ⟨0, rfl, Nat.zero_le _, HD1⟩
          case round =>
            obtain ⟨k, rfl, hk, HD2⟩ := hrel
            obtain ⟨W3, rfl⟩ : ∃ W3 : World, W3 = wr := ⟨_, rfl⟩
            have a2 := (HQ.out _ HD2.out).1.2.2
            have b2 := (HQ.out _ HD2.out).2.2.2
            by_cases hlt : k < n
            · obtain ⟨xb, xo, rfl, ca⟩ := (HVA.out.below HD2.out).at_ hlt
              obtain ⟨yb, yo, rfl, cb⟩ := (HVB.out.below HD2.out).at_ hlt
              obtain ⟨g, hg⟩ := hVf k hlt
              rw [hg] at ca cb
              have qg : (g != g) = false := by simp
              clear hg
              have hlti : (k : Int) < (n : Int) := by omega
              have hk0 : (0 : Int) ≤ (k : Int) := by omega
              go_wp2
              go_quiet (fail)
              go_wp2
              go_roundw
              case rel => exact ⟨k + 1, by go_num, by omega, Lib.hid (HD2.out.trans ((below_draw _ _).mono HD2.out.size))⟩
              case measure => simp [intOf]; omega
            · go_wp2
              go_ret
              exact ⟨rfl, HBB.out.trans (HD2.out.mono (by have := HBB.out.size; omega))⟩
theorem rsame_rs {w : World} {x y : Value} {st : List Slt} (hx : RS w x st) (hy : RS w y st) (hv : ∀ j, j < st.length → ∃ z : Int, vF st j = .int .i64 z) (hn : st.length ≤ 100000) :
    Calls Tryd.prog 20 #[x, y] w fun e w' => e = .returned (.bool true) ∧ Below w.heap.size w w' := by
  obtain ⟨ga, gc, aa, ac, va, vc, rfl, h⟩ := hx
  obtain ⟨gb, gd, ab, ad, vb, vd, rfl, k⟩ := hy
  exact rsame_ok w h.g h.a h.v k.g k.a k.v hv hn
end Go.Proofs.YtpaecmpiokkdnaaDoor
