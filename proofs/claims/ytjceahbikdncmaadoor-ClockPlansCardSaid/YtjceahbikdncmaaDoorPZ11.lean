/- Clocks: Next of any plan; the reference's Next. | Clocks: the reference's Cancel. | Clocks: the place of a name in a plan: find. -/
import Derived.Test.YtjceahbikdncmaaDoorPZ10
import Derived.BigRegion
import Derived.Test.YtjceahbikdncmaaDoorShelf
import Derived.Deep.Cut
namespace Go.Proofs.YtjceahbikdncmaaDoor
open Go.RowKit Go.Sort Go.Joins Go.Shelf
attribute [local go_sem] cell_grow frozen_grow size_grow Oper.semAt_some
/-- what Next answers -/
def nextV (n : Nat) (R : Nat → Al) : Rn := if cE n R ≠ 0 then rn0 else if bst (tmsA R) n < 0 then rn0 else ((R (bst (tmsA R) n).toNat).1, (R (bst (tmsA R) n).toNat).2.1)
def nextE (n : Nat) (R : Nat → Al) : Int := if cE n R ≠ 0 then cE n R else if bst (tmsA R) n < 0 then 4 else 0
theorem nbst_congr {A B : Nat → Int} : ∀ {n : Nat}, (∀ i, i < n → A i = B i) → bst A n = bst B n
  | 0, _ => rfl
  | m + 1, h => by
    have ih := nbst_congr (n := m) fun i hi => h i (by omega)
    simp only [bst]
    rw [← ih, ← h m (by omega)]
    rcases bst_spec A m with ⟨e, _⟩ | ⟨b, e, hb, _⟩
    · rw [e]; simp
    · rw [e]
      have ht : ((b : Nat) : Int).toNat = b := Int.toNat_natCast b
      rw [ht, ← h b (by omega)]
theorem bst_now {n : Nat} {R : Nat → Al} {c : Nat → Nat} {u : Int} (hP : PlOk n R) (h : RgAt n (alP R) u c []) : bst (fun i => pos (alP R i) (c i)) n = bst (tmsA R) n := by
  refine nbst_congr fun i hi => ?_
  have hc : c i = 0 := by
    by_cases hz : c i = 0
    · exact hz
    · have : (pos (alP R i) 0, i) ∈ ([] : List (Int × Nat)) := (h.mem _).2 ⟨hi, 0, by dsimp only; omega, rfl⟩
      cases this
  rw [hc]
  exact pos_zero (hP.ok i hi)
section
variable {w : World} {a : Option Addr} {n c : Nat} {R : Nat → Al}
set_option maxRecDepth 100000 in
set_option maxHeartbeats 1600000 in
theorem nextF_ok (hS : SlA w a n R) (hn : n ≤ 9223372036854775807) (hR : ∀ j, j < n → AlB (R j)) :
    Calls Tryd.prog 19 #[pV a n c] w fun e w' => e = .returned (.tuple #[gV (nextV n R), .int .i64 (nextE n R)]) ∧ Below w.heap.size w w' := by
  by_cases hE : cE n R = 0
  · have hP := cE_zero hE
    refine (next_all hS hn hR hP).mono ?_
    rintro e w' ⟨v, f, rfl, ⟨rfl, x, rfl, k, h1, h2, h3⟩ | ⟨rfl, rfl, k, h1, h2⟩, h4⟩
    · rw [bst_now hP h1] at h2
      have hk : k x.2 = 0 ∧ x.2 < n := by
        rcases bst_spec (tmsA R) n with ⟨e, _⟩ | ⟨b, e, hb, _⟩
        · rw [e] at h2; omega
        · have hbx : b = x.2 := by rw [e] at h2; omega
          subst hbx
          refine ⟨?_, hb⟩
          by_cases hz : k x.2 = 0
          · exact hz
          · have : (pos (alP R x.2) 0, x.2) ∈ ([] : List (Int × Nat)) := (h1.mem _).2 ⟨hb, 0, by dsimp only; omega, rfl⟩
            cases this
      rw [hk.1] at h3
      have h3' : x.1 = (R x.2).2.1 := h3.trans (pos_zero (hP.ok _ hk.2))
      have hv : nextV n R = rgN R x := by
        unfold nextV rgN
        rw [if_neg (by simpa using hE), h2, if_neg (by omega), Int.toNat_natCast, h3']
      have he : nextE n R = 0 := by
        unfold nextE
        rw [if_neg (by simpa using hE), h2, if_neg (by omega)]
      rw [hv, he]
      exact ⟨rfl, h4⟩
    · rw [bst_now hP h1] at h2
      have hv : nextV n R = rn0 := by unfold nextV; rw [if_neg (by simpa using hE), h2, if_pos (by decide)]
      have he : nextE n R = 4 := by unfold nextE; rw [if_neg (by simpa using hE), h2, if_pos (by decide)]
      rw [hv, he]
      exact ⟨rfl, h4⟩
  · have hv : nextV n R = rn0 := if_pos hE
    have he : nextE n R = cE n R := if_pos hE
    rw [hv, he]
    have b1 : Below w.heap.size w (((w.alloc (.cells #[.slice a n c] 24)).alloc (.cells #[.string ⟨#[]⟩, .int .i64 0] 45)).alloc (.cells #[.int .i64 0] 28)) := (((Below.refl _ w).alloc (Nat.le_refl _) _).alloc (by simp) _).alloc (by simp; omega) _
    have HC := Lib.hid (check_ok (c := c) (hS.below b1) hn hR)
    have hk2 : (((w.alloc (.cells #[.slice a n c] 24)).alloc (.cells #[.string ⟨#[]⟩, .int .i64 0] 45)).alloc (.cells #[.int .i64 0] 28)).heap[w.heap.size + 1]? = some (.cells #[.string ⟨#[]⟩, .int .i64 0] 45 (0, 0)) := by
      have := heap_alloc_new (w.alloc (.cells #[.slice a n c] 24)) (.cells #[.string ⟨#[]⟩, .int .i64 0] 45)
      rw [World.size_alloc] at this
      exact (Below.heap_alloc _ _ _ (by simp)).trans this
    have hk3 : (((w.alloc (.cells #[.slice a n c] 24)).alloc (.cells #[.string ⟨#[]⟩, .int .i64 0] 45)).alloc (.cells #[.int .i64 0] 28)).heap[w.heap.size + 1 + 1]? = some (.cells #[.int .i64 0] 28 (0, 0)) := by
      have := heap_alloc_new ((w.alloc (.cells #[.slice a n c] 24)).alloc (.cells #[.string ⟨#[]⟩, .int .i64 0] 45)) (.cells #[.int .i64 0] 28)
      rw [World.size_alloc, World.size_alloc] at this
      exact this
    have HK2 := Lib.hid hk2
    have HK3 := Lib.hid hk3
    have HB0 := Lib.hid b1
    obtain ⟨p, hp⟩ : ∃ p, cE n R = p := ⟨_, rfl⟩
    rw [hp] at HC hE ⊢
    have d0 := bne0_true hE
    clear hS hR b1 hk2 hk3 hE hv he hp
    go_enter Tryd.func19, Tryd.ntmps19
    go_wp2_with fail
    refine HC.out.mono ?_
    rintro e w1 ⟨rfl, b1⟩
    have h2 := (b1.block _ (blk_lt HK2.out)).trans HK2.out
    have h3 := (b1.block _ (blk_lt HK3.out)).trans HK3.out
    have k2 : w1.cell? ⟨w.heap.size + 1, 0, none⟩ = some (.string ⟨#[]⟩) := by rw [cell_of_block h2]; rfl
    have k3 : w1.cell? ⟨w.heap.size + 1, 1, none⟩ = some (.int .i64 0) := by rw [cell_of_block h2]; rfl
    have k4 : w1.cell? ⟨w.heap.size + 1 + 1, 0, none⟩ = some (.int .i64 0) := by rw [cell_of_block h3]; rfl
    have f2 := unfrozen_of_block h2
    have f3 := unfrozen_of_block h3
    have HB1 := Lib.hid (below_tr HB0.out b1)
    clear b1 h2 h3
    go_wp2
    refine bodyPost_ret (v := .tuple #[gV rn0, .int .i64 p]) (by simp [results, Tryd.results19, go_sem, k2, k3, k4, f2, f3, rn0]) rfl ⟨rfl, ?_⟩
    exact ((HB1.out.setCell (p := ⟨w.heap.size + 1, 0, none⟩) (by dsimp only; omega) _).setCell (p := ⟨w.heap.size + 1, 1, none⟩) (by dsimp only; omega) _).setCell (p := ⟨w.heap.size + 1 + 1, 0, none⟩) (by dsimp only; omega) _
set_option maxRecDepth 100000 in
set_option maxHeartbeats 1600000 in
theorem rNext_ok (hS : SlA w a n R) (hn : n ≤ 9223372036854775807) (hR : ∀ j, j < n → AlB (R j)) :
    Calls Tryd.prog 31 #[pV a n c] w fun e w' => e = .returned (.tuple #[gV (nextV n R), .int .i64 (nextE n R)]) ∧ Below w.heap.size w w' := by
  have b1 : Below w.heap.size w ((w.alloc (.cells #[.slice a n c] 24)).alloc (.cells #[.string ⟨#[]⟩, .int .i64 0] 45)) := ((Below.refl _ w).alloc (Nat.le_refl _) _).alloc (by simp) _
  have HC := Lib.hid (rCheck_ok (c := c) (hS.below b1) hn hR)
  have hk1 : ((w.alloc (.cells #[.slice a n c] 24)).alloc (.cells #[.string ⟨#[]⟩, .int .i64 0] 45)).heap[w.heap.size]? = some (.cells #[.slice a n c] 24 (0, 0)) := (Below.heap_alloc _ _ _ (by simp)).trans (heap_alloc_new w _)
  have hk2 : ((w.alloc (.cells #[.slice a n c] 24)).alloc (.cells #[.string ⟨#[]⟩, .int .i64 0] 45)).heap[w.heap.size + 1]? = some (.cells #[.string ⟨#[]⟩, .int .i64 0] 45 (0, 0)) := by
    have := heap_alloc_new (w.alloc (.cells #[.slice a n c] 24)) (.cells #[.string ⟨#[]⟩, .int .i64 0] 45)
    rwa [World.size_alloc] at this
  have HK1 := Lib.hid hk1
  have HK2 := Lib.hid hk2
  have HB0 := Lib.hid b1
  have HS := Lib.hid (hS.below b1)
  clear hS b1 hk1 hk2
  by_cases hE : cE n R = 0
  · have hP := cE_zero hE
    have hat : ∀ j, j < n → 0 ≤ (R j).2.1 := fun j hj => (hP.ok j hj).a0
    have HAT := Lib.hid hat
    rw [hE] at HC
    have hn50 := hP.n50
    have hv0 : nextV n R = if bst (tmsA R) n < 0 then rn0 else ((R (bst (tmsA R) n).toNat).1, (R (bst (tmsA R) n).toNat).2.1) := if_neg (by simpa using hE)
    have he0 : nextE n R = if bst (tmsA R) n < 0 then 4 else 0 := if_neg (by simpa using hE)
    have hw : (bst (tmsA R) n = -1 ∧ nextV n R = rn0 ∧ nextE n R = 4) ∨ ∃ (b : Nat) (s : ByteArray) (t : Int), b < n ∧ bst (tmsA R) n = b ∧ (R b).1 = s ∧ (R b).2.1 = t ∧ nextV n R = (s, t) ∧ nextE n R = 0 := by
      rcases bst_spec (tmsA R) n with ⟨e, _⟩ | ⟨b, e, hb, _⟩
      · left
        rw [hv0, he0, e]
        exact ⟨rfl, if_pos (by decide), if_pos (by decide)⟩
      · right
        refine ⟨b, _, _, hb, e, rfl, rfl, ?_, ?_⟩
        · rw [hv0, e, if_neg (by omega), Int.toNat_natCast]
        · rw [he0, e, if_neg (by omega)]
    clear hv0 he0
    clear hE hP hat
    rcases hw with ⟨hb, hv, he⟩ | ⟨b, s, t, hbn, hb, hs, ht, hv, he⟩
    all_goals
      rw [hv, he]
      have HBs := Lib.hid hb
      first
        | (have HSs := Lib.hid hs
           have HTt := Lib.hid ht
           clear hs ht)
        | skip
      clear hv he hb
      go_enter Tryd.func31, Tryd.ntmps31
      go_wp2_with fail
      refine HC.out.mono ?_
      rintro e w1 ⟨rfl, b1⟩
      have HK11 := Lib.hid ((b1.block _ (blk_lt HK1.out)).trans HK1.out)
      have HK21 := Lib.hid ((b1.block _ (blk_lt HK2.out)).trans HK2.out)
      have HB1 := Lib.hid (below_tr HB0.out b1)
      have HS1 := Lib.hid (HS.out.below b1)
      have k0 : w1.cell? ⟨w.heap.size, 0, none⟩ = some (.slice a n c) := by rw [cell_of_block HK11.out]; rfl
      have HF := Lib.hid (rfirst_ok (c := c) HS1.out hn HAT.out)
      rw [HBs.out] at HF
      clear b1
      go_wp2_with fail
      refine HF.out.mono ?_
      rintro e w2 ⟨rfl, b2⟩
      have HB2 := Lib.hid (below_tr HB1.out b2)
      have h12 := (b2.block _ (blk_lt HK11.out)).trans HK11.out
      have h22 := (b2.block _ (blk_lt HK21.out)).trans HK21.out
      have HS2 := Lib.hid (HS1.out.below b2)
      clear k0 b2
      have k0 : w2.cell? ⟨w.heap.size, 0, none⟩ = some (.slice a n c) := by rw [cell_of_block h12]; rfl
      have k2 : w2.cell? ⟨w.heap.size + 1, 0, none⟩ = some (.string ⟨#[]⟩) := by rw [cell_of_block h22]; rfl
      have k3 : w2.cell? ⟨w.heap.size + 1, 1, none⟩ = some (.int .i64 0) := by rw [cell_of_block h22]; rfl
      have f2 := unfrozen_of_block h22
      have l0 := blk_lt h12
      have l2 := blk_lt h22
      clear h12 h22
    · go_wp2
      refine bodyPost_ret (v := .tuple #[gV rn0, .int .i64 4]) (by simp [results, Tryd.results31, go_sem, k2, k3, f2, rn0]) rfl ⟨rfl, ?_⟩
      exact (HB2.out.setCell (p := ⟨w.heap.size + 1, 0, none⟩) (by dsimp only; omega) _).setCell (p := ⟨w.heap.size + 1, 1, none⟩) (by dsimp only; omega) _
    · obtain ⟨b', o, rfl, g0, g1, g2⟩ := HS2.out.at_ hbn
      have hbi : (b : Int) < (n : Int) := by omega
      have hb0 : (0 : Int) ≤ (b : Int) := by omega
      have db : decide ((b : Int) < 0) = false := decide_eq_false (by omega)
      have hbl := World.block_lt_of_cell? _ _ g0
      dsimp only at hbl
      rw [HSs.out] at g0
      rw [HTt.out] at g1
      clear g2
      go_wp2_with fail
      go_region
      all_goals
        go_wp2
        refine bodyPost_ret (v := .tuple #[gV (s, t), .int .i64 0]) (by simp [results, Tryd.results31, go_sem, k2, k3, f2]) rfl ⟨rfl, ?_⟩
        exact ((HB2.out.drew.setCell (p := ⟨w.heap.size + 1, 0, none⟩) (by dsimp only; omega) _).setCell (p := ⟨w.heap.size + 1, 1, none⟩) (by dsimp only; omega) _)
  · have hv : nextV n R = rn0 := if_pos hE
    have he : nextE n R = cE n R := if_pos hE
    rw [hv, he]
    obtain ⟨p, hp⟩ : ∃ p, cE n R = p := ⟨_, rfl⟩
    rw [hp] at HC hE ⊢
    have d0 := bne0_true hE
    clear hR hE hv he hp
    go_enter Tryd.func31, Tryd.ntmps31
    go_wp2_with fail
    refine HC.out.mono ?_
    rintro e w1 ⟨rfl, b1⟩
    have h2 := (b1.block _ (blk_lt HK2.out)).trans HK2.out
    have k2 : w1.cell? ⟨w.heap.size + 1, 0, none⟩ = some (.string ⟨#[]⟩) := by rw [cell_of_block h2]; rfl
    have k3 : w1.cell? ⟨w.heap.size + 1, 1, none⟩ = some (.int .i64 0) := by rw [cell_of_block h2]; rfl
    have f2 := unfrozen_of_block h2
    have l2 := blk_lt h2
    have HB1 := Lib.hid (below_tr HB0.out b1)
    clear b1 h2
    go_wp2
    refine bodyPost_ret (v := .tuple #[gV rn0, .int .i64 p]) (by simp [results, Tryd.results31, go_sem, k2, k3, f2, rn0]) rfl ⟨rfl, ?_⟩
    exact (HB1.out.setCell (p := ⟨w.heap.size + 1, 0, none⟩) (by dsimp only; omega) _).setCell (p := ⟨w.heap.size + 1, 1, none⟩) (by dsimp only; omega) _
end
end Go.Proofs.YtjceahbikdncmaaDoor

namespace Go.Proofs.YtjceahbikdncmaaDoor
open Go.RowKit Go.Sort Go.Joins Go.Shelf
attribute [local go_sem] cell_grow frozen_grow size_grow Oper.semAt_some
theorem SlA.set_boxA {W : World} {ap : Option Addr} {m : Nat} {Q : Nat → Al} {z : Nat} {x : Option Addr} {y y' : Nat} (h : SlA W ap m Q) (hb : BoxA W z x y y') (v : Value) : SlA (W.setCell ⟨z, 0, none⟩ v) ap m Q := by
  rcases h with h | ⟨b, o, ha, hc⟩
  · exact .inl h
  · refine .inr ⟨b, o, ha, fun j hj => ?_⟩
    obtain ⟨h0, h1, h2⟩ := hc j hj
    refine ⟨(World.cell?_setCell_other _ _ _ _ (fun e => ?_)).trans h0, (World.cell?_setCell_other _ _ _ _ (fun e => ?_)).trans h1, (World.cell?_setCell_other _ _ _ _ (fun e => ?_)).trans h2⟩
    · injection e with e1 e2
      subst e1
      rw [← e2, cell_of_block hb] at h0
      cases h0
    · injection e with e1 e2
      omega
    · injection e with e1 e2
      omega
/-- what Cancel leaves -/
def canL (R : Nat → Al) (s : ByteArray) : Nat → List Al
  | 0 => []
  | m + 1 => if (R m).1 = s then canL R s m else canL R s m ++ [R m]
theorem canL_len (R : Nat → Al) (s : ByteArray) : ∀ m, (canL R s m).length ≤ m
  | 0 => Nat.le_refl _
  | m + 1 => by
    have := canL_len R s m
    simp only [canL]
    split
    · omega
    · simp; omega
def canE (n : Nat) (R : Nat → Al) (s : ByteArray) : Int := if cE n R ≠ 0 then cE n R else if (canL R s n).length = n then 4 else 0
def canR (n : Nat) (R : Nat → Al) (s : ByteArray) : List Al := if canE n R s = 0 then canL R s n else []
/-- what Cancel hands back -/
def CanPost (w : World) (n : Nat) (R : Nat → Al) (s : ByteArray) (e : Ending) (w' : World) : Prop :=
  ∃ (a : Option Addr) (c : Nat) (L : List Al), e = .returned (.tuple #[pV a L.length c, .int .i64 (canE n R s)]) ∧ Hid (L = canR n R s) ∧ SlA w' a L.length (fun j => L.getD j al0) ∧ Below w.heap.size w w'
section
variable {w : World} {a : Option Addr} {n c : Nat} {R : Nat → Al}
set_option maxRecDepth 100000 in
set_option maxHeartbeats 3200000 in
theorem rCancel_ok (hS : SlA w a n R) (hn : n ≤ 9223372036854775807) (hR : ∀ j, j < n → AlB (R j)) (s : ByteArray) :
    Calls Tryd.prog 30 #[pV a n c, .string s] w (CanPost w n R s) := by
  have b1 : Below w.heap.size w ((w.alloc (.cells #[.slice a n c] 24)).alloc (.cells #[.slice none 0 0] 24)) := ((Below.refl _ w).alloc (Nat.le_refl _) _).alloc (by simp) _
  have h5 : BoxA ((w.alloc (.cells #[.slice a n c] 24)).alloc (.cells #[.slice none 0 0] 24)) (w.heap.size + 1) none 0 0 := by
    have := heap_alloc_new (w.alloc (.cells #[.slice a n c] 24)) (.cells #[.slice none 0 0] 24)
    rwa [World.size_alloc] at this
  have h4 : BoxA ((w.alloc (.cells #[.slice a n c] 24)).alloc (.cells #[.slice none 0 0] 24)) w.heap.size a n c := (Below.heap_alloc _ _ _ (by simp)).trans (heap_alloc_new w _)
  have HC := Lib.hid (rCheck_ok (c := c) (hS.below b1) hn hR)
  have HS := Lib.hid (hS.below b1)
  have HB := Lib.hid b1
  have H5 := Lib.hid h5
  have H4 := Lib.hid h4
  clear hS b1 h5 h4
  by_cases hE : cE n R = 0
  · obtain ⟨i0, hi0, hz0, hz1, hz2'⟩ := info_parts info_alarm
    have hn50 := (cE_zero hE).n50
    have HE : Hid (canE n R s = if (canL R s n).length = n then 4 else 0) := Lib.hid (if_neg (by simpa using hE))
    rw [hE] at HC
    clear hE hR
    go_enter Tryd.func30, Tryd.ntmps30
    go_wp2_with fail
    refine HC.out.mono ?_
    rintro e w1 ⟨rfl, b1⟩
    have HB1 := Lib.hid (below_tr HB.out b1)
    have H51 := Lib.hid ((b1.block _ (blk_lt H5.out)).trans H5.out)
    have H41 := Lib.hid ((b1.block _ (blk_lt H4.out)).trans H4.out)
    have HS1 := Lib.hid (HS.out.below b1)
    clear b1 HC HS HB H5 H4
    go_wp2
    go_loopw [8, 9] (fun o i wr => ∃ (k : Nat) (va : Option Addr) (vc : Nat) (L : List Al), i = .int .i64 k ∧ k ≤ n ∧ o = .slice va L.length vc ∧ Hid (L = canL R s k) ∧ Hid (wr.ownsRow w1.heap.size 47 3 (.slice va L.length vc) L.length (alc L)) ∧ Hid (Below w1.heap.size w1 wr)) (fun _ i _ => n - (intOf i).toNat)
    case atStart => exact ⟨0, none, 0, [], rfl, Nat.zero_le _, rfl, Lib.hid rfl, Lib.hid (World.ownsRow_nil _ _ _ _), Lib.hid (Below.refl _ _)⟩
    case round =>
      obtain ⟨k, va, vc, L, rfl, hk, rfl, HL, HO, HBr⟩ := hrel
      have H4r := Lib.hid ((HBr.out.block _ (blk_lt H41.out)).trans H41.out)
      have H5r := Lib.hid ((HBr.out.block _ (blk_lt H51.out)).trans H51.out)
      have k0 : wr.cell? ⟨w.heap.size, 0, none⟩ = some (.slice a n c) := by rw [cell_of_block H4r.out]; rfl
      have l0 := blk_lt H4r.out
      have hll : L.length ≤ k := by rw [HL.out]; exact canL_len R s k
      by_cases hlt : k < n
      · obtain ⟨b, o, rfl, g0, g1, g2⟩ := (HS1.out.below HBr.out).at_ hlt
        have hbl := World.block_lt_of_cell? _ _ g0
        dsimp only at hbl
        have hki : (k : Int) < (n : Int) := by omega
        have hk0 : (0 : Int) ≤ (k : Int) := by omega
        have h1 : canL R s (k + 1) = if (R k).1 = s then canL R s k else canL R s k ++ [R k] := rfl
        rw [← HL.out] at h1
        have hne := str_eq (R k).1 s
        obtain ⟨x, y, z, hx⟩ : ∃ x y z, R k = (x, y, z) := ⟨_, _, _, rfl⟩
        rw [hx] at g0 g1 g2 h1 hne
        dsimp only at g0 g1 g2 h1 hne
        clear hx
        by_cases hc : x = s
        · rw [if_pos hc] at h1
          rw [decide_eq_true hc] at hne
          have H1 := Lib.hid h1
          clear h1 hc
          go_wp2
          go_roundw
          case rel => exact ⟨k + 1, va, vc, L, by go_num, by omega, rfl, Lib.hid H1.out.symm, HO, HBr⟩
          case measure => simp [intOf]; omega
        · rw [if_neg hc] at h1
          rw [decide_eq_false hc] at hne
          have H1 := Lib.hid h1
          have hlt0 := HBr.out.size
          clear h1 hc
          go_wp2_with (at_builtin; refine wpList_append_own _ rfl (.tmp 34) (.tmp 40) 22 rfl w1.heap.size 47 i0 (.agg #[.string ⟨#[]⟩, .int .i64 0, .int .i64 0]) 3 32 Tryd.underlying22 hi0 hz0 hz1 hz2' rfl (by decide) _ _ _ rfl (HO.out.alloc _) ⟨wr.heap.size, 0, none⟩ 1 1 [.string x, .int .i64 y, .int .i64 z] rfl rfl ?c1 ?c2 ?c3 ?c4 ?c5 ?_)
          case c1 => intro j q hq; match j with | 0 => (simp at hq; subst hq; simp [go_sem]) | 1 => (simp at hq; subst hq; simp [go_sem]) | 2 => (simp at hq; subst hq; simp [go_sem]) | j + 3 => simp at hq
          case c2 => intro q hq; simp at hq; rcases hq with rfl | rfl | rfl <;> rfl
          case c3 => unfold maxLen; omega
          case c4 => omega
          case c5 => first | omega | (simp; omega)
          intro v' w3 hown hg _
          obtain ⟨va', vc', rfl⟩ := own_slice' hown
          have hB1 := Lib.hid ((HBr.out.alloc HBr.out.size (.cells #[.string x, .int .i64 y, .int .i64 z] 47)).grown hg (by simp; omega) (by intro r hr; exact (HO.out.lt r hr).1))
          have HW : Hid (w3.ownsRow w1.heap.size 47 3 (.slice va' (L ++ [(x, y, z)]).length vc') (L ++ [(x, y, z)]).length (alc (L ++ [(x, y, z)]))) := Lib.hid (by rw [alc_snoc, List.length_append, List.length_singleton]; exact hown)
          clear hown hg
          go_wp2
          go_roundw
          case rel => exact ⟨k + 1, va', vc', L ++ [(x, y, z)], by go_num, by omega, by rw [List.length_append, List.length_singleton], Lib.hid H1.out.symm, HW, hB1⟩
          case measure => simp [intOf]; omega
      · obtain rfl : k = n := by omega
        have k5 : wr.cell? ⟨w.heap.size + 1, 0, none⟩ = some (.slice none 0 0) := by rw [cell_of_block H5r.out]; rfl
        have f5 := unfrozen_of_block H5r.out
        have l5 := blk_lt H5r.out
        have HBE := Lib.hid (HB1.out.trans (HBr.out.mono HB1.out.size))
        have hh := HE.out
        rw [← HL.out] at hh
        by_cases hlen : L.length = k
        · rw [if_pos hlen] at hh
          have HH := Lib.hid hh
          have dl : ((L.length : Int) == (k : Int)) = true := by simp; omega
          clear hh
          go_wp2
          refine bodyPost_ret (v := .tuple #[.agg #[.slice none 0 0], .int .i64 4]) (by simp [results, Tryd.results30, go_sem, k5, f5]) rfl ⟨none, 0, [], by rw [HH.out]; rfl, Lib.hid (by unfold canR; rw [HH.out, if_neg (by decide)]), .inl rfl, HBE.out.setCell (p := ⟨w.heap.size + 1, 0, none⟩) (by dsimp only; omega) _⟩
        · rw [if_neg hlen] at hh
          have HH := Lib.hid hh
          have dl : ((L.length : Int) == (k : Int)) = false := by simp; omega
          clear hh
          go_wp2
          refine bodyPost_ret (v := .tuple #[pV va L.length vc, .int .i64 0]) (by simp [results, Tryd.results30, go_sem, k5, f5]) rfl ⟨va, vc, L, by rw [HH.out], Lib.hid (by unfold canR; rw [HH.out, if_pos rfl, HL.out]), ?_, HBE.out.setCell (p := ⟨w.heap.size + 1, 0, none⟩) (by dsimp only; omega) _⟩
          exact (SlA.of_own HO.out).set_boxA H5r.out _
  · have HE : Hid (canE n R s = cE n R) := Lib.hid (if_pos hE)
    obtain ⟨p, hp⟩ : ∃ p, cE n R = p := ⟨_, rfl⟩
    rw [hp] at HC HE hE
    have d0 := bne0_true hE
    have HP0 := Lib.hid hE
    clear hR hE hp
    go_enter Tryd.func30, Tryd.ntmps30
    go_wp2_with fail
    refine HC.out.mono ?_
    rintro e w1 ⟨rfl, b1⟩
    have h51 := (b1.block _ (blk_lt H5.out)).trans H5.out
    have k5 : w1.cell? ⟨w.heap.size + 1, 0, none⟩ = some (.slice none 0 0) := by rw [cell_of_block h51]; rfl
    have f5 := unfrozen_of_block h51
    have l5 := blk_lt h51
    have HB1 := Lib.hid (below_tr HB.out b1)
    clear b1 h51
    go_wp2
    refine bodyPost_ret (v := .tuple #[.agg #[.slice none 0 0], .int .i64 p]) (by simp [results, Tryd.results30, go_sem, k5, f5]) rfl ⟨none, 0, [], by rw [HE.out]; rfl, Lib.hid (by unfold canR; rw [HE.out, if_neg HP0.out]), .inl rfl, HB1.out.setCell (p := ⟨w.heap.size + 1, 0, none⟩) (by dsimp only; omega) _⟩
end
end Go.Proofs.YtjceahbikdncmaaDoor

namespace Go.Proofs.YtjceahbikdncmaaDoor
open Go.RowKit Go.Sort Go.Joins Go.Shelf
attribute [local go_sem] cell_grow frozen_grow size_grow Oper.semAt_some
theorem cmp_list : ∀ (a b : List UInt8), decide (Lib.compareBytes a b < 0) = decide (a < b) ∧ (Lib.compareBytes a b == 0) = decide (a = b)
  | [], [] => by simp [Lib.compareBytes]
  | _ :: _, [] => by simp [Lib.compareBytes]
  | [], _ :: _ => by simp [Lib.compareBytes]
  | x :: a, y :: b => by
    have ih := cmp_list a b
    rw [Lib.compareBytes]
    simp only [List.cons_lt_cons_iff, List.cons.injEq]
    by_cases h1 : x < y
    · simp [h1, UInt8.ne_of_lt h1]
    · by_cases h2 : y < x
      · have h3 : ¬ x = y := fun e => by subst e; exact h1 h2
        simp [h1, h2, h3]
      · have h3 : x = y := UInt8.le_antisymm (UInt8.not_lt.1 h2) (UInt8.not_lt.1 h1)
        simp [h1, h2, h3, ih.1, ih.2]
theorem cmp_ways (a b : ByteArray) : decide (Lib.compareBytes a.data.toList b.data.toList < 0) = nlt a b ∧ (Lib.compareBytes a.data.toList b.data.toList == 0) = decide (a = b) := by
  obtain ⟨h1, h2⟩ := cmp_list a.data.toList b.data.toList
  refine ⟨h1, h2.trans ?_⟩
  by_cases h : a = b
  · subst h; simp
  · rw [decide_eq_false h, decide_eq_false]
    exact fun e => h (ba_ext e)
set_option maxRecDepth 100000 in
theorem find1_ok (x : Al) (s : ByteArray) (w : World) : Calls Tryd.prog 57 #[aV x, .string s] w fun e w' => ∃ r : Int, e = .returned (.int .i64 r) ∧ decide (r < 0) = nlt x.1 s ∧ (r == 0) = decide (x.1 = s) ∧ Below w.heap.size w w' := by
  have HB := Lib.hid (below_box0 w (.cells #[.string x.1, .int .i64 x.2.1, .int .i64 x.2.2] 47))
  have HC := Lib.hid (Tryd.strings_Compare x.1 s)
  obtain ⟨h1, h2⟩ := cmp_ways x.1 s
  obtain ⟨r, hr⟩ : ∃ r, Lib.compareBytes x.1.data.toList s.data.toList = r := ⟨_, rfl⟩
  rw [hr] at HC h1 h2
  have H1 := Lib.hid h1
  have H2 := Lib.hid h2
  clear h1 h2 hr
  go_enter Tryd.func57, Tryd.ntmps57
  go_wp2_with fail
  refine (HC.out _).mono ?_
  rintro e w1 ⟨rfl, rfl⟩
  go_wp2
  go_ret
  exact ⟨r, rfl, H1.out, H2.out, HB.out⟩
/-- the place of a name -/
def lowI (n : Nat) (R : Nat → Al) (s : ByteArray) : Nat := nxt (fun j => !nlt (R j).1 s) 0 n
theorem low_eq {n i : Nat} {R : Nat → Al} {s : ByteArray} (hi : i ≤ n) (h1 : ∀ k, k < i → nlt (R k).1 s = true) (h2 : ∀ k, i ≤ k → k < n → nlt (R k).1 s = false) : i = lowI n R s :=
  (nxt_eq (Nat.zero_le _) (Nat.zero_le _) hi (fun k _ hk => by simp [h1 k hk]) (fun h => by simp [h2 i (Nat.le_refl _) h])).symm
section
variable {w : World} {a : Option Addr} {n c : Nat} {R : Nat → Al}
set_option maxRecDepth 100000 in
set_option maxHeartbeats 3200000 in
theorem bsf_ok (hS : SlA w a n R) (hP : PlOk n R) (s : ByteArray) :
    Calls Tryd.prog 56 #[.slice a n c, .string s, .func (.func 57) #[] #[]] w fun e w' => e = .returned (.tuple #[.int .i64 (lowI n R s), .bool (decide (lowI n R s < n) && decide ((R (lowI n R s)).1 = s))]) ∧ Below w.heap.size w w' := by
  have hn50 := hP.n50
  have HS := Lib.hid hS
  have HP := Lib.hid hP
  have eg : ∀ args w, (callFunc 57 args).run Tryd.prog w = .ok (.enter 57 args) w := enters_of Tryd.func57 (by kernel_rfl) rfl
  clear hS hP
  go_enter Tryd.func56, Tryd.ntmps56
  go_wp2
  go_loopw [9, 10] (fun o p wr => ∃ i j : Nat, o = .int .i64 i ∧ p = .int .i64 j ∧ i ≤ j ∧ j ≤ n ∧ Hid (∀ k, k < i → nlt (R k).1 s = true) ∧ Hid (∀ k, j ≤ k → k < n → nlt (R k).1 s = false) ∧ Hid (Below w.heap.size w wr)) (fun o p _ => (intOf p).toNat - (intOf o).toNat)
  case atStart => exact ⟨0, n, rfl, rfl, Nat.zero_le _, Nat.le_refl _, Lib.hid (fun k hk => by omega), Lib.hid (fun k h1 h2 => by omega), Lib.hid (Below.refl _ _)⟩
  case round =>
    obtain ⟨i, j, rfl, rfl, hij, hjn, HA, HZ, HB⟩ := hrel
    by_cases hlt : i < j
    · obtain ⟨h, hh⟩ : ∃ h : Nat, (i + j) / 2 = h := ⟨_, rfl⟩
      have hh1 : i ≤ h := by omega
      have hh2 : h < j := by omega
      obtain ⟨b, o, rfl, g0, g1, g2⟩ := (HS.out.below HB.out).at_ (show h < n by omega)
      have hbl := World.block_lt_of_cell? _ _ g0
      dsimp only at hbl
      have hI : ((i : Int) + (j : Int)) / 2 = (h : Int) := by omega
      have HC := Lib.hid (find1_ok (R h) s wr)
      have hhi : (h : Int) < (n : Int) := by omega
      have hh0 : (0 : Int) ≤ (h : Int) := by omega
      clear hh
      cases hnl : nlt (R h).1 s
      all_goals
        rw [hnl] at HC
        have HN := Lib.hid hnl
        clear hnl
        go_wp2_with (go_at_fn 57; refine HC.out.mono ?_; rintro e' w1 ⟨r, rfl, hr1, _, b1⟩; have HB1 := Lib.hid (below_tr HB.out b1); clear b1)
      · go_roundw
        case rel => exact ⟨i, h, rfl, rfl, hh1, by omega, HA, Lib.hid (fun k h1 h2 => by
          by_cases ek : k = h
          · rw [ek]; exact HN.out
          · cases hk : nlt (R k).1 s with
            | false => rfl
            | true => have := nlt_tr (HP.out.up h k (by omega) h2) hk; rw [HN.out] at this; cases this), HB1⟩
        case measure => simp [intOf]; omega
      · go_roundw
        case rel => exact ⟨h + 1, j, by go_num, rfl, by omega, hjn, Lib.hid (fun k h1 => by
          by_cases ek : k = h
          · rw [ek]; exact HN.out
          · exact nlt_tr (HP.out.up k h (by omega) (by omega)) HN.out), HZ, HB1⟩
        case measure => simp [intOf]; omega
    · obtain rfl : i = j := by omega
      have hlow := low_eq (by omega) HA.out HZ.out
      have HL := Lib.hid hlow
      clear hlow
      by_cases hin : i < n
      · obtain ⟨b, o, rfl, g0, g1, g2⟩ := (HS.out.below HB.out).at_ hin
        have hbl := World.block_lt_of_cell? _ _ g0
        dsimp only at hbl
        have hhi : (i : Int) < (n : Int) := by omega
        have hh0 : (0 : Int) ≤ (i : Int) := by omega
        have HC := Lib.hid (find1_ok (R i) s wr)
        go_wp2_with (go_at_fn 57; refine HC.out.mono ?_; rintro e' w1 ⟨r, rfl, _, hr2, b1⟩; have HB1 := Lib.hid (below_tr HB.out b1); clear b1)
        go_ret2
        refine ⟨?_, HB1.out⟩
        rw [← HL.out, decide_eq_true hin, Bool.true_and]
        rfl
      · have hni : decide ((i : Int) < (n : Int)) = false := decide_eq_false (by omega)
        go_wp2
        go_ret2
        refine ⟨?_, HB.out⟩
        rw [← HL.out, decide_eq_false hin, Bool.false_and]
        rfl
theorem find_ok (hS : SlA w a n R) (hP : PlOk n R) (s : ByteArray) :
    Calls Tryd.prog 43 #[pV a n c, .string s] w fun e w' => e = .returned (.tuple #[.int .i64 (lowI n R s), .bool (decide (lowI n R s < n) && decide ((R (lowI n R s)).1 = s))]) ∧ Below w.heap.size w w' := by
  have b0 := below_box0 w (.cells #[.slice a n c] 24)
  have HB0 := Lib.hid b0
  have HF := Lib.hid (bsf_ok (c := c) (hS.below b0) hP s)
  obtain ⟨i, hi⟩ : ∃ i, lowI n R s = i := ⟨_, rfl⟩
  rw [hi] at HF ⊢
  obtain ⟨q, hq⟩ : ∃ q, (decide (i < n) && decide ((R i).1 = s)) = q := ⟨_, rfl⟩
  rw [hq] at HF ⊢
  clear b0 hS hi hq
  go_enter Tryd.func43, Tryd.ntmps43
  go_wp2_with fail
  refine HF.out.mono ?_
  rintro e w1 ⟨rfl, b1⟩
  have HB1 := Lib.hid (below_tr HB0.out b1)
  clear b1
  go_wp2
  go_ret2
  exact ⟨rfl, HB1.out⟩
end
end Go.Proofs.YtjceahbikdncmaaDoor
