/- The reference for bits: New, Set, Flip; Same. -/
import Derived.Test.YtikdgnfcckenmaaDoorRefD
import Derived.Test.YtikdgnfcckenmaaDoorRefC
import Derived.Deep.OwnRows
namespace Go.Proofs.YtikdgnfcckenmaaDoor
open Go.RowKit Go.Sort Go.Joins
attribute [local go_sem] cell_grow frozen_grow size_grow

/-- a box for a result that is bits, as yet empty -/
structure ZAt (R : Nat) (W : World) : Prop where
  r0 : W.cell? ⟨R, 0, none⟩ = some (.int .i64 0)
  r1 : W.cell? ⟨R, 1, none⟩ = some (.slice none 0 0)
  f0 : W.frozen? ⟨R, 0, none⟩ = false
  f1 : W.frozen? ⟨R, 1, none⟩ = false
theorem ZAt.lt {R : Nat} {W : World} (h : ZAt R W) : R < W.heap.size := World.block_lt_of_cell? _ _ h.r0
theorem ZAt.below {R : Nat} {W W' : World} (h : ZAt R W) (hb : Below W.heap.size W W') : ZAt R W' :=
  have hl := h.lt
  ⟨(hb.cell (p := ⟨R, 0, none⟩) hl).trans h.r0, (hb.cell (p := ⟨R, 1, none⟩) hl).trans h.r1, (hb.frozen (p := ⟨R, 0, none⟩) hl).trans h.f0, (hb.frozen (p := ⟨R, 1, none⟩) hl).trans h.f1⟩
theorem ZAt.grown {R : Nat} {W W' : World} {row : Option Nat} (h : ZAt R W) (hg : W.grownBy W' row) (hne : (some R : Option Nat) ≠ row) : ZAt R W' :=
  ⟨hg.cell h.r0 hne, hg.cell h.r1 hne, (World.frozen?_of_block (hg.block R h.lt hne)).trans h.f0, (World.frozen?_of_block (hg.block R h.lt hne)).trans h.f1⟩
theorem ZAt.new (w : World) (T : TypeId) : ZAt w.heap.size (w.alloc (.cells #[.int .i64 0, .slice none 0 0] T)) := ⟨by simp [go_sem], by simp [go_sem], by simp [go_sem], by simp [go_sem]⟩

/-- a value that is bits -/
def BtR (W : World) (v : Value) (N : Int) (ws : List Nat) : Prop := ∃ a cap, v = .agg #[.int .i64 N, .slice a ws.length cap] ∧ SlK .u64 W a ws.length ws
theorem BtR.below {W W' : World} {v : Value} {N : Int} {ws : List Nat} (h : BtR W v N ws) (hb : Below W.heap.size W W') : BtR W' v N ws := by
  obtain ⟨a, cap, h1, h2⟩ := h
  exact ⟨a, cap, h1, h2.below hb⟩
theorem BtR.zero (W : World) : BtR W (.agg #[.int .i64 0, .slice none 0 0]) 0 [] := ⟨none, 0, rfl, rfl, .inl rfl⟩
/-- what is stored into the result's box -/
theorem BtR.stored {W : World} {R B n L : Nat} {a : Option Addr} {cap : Nat} {ws : List Nat} (h : W.ownsRow B 58 1 (.slice a L cap) L (u64s ws)) (hR : R < B) (hL : ws.length = L) (u v : Value) :
    BtR ((W.setCell ⟨R, 0, none⟩ u).setCell ⟨R, 1, none⟩ v) (.agg #[.int .i64 n, .slice a L cap]) n ws := by
  have hob : ∀ i, (Value.slice a L cap).ownBlock ≠ some (⟨R, i, none⟩ : Addr).block := fun i e => by have := (h.lt _ e).1; dsimp only at this; omega
  subst hL
  exact ⟨a, cap, rfl, SlK.of_own (ownsRow_setCell_other (ownsRow_setCell_other h (hob 0) _) (hob 1) _)⟩

theorem bls_false (n : Nat) : (List.replicate n (Value.bool false)) = bls (fun _ => false) n := by
  apply List.ext_getElem?
  intro i
  by_cases h : i < n
  · rw [bls_get _ _ _ h, List.getElem?_replicate, if_pos h]
  · rw [List.getElem?_eq_none (by simpa using h), List.getElem?_eq_none (by rw [bls_length]; omega)]
theorem zeros_bool (w : World) (len : Nat) (h : len ≤ 100000) : (w.alloc (.cells (madeCells #[.bool false] len) 4)).ownsRow w.heap.size 4 1 (.slice (some ⟨w.heap.size, 0, none⟩) len len) len (bls (fun _ => false) len) := by
  have h1 := World.ownsRow_lit (base := w.heap.size) (e := 4) (size := 1) w (madeCells #[.bool false] len) len (Nat.le_refl _) (by unfold maxLen; omega) (by simp [madeCells])
  rw [toList_madeCells_one, bls_false] at h1
  exact h1
/-- one bit more is laid -/
theorem bls_step {p q r : Nat → Bool} {n k : Nat} (h : ∀ i, r i = if i = k then q k else p i) : (bls p n).set k (.bool (q k)) = bls r n := by
  rw [bls_set]; exact bls_congr fun i _ => (h i).symm
/-- a store into a row of bools -/
theorem bls_stored {w wr : World} {base g cap n k : Nat} {e : TypeId} {p r : Nat → Bool} {v : Bool} (ho : wr.ownsRow base e 1 (.slice (some ⟨g, 0, none⟩) n cap) n (bls p n)) (hg : w.grownBy wr (some g)) (h : (bls p n).set k (.bool v) = bls r n) :
    (wr.setCell ⟨g, k, none⟩ (.bool v)).ownsRow base e 1 (.slice (some ⟨g, 0, none⟩) n cap) n (bls r n) ∧ w.grownBy (wr.setCell ⟨g, k, none⟩ (.bool v)) (some g) := by
  have hs := (ho.stored k (.bool v)).1
  rw [h] at hs
  exact ⟨hs, gb_setCell hg _ _⟩

/-- what New makes -/
def newE (N : Int) : Int := if N < 0 ∨ 4096 < N then 7 else 0
def newN (N : Int) : Int := if N < 0 ∨ 4096 < N then 0 else N
def newW (N : Int) (on : Bool) : List Nat := if N < 0 ∨ 4096 < N then [] else pack (fun i => on && decide (i < N.toNat)) ((N.toNat + 63) / 64)

set_option maxRecDepth 100000 in
set_option maxHeartbeats 1600000 in
theorem rNew_ok (N : Int) (on : Bool) (w : World) :
    Calls Tryd.prog 34 #[.int .i64 N, .bool on] w fun e w' => ∃ v, e = .returned (.tuple #[v, .int .i64 (newE N)]) ∧ BtR w' v (newN N) (newW N on) ∧ Below w.heap.size w w' := by
  by_cases hN : N < 0 ∨ 4096 < N
  · have E : newE N = 7 := if_pos hN
    have F : newN N = 0 := if_pos hN
    have G : newW N on = [] := if_pos hN
    rw [E, F, G]
    clear E F G
    by_cases h0 : N < 0
    all_goals
      have h1 : ¬ N < 0 → 4096 < N := fun h => by omega
      first | (have h2 := h1 h0; clear h1 hN) | (clear h1 hN)
      go_enter Tryd.func34, Tryd.ntmps34
      go_wp2
      refine bodyPost_ret (v := .tuple #[.agg #[.int .i64 0, .slice none 0 0], .int .i64 7]) (by simp [results, Tryd.results34, go_sem]) rfl ⟨_, rfl, BtR.zero _, ?_⟩
      exact (below_box0 _ _)
  · have E : newE N = 0 := if_neg hN
    have F : newN N = N := if_neg hN
    have G : newW N on = pack (fun i => on && decide (i < N.toNat)) ((N.toNat + 63) / 64) := if_neg hN
    rw [E, F, G]
    clear E F G
    obtain ⟨n, rfl⟩ := Int.eq_ofNat_of_zero_le (by omega : 0 ≤ N)
    have hn : n ≤ 4096 := by omega
    rw [Int.toNat_natCast]
    clear hN
    have hmk := fun W => run_make_row' (P := Tryd.prog) 63 4 (.bool false) 1 Tryd.underlying63 info_bool rfl .i64 .i64 n (by omega) (by omega) W
    have HZB := Lib.hid (zeros_bool (w.alloc (.cells #[.int .i64 0, .slice none 0 0] 24)) n (by omega))
    go_enter Tryd.func34, Tryd.ntmps34
    go_wp2
    go_loopw [7] (fun i wr => ∃ k : Nat, i = .int .i64 k ∧ k ≤ n ∧ Hid (wr.ownsRow (w.heap.size + 1) 4 1 (.slice (some ⟨w.heap.size + 1, 0, none⟩) n n) n (bls (fun i => on && decide (i < k)) n)) ∧ Hid (ZAt w.heap.size wr) ∧ Hid (Below w.heap.size w wr)) (fun i _ => n - (intOf i).toNat)
    case atStart =>
      have h0 := HZB.out
      rw [World.size_alloc] at h0
      refine ⟨0, rfl, Nat.zero_le _, Lib.hid ?_, Lib.hid ((ZAt.new w _).below (below_box0 _ _)), Lib.hid (below_alloc2 _ _ _)⟩
      rw [show bls (fun i => on && decide (i < 0)) n = bls (fun _ => false) n from bls_congr fun i _ => by simp]
      exact h0
    case round =>
      obtain ⟨k, rfl, hk, HO, HZ, HB⟩ := hrel
      by_cases hlt : k < n
      · have hck := own_bool HO.out k hlt
        have hfz := HO.out.frozenAt k
        have hlti : (k : Int) < (n : Int) := by omega
        go_wp2
        go_roundw
        case rel =>
          have hs := bls_stored (k := k) (r := fun i => on && decide (i < k + 1)) (v := on) HO.out (World.grownBy.refl _ _) (by
            rw [bls_set]
            refine bls_congr fun i _ => ?_
            by_cases hi : i = k
            · subst hi; simp
            · rw [if_neg hi, show decide (i < k + 1) = decide (i < k) by rw [decide_eq_decide]; omega])
          exact ⟨k + 1, by go_num, by omega, Lib.hid hs.1, Lib.hid (HZ.out.grown hs.2 (by simp)), Lib.hid (HB.out.grown hs.2 (by have := HZ.out.lt; omega) (by intro r hr; cases hr; omega))⟩
        case measure => simp [intOf]; omega
      · have hkn : k = n := by omega
        subst hkn
        go_wp2_with fail
        refine (rOf_ok k (fun i => on && decide (i < k)) _ _ _ (SlB.of_own HO.out) hn).mono ?_
        rintro e w3 ⟨a', cap', rfl, hown3, b3⟩
        have Z3 := HZ.out.below b3
        have r0 := Z3.r0
        have r1 := Z3.r1
        have f0 := Z3.f0
        have f1 := Z3.f1
        have hzr := HZ.out.lt
        have HO3 := Lib.hid hown3
        have HB3 := Lib.hid (HB.out.trans (b3.mono (by omega)))
        clear hown3 b3
        go_wp2
        refine bodyPost_ret (v := .tuple #[.agg #[.int .i64 k, .slice a' ((k + 63) / 64) cap'], .int .i64 0]) (by simp [results, Tryd.results34, go_sem, r0, r1]) rfl ⟨_, rfl, ?_, (HB3.out.setCell (p := ⟨w.heap.size, 0, none⟩) (Nat.le_refl _) _).setCell (p := ⟨w.heap.size, 1, none⟩) (Nat.le_refl _) _⟩
        have e : pack (fun i => (on && decide (i < k)) && decide (i < k)) ((k + 63) / 64) = pack (fun i => on && decide (i < k)) ((k + 63) / 64) := pack_congr fun i _ => by simp
        have hO := HO3.out
        rw [e] at hO
        exact BtR.stored hO hzr (pack_length _ _) _ _

/-- what Set makes -/
def setN (N : Int) (ws : List Nat) (f t : Int) : Int := if prt N ws f t = 0 then N else 0
def setW (N : Int) (ws : List Nat) (f t : Int) (on : Bool) : List Nat := if prt N ws f t = 0 then pack (filled (bat ws) f.toNat t.toNat on) ws.length else []
theorem filled_step (p : Nat → Bool) {f k : Nat} (on : Bool) (n : Nat) (h : f ≤ k) : (bls (filled p f k on) n).set k (.bool on) = bls (filled p f (k + 1) on) n := by
  rw [bls_set]
  refine bls_congr fun i _ => ?_
  unfold filled
  by_cases hi : i = k
  · subst hi; rw [if_pos rfl, if_pos ⟨h, by omega⟩]
  · rw [if_neg hi]
    by_cases h2 : f ≤ i ∧ i < k
    · rw [if_pos h2, if_pos ⟨h2.1, by omega⟩]
    · rw [if_neg h2, if_neg (by omega)]
theorem chk_out {n : Nat} {ws : List Nat} (hc : chk n ws = 0) (i : Nat) (hi : n ≤ i) : bat ws i = false := by
  obtain ⟨_, _, _, h⟩ := chk_zero hc
  by_cases h2 : i < 64 * ws.length
  · exact h i h2 (by simpa using hi)
  · exact bat_out ws i (by omega)

set_option maxRecDepth 100000 in
set_option maxHeartbeats 1600000 in
theorem rSet_ok (N f t : Int) (on : Bool) (a : Option Addr) (len cap : Nat) (ws : List Nat) (w : World) (hs : SlK .u64 w a len ws) (hw : ∀ x ∈ ws, x < 18446744073709551616) (hlen : len ≤ 9223372036854775807) :
    Calls Tryd.prog 39 #[.agg #[.int .i64 N, .slice a len cap], .int .i64 f, .int .i64 t, .bool on] w fun e w' => ∃ v, e = .returned (.tuple #[v, .int .i64 (prt N ws f t)]) ∧ BtR w' v (setN N ws f t) (setW N ws f t on) ∧ Below w.heap.size w w' := by
  have hL := hs.length
  have hz0 : ZAt (w.heap.size + 1) ((w.alloc (.cells #[.int .i64 N, .slice a len cap] 24)).alloc (.cells #[.int .i64 0, .slice none 0 0] 24)) := by
    have := ZAt.new (w.alloc (.cells #[.int .i64 N, .slice a len cap] 24)) 24
    rwa [World.size_alloc] at this
  have HZ0 := Lib.hid hz0
  clear hz0
  by_cases hp : prt N ws f t = 0
  · obtain ⟨hc, hf, hft, htN⟩ := prt_zero hp
    obtain ⟨hN0, hN, hl, _⟩ := chk_zero hc
    obtain ⟨f, rfl⟩ := Int.eq_ofNat_of_zero_le hf
    obtain ⟨t, rfl⟩ := Int.eq_ofNat_of_zero_le (by omega : 0 ≤ t)
    obtain ⟨n, rfl⟩ := Int.eq_ofNat_of_zero_le hN0
    have E1 : setN n ws f t = n := if_pos hp
    have E2 : setW n ws f t on = pack (fun i => filled (bat ws) f t on i && decide (i < n)) ((n + 63) / 64) := by
      unfold setW
      rw [if_pos hp, Int.toNat_natCast, Int.toNat_natCast, show ws.length = (n + 63) / 64 by omega]
      refine pack_congr fun i _ => ?_
      by_cases hi : i < n
      · simp [hi]
      · have : filled (bat ws) f t on i = false := by unfold filled; rw [if_neg (by omega)]; exact chk_out hc i (by omega)
        rw [this]; rfl
    rw [E1, E2, hp]
    have P := Lib.hid hp
    have hn : n ≤ 4096 := by omega
    have hln : len = (n + 63) / 64 := by omega
    have HLN := Lib.hid hln
    clear hp hc hL hl hln E1 E2
    go_enter Tryd.func39, Tryd.ntmps39
    go_wp2_with fail
    refine (rpart_ok n f t a len cap ws _ ((hs.alloc _).alloc _) hw hlen).mono ?_
    rintro e w1 ⟨rfl, b1⟩
    rw [P.out]
    have R1 := Lib.hid (((RAt.new (N := n) (cap := cap) hs 24).below (below_box0 _ _)).below b1)
    have Z1 := Lib.hid (HZ0.out.below b1)
    have c0 := R1.out.b.n
    have c1 := R1.out.b.s
    clear b1
    go_wp2_with fail
    refine (rList_ok n a len cap ws _ R1.out.s hw hn HLN.out).mono ?_
    rintro e w2 ⟨v, rfl, hown, b2⟩
    obtain ⟨va, vc, rfl⟩ := own_slice hown
    have R2 := Lib.hid (R1.out.below b2)
    have Z2 := Lib.hid (Z1.out.below b2)
    have hz1 := Z1.out.lt
    have hz2 := b2.size
    have HO2 := Lib.hid hown
    clear b2 hown
    go_wp2
    go_loopw [12] (fun i wr => ∃ k : Nat, i = .int .i64 k ∧ f ≤ k ∧ k ≤ t ∧ Hid (wr.ownsRow w1.heap.size 4 1 (.slice va n vc) n (bls (filled (bat ws) f k on) n)) ∧ Hid (w2.grownBy wr (Value.slice va n vc).ownBlock)) (fun i _ => t - (intOf i).toNat)
    case atStart =>
      refine ⟨f, rfl, Nat.le_refl _, by omega, Lib.hid ?_, Lib.hid (World.grownBy.refl _ _)⟩
      rw [show bls (filled (bat ws) f f on) n = bls (bat ws) n from bls_congr fun i _ => by unfold filled; rw [if_neg (by omega)]]
      exact HO2.out
    case round =>
      obtain ⟨k, rfl, hk1, hk, HO, HG⟩ := hrel
      by_cases hlt : k < t
      · have hO := HO.out
        obtain ⟨g, cap', hv⟩ := ownsRow_form hO (by omega)
        cases hv
        have hck := own_bool hO k (by omega)
        have hfz := hO.frozenAt k
        have hlti : (k : Int) < (n : Int) := by omega
        have HO' := Lib.hid hO
        clear hO
        go_wp2
        go_roundw
        case rel =>
          have hs := bls_stored (v := on) HO'.out HG.out (filled_step (bat ws) on n hk1)
          exact ⟨k + 1, by go_num, by omega, by omega, Lib.hid hs.1, Lib.hid hs.2⟩
        case measure => simp [intOf]; omega
      · have hkn : k = t := by omega
        subst hkn
        go_wp2_with fail
        refine (rOf_ok n (filled (bat ws) f k on) va vc _ (SlB.of_own HO.out) hn).mono ?_
        rintro e w3 ⟨a', cap', rfl, hown3, b3⟩
        have hnr : (some (w.heap.size + 1) : Option Nat) ≠ (Value.slice va n vc).ownBlock := fun e => by have := (HO.out.lt _ e.symm).1; omega
        have Zr := Z2.out.grown HG.out hnr
        have Z3 := Zr.below b3
        have r0 := Z3.r0
        have r1 := Z3.r1
        have f0 := Z3.f0
        have f1 := Z3.f1
        have hzr := Zr.lt
        have HO3 := Lib.hid hown3
        have HB3 := Lib.hid ((R2.out.k.grown HG.out (by omega) (by intro r hr; have := (HO.out.lt r hr).1; omega)).trans (b3.mono (by omega)))
        clear hown3 b3 Zr Z3 hnr
        go_wp2
        exact bodyPost_ret (v := .tuple #[.agg #[.int .i64 n, .slice a' ((n + 63) / 64) cap'], .int .i64 0]) (by simp [results, Tryd.results39, go_sem, r0, r1]) rfl ⟨_, rfl, BtR.stored HO3.out hzr (pack_length _ _) _ _, (HB3.out.setCell (p := ⟨w.heap.size + 1, 0, none⟩) (by simp) _).setCell (p := ⟨w.heap.size + 1, 1, none⟩) (by simp) _⟩
  · have hpb := bne0_true hp
    have E1 : setN N ws f t = 0 := if_neg hp
    have E2 : setW N ws f t on = [] := if_neg hp
    rw [E1, E2]
    clear hp E1 E2 hL
    go_enter Tryd.func39, Tryd.ntmps39
    go_wp2_with fail
    refine (rpart_ok N f t a len cap ws _ ((hs.alloc _).alloc _) hw hlen).mono ?_
    rintro e w1 ⟨rfl, b1⟩
    have Z1 := HZ0.out.below b1
    have r0 := Z1.r0
    have r1 := Z1.r1
    have f0 := Z1.f0
    have f1 := Z1.f1
    have HB1 := Lib.hid ((below_alloc2 w _ _).trans (b1.mono (by simp; omega)))
    clear b1 Z1
    go_wp2
    exact bodyPost_ret (v := .tuple #[.agg #[.int .i64 0, .slice none 0 0], .int .i64 (prt N ws f t)]) (by simp [results, Tryd.results39, go_sem, r0, r1]) rfl ⟨_, rfl, BtR.zero _, (HB1.out.setCell (p := ⟨w.heap.size + 1, 0, none⟩) (by simp) _).setCell (p := ⟨w.heap.size + 1, 1, none⟩) (by simp) _⟩

set_option maxRecDepth 100000 in
set_option maxHeartbeats 1600000 in
theorem rSame_ok (N : Int) (a b : Option Addr) (L ca cb : Nat) (ws : List Nat) (w : World) (ha : SlK .u64 w a L ws) (hb : SlK .u64 w b L ws) (hL : L ≤ 100000) :
    Calls Tryd.prog 37 #[.agg #[.int .i64 N, .slice a L ca], .agg #[.int .i64 N, .slice b L cb]] w fun e w' => e = .returned (.bool true) ∧ Below w.heap.size w w' := by
  have HA := Lib.hid ha
  have HB := Lib.hid hb
  clear ha hb
  go_enter Tryd.func37, Tryd.ntmps37
  go_wp2
  go_loopw [5] (fun i wr => ∃ k : Nat, i = .int .i64 k ∧ k ≤ L ∧ Hid (∃ d, wr = ((w.alloc (.cells #[.int .i64 N, .slice a L ca] 24)).alloc (.cells #[.int .i64 N, .slice b L cb] 24)).drewN d)) (fun i _ => L - (intOf i).toNat)
  case atStart => exact ⟨0, rfl, Nat.zero_le _, Lib.hid ⟨0, rfl⟩⟩
  case round =>
    obtain ⟨k, rfl, hk, HD⟩ := hrel
    obtain ⟨d, hd⟩ := HD.out
    have a1 : wr.cell? ⟨w.heap.size, 1, none⟩ = some (.slice a L ca) := by rw [hd]; simp [go_sem]
    have b1 : wr.cell? ⟨w.heap.size + 1, 1, none⟩ = some (.slice b L cb) := by rw [hd]; simp [go_sem]
    have HD1 := Lib.hid hd
    clear hd
    by_cases hlt : k < L
    · have ha := (((HA.out.alloc _).alloc _ : SlK .u64 ((w.alloc (.cells #[.int .i64 N, .slice a L ca] 24)).alloc (.cells #[.int .i64 N, .slice b L cb] 24)) a L ws).below (below_draw _ d))
      have hb := (((HB.out.alloc _).alloc _ : SlK .u64 ((w.alloc (.cells #[.int .i64 N, .slice a L ca] 24)).alloc (.cells #[.int .i64 N, .slice b L cb] 24)) b L ws).below (below_draw _ d))
      rw [← HD1.out] at ha hb
      obtain ⟨ab, ao, rfl, hca⟩ := ha.cells.resolve_left (by omega)
      obtain ⟨bb, bo, rfl, hcb⟩ := hb.cells.resolve_left (by omega)
      have ha2 := hca k hlt
      have hb2 := hcb k hlt
      have hlti : (k : Int) < (L : Int) := by omega
      have hk0 : (0 : Int) ≤ (k : Int) := by omega
      clear hca hcb ha hb
      go_wp2
      go_quiet (fail)
      go_wp2
      go_roundw
      case rel => exact ⟨k + 1, by go_num, by omega, Lib.hid (drewN_of HD1.out _)⟩
      case measure => simp [intOf]; omega
    · go_wp2
      go_ret
      exact ⟨rfl, by rw [HD1.out]; exact (below_alloc2 w _ _).trans ⟨rfl, rfl, rfl, Nat.le_refl _, fun _ _ => rfl⟩⟩
theorem rSame_btr {N : Int} {u v : Value} {ws : List Nat} {w : World} (hu : BtR w u N ws) (hv : BtR w v N ws) (hL : ws.length ≤ 100000) :
    Calls Tryd.prog 37 #[u, v] w fun e w' => e = .returned (.bool true) ∧ Below w.heap.size w w' := by
  obtain ⟨a, ca, rfl, ha⟩ := hu
  obtain ⟨b, cb, rfl, hb⟩ := hv
  exact rSame_ok N a b ws.length ca cb ws w ha hb hL
end Go.Proofs.YtikdgnfcckenmaaDoor
