/- Clocks: stamps: Set, Age and Old of the reference; lists of ints. -/
import Derived.Test.YtjceahbikdncmaaDoorC9T
import Derived.Deep.DeepMust
namespace Go.Proofs.YtjceahbikdncmaaDoor
open Go.RowKit Go.Sort Go.Joins Go.Shelf
attribute [local go_sem] cell_grow frozen_grow size_grow
attribute [local go_sem ↓] Go.wp_at_zero Go.wp_at_succ
set_option maxRecDepth 100000 in
set_option maxHeartbeats 1600000 in
theorem rSet_ok (x t : Int) (w : World) :
    Calls Tryd.prog 20 #[.agg #[.int .i64 x], .int .i64 t] w fun e w' => e = .returned (.tuple #[.agg #[.int .i64 (setV x t)], .int .i64 (setE x t)]) ∧ Below w.heap.size w w' := by
  have HT1 := Lib.hid (rtime_ok x)
  have HT2 := Lib.hid (rtime_ok t)
  have HB : Hid (Below w.heap.size w ((w.alloc (.cells #[.int .i64 x] 38)).alloc (.cells #[.int .i64 0] 38))) := Lib.hid (((Below.refl _ w).alloc (Nat.le_refl _) _).alloc (by simp) _)
  obtain ⟨e, he⟩ : ∃ e, setE x t = e := ⟨_, rfl⟩
  obtain ⟨v, hv⟩ : ∃ v, setV x t = v := ⟨_, rfl⟩
  have hc : (tmB x = false ∧ e = 2 ∧ v = 0) ∨ (tmB x = true ∧ tmB t = false ∧ e = 7 ∧ v = 0) ∨ (tmB x = true ∧ tmB t = true ∧ decide (x < t) = true ∧ e = 0 ∧ t = v) ∨ (tmB x = true ∧ tmB t = true ∧ decide (x < t) = false ∧ e = 0 ∧ x = v) := by
    unfold setV at hv
    rw [he] at hv
    unfold setE at he
    cases e1 : tmB x
    · rw [e1] at he; simp at he; subst he; simp at hv; exact .inl ⟨rfl, rfl, hv.symm⟩
    · cases e2 : tmB t
      · rw [e1, e2] at he; simp at he; subst he; simp at hv; exact .inr (.inl ⟨rfl, rfl, rfl, hv.symm⟩)
      · rw [e1, e2] at he; simp at he; subst he; simp at hv
        by_cases h : x < t
        · exact .inr (.inr (.inl ⟨rfl, rfl, by simpa using h, rfl, by omega⟩))
        · exact .inr (.inr (.inr ⟨rfl, rfl, by simpa using h, rfl, by omega⟩))
  rw [he, hv]
  clear he hv
  rcases hc with ⟨e1, rfl, rfl⟩ | ⟨e1, e2, rfl, rfl⟩ | ⟨e1, e2, d, rfl, rfl⟩ | ⟨e1, e2, d, rfl, rfl⟩
  all_goals
    rw [e1] at HT1
    clear e1
    first
      | (rw [e2] at HT2; clear e2)
      | skip
    go_enter Tryd.func20, Tryd.ntmps20
    go_wp2_with (go_at_call 35; first | ((with_reducible refine (HT1.out _).mono ?_); rintro e w1 ⟨rfl, rfl⟩) | ((with_reducible refine (HT2.out _).mono ?_); rintro e w1 ⟨rfl, rfl⟩))
    first
      | exact bodyPost_ret (v := .tuple #[.agg #[.int .i64 0], .int .i64 2]) (by simp [results, Tryd.results20, go_sem]) rfl ⟨rfl, ((Below.refl _ w).alloc (Nat.le_refl _) _).alloc (by simp) _⟩
      | exact bodyPost_ret (v := .tuple #[.agg #[.int .i64 0], .int .i64 7]) (by simp [results, Tryd.results20, go_sem]) rfl ⟨rfl, ((Below.refl _ w).alloc (Nat.le_refl _) _).alloc (by simp) _⟩
      | exact bodyPost_ret (v := .tuple #[.agg #[.int .i64 t], .int .i64 0]) (by simp [results, Tryd.results20, go_sem]; simp at d; omega) rfl ⟨rfl, ((Below.refl _ w).alloc (Nat.le_refl _) _).alloc (by simp) _⟩
      | exact bodyPost_ret (v := .tuple #[.agg #[.int .i64 x], .int .i64 0]) (by simp [results, Tryd.results20, go_sem]; simp at d; omega) rfl ⟨rfl, ((Below.refl _ w).alloc (Nat.le_refl _) _).alloc (by simp) _⟩
set_option maxRecDepth 100000 in
set_option maxHeartbeats 1600000 in
theorem rAge_ok (x t : Int) (w : World) :
    Calls Tryd.prog 21 #[.agg #[.int .i64 x], .int .i64 t] w fun e w' => e = .returned (.tuple #[.int .i64 (ageV x t), .int .i64 (ageE x t)]) ∧ Below w.heap.size w w' := by
  have HT1 := Lib.hid (rtime_ok x)
  have HB := Lib.hid (below_box0 w (.cells #[.int .i64 x] 38))
  obtain ⟨e, he⟩ : ∃ e, ageE x t = e := ⟨_, rfl⟩
  obtain ⟨v, hv⟩ : ∃ v, ageV x t = v := ⟨_, rfl⟩
  have hc : (tmB x = false ∧ e = 2 ∧ v = 0) ∨ (tmB x = true ∧ decide (t < 0) = true ∧ e = 7 ∧ v = 0) ∨ (tmB x = true ∧ decide (t < 0) = false ∧ decide (x < t) = true ∧ e = 7 ∧ v = 0) ∨ (tmB x = true ∧ decide (t < 0) = false ∧ decide (x < t) = false ∧ e = 0 ∧ v = x - t ∧ 0 ≤ t ∧ t ≤ x ∧ x ≤ 1000000000000) := by
    unfold ageV at hv
    rw [he] at hv
    unfold ageE at he
    cases e1 : tmB x
    · rw [e1] at he; simp at he; subst he; simp at hv; exact .inl ⟨rfl, rfl, hv.symm⟩
    · rw [e1, if_neg (by decide)] at he
      have hb := tmB_yes.1 e1
      by_cases h1 : t < 0
      · rw [if_pos (.inl h1)] at he; subst he; simp at hv; exact .inr (.inl ⟨rfl, by simpa using h1, rfl, hv.symm⟩)
      · by_cases h2 : x < t
        · rw [if_pos (.inr h2)] at he; subst he; simp at hv; exact .inr (.inr (.inl ⟨rfl, by simpa using h1, by simpa using h2, rfl, hv.symm⟩))
        · rw [if_neg (by omega)] at he; subst he; simp at hv; exact .inr (.inr (.inr ⟨rfl, by simpa using h1, by simpa using h2, rfl, hv.symm, by omega, by omega, hb.2⟩))
  rw [he, hv]
  clear he hv
  rcases hc with ⟨e1, rfl, rfl⟩ | ⟨e1, d1, rfl, rfl⟩ | ⟨e1, d1, d2, rfl, rfl⟩ | ⟨e1, d1, d2, rfl, rfl, d3, d4, d5⟩
  all_goals
    rw [e1] at HT1
    clear e1
    go_enter Tryd.func21, Tryd.ntmps21
    go_wp2_with (go_at_call 35; (with_reducible refine (HT1.out _).mono ?_); rintro e w1 ⟨rfl, rfl⟩)
    go_ret2
    exact ⟨rfl, HB.out⟩
theorem age_in {x y : Int} (h : tmB x = true) (h0 : 0 ≤ y) (h1 : y ≤ x) : ageE x y = 0 ∧ ageV x y = x - y := by
  have e : ageE x y = 0 := by unfold ageE; rw [if_neg (by simp [h]), if_neg (by omega)]
  exact ⟨e, by unfold ageV; rw [if_pos e]⟩
theorem age_out {x y : Int} (h : tmB x = true) (h0 : y < 0 ∨ x < y) : ageE x y = 7 := by unfold ageE; rw [if_neg (by simp [h]), if_pos h0]
section
variable {w : World} {a : Option Addr} {n c : Nat} {U : Nat → Int}
set_option maxRecDepth 100000 in
set_option maxHeartbeats 3200000 in
theorem rOld_ok (hS : SlZ .i64 w a n U) (hn : n ≤ 9223372036854775807) (x t : Int) :
    Calls Tryd.prog 23 #[.agg #[.int .i64 x], .slice a n c, .int .i64 t] w (OldPost w n U x t) := by
  have b0 := below_box0 w (.cells #[.int .i64 x] 38)
  have HX0 : Hid ((w.alloc (.cells #[.int .i64 x] 38)).heap[w.heap.size]? = some (.cells #[.int .i64 x] 38 (0, 0))) := Lib.hid (heap_alloc_new w _)
  have HS0 := Lib.hid (hS.below b0)
  have HB0 := Lib.hid b0
  have HT1 := Lib.hid (rtime_ok x)
  have HT2 := Lib.hid (rtime_ok t)
  clear b0 hS
  have key : (tmB x = false ∧ oldE n U x t = 2) ∨ (tmB x = true ∧ decide ((1000 : Int) < (n : Int)) = true ∧ oldE n U x t = 3) ∨
      (tmB x = true ∧ decide ((1000 : Int) < (n : Int)) = false ∧ tmB t = false ∧ oldE n U x t = 7) ∨
      (tmB x = true ∧ decide ((1000 : Int) < (n : Int)) = false ∧ tmB t = true ∧ n ≤ 1000 ∧ ((anyB n x U = true ∧ oldE n U x t = 7) ∨ (anyB n x U = false ∧ oldE n U x t = 0))) := by
    rcases old_ways n U x t with h | h | h | ⟨h1, h2, h3, h4, h5⟩ | ⟨h1, h2, h3, h4, h5, h6⟩
    · exact .inl h
    · exact .inr (.inl h)
    · exact .inr (.inr (.inl h))
    · exact .inr (.inr (.inr ⟨h1, h2, h3, by simp at h2; omega, .inl ⟨h4, h5⟩⟩))
    · exact .inr (.inr (.inr ⟨h1, h2, h3, h6, .inr ⟨h4, h5⟩⟩))
  rcases key with ⟨e1, hE⟩ | ⟨e1, d2, hE⟩ | ⟨e1, d2, e3, hE⟩ | ⟨e1, d2, e3, hn1, hE⟩
  · rw [e1] at HT1
    have HE := Lib.hid hE
    clear e1 hE
    go_enter Tryd.func23, Tryd.ntmps23
    go_wp2_with (go_at_call 35; refine (HT1.out _).mono ?_; rintro e w1 ⟨rfl, rfl⟩)
    go_ret2
    exact OldPost.bad HE.out (by decide) HB0.out
  · rw [e1] at HT1
    have HE := Lib.hid hE
    clear e1 hE
    go_enter Tryd.func23, Tryd.ntmps23
    go_wp2_with (go_at_call 35; refine (HT1.out _).mono ?_; rintro e w1 ⟨rfl, rfl⟩)
    go_ret2
    exact OldPost.bad HE.out (by decide) HB0.out
  · rw [e1] at HT1
    rw [e3] at HT2
    have HE := Lib.hid hE
    clear e1 e3 hE
    go_enter Tryd.func23, Tryd.ntmps23
    go_wp2_with (go_at_call 35; first | ((with_reducible refine (HT1.out _).mono ?_); rintro e w1 ⟨rfl, rfl⟩) | ((with_reducible refine (HT2.out _).mono ?_); rintro e w1 ⟨rfl, rfl⟩))
    go_ret2
    exact OldPost.bad HE.out (by decide) HB0.out
  · have hx := tmB_yes.1 e1
    have ht := tmB_yes.1 e3
    have HT0 := Lib.hid e1
    rw [e1] at HT1
    rw [e3] at HT2
    have HE := Lib.hid hE
    obtain ⟨i0, hi0, hz0, hz1, hz2'⟩ := info_parts info_int
    clear e1 e3 hE
    go_enter Tryd.func23, Tryd.ntmps23
    go_wp2_with (go_at_call 35; first | ((with_reducible refine (HT1.out _).mono ?_); rintro e w1 ⟨rfl, rfl⟩) | ((with_reducible refine (HT2.out _).mono ?_); rintro e w1 ⟨rfl, rfl⟩))
    obtain ⟨w1, hw1⟩ : ∃ W, w.alloc (.cells #[.int .i64 x] 38) = W := ⟨_, rfl⟩
    rw [hw1] at HB0 HX0 HS0 ⊢
    clear hw1 HT1 HT2 d2
    go_loopw [8, 9] (fun o i wr => ∃ (k : Nat) (va : Option Addr) (vc : Nat) (L : List Int), i = .int .i64 k ∧ k ≤ n ∧ o = .slice va L.length vc ∧ Hid (L = oldL U x t k) ∧ Hid (∀ j, j < k → badJ x U j = false) ∧ Hid (wr.ownsRow w1.heap.size 3 1 (.slice va L.length vc) L.length (inc L)) ∧ Hid (Below w1.heap.size w1 wr)) (fun _ i _ => n - (intOf i).toNat)
    case atStart => exact ⟨0, none, 0, [], rfl, Nat.zero_le _, rfl, Lib.hid rfl, Lib.hid (fun j hj => by omega), Lib.hid (World.ownsRow_nil _ _ _ _), Lib.hid (Below.refl _ _)⟩
    case round =>
      obtain ⟨k, va, vc, L, rfl, hk, rfl, HL, HA, HO, HB⟩ := hrel
      by_cases hlt : k < n
      · obtain ⟨b, o, rfl, g0⟩ := (HS0.out.below HB.out).at_ hlt
        have hbl := World.block_lt_of_cell? _ _ g0
        dsimp only at hbl
        have h1 : oldL U x t (k + 1) = if U k ≤ x - t then oldL U x t k ++ [(k : Int)] else oldL U x t k := rfl
        rw [← HL.out] at h1
        have hll : L.length ≤ k := by rw [HL.out]; exact oldL_len U x t k
        have hbj := badJ_no (x := x) (U := U) (j := k)
        obtain ⟨y, hy⟩ : ∃ y, U k = y := ⟨_, rfl⟩
        rw [hy] at g0 h1 hbj
        have HXr := Lib.hid ((HB.out.block _ (blk_lt HX0.out)).trans HX0.out)
        have k0 : wr.cell? ⟨w.heap.size, 0, none⟩ = some (.int .i64 x) := by rw [cell_of_block HXr.out]; rfl
        have l0 := blk_lt HXr.out
        have hki : (k : Int) < (n : Int) := by omega
        have hk0 : (0 : Int) ≤ (k : Int) := by omega
        have HAg := Lib.hid (rAge_ok x y)
        clear hy
        by_cases hb : 0 ≤ y ∧ y ≤ x
        · have HBJ := Lib.hid (hbj.2 hb)
          rw [(age_in HT0.out hb.1 hb.2).1, (age_in HT0.out hb.1 hb.2).2] at HAg
          clear hbj
          by_cases hc : y ≤ x - t
          · rw [if_pos hc] at h1
            have H1 := Lib.hid h1
            have d1 : decide (t ≤ x - y) = true := by simp; omega
            clear h1 hc
            go_wp2_with fail
            go_region_with (go_at_call 21; (refine (HAg.out wr.drew).mono ?_); rintro e w4 ⟨rfl, b4⟩; have HO4 := Lib.hid (own_below HO.out (below_tr (Below.refl _ wr).drew b4)); have HB4 := Lib.hid (below_tr HB.out (below_tr (Below.refl _ wr).drew b4)); have hlt4 := HB4.out.size; clear b4)
            all_goals
              clear k0 l0 g0 hbl
              go_wp2_with (at_builtin; refine wpList_append_own _ rfl (.tmp 43) (.tmp 45) 50 rfl w1.heap.size 3 i0 (.int .i64 0) 1 8 Tryd.underlying50 hi0 hz0 hz1 hz2' rfl (by decide) _ _ _ rfl (HO4.out.alloc _) ⟨w4.heap.size, 0, none⟩ 1 1 [.int .i64 (k : Int)] rfl rfl (by intro j q hq; match j with | 0 => (simp at hq; subst hq; simp [go_sem]) | j + 1 => simp at hq) (by intro q hq; simp at hq; subst hq; rfl) (by unfold maxLen; omega) (by omega) (by first | omega | (simp; omega)) ?_)
              intro v' w3 hown hg _
              obtain ⟨va', vc', rfl⟩ := own_slice' hown
              have hB1 := Lib.hid ((HB4.out.alloc HB4.out.size (.cells #[.int .i64 (k : Int)] 3)).grown hg (by simp; omega) (by intro r hr; exact (HO4.out.lt r hr).1))
              have HW : Hid (w3.ownsRow w1.heap.size 3 1 (.slice va' (L ++ [(k : Int)]).length vc') (L ++ [(k : Int)]).length (inc (L ++ [(k : Int)]))) := Lib.hid (by rw [inc_snoc, List.length_append, List.length_singleton]; exact hown)
              clear hown hg
              go_wp2
              go_roundw
              case rel => exact ⟨k + 1, va', vc', L ++ [(k : Int)], by go_num, by omega, by rw [List.length_append, List.length_singleton], Lib.hid H1.out.symm, Lib.hid (fun j hj => by
                by_cases ej : j = k
                · rw [ej]; exact HBJ.out
                · exact HA.out j (by omega)), HW, hB1⟩
              case measure => simp [intOf]; omega
          · rw [if_neg hc] at h1
            have H1 := Lib.hid h1
            have d1 : decide (t ≤ x - y) = false := by simp; omega
            clear h1 hc
            go_wp2_with fail
            go_region_with (go_at_call 21; (refine (HAg.out wr.drew).mono ?_); rintro e w4 ⟨rfl, b4⟩; have HO4 := Lib.hid (own_below HO.out (below_tr (Below.refl _ wr).drew b4)); have HB4 := Lib.hid (below_tr HB.out (below_tr (Below.refl _ wr).drew b4)); have hlt4 := HB4.out.size; clear b4)
            all_goals
              clear k0 l0 g0 hbl
              go_wp2
              go_roundw
              case rel => exact ⟨k + 1, va, vc, L, by go_num, by omega, rfl, Lib.hid H1.out.symm, Lib.hid (fun j hj => by
                by_cases ej : j = k
                · rw [ej]; exact HBJ.out
                · exact HA.out j (by omega)), HO4, HB4⟩
              case measure => simp [intOf]; omega
        · have hbt : badJ x U k = true := by
            cases h : badJ x U k with
            | true => rfl
            | false => exact absurd (hbj.1 h) hb
          have hEE : oldE n U x t = 7 := by
            rcases HE.out with ⟨_, h⟩ | ⟨h, _⟩
            · exact h
            · rw [anyB_yes hlt hbt] at h; cases h
          have H7 := Lib.hid hEE
          rw [age_out HT0.out (by omega)] at HAg
          obtain ⟨av, hav⟩ : ∃ v, ageV x y = v := ⟨_, rfl⟩
          rw [hav] at HAg
          clear hbj hbt hEE hb hav h1
          go_wp2_with fail
          go_region_with (go_at_call 21; (refine (HAg.out wr.drew).mono ?_); rintro e w4 ⟨rfl, b4⟩; have HO4 := Lib.hid (own_below HO.out (below_tr (Below.refl _ wr).drew b4)); have HB4 := Lib.hid (below_tr HB.out (below_tr (Below.refl _ wr).drew b4)); have hlt4 := HB4.out.size; clear b4)
          all_goals
            clear k0 l0 g0 hbl
            go_wp2
            go_ret2
            exact OldPost.bad H7.out (by decide) (HB0.out.trans (HB4.out.mono HB0.out.size))
      · obtain rfl : k = n := by omega
        have hEE : oldE k U x t = 0 := by
          rcases HE.out with ⟨h, _⟩ | ⟨_, h⟩
          · rw [anyB_no HA.out] at h; cases h
          · exact h
        have H0 := Lib.hid hEE
        clear hEE
        go_wp2
        go_ret2
        exact OldPost.good H0.out HL.out (slz_own HO.out) (HB0.out.trans (HB.out.mono HB0.out.size))
end
end Go.Proofs.YtjceahbikdncmaaDoor
