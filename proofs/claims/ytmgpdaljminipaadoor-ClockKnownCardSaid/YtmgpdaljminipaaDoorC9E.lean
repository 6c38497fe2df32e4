/- Clocks: the iterator of the rings, for a loop that leaves its memory alone. -/
import Derived.Test.YtmgpdaljminipaaDoorC9D
namespace Go.Proofs.YtmgpdaljminipaaDoor
open Go.RowKit Go.Sort Go.Joins Go.Shelf
attribute [local go_sem] cell_grow frozen_grow size_grow Oper.semAt_some

theorem wide_any' (d : Nat) : Fence.wide.depth.isSome = true → 1 ≤ d := fun h => by simp [Fence.wide] at h
/-- what is handed over -/
abbrev encR (R : Nat → Al) (x : Int × Nat) : Array Value := #[.int .i64 (x.2 : Int), gV ((R x.2).1, x.1)]
def GR (n : Nat) (R : Nat → Al) (pre : List (Int × Nat)) (x : Int × Nat) : Prop := ∃ c : Nat → Nat, RgAt n (alP R) MT c pre ∧ bst (fun i => pos (alP R i) (c i)) n = x.2 ∧ x.1 = pos (alP R x.2) (c x.2)
def SR (n : Nat) (R : Nat → Al) (xs : List (Int × Nat)) : Prop := ∃ c : Nat → Nat, RgAt n (alP R) MT c xs ∧ bst (fun i => pos (alP R i) (c i)) n = -1
abbrev BoxA (W : World) (b : Nat) (a : Option Addr) (n c : Nat) : Prop := W.heap[b]? = some (.cells #[.slice a n c] 44 (0, 0))
/-- what the loop keeps for the iterator -/
def KeepR (B1 : Nat) (a : Option Addr) (n c : Nat) (R : Nat → Al) (W : World) : Prop := BoxA W B1 a n c ∧ SlA W a n R
/-- how much is still to come -/
def trm (v : Int) : Nat := if v < 0 then 0 else (MT + 1 - v).toNat
def cellV : Option Value → Nat
  | some (.int _ v) => trm v
  | _ => 0
def meaR (W : World) (g n : Nat) : Nat := sumC (fun j => cellV (W.cell? ⟨g, j, none⟩)) n
theorem meaR_of {W : World} {g n : Nat} {A : Nat → Int} (h : At9 W g n A) : meaR W g n = sumC (fun j => trm (A j)) n :=
  sumC_congr fun j hj => by rw [h.cell hj]; rfl
theorem sumC_less {c d : Nat → Nat} {b : Nat} : ∀ {n}, b < n → (∀ j, j < n → j ≠ b → d j = c j) → d b < c b → sumC d n < sumC c n
  | 0, h, _, _ => by omega
  | n + 1, h, h1, h2 => by
    simp only [sumC]
    by_cases e : b = n
    · subst e
      rw [sumC_congr (n := b) (c := d) (d := c) fun i hi => h1 i (by omega) (by omega)]; omega
    · have := sumC_less (n := n) (by omega) (fun j hj hne => h1 j (by omega) hne) h2
      rw [h1 n (by omega) (fun e' => e e'.symm)]; omega
theorem yformK {R S : World → Prop} {K : World → Prop} {e : Ending} {W : World} (h : (e = .returned (.bool true) ∧ R W ∧ K W) ∨ (e = .returned (.bool false) ∧ S W)) : ∃ b, e = .returned (.bool b) ∧ Hid ((b = true → R W ∧ K W) ∧ (b = false → S W)) := by
  rcases h with ⟨h1, h2⟩ | ⟨h1, h2⟩
  · exact ⟨true, h1, Lib.hid ⟨(fun _ => h2), (fun h => by cases h)⟩⟩
  · exact ⟨false, h1, Lib.hid ⟨(fun h => by cases h), (fun _ => h2)⟩⟩
theorem bst_congr {A A' : Nat → Int} : ∀ {n : Nat}, (∀ j, j < n → A j = A' j) → bst A n = bst A' n
  | 0, _ => rfl
  | n + 1, h => by
    have ih := bst_congr (n := n) fun j hj => h j (by omega)
    simp only [bst]
    rw [ih, h n (by omega)]
    rcases bst_spec A' n with ⟨e, _⟩ | ⟨b, e, hb, _⟩
    · rw [e]
      by_cases h0 : 0 ≤ A' n
      · rw [if_pos ⟨h0, .inl (by decide)⟩, if_pos ⟨h0, .inl (by decide)⟩]
      · rw [if_neg (fun hh => h0 hh.1), if_neg (fun hh => h0 hh.1)]
    · rw [e, Int.toNat_natCast, h b (by omega)]
/-- what lies in the iterator's memory -/
structure It9 (J : List (Int × Nat) → World → Prop) (pre : List (Int × Nat)) (g n : Nat) (A : Nat → Int) (W : World) : Prop where
  j : J pre W
  b : BoxI W (g + 1) g n
  at_ : At9 W g n A

set_option maxRecDepth 100000 in
set_option maxHeartbeats 3200000 in
theorem rings_seq (d : Nat) {R : Nat → Al} {n c : Nat} {a : Option Addr} (hP : PlOk n R) (B1 : Nat) (I : List (Int × Nat) → World → Prop) (hI : ∀ pre W, I pre W → KeepR B1 a n c R W) (w : World) :
    SeqIK Fence.wide d Tryd.prog 53 #[.pointer (some ⟨B1, 0, none⟩)] (encR R) Kp9 Ow9 I (GR n R) (SR n R) w := by
  intro l J Jx W _ _ hJo _ hJI hY h0
  have hn := hP.n50
  obtain ⟨hB, hS⟩ := hI _ _ (hJI _ _ h0)
  have c0 : W.cell? ⟨B1, 0, none⟩ = some (.slice a n c) := by rw [cell_of_block hB]; rfl
  have hb1 : B1 < W.heap.size := blk_lt hB
  have hmk := fun W => run_make_row' (P := Tryd.prog) 37 2 (.int .i64 0) 8 Tryd.underlying37 info_i64 rfl .i64 .i64 n (by omega) (by omega) W
  have hb2 : Ow9 W.heap.size W ((W.alloc (.cells (madeCells #[.int .i64 0] n) 2)).alloc (.cells #[.slice (some ⟨W.heap.size, 0, none⟩) n n] 37)) := (Ow9.alloc (Nat.le_refl _) _).trans (Ow9.alloc (by simp) _)
  have hit : It9 J [] W.heap.size n (fun _ => 0) ((W.alloc (.cells (madeCells #[.int .i64 0] n) 2)).alloc (.cells #[.slice (some ⟨W.heap.size, 0, none⟩) n n] 37)) := by
    refine ⟨hJo _ _ _ h0 hb2, ?_, (At9.new W n).below (below_box0 _ _)⟩
    have := heap_alloc_new (W.alloc (.cells (madeCells #[.int .i64 0] n) 2)) (.cells #[.slice (some ⟨W.heap.size, 0, none⟩) n n] 37)
    rwa [World.size_alloc] at this
  have HIT := Lib.hid hit
  have HJo := Lib.hid hJo
  have HIJ := Lib.hid (fun pre W h => hI pre W (hJI pre W h))
  have HY := Lib.hid hY
  have HP := Lib.hid hP
  clear hb2 hit hJo hI hJI hY hP h0 hB hS
  refine callsIn_of_wp Tryd.func53 rfl trivial ?_ rfl
  simp only [Tryd.ntmps53, List.size_toArray, List.length_cons, List.length_nil, Nat.reduceAdd, Nat.reduceSub, Array.replicate_succ, Array.replicate_zero, List.push_toArray, List.append_toArray, List.nil_append, List.cons_append]
  gi_wp2
  clear hmk c0
  obtain ⟨g, hg⟩ : ∃ g, W.heap.size = g := ⟨_, rfl⟩
  rw [hg] at HIT HJo ⊢
  clear hg
  gi_loopw [16] (fun i wr => ∃ k : Nat, i = .int .i64 k ∧ k ≤ n ∧ Hid (It9 J [] g n (fun j => if j < k then (R j).2.1 else 0) wr)) (fun i _ => n - (intOf i).toNat)
  case atStart => exact ⟨0, rfl, Nat.zero_le _, Lib.hid ⟨HIT.out.j, HIT.out.b, HIT.out.at_.congr fun j _ => by rw [if_neg (by omega)]⟩⟩
  case round =>
    clear HIT
    obtain ⟨k, rfl, hk, HI⟩ := hrel
    by_cases hlt : k < n
    · obtain ⟨b, o, rfl, g0, g1, g2⟩ := (HIJ.out _ _ HI.out.j).2.at_ hlt
      have ck := HI.out.at_.cell hlt
      have cf := HI.out.at_.fz
      have cl := HI.out.at_.lt
      have cb : wr.cell? ⟨g + 1, 0, none⟩ = some (.slice (some ⟨g, 0, none⟩) n n) := by rw [cell_of_block HI.out.b]; rfl
      have cbl := World.block_lt_of_cell? _ _ cb
      dsimp only at cbl
      have hki : (k : Int) < (n : Int) := by omega
      have hk0 : (0 : Int) ≤ (k : Int) := by omega
      obtain ⟨s, x, p, hX⟩ : ∃ s x p, R k = (s, x, p) := ⟨_, _, _, rfl⟩
      have HX := Lib.hid hX
      rw [hX] at g0 g1 g2
      clear hX
      dsimp only at g0 g1 g2
      gi_wp2
      go_roundw
      case rel =>
        refine ⟨k + 1, by go_num, by omega, Lib.hid ⟨?_, ?_, ?_⟩⟩
        · exact HJo.out _ _ _ HI.out.j ((HI.out.at_.ow (Nat.le_refl _) _ _).trans (Ow9.alloc (by simp; omega) _))
        · refine (Below.heap_alloc _ _ _ (by simp; omega)).trans ((Below.heap_setCell _ _ _ _ (show g + 1 ≠ g by omega)).trans HI.out.b)
        · refine (HI.out.at_.set hlt fun j hj => ?_).below (below_box0 _ _)
          by_cases e : j = k
          · subst e; rw [if_pos (Nat.lt_succ_self _), if_pos rfl, HX.out]
          · rw [if_neg e]
            by_cases e2 : j < k
            · rw [if_pos e2, if_pos (by omega)]
            · rw [if_neg e2, if_neg (by omega)]
      case measure => simp [intOf]; omega
    · obtain rfl : n = k := by omega
      gi_wp2_with fail
      refine ⟨trivial, wide_any' _, (callsIn_wide.2 (first_ok HI.out.b HI.out.at_ hn)).mono ?_⟩
      rintro e w1 ⟨rfl, rfl⟩
      have hst : RgAt n (alP R) MT (fun _ => 0) [] := RgAt.start n (alP R) MT
      have hA0 : ∀ j, j < n → (if j < n then (R j).2.1 else 0) = pos (alP R j) 0 := fun j hj => by rw [if_pos hj]; exact (pos_zero (HP.out.ok j hj)).symm
      have hit : It9 J [] g n (fun j => pos (alP R j) ((fun _ => 0 : Nat → Nat) j)) wr := ⟨HI.out.j, HI.out.b, HI.out.at_.congr hA0⟩
      have hbe : bst (fun j => if j < n then (R j).2.1 else 0) n = bst (fun j => pos (alP R j) ((fun _ => 0 : Nat → Nat) j)) n := bst_congr hA0
      rw [hbe]
      have HST := Lib.hid hst
      have HIT := Lib.hid hit
      clear hst hA0 hit hbe HI hk hlt
      gi_wp2
      gi_loopw [7] (fun i wr => ∃ (c : Nat → Nat) (pre : List (Int × Nat)), i = .int .i64 (bst (fun j => pos (alP R j) (c j)) n) ∧ Hid (RgAt n (alP R) MT c pre) ∧ Hid (It9 J pre g n (fun j => pos (alP R j) (c j)) wr)) (fun _ wr => meaR wr g n)
      case atStart => exact ⟨fun _ => 0, [], rfl, HST, HIT⟩
      case round =>
        clear HIT HST
        obtain ⟨cc, pre, rfl, HG, HI⟩ := hrel
        rcases bst_spec (fun j => pos (alP R j) (cc j)) n with ⟨hb, hno⟩ | ⟨b, hb, hbn, hb0, hmin⟩
        · rw [hb]
          have HS : Hid (SR n R pre) := Lib.hid ⟨cc, HG.out, hb⟩
          clear hb hno
          gi_wp2
          go_end0
          exact ⟨⟨_, rfl⟩, .inl ⟨pre, HS.out, HI.out.j⟩⟩
        · rw [hb]
          obtain ⟨bb, oo, rfl, g0, g1, g2⟩ := (HIJ.out _ _ HI.out.j).2.at_ hbn
          have hal := HP.out.ok b hbn
          obtain ⟨y, hy⟩ : ∃ y, pos (alP R b) (cc b) = y := ⟨_, rfl⟩
          have hyb := (pos_nonneg hal hb0).2.1
          have ck := HI.out.at_.cell hbn
          change wr.cell? ⟨g, b, none⟩ = some (.int .i64 (pos (alP R b) (cc b))) at ck
          change 0 ≤ pos (alP R b) (cc b) at hb0
          have hsucc := pos_succ hal hb0
          change pos (alP R b) (cc b) ≤ MT at hyb
          change pos (alP R b) (cc b + 1) = if (alP R b).2 = 0 ∨ MT < pos (alP R b) (cc b) + (alP R b).2 then -1 else pos (alP R b) (cc b) + (alP R b).2 at hsucc
          have hp0 : 0 ≤ (alP R b).2 := hal.e0
          have hp1 : (alP R b).2 ≤ MT := hal.e1
          rw [hy] at ck hb0 hyb hsucc
          rw [MT_eq] at hyb hp1 hsucc
          obtain ⟨s, x, p, hX⟩ : ∃ s x p, R b = (s, x, p) := ⟨_, _, _, rfl⟩
          have hXp : (alP R b).2 = p := by unfold alP; rw [hX]
          rw [hXp] at hp0 hp1 hsucc
          have hxe : encR R (y, b) = #[.int .i64 (b : Int), .agg #[.string s, .int .i64 y]] := by unfold encR; rw [hX]
          rw [hX] at g0 g1 g2
          dsimp only at g0 g1 g2
          have cP : wr.cell? ⟨B1, 0, none⟩ = some (.slice (some ⟨bb, oo, none⟩) n c) := by rw [cell_of_block (HIJ.out _ _ HI.out.j).1]; rfl
          have hbi : (b : Int) < (n : Int) := by omega
          have hbi0 : (0 : Int) ≤ (b : Int) := by omega
          have bV := below_box0 wr (.cells #[.string s, .int .i64 x, .int .i64 p] 50)
          have hJV : J pre (wr.alloc (.cells #[.string s, .int .i64 x, .int .i64 p] 50)).drew := HJo.out _ _ _ HI.out.j ((Ow9.alloc (by have := HI.out.at_.lt; omega) _).trans (Ow9.drew _))
          obtain ⟨fn, tmps, assign, body, hyl, hR⟩ := HY.out pre (y, b) _ hJV ⟨cc, HG.out, hb, hy.symm⟩
          rw [hxe] at hyl
          have HSU := Lib.hid hsucc
          have HYE := Lib.hid (And.intro hb hy)
          have HXP := Lib.hid hXp
          have HMN := Lib.hid hmin
          have h8 : (wr.alloc (.cells #[.string s, .int .i64 x, .int .i64 p] 50)).heap[wr.heap.size]? = some (.cells #[.string s, .int .i64 x, .int .i64 p] 50 (0, 0)) := heap_alloc_new wr _
          have HI8 : Hid (It9 J pre g n (fun j => pos (alP R j) (cc j)) (wr.alloc (.cells #[.string s, .int .i64 x, .int .i64 p] 50))) := Lib.hid ⟨HJo.out _ _ _ HI.out.j (Ow9.alloc (by have := HI.out.at_.lt; omega) _), (Below.heap_alloc _ _ _ (by have := blk_lt HI.out.b; omega)).trans HI.out.b, HI.out.at_.below bV⟩
          have H8 := Lib.hid h8
          have hlg := HI.out.at_.lt
          clear hal hsucc hxe hX hJV hXp hmin hb hy bV h8 ck
          gi_wp2_with fail
          obtain ⟨V, hV⟩ : ∃ V, wr.alloc (.cells #[.string s, .int .i64 x, .int .i64 p] 50) = V := ⟨_, rfl⟩
          rw [hV] at HI8 H8 hyl hR ⊢
          clear hV g0 g1 g2 cP
          obtain ⟨g8, hg8⟩ : ∃ z, wr.heap.size = z := ⟨_, rfl⟩
          rw [hg8] at H8 hlg ⊢
          clear hg8
          have k0 : V.cell? ⟨g8, 0, none⟩ = some (.string s) := by rw [cell_of_block H8.out]; rfl
          have kb : V.cell? ⟨g + 1, 0, none⟩ = some (.slice (some ⟨g, 0, none⟩) n n) := by rw [cell_of_block HI8.out.b]; rfl
          have ka := HI8.out.at_.cell hbn
          change V.cell? ⟨g, b, none⟩ = some (.int .i64 (pos (alP R b) (cc b))) at ka
          rw [HYE.out.2] at ka
          gi_region_with (refine ⟨wide_any' _, hR.mono ?_⟩; intro e W3 hW3; obtain ⟨bo, rfl, HBB⟩ := yformK hW3; clear hW3)
          all_goals
            clear k0 kb ka
            cases bo with
            | false =>
              have HX2 := Lib.hid (HBB.out.2 rfl)
              clear HBB
              gi_wp2
              refine bodyPost_ret (results_none rfl _ _ _) rfl ?_
              exact ⟨⟨_, rfl⟩, .inr ⟨_, HX2.out⟩⟩
            | true =>
              have HX := Lib.hid (HBB.out.1 rfl)
              clear HBB
              have HI3 : Hid (It9 J (pre ++ [(y, b)]) g n (fun j => pos (alP R j) (cc j)) W3) := Lib.hid ⟨HX.out.1, HX.out.2 _ _ HI8.out.b ⟨_, _, _, rfl, .inr (.inl rfl)⟩, HI8.out.at_.kept HX.out.2⟩
              have h83 : W3.heap[g8]? = some (.cells #[.string s, .int .i64 x, .int .i64 p] 50 (0, 0)) := HX.out.2 _ _ H8.out ⟨_, _, _, rfl, .inr (.inr rfl)⟩
              have k2 : W3.cell? ⟨g8, 2, none⟩ = some (.int .i64 p) := by rw [cell_of_block h83]; rfl
              have kb : W3.cell? ⟨g + 1, 0, none⟩ = some (.slice (some ⟨g, 0, none⟩) n n) := by rw [cell_of_block HI3.out.b]; rfl
              have ka : W3.cell? ⟨g, b, none⟩ = some (.int .i64 (pos (alP R b) (cc b))) := HI3.out.at_.cell hbn
              rw [HYE.out.2] at ka
              have kf := HI3.out.at_.fz
              have hwr : IntKind.i64.wrap (y + p) = y + p := IntWalk.i64_in _ (by omega)
              have hgg : g ≠ g8 := by omega
              have hgg' : g8 ≠ g := by omega
              have H83 := Lib.hid h83
              clear h83
              gi_wp2_with fail
              gi_region
              all_goals
                clear kb ka kf k2 hwr
                have HS4 : Hid (It9 J (pre ++ [(y, b)]) g n (fun j => if j = b then y + p else pos (alP R j) (cc j)) (W3.setCell ⟨g, b, none⟩ (.int .i64 (y + p))).drew) := Lib.hid ⟨HJo.out _ _ _ HI3.out.j ((HI3.out.at_.ow (Nat.le_refl _) _ _).trans (Ow9.drew _)), (Below.heap_setCell _ _ _ _ (show g + 1 ≠ g by omega)).trans HI3.out.b, (HI3.out.at_.set hbn fun j hj => rfl)⟩
                have H84 : Hid ((W3.setCell ⟨g, b, none⟩ (.int .i64 (y + p))).drew.heap[g8]? = some (.cells #[.string s, .int .i64 x, .int .i64 p] 50 (0, 0))) := Lib.hid ((Below.heap_setCell _ _ _ _ hgg').trans H83.out)
                obtain ⟨V4, hV4⟩ : ∃ V, (W3.setCell ⟨g, b, none⟩ (.int .i64 (y + p))).drew = V := ⟨_, rfl⟩
                rw [hV4] at HS4 H84 ⊢
                clear hV4
                have k2 : V4.cell? ⟨g8, 2, none⟩ = some (.int .i64 p) := by rw [cell_of_block H84.out]; rfl
                have kb : V4.cell? ⟨g + 1, 0, none⟩ = some (.slice (some ⟨g, 0, none⟩) n n) := by rw [cell_of_block HS4.out.b]; rfl
                have ka : V4.cell? ⟨g, b, none⟩ = some (.int .i64 (y + p)) := (HS4.out.at_.cell hbn).trans (by rw [if_pos rfl])
                have kf := HS4.out.at_.fz
                have hw : (∃ z, z = -1 ∧ pos (alP R b) (cc b + 1) = z ∧ (((p == 0) = true) ∨ ((p == 0) = false ∧ decide (1000000000000 < y + p) = true))) ∨ ((p == 0) = false ∧ decide (1000000000000 < y + p) = false ∧ pos (alP R b) (cc b + 1) = y + p ∧ 0 < p) := by
                  have hh := HSU.out
                  by_cases e1 : p = 0
                  · rw [if_pos (.inl e1)] at hh
                    exact .inl ⟨_, rfl, hh, .inl (by simpa using e1)⟩
                  · by_cases e2 : 1000000000000 < y + p
                    · rw [if_pos (.inr e2)] at hh
                      exact .inl ⟨_, rfl, hh, .inr ⟨by simpa using e1, by simpa using e2⟩⟩
                    · rw [if_neg (fun h => h.elim e1 e2)] at hh
                      exact .inr ⟨by simpa using e1, by simpa using e2, hh, by omega⟩
                have hstep : RgAt n (alP R) MT (fun i => if i = b then cc i + 1 else cc i) (pre ++ [(y, b)]) := by
                  have := HG.out.step HP.out.ok HYE.out.1 (by rw [HYE.out.2]; exact hyb)
                  rwa [HYE.out.2] at this
                have HSTEP := Lib.hid hstep
                have hmea : ∀ z, (z = -1 ∨ (z = y + p ∧ 0 < p)) → ∀ A' : Nat → Int, (∀ j, j < n → A' j = if j = b then z else pos (alP R j) (cc j)) → ∀ W', At9 W' g n A' → meaR W' g n < meaR wr g n := by
                  intro z hz A' hA' W' hat
                  rw [meaR_of hat, meaR_of HI.out.at_]
                  refine sumC_less hbn (fun j hj hne => ?_) ?_
                  · rw [hA' j hj, if_neg hne]
                  · rw [hA' b hbn, if_pos rfl, HYE.out.2]
                    unfold trm
                    rw [MT_eq]
                    rcases hz with hz | ⟨hz, hp⟩
                    · rw [if_pos (by omega), if_neg (by omega)]; omega
                    · rw [if_neg (by omega), if_neg (by omega)]; omega
                have HMEA := Lib.hid hmea
                have hA' : ∀ z, pos (alP R b) (cc b + 1) = z → ∀ j, j < n → pos (alP R j) (if j = b then cc j + 1 else cc j) = if j = b then z else pos (alP R j) (cc j) := fun z hz j hj => by
                  by_cases e : j = b
                  · subst e; rw [if_pos rfl, if_pos rfl]; exact hz
                  · rw [if_neg e, if_neg e]
                have HA' := Lib.hid hA'
                clear hstep hmea hA'
                rcases hw with ⟨z, rfl, hz, hd⟩ | ⟨d1, d2, hz, hp⟩
                · have HZ := Lib.hid hz
                  clear hz
                  rcases hd with d1 | ⟨d1, d2⟩
                  all_goals
                    gi_wp2_with fail
                    have HS5 : Hid (It9 J (pre ++ [(y, b)]) g n (fun j => pos (alP R j) (if j = b then cc j + 1 else cc j)) (V4.setCell ⟨g, b, none⟩ (.int .i64 (-1)))) := Lib.hid ⟨HJo.out _ _ _ HS4.out.j (HS4.out.at_.ow (Nat.le_refl _) _ _), (Below.heap_setCell _ _ _ _ (show g + 1 ≠ g by omega)).trans HS4.out.b, HS4.out.at_.set hbn fun j hj => by
                      rw [HA'.out _ HZ.out j hj]
                      by_cases e : j = b
                      · rw [if_pos e, if_pos e]
                      · rw [if_neg e, if_neg e, if_neg e]⟩
                    refine ⟨trivial, wide_any' _, (callsIn_wide.2 (first_ok HS5.out.b HS5.out.at_ hn)).mono ?_⟩
                    clear k2 kb ka kf
                    rintro e w1 ⟨rfl, rfl⟩
                    gi_wp2
                    go_roundw
                    case rel => exact ⟨_, _, rfl, HSTEP, HS5⟩
                    case measure => exact HMEA.out (-1) (.inl rfl) _ (HA'.out _ HZ.out) _ HS5.out.at_
                · have HZ := Lib.hid hz
                  clear hz
                  gi_wp2_with fail
                  have HS5 : Hid (It9 J (pre ++ [(y, b)]) g n (fun j => pos (alP R j) (if j = b then cc j + 1 else cc j)) V4) := Lib.hid ⟨HS4.out.j, HS4.out.b, HS4.out.at_.congr fun j hj => (HA'.out _ HZ.out j hj).symm⟩
                  refine ⟨trivial, wide_any' _, (callsIn_wide.2 (first_ok HS5.out.b HS5.out.at_ hn)).mono ?_⟩
                  clear k2 kb ka kf
                  rintro e w1 ⟨rfl, rfl⟩
                  gi_wp2
                  go_roundw
                  case rel => exact ⟨_, _, rfl, HSTEP, HS5⟩
                  case measure => exact HMEA.out (y + p) (.inr ⟨rfl, hp⟩) _ (HA'.out _ HZ.out) _ HS5.out.at_
end Go.Proofs.YtmgpdaljminipaaDoor
