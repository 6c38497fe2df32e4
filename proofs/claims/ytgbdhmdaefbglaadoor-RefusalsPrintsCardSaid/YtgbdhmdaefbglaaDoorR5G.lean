/- Refusals: the marks of a plan. -/
import Derived.Test.YtgbdhmdaefbglaaDoorR5F
namespace Go.Proofs.YtgbdhmdaefbglaaDoor
open Go.RowKit Go.Sort Go.Joins Go.Shelf
attribute [local go_sem] cell_grow frozen_grow size_grow Oper.semAt_some

theorem cal_mem {x : Rl} {k : Nat} {m : Int} : m ∈ calL x k ↔ cal x k m = true := by
  rw [cal_iff]
  unfold calL
  rw [List.mem_map]
  constructor
  · rintro ⟨j, hj, rfl⟩; exact ⟨j, List.mem_range.1 hj, rfl⟩
  · rintro ⟨j, hj, rfl⟩; exact ⟨j, List.mem_range.2 hj, rfl⟩
theorem heap_alloc_is (w : World) (cs : Array Value) (t : TypeId) (k : Nat) (hk : k = w.heap.size) : (w.alloc (.cells cs t)).heap[k]? = some (.cells cs t (0, 0)) := by
  subst hk
  exact heap_alloc_new w _
/-- what lies in memory: the marks, their box -/
structure MAt (w : World) (L : Nat) (M : Nat → Bool) (ds : List Nat) (W : World) : Prop where
  own : W.ownsRow w.heap.size 4 1 (.slice (some ⟨w.heap.size + 1, 0, none⟩) (L + 1) (L + 1)) (L + 1) (bl M (L + 1))
  box : W.heap[w.heap.size + 1 + 1]? = some (.cells #[.slice (some ⟨w.heap.size + 1, 0, none⟩) (L + 1) (L + 1)] 89 (0, 0))
  k : Below w.heap.size w W
  dm : MksAt (w.heap.size + 3) ds W
theorem own_below' {W W' : World} {base : Nat} {e : TypeId} {size : Nat} {v : Value} {n : Nat} {xs : List Value} (h : W.ownsRow base e size v n xs) (hb : Below W.heap.size W W') : W'.ownsRow base e size v n xs := own_below h hb
theorem MAt.below {w W W' : World} {L : Nat} {M : Nat → Bool} {ds : List Nat} (h : MAt w L M ds W) (hb : Below W.heap.size W W') : MAt w L M ds W' :=
  ⟨own_below h.own hb, (hb.block _ (blk_lt h.box)).trans h.box, h.k.trans (hb.mono h.k.size), h.dm.below hb⟩
theorem MAt.congr {w W : World} {L : Nat} {M M' : Nat → Bool} {ds : List Nat} (h : MAt w L M ds W) (hM : ∀ j, j < L + 1 → M j = M' j) : MAt w L M' ds W :=
  ⟨by rw [← bl_congr hM]; exact h.own, h.box, h.k, h.dm⟩
theorem own_stays {W W' : World} {base : Nat} {e : TypeId} {size : Nat} {v : Value} {n : Nat} {xs : List Value} {row : Option Nat} (h : W.ownsRow base e size v n xs) (hg : W.grownBy W' row) (hr : ∀ r, row = some r → ∃ o : Obj, W.heap[r]? = some o ∧ o.isCells = false) : W'.ownsRow base e size v n xs := by
  refine h.kept hg ?_
  rcases h.2 with ⟨rfl, _⟩ | ⟨g, cap, cur, rfl, _, hgb, _⟩
  · exact .inl rfl
  · refine .inr fun e' => ?_
    obtain ⟨o, ho, hc⟩ := hr g e'.symm
    rw [hgb] at ho; cases ho; cases hc
theorem blk_kept {W W' : World} {row : Option Nat} {k : Nat} {cs : Array Value} {t : TypeId} (h : W.heap[k]? = some (.cells cs t (0, 0))) (hg : W.grownBy W' row) (hr : ∀ r, row = some r → ∃ o : Obj, W.heap[r]? = some o ∧ o.isCells = false) : W'.heap[k]? = some (.cells cs t (0, 0)) :=
  (grownBy_keeps_cells hg hr h rfl).trans h
theorem MAt.grown {w W W' : World} {L Z : Nat} {M : Nat → Bool} {ds : List Nat} {row : Option Nat} (h : MAt w L M ds W) (hZ : w.heap.size ≤ Z) (hds : ∀ D ∈ ds, D < Z) (hg : W.grownBy W' row) (hr : ∀ r, row = some r → Z ≤ r ∧ ∃ o : Obj, W.heap[r]? = some o ∧ o.isCells = false) : MAt w L M ds W' :=
  ⟨own_stays h.own hg (fun r e => (hr r e).2), blk_kept h.box hg (fun r e => (hr r e).2), h.k.grown hg h.k.size (fun r e => by have := (hr r e).1; omega),
    h.dm.keep fun D hD hk => (hg.block D (Array.getElem?_eq_some_iff.1 hk).1 (fun e => by have := (hr D e.symm).1; have := hds D hD; omega)).trans hk⟩
theorem MAt.store {w W : World} {L m : Nat} {M M' : Nat → Bool} {ds : List Nat} (h : MAt w L M ds W) (hM : ∀ i, i < L + 1 → M' i = if i = m then true else M i) : MAt w L M' ds (W.setCell ⟨w.heap.size + 1, m, none⟩ (.bool true)) := by
  refine ⟨bl_stored h.own hM, (Below.heap_setCell _ _ _ _ (show w.heap.size + 1 + 1 ≠ w.heap.size + 1 by omega)).trans h.box, h.k.setCell (p := ⟨w.heap.size + 1, m, none⟩) (by simp) _, h.dm.keep fun D hD hk => (Below.heap_setCell _ _ _ _ (show D ≠ w.heap.size + 1 from fun e => by have := (h.dm.2 D hD).1; omega)).trans hk⟩
theorem MAt.cell {w W : World} {L : Nat} {M : Nat → Bool} {ds : List Nat} (h : MAt w L M ds W) : W.cell? ⟨w.heap.size + 1 + 1, 0, none⟩ = some (.slice (some ⟨w.heap.size + 1, 0, none⟩) (L + 1) (L + 1)) := by
  rw [cell_of_block h.box]; rfl

/-- where the loop over the rules stands -/
def MI (w : World) (a : Option Addr) (n c : Nat) (q : Int) (L z : Nat) (R : Nat → Rl) (A : Act) (W : World) : Prop :=
  ∃ (k : Nat) (u9 u18 u19 u20 u21 u22 u23 u24 u25 u26 u27 u32 : Value) (ds : List Nat), A = { tmps := #[pV a n c, .int .i64 q, .int .i64 (L : Int), .pointer (some ⟨z, 0, none⟩), undef, undef, .slice none 0 0, .pointer (some ⟨z + 1 + 1, 0, none⟩), undef, u9, undef, .int .i64 (L : Int), .int .i64 ((L : Int) + 1), .slice (some ⟨z + 1, 0, none⟩) (L + 1) (L + 1), .pointer (some ⟨z, 0, none⟩), .slice a n c, .int .i64 (n : Int), .int .i64 (k : Int), u18, u19, u20, u21, u22, u23, u24, u25, u26, u27, undef, undef, undef, undef, u32, undef], defers := mks ds } ∧ k ≤ n ∧ MAt w L (fun j => rfP k R q (j : Int)) ds W
def Mmu (n : Nat) (A : Act) (_ : World) : Nat := n - (intOf (A.tmps.getD 17 undef)).toNat

section
variable {w : World} {a : Option Addr} {n c : Nat} {R : Nat → Rl}
set_option maxRecDepth 100000 in
set_option maxHeartbeats 3200000 in
theorem marks_ok (hS : SlR w a n R) (hn : n ≤ 50) (hR : ∀ i, i < n → RlOk (R i)) (q : Int) (L : Nat) (hL : L ≤ 2000000) :
    Calls Tryd.prog 46 #[pV a n c, .int .i64 q, .int .i64 L] w fun e w' => ∃ v, e = .returned v ∧ w'.ownsRow w.heap.size 4 1 v (L + 1) (bl (fun j => rfP n R q (j : Int)) (L + 1)) ∧ Below w.heap.size w w' := by
  have hmk := fun W => run_make_row' (P := Tryd.prog) 89 4 (.bool false) 1 Tryd.underlying89 info_b rfl .i64 .i64 (L + 1) (by omega) (by omega) W
  have HZ := Lib.hid (zeros_bl (w.alloc (.cells #[.slice a n c] 24)) (L + 1) (by omega))
  have HS := Lib.hid hS
  have HR := Lib.hid hR
  have hLi : ((L + 1 : Nat) : Int) = (L : Int) + 1 := by omega
  rw [hLi] at hmk
  clear hS hR hLi
  refine (callsIn_wide (n := 4)).1 ?_
  refine callsIn_of_wp_marks Tryd.func46 rfl trivial ?_ rfl
  simp only [Tryd.ntmps46, List.size_toArray, List.length_cons, List.length_nil, Nat.reduceAdd, Nat.reduceSub, Array.replicate_succ, Array.replicate_zero, List.push_toArray, List.append_toArray, List.nil_append, List.cons_append]
  gi_wp2
  clear hmk
  refine wpIn_loop (MI w a n c q L w.heap.size R) (Mmu n) ?_ ?_
  · refine ⟨0, _, _, _, _, _, _, _, _, _, _, _, _, [], rfl, Nat.zero_le _, ?_⟩
    have h0 := HZ.out
    rw [World.size_alloc] at h0
    have hb := below_box0 (((w.alloc (.cells #[.slice a n c] 24)).alloc (.cells (madeCells #[.bool false] (L + 1)) 4))) (.cells #[.slice (some ⟨w.heap.size + 1, 0, none⟩) (L + 1) (L + 1)] 89)
    refine ⟨ownsRow_le (own_below h0 hb) (by omega), heap_alloc_is _ _ _ _ (by simp), ?_, MksAt.nil _ _⟩
    exact (((Below.refl _ w).alloc (Nat.le_refl _) _).alloc (by simp) _).alloc (by simp; omega) _
  · rintro A wr ⟨k, u9, u18, u19, u20, u21, u22, u23, u24, u25, u26, u27, u32, ds, rfl, hk, hM⟩
    by_cases hlt : k < n
    · obtain ⟨b, o, rfl, g0, g1, g2, g3⟩ := (HS.out.below hM.k).at_ hlt
      have hbl := World.block_lt_of_cell? _ _ g0
      dsimp only at hbl
      have hlb : decide (k < n) = true := by simpa using hlt
      have hli : (k : Int) < (n : Int) := by omega
      have hk0 : (0 : Int) ≤ (k : Int) := by omega
      have HM := Lib.hid hM
      have HX := Lib.hid (HR.out k hlt)
      clear hM
      by_cases hkq : (R k).1 = q
      · have d1 : ((R k).1 != q) = false := by simpa using hkq
        have HK := Lib.hid hkq
        clear hkq
        gi_wp2_with fail
        refine ⟨trivial, (callsIn_wide.2 (calls_ok (R k) (L : Int) _)).mono ?_⟩
        rintro e w1 ⟨rfl, hw1⟩
        have b1 : Below wr.heap.size wr w1 := by
          rw [← hw1]
          exact (((Below.refl _ wr).alloc (Nat.le_refl _) _).alloc (by simp) _).alloc (by simp; omega) _
        have hz1 : w1.heap.size = wr.heap.size + 3 := by rw [← hw1]; simp
        have HM1 := Lib.hid (HM.out.below b1)
        have k0 : KeepC (R k) (L : Int) (wr.heap.size + 1) (wr.heap.size + 1 + 1) w1 := by
          rw [← hw1]
          refine ⟨?_, ?_, ?_, ?_⟩ <;> simp [go_sem]
        have HK0 := Lib.hid k0
        have HDs : Hid (∀ D ∈ ds, D < w1.heap.size) := Lib.hid (fun D hD => HM1.out.dm.lt hD)
        clear b1 k0 hw1 g0 g1 g2 g3 hbl
        gi_wp2
        refine wpIn_iter_moves rfl (by omega) (gf := 81) (lb := #[.pointer (some ⟨wr.heap.size + 1, 0, none⟩), .pointer (some ⟨wr.heap.size + 1 + 1, 0, none⟩)]) rfl trivial (enters_of Tryd.func81 (by kernel_rfl) rfl)
          (fun pre W => KeepC (R k) (L : Int) (wr.heap.size + 1) (wr.heap.size + 1 + 1) W ∧ MAt w L (fun j => rfP k R q (j : Int) || decide ((j : Int) ∈ pre)) ds W)
          (calls_seq _ (R k) HX.out (L : Int) (by omega) (by omega) _ _ _ (fun pre W h => h.1) _) (fun _ => rfl) (fun _ _ _ => False) ?own (fun _ _ _ _ _ hs _ _ => hs) ?start
          (fun a x => { tmps := (a.tmps.setIfInBounds 28 (.int .i64 x)).setIfInBounds 10 (.int .i64 x), defers := [] })
          ?assign ?body ?done (fun _ _ _ _ _ h _ => h.elim)
        case own =>
          rintro pre A B row ⟨⟨e1, e2, e3, e4⟩, h2⟩ hg hr
          exact ⟨⟨cell_kept e1 hg (fun r e => (hr r e).2), cell_kept e2 hg (fun r e => (hr r e).2), cell_kept e3 hg (fun r e => (hr r e).2), cell_kept e4 hg (fun r e => (hr r e).2)⟩, h2.grown (HM1.out.k.size) HDs.out hg hr⟩
        case start => exact ⟨HK0.out, HM1.out.congr fun j _ => by simp⟩
        case assign =>
          intro l x W K hK
          simp only [List.setIfInBounds_toArray, List.set_cons_zero, List.set_cons_succ] at hK
          gi_wp2
          exact hK
        case body =>
          rintro l pre x W hl ⟨hKp, hMp⟩ ⟨i, hpre, hx, hok⟩
          obtain ⟨p1, p2, _⟩ := cal_bound HX.out (i := i) (fun j hj => hok j (by omega)) (show (0 : Int) ≤ (L : Int) by omega)
          have hxL := (hok i (by omega)).1
          rw [← hx] at p1 hxL
          obtain ⟨m, rfl⟩ : ∃ m : Nat, x = m := ⟨x.toNat, by omega⟩
          have hm : m < L + 1 := by omega
          have c7 := hMp.cell
          have cm := own_bl hMp.own m hm
          have fz := hMp.own.frozenAt m
          have hmi : (m : Int) < (L : Int) + 1 := by omega
          have hm0 : (0 : Int) ≤ (m : Int) := by omega
          have HKp := Lib.hid hKp
          have HMp := Lib.hid hMp
          have hzz : wr.heap.size + 3 ≤ w1.heap.size := by omega
          clear hKp hMp hx hok hpre p1 p2 hxL
          simp only [List.setIfInBounds_toArray, List.set_cons_zero, List.set_cons_succ]
          gi_wp2
          have hne : ∀ d, wr.heap.size + d ≠ w.heap.size + 1 := fun d => by have := blk_lt HM.out.box; omega
          obtain ⟨e1, e2, e3, e4⟩ := HKp.out
          refine ⟨(KeepsOthers.setCell _ _ _).from _, trivial, ⟨?_, ?_, ?_, ?_⟩, ?_⟩
          · rw [World.cell?_of_block (w := W) (Below.heap_setCell _ _ _ _ (hne 1))]; exact e1
          · rw [World.cell?_of_block (w := W) (Below.heap_setCell _ _ _ _ (hne 1))]; exact e2
          · rw [World.cell?_of_block (w := W) (Below.heap_setCell _ _ _ _ (hne 1))]; exact e3
          · rw [World.cell?_of_block (w := W) (Below.heap_setCell _ _ _ _ (hne 2))]; exact e4
          · refine HMp.out.store fun j hj => ?_
            by_cases ej : j = m
            · subst ej; simp
            · have hji : ¬ ((j : Int) = (m : Int)) := by omega
              simp [ej, hji]
        case done =>
          rintro D xs W hD ⟨i, hxs, hok, hend⟩ ⟨hKp, hMp⟩ hK
          have HK2 := Lib.hid hK
          have HM2 := Lib.hid hMp
          have HO2 := Lib.hid hok
          have HE2 := Lib.hid hend
          clear hKp hMp hok hend hK
          gi_wp2
          refine ⟨⟨k + 1, _, _, _, _, _, _, _, _, _, _, _, _, D :: ds, rfl, hlt, ?_⟩, ?_⟩
          · have hM3 := HM2.out.congr (M' := fun j => rfP (k + 1) R q (j : Int)) fun j hj => by
              rw [rfP_succ, hxs, ← HK.out, ← cal_end HX.out HO2.out HE2.out (c := (j : Int)) (by omega)]
              congr 1
              rw [Bool.eq_iff_iff, decide_eq_true_eq]
              exact cal_mem
            exact ⟨hM3.own, hM3.box, hM3.k, hM3.dm.cons (by have := HM1.out.k.size; have := blk_lt HM1.out.box; omega) (fun h => by have := HDs.out D h; omega) HK2.out⟩
          · unfold Mmu; simp [intOf]; omega
      · have d1 : ((R k).1 != q) = true := by simpa using hkq
        have HK := Lib.hid hkq
        clear hkq
        gi_wp2
        refine ⟨⟨k + 1, _, _, _, _, _, _, _, _, _, _, _, _, ds, rfl, hlt, ?_⟩, ?_⟩
        · refine (HM.out.below (below_box0 _ _)).congr fun j hj => ?_
          rw [rfP_succ, show rfz (R k) q (j : Int) = false from by rw [Bool.eq_false_iff]; exact fun e => HK.out (rfz_kind e), Bool.or_false]
        · unfold Mmu; simp [intOf]; omega
    · obtain rfl : k = n := by omega
      have hlb : decide (k < k) = false := by simp
      have HM := Lib.hid hM
      have c7 := hM.cell
      clear hM
      gi_wp2
      refine leaves_marks (fun W => W.ownsRow w.heap.size 4 1 (.slice (some ⟨w.heap.size + 1, 0, none⟩) (L + 1) (L + 1)) (L + 1) (bl (fun j => rfP k R q (j : Int)) (L + 1)) ∧ Below w.heap.size w W) ?_ ?_ ds _ HM.out.dm ⟨HM.out.own, HM.out.k⟩
      · rintro W D hD hk ⟨h1, h2⟩
        exact ⟨own_stays h1 (grownBy_putObj' _ D (.deferred none)) (fun r e => by cases e; exact ⟨_, hk, rfl⟩), h2.trans (belowK_b (w := w) (Nat.le_refl _) _ D _ _ (by omega) hk rfl rfl)⟩
      · rintro W ⟨h1, h2⟩
        refine ⟨_, results_tmp (t := 6) rfl _ _ _, .slice (some ⟨w.heap.size + 1, 0, none⟩) (L + 1) (L + 1), rfl, h1, h2⟩
end
end Go.Proofs.YtgbdhmdaefbglaaDoor
