/- Handles: HandlesWalks returns true. -/
import Derived.Test.YtpaecmpiokkdnaaDoorHWalkM
import Derived.Test.YtpaecmpiokkdnaaDoorHAwake
import Derived.Test.YtpaecmpiokkdnaaDoorHSetInt
import Derived.BigFrameIn
namespace Go.Proofs.YtpaecmpiokkdnaaDoor
open Go.RowKit Go.Sort Go.Joins Go.Shelf
attribute [local go_sem] cell_grow frozen_grow size_grow Oper.semAt_some

theorem alvL_cnt {st : List Slt} {A : Nat → Bool} : ∀ k, (∀ j, j < k → (st.getD j (0, false, undef)).2.1 = A j) → (alvL st k).length = cnt A 0 k
  | 0, _ => rfl
  | k + 1, h => by
    rw [alvL_succ, List.length_append, alvL_cnt k (fun j hj => h j (by omega)), h k (by omega)]
    cases hA : A k <;> simp [cnt, hA]
theorem stL_count {n : Nat} {G : Nat → Int} {A : Nat → Bool} {V : Nat → Value} {Z : Value} : (stP n G A V Z n).countP alv = cnt A 0 n := by
  have : ∀ k, k ≤ n → ((List.range k).map fun j => if j < n then ((G j).toNat, A j, if A j then V j else Z) else (0, false, Z)).countP alv = cnt A 0 k := by
    intro k
    induction k with
    | zero => intro _; rfl
    | succ k ih =>
      intro hk
      rw [List.range_succ, List.map_append, List.countP_append, ih (by omega)]
      cases hA : A k <;> simp [cnt, hA, alv, show k < n by omega]
  exact this n (Nat.le_refl _)
/-- a post that no panic meets: what a region asks that is walked where calls are deferred -/
def noPanic (Q : Exit → Act → World → Prop) : Exit → Act → World → Prop
  | .panic _, _, _ => False
  | .normal, a, w => Q .normal a w
  | .ret, a, w => Q .ret a w
  | .exit i, a, w => Q (.exit i) a w
  | .goto i, a, w => Q (.goto i) a w
  | .outgrown, a, w => Q .outgrown a w
theorem code_noPanic {F : Fence} {n : Nat} {P : Program} {c : Code} {Q : Exit → Act → World → Prop} {a : Act} {w : World} (h : c.wpIn F n P (noPanic Q) a w) : c.wpIn F n P Q a w :=
  wpIn_mono h fun e _ _ h => by cases e <;> first | exact h | exact h.elim
theorem heap_alloc_at (w : World) (cs : Array Value) (t : TypeId) (k : Nat) (hk : k = w.heap.size) : (w.alloc (.cells cs t)).heap[k]? = some (.cells cs t (0, 0)) := by
  subst hk
  exact heap_alloc_new w _
theorem func_ne_nil (fn : Fn) (fs cs : Array Value) (w : World) : (binOp .eql 45 (.func fn fs cs) .nilFunc).run Tryd.prog w = .ok (.bool false) w := by kernel_rfl
theorem one_cell {W : World} {k : Nat} {v : Value} {t : TypeId} (h : W.heap[k]? = some (.cells #[v] t (0, 0))) : W.cell? ⟨k, 0, none⟩ = some v := by rw [cell_of_block h]; rfl
theorem stL_get {n : Nat} {G : Nat → Int} {A : Nat → Bool} {V : Nat → Int} {j : Nat} (hj : j < n) : (stP n G A (zI V) (.int .i64 0) n).getD j (0, false, undef) = ((G j).toNat, A j, if A j then .int .i64 (V j) else .int .i64 0) := by rw [stP_get hj, if_pos hj]
section
variable {n na nv nd : Nat} {ga aa va da : Option Addr} {gc ac vc dc : Nat} {G : Nat → Int} {A D : Nat → Bool} {V : Nat → Int}
set_option maxRecDepth 100000 in
set_option maxHeartbeats 6400000 in
theorem law_walks_ok (w : World) (hG : SlF w ga n (zI G)) (hA : SlF w aa n (zB A)) (hV : SlF w va n (zI V)) (hD : SlF w da nd (zB D)) (hn : n ≤ 200) (hnd : nd ≤ 9223372036854775807) (he : hcE n n n G A = 0) (hT : Tab w) :
    Calls Tryd.prog 5 #[.agg #[.slice ga n gc, .slice aa n ac, .slice va n vc], .slice da nd dc] w fun e w' => e = .returned (.bool true) ∧ Below w.heap.size w w' := by
  obtain ⟨hn1, hn2, -, -, hbad⟩ := hcE_zero he
  obtain ⟨st, hst⟩ : ∃ st, stP n G A (zI V) (.int .i64 0) n = st := ⟨_, rfl⟩
  have hTl := hT.lt
  have bb := ((below_box0 w (.cells #[.slice ga n gc, .slice aa n ac, .slice va n vc] 35)).trans ((below_box0 (w.alloc (.cells #[.slice ga n gc, .slice aa n ac, .slice va n vc] 35)) (.cells #[.slice da nd dc] 33)).mono (by simp))).trans ((below_box0 ((w.alloc (.cells #[.slice ga n gc, .slice aa n ac, .slice va n vc] 35)).alloc (.cells #[.slice da nd dc] 33)) (.cells #[.bool false] 4)).mono (by simp; omega))
  have HB := Lib.hid bb
  have HG := Lib.hid (hG.below bb)
  have HA := Lib.hid (hA.below bb)
  have HV := Lib.hid (hV.below bb)
  have HGw := Lib.hid hG
  have HAw := Lib.hid hA
  have HVw := Lib.hid hV
  have HDw := Lib.hid hD
  have HT := Lib.hid (hT.below bb)
  have HTl := Lib.hid hTl
  have HE := Lib.hid he
  have HBad := Lib.hid hbad
  have HST := Lib.hid hst
  have d1 : decide ((200 : Int) < (n : Int)) = false := by simp; omega
  have d2 : decide (200 < n) = false := by simp; omega
  clear hG hA hV hD hT hTl he hbad hst bb
  refine (callsIn_wide (n := 4)).1 ?_
  refine callsIn_of_wp_marks Tryd.func5 rfl trivial ?_ rfl
  simp only [Tryd.ntmps5, List.size_toArray, List.length_cons, List.length_nil, Nat.reduceAdd, Nat.reduceSub, Array.replicate_succ, Array.replicate_zero, List.push_toArray, List.append_toArray, List.nil_append, List.cons_append]
  gi_wp2_with fail
  refine ⟨trivial, (callsIn_wide.2 (Int.load_ok _ HG.out HA.out HV.out (fun _ => ⟨_, rfl⟩) HE.out)).mono ?_⟩
  rintro e w1 ⟨p, q, rfl, t1, b1⟩
  rw [HST.out] at t1
  have T1 := Lib.hid t1
  have B1 := Lib.hid b1
  clear t1 b1
  gi_wp2_with fail
  refine ⟨trivial, (callsIn_wide.2 (all_ok _ _)).mono ?_⟩
  rintro e w2 ⟨rfl, hw2⟩
  have hWM : WM w w2 (.slice ga n gc) (.slice aa n ac) (.slice va n vc) (.slice da nd dc) w1.heap.size (w.heap.size + 1 + 1 + 1) p q st 0 0 (-1) := by
    have t1 := T1.out
    have b1 := B1.out
    have hp1 := blk_lt (Tb.slots t1)
    obtain ⟨_, _, hq1, _⟩ := Tb.tbl t1
    have hq1 := blk_lt hq1
    have hp := Tb.hp t1
    have hq := Tb.hq t1
    simp only [World.size_alloc] at hp hq t1
    have hz := b1.size
    simp only [World.size_alloc] at hz
    have bw : Below w1.heap.size w1 w2 := by
      rw [← hw2]
      exact (((((Below.refl _ w1).alloc (Nat.le_refl _) _).alloc (by simp) _).alloc (by simp; omega) _).alloc (by simp; omega) _).alloc (by simp; omega) _
    have N : ∀ {k : Nat} {o : Obj}, w1.heap[k]? = some o → w2.heap[k]? = some o := fun ho => (bw.block _ (blk_lt ho)).trans ho
    have M1 : ∀ {k : Nat} {o : Obj}, k < w.heap.size + 3 → (((w.alloc (.cells #[.slice ga n gc, .slice aa n ac, .slice va n vc] 35)).alloc (.cells #[.slice da nd dc] 33)).alloc (.cells #[.bool false] 4)).heap[k]? = some o → w2.heap[k]? = some o := fun hk ho => N ((b1.block _ (by simp; omega)).trans ho)
    refine ⟨Tg.below t1 bw, M1 (by omega) ?_, M1 (by omega) ?_, M1 (by omega) ?_, ?_, ?_, ?_, ?_, ?_, by omega, by omega, by omega, by omega, (HT.out.below b1).below bw, HTl.out, (HB.out.trans (b1.mono (by simp; omega))).trans (bw.mono (by omega))⟩
    · refine (Below.heap_alloc _ _ _ (by simp <;> omega)).trans ?_; refine (Below.heap_alloc _ _ _ (by simp <;> omega)).trans ?_; exact heap_alloc_at _ _ _ _ (by simp)
    · refine (Below.heap_alloc _ _ _ (by simp <;> omega)).trans ?_; exact heap_alloc_at _ _ _ _ (by simp)
    · exact heap_alloc_at _ _ _ _ (by simp)
    · rw [← hw2]; refine (Below.heap_alloc _ _ _ (by simp <;> omega)).trans ?_; refine (Below.heap_alloc _ _ _ (by simp <;> omega)).trans ?_; refine (Below.heap_alloc _ _ _ (by simp <;> omega)).trans ?_; refine (Below.heap_alloc _ _ _ (by simp <;> omega)).trans ?_; exact heap_alloc_at _ _ _ _ (by simp)
    · rw [← hw2]; refine (Below.heap_alloc _ _ _ (by simp <;> omega)).trans ?_; refine (Below.heap_alloc _ _ _ (by simp <;> omega)).trans ?_; refine (Below.heap_alloc _ _ _ (by simp <;> omega)).trans ?_; exact heap_alloc_at _ _ _ _ (by simp)
    · rw [← hw2]; refine (Below.heap_alloc _ _ _ (by simp <;> omega)).trans ?_; refine (Below.heap_alloc _ _ _ (by simp <;> omega)).trans ?_; exact heap_alloc_at _ _ _ _ (by simp)
    · rw [← hw2]; refine (Below.heap_alloc _ _ _ (by simp <;> omega)).trans ?_; exact heap_alloc_at _ _ _ _ (by simp)
    · rw [← hw2]; exact heap_alloc_at _ _ _ _ (by simp)
  have hsz2 : w1.heap.size + 5 ≤ w2.heap.size := by rw [← hw2]; simp
  have HWM := Lib.hid hWM
  clear hWM hw2
  have hne := func_ne_nil
  gi_wp2
  refine wpIn_iter_moves rfl (by omega) (gf := 57) (lb := #[.pointer (some ⟨w1.heap.size + 1 + 1 + 1 + 1, 0, none⟩)]) rfl trivial (enters_of Tryd.func57 (by kernel_rfl) rfl)
    (fun pre W => ∃ st' d L, WM w W (.slice ga n gc) (.slice aa n ac) (.slice va n vc) (.slice da nd dc) w1.heap.size (w.heap.size + 1 + 1 + 1) p q st' (pre.length : Int) (d : Nat) L ∧ WP st pre st' d L)
    (all_seq _ (w.heap.size + 1 + 1 + 1) p q (w1.heap.size + 1 + 1 + 1 + 1) st _ ?keep ?given ?vals _) (fun _ => rfl) (fun _ _ _ => False) ?own (fun _ _ _ _ _ hs _ _ => hs) ?start
    (fun a x => { tmps := (((a.tmps.setIfInBounds 37 (.int .i64 (hndI st x))).setIfInBounds 38 ((st.getD x (0, false, undef)).2.2)).setIfInBounds 11 (.int .i64 (hndI st x))).setIfInBounds 12 ((st.getD x (0, false, undef)).2.2), defers := [] })
    ?assign ?body ?done (fun _ _ _ _ _ h _ => h.elim)
  case keep =>
    rintro pre W ⟨st', d, L, hM, hP⟩
    exact ⟨st', hM.t, hP.len, hP.same, by rw [cell_of_block hM.bt]; rfl⟩
  case given =>
    intro j hj
    have hj : j < n := by rw [← HST.out, stP_length] at hj; exact hj
    rw [← HST.out, stL_get hj]
    have := badS_ok (HBad.out j hj)
    dsimp only
    omega
  case vals =>
    intro j hj
    have hj : j < n := by rw [← HST.out, stP_length] at hj; exact hj
    rw [← HST.out, stL_get hj]
    cases hA : A j
    · exact ⟨0, by simp⟩
    · exact ⟨V j, by simp⟩
  case own =>
    rintro pre A B row ⟨st', d, L, hM, hP⟩ hg hr
    exact ⟨st', d, L, hM.kept (by have := HWM.out.k.size; omega) hg hr, hP⟩
  case start => exact ⟨st, 0, -1, HWM.out, WP.start st⟩
  case assign =>
    intro l x W K hK
    simp only [List.setIfInBounds_toArray, List.set_cons_zero, List.set_cons_succ] at hK
    gi_wp2
    exact hK
  case body =>
    rintro l pre x W hl ⟨st', d, L, hM, hP⟩ ⟨hpre, hx, hal⟩
    have hxn : x < n := by rw [← HST.out, stP_length] at hx; exact hx
    have hL : L < (x : Int) := hP.lst x (fun i hi => by rw [hpre] at hi; exact alvL_lt hi)
    have hsame := hP.same x (fun hi => by rw [hpre] at hi; have := alvL_lt hi; omega)
    obtain ⟨z1, z2, z3⟩ := badS_ok (HBad.out x hxn)
    have hAx : A x = true := by rw [← HST.out, stL_get hxn] at hal; exact hal
    obtain ⟨g, hgx⟩ := Int.eq_ofNat_of_zero_le z1
    have hg0 := z3 hAx
    have hSx : st.getD x (0, false, undef) = (g, true, .int .i64 (V x)) := by rw [← HST.out, stL_get hxn, hAx, hgx]; rfl
    have hnd1 : hndI st x = (g : Int) * 65536 + x := by unfold hndI; rw [hSx]
    obtain ⟨v, hv⟩ : ∃ v, V x = v := ⟨_, rfl⟩
    rw [hv] at hSx
    rw [hnd1, hSx]
    obtain ⟨e1, e2⟩ := hnd_slot (x := x) (show 1 ≤ g by omega) (by omega) (by omega)
    have hx' : x < st'.length := by rw [hP.len]; exact hx
    rw [hSx] at hsame
    have hfind := find_hnd hx' hsame (by omega) (by omega) (by omega)
    obtain ⟨N, hN⟩ : ∃ N, pre.length = N := ⟨_, rfl⟩
    rw [hN] at hM
    have hNb : N ≤ 1024 := by
      have : pre.length ≤ x := by rw [hpre]; exact Nat.le_trans (List.length_filter_le _ _) (by simp)
      omega
    have hdb : d ≤ 1024 := by
      have h1 := hP.cnt
      have h2 : st.countP alv ≤ st.length := List.countP_le_length
      have h3 : st.length ≤ 1024 := by rw [← HST.out, stP_length]; omega
      omega
    have c7 := one_cell hM.b7
    have c8 := one_cell hM.b8
    have c9 := one_cell hM.b9
    have f9 := unfrozen_of_block hM.b9 0
    have f8 := unfrozen_of_block hM.b8 0
    have f7 := unfrozen_of_block hM.b7 0
    have c5 := one_cell hM.b5
    have c3 := one_cell hM.b3
    have c20 : W.cell? ⟨w.heap.size, 0, none⟩ = some (.slice ga n gc) := by rw [cell_of_block hM.b2]; rfl
    have c21 : W.cell? ⟨w.heap.size, 1, none⟩ = some (.slice aa n ac) := by rw [cell_of_block hM.b2]; rfl
    have c22 : W.cell? ⟨w.heap.size, 2, none⟩ = some (.slice va n vc) := by rw [cell_of_block hM.b2]; rfl
    obtain ⟨gb, go, hga, cg⟩ := (HGw.out.below hM.k).at_ hxn
    obtain ⟨ab, ao, haa, ca⟩ := (HAw.out.below hM.k).at_ hxn
    obtain ⟨vb, vo, hva, cv⟩ := (HVw.out.below hM.k).at_ hxn
    rw [hga] at c20
    rw [haa] at c21
    rw [hva] at c22
    dsimp only [zI, zB] at cg ca cv
    rw [hgx] at cg
    rw [hAx] at ca
    rw [hv] at cv
    have x0 : (0 : Int) ≤ (x : Int) := by omega
    have x1 : (x : Int) < (n : Int) := by omega
    have q1 : decide ((x : Int) ≤ L) = false := by simp; omega
    have q2 : decide ((n : Int) ≤ (x : Int)) = false := by simp; omega
    have q3 : decide (n ≤ x) = false := by simp; omega
    have q4 : ((g : Int) != (g : Int)) = false := by simp
    have q5 : (v != v) = false := by simp
    have q6 : ((x : Int) != (x : Int)) = false := by simp
    have hML := hM.pM
    have hpB := hM.hp
    have hqB := hM.hq
    have hqM := hM.qM
    have hlg := World.block_lt_of_cell? _ _ cg
    have hla := World.block_lt_of_cell? _ _ ca
    have hlv := World.block_lt_of_cell? _ _ cv
    have HMM := Lib.hid hM
    have HPP := Lib.hid hP
    have HFi := Lib.hid hfind
    have HE1 := Lib.hid e1
    have HE2 := Lib.hid e2
    have HSa := Lib.hid hsame
    have HPre := Lib.hid hpre
    have HNN := Lib.hid hN
    have HWk := Lib.hid hM.k
    clear hM hP hfind e1 e2 hsame hpre hN hga haa hva hgx hAx hSx hv hnd1 hal hg0 z1 z2 z3
    simp only [List.setIfInBounds_toArray, List.set_cons_zero, List.set_cons_succ]
    gi_wp2_with fail
    refine ⟨trivial, (callsIn_wide.2 (slot_ok _ _)).mono ?_⟩
    rintro e w3 ⟨rfl, rfl⟩
    rw [HE1.out, HE2.out]
    by_cases hdr : N < nd ∧ D N = true
    · obtain ⟨hlt, hDN⟩ := hdr
      obtain ⟨db, dof, hda, cd0⟩ := HDw.out.at_ hlt
      have hld := World.block_lt_of_cell? _ _ cd0
      dsimp only at hld
      have cd := (HWk.out.cell (p := ⟨db, dof + N, none⟩) hld).trans cd0
      have hd9 : db ≠ w1.heap.size + 1 + 1 + 1 := by omega
      clear cd0
      rw [hda] at c3
      dsimp only [zB] at cd
      rw [hDN] at cd
      have n1 : decide ((N : Int) < (nd : Int)) = true := by simp; omega
      have n2 : decide (N < nd) = true := by simpa using hlt
      have n3 : (N : Int) < (nd : Int) := by omega
      have n0 : (0 : Int) ≤ (N : Int) := by omega
      clear hDN hda
      gi_wp2_with fail
      have hM9 := HMM.out.set9 (x : Int)
      refine ⟨trivial, (callsIn_wide.2 (Int.tdrop_ok _ x _ hM9.t HFi.out HE1.out)).mono ?_⟩
      rintro e w5 ⟨rfl, t5, f5⟩
      rw [HSa.out] at t5 ⊢
      have hM5 := hM9.drop t5 f5
      have c7 := one_cell hM5.b7
      have c8 := one_cell hM5.b8
      have f8 := unfrozen_of_block hM5.b8 0
      have f7 := unfrozen_of_block hM5.b7 0
      have HM5 := Lib.hid hM5
      have HF5 := Lib.hid f5
      clear hM9 t5 f5 hM5
      gi_wp2
      exact ⟨((KeepsOthers.setCell _ _ _).from _).trans ((KeepsFrom.of_fr HF5.out (by omega) (by omega)).trans (((KeepsOthers.setCell _ _ _).trans (KeepsOthers.setCell _ _ _)).from _)), trivial, _, d + 1, x, by
        have := (HM5.out.set8 ((d : Int) + 1)).set7 ((N : Int) + 1)
        rw [List.length_append, HNN.out, show ((N + [x].length : Nat) : Int) = (N : Int) + 1 by simp, show ((d + 1 : Nat) : Int) = (d : Int) + 1 by omega]
        exact this, HPP.out.drop hx' (by rw [HSa.out]) g (.int .i64 0)⟩
    · have key : (decide ((N : Int) < (nd : Int)) = false ∧ decide (N < nd) = false) ∨ (N < nd ∧ D N = false) := by
        by_cases h : N < nd
        · right; exact ⟨h, by cases hd : D N with | false => rfl | true => exact absurd ⟨h, hd⟩ hdr⟩
        · left; exact ⟨by simp; omega, by simpa using h⟩
      clear hdr
      rcases key with ⟨n1, n2⟩ | ⟨hlt, hDN⟩
      · gi_wp2
        exact ⟨((KeepsOthers.setCell _ _ _).trans (KeepsOthers.setCell _ _ _)).from _, trivial, st', d, x, by
          have := (HMM.out.set9 (x : Int)).set7 ((N : Int) + 1)
          rw [List.length_append, HNN.out, show ((N + [x].length : Nat) : Int) = (N : Int) + 1 by simp]
          exact this, HPP.out.keep⟩
      · obtain ⟨db, dof, hda, cd0⟩ := HDw.out.at_ hlt
        have hld := World.block_lt_of_cell? _ _ cd0
        dsimp only at hld
        have cd := (HWk.out.cell (p := ⟨db, dof + N, none⟩) hld).trans cd0
        have hd9 : db ≠ w1.heap.size + 1 + 1 + 1 := by omega
        clear cd0
        rw [hda] at c3
        dsimp only [zB] at cd
        rw [hDN] at cd
        have n1 : decide ((N : Int) < (nd : Int)) = true := by simp; omega
        have n2 : decide (N < nd) = true := by simpa using hlt
        have n3 : (N : Int) < (nd : Int) := by omega
        have n0 : (0 : Int) ≤ (N : Int) := by omega
        clear hDN hda
        gi_wp2
        exact ⟨((KeepsOthers.setCell _ _ _).trans (KeepsOthers.setCell _ _ _)).from _, trivial, st', d, x, by
          have := (HMM.out.set9 (x : Int)).set7 ((N : Int) + 1)
          rw [List.length_append, HNN.out, show ((N + [x].length : Nat) : Int) = (N : Int) + 1 by simp]
          exact this, HPP.out.keep⟩
  case done =>
    rintro D' xs W hD' hxs ⟨st', d, L, hM, hP⟩ hK
    have hlen : xs.length = cnt A 0 n := by
      have h1 : xs = alvL st n := by unfold SAll at hxs; rw [hxs, ← HST.out, stP_length]
      rw [h1]
      exact alvL_cnt n (fun j hj => by rw [← HST.out, stL_get hj])
    have hcnt0 : st.countP alv = cnt A 0 n := by
      rw [← HST.out]; exact stL_count
    obtain ⟨N, hN⟩ : ∃ N, xs.length = N := ⟨_, rfl⟩
    rw [hN] at hM hlen
    have hNn : N ≤ 1024 := by have := cnt_le A 0 n; omega
    have hcd : (st'.countP alv : Int) = (N : Int) - d := by have := hP.cnt; omega
    have hdb : d ≤ N := by have := hP.cnt; omega
    clear hcnt0
    have c7 := one_cell hM.b7
    have c8 := one_cell hM.b8
    have c5 := one_cell hM.b5
    have c4 := one_cell hM.b4
    have f4 := unfrozen_of_block hM.b4 0
    have c21 : W.cell? ⟨w.heap.size, 1, none⟩ = some (.slice aa n ac) := by rw [cell_of_block hM.b2]; rfl
    have HMM := Lib.hid hM
    have HK := Lib.hid hK
    have HL := Lib.hid hlen
    have HCD := Lib.hid hcd
    have HWk := Lib.hid hM.k
    clear hM hP hK hlen hcd hxs hN
    gi_wp2
    gi_loop [17, 18] (fun m i => ∃ k : Nat, k ≤ n ∧ i = .int .i64 k ∧ m = .int .i64 ((cnt A 0 k : Nat) : Int)) (fun _ i => n - (intOf i).toNat)
    case atStart => exact ⟨0, Nat.zero_le _, rfl, rfl⟩
    case round =>
      obtain ⟨k, hk, rfl, rfl⟩ := hrel
      by_cases hlt : k < n
      · obtain ⟨ab, ao, haa, ca⟩ := (HAw.out.below HWk.out).at_ hlt
        rw [haa] at c21
        dsimp only [zB] at ca
        have hcb := cnt_le A 0 k
        have hstep : cnt A 0 (k + 1) = cnt A 0 k + if A k = true then 1 else 0 := by simp [cnt]
        obtain ⟨al, hal⟩ : ∃ al, A k = al := ⟨_, rfl⟩
        rw [hal] at ca hstep
        have HST2 := Lib.hid hstep
        have n1 : decide ((k : Int) < (n : Int)) = true := by simp; omega
        have n2 : decide (k < n) = true := by simpa using hlt
        have n3 : (k : Int) < (n : Int) := by omega
        have n0 : (0 : Int) ≤ (k : Int) := by omega
        clear hstep hal haa
        cases al with
        | true =>
          gi_wp2
          go_round
          case rel => exact ⟨k + 1, by omega, by go_num, by rw [HST2.out]; simp⟩
          case measure => simp [intOf]; omega
        | false =>
          gi_wp2
          go_round
          case rel => exact ⟨k + 1, by omega, by go_num, by rw [HST2.out]; simp⟩
          case measure => simp [intOf]; omega
      · have n1 : decide ((k : Int) < (n : Int)) = false := by simp; omega
        have n2 : decide (k < n) = false := by simpa using hlt
        obtain rfl : k = n := by omega
        obtain ⟨cn, hcn⟩ : ∃ cn, cnt A 0 k = cn := ⟨_, rfl⟩
        have hcn2 : cn ≤ k := by rw [← hcn]; exact cnt_le A 0 k
        have q1 : ((N : Int) == (cn : Int)) = true := by rw [HL.out, hcn]; simp
        obtain ⟨C, hC⟩ : ∃ C, st'.countP alv = C := ⟨_, rfl⟩
        have q2 : ((C : Int) == (cn : Int) - (d : Int)) = true := by
          have h1 := HCD.out
          have h2 := HL.out
          rw [hC] at h1
          rw [hcn] at h2
          simp; omega
        rw [hcn]
        have HC := Lib.hid hC
        have HMd := Lib.hid (HMM.out.below ((Below.refl W.heap.size W).drew))
        have HKd := Lib.hid (show W.drew.heap[D']? = some (.deferred (some [])) from HK.out)
        have hDz : D' < W.heap.size := (Array.getElem?_eq_some_iff.1 HK.out).1
        have c4d := one_cell HMd.out.b4
        have f4d := unfrozen_of_block HMd.out.b4 0
        have hwr : IntKind.i64.wrap ((cn : Int) - (d : Int)) = (cn : Int) - (d : Int) := IntWalk.i64_in _ (by omega)
        clear hcn hC
        gi_wp2
        refine code_noPanic ?_
        gi_region_with (first
          | (refine ⟨trivial, (callsIn_wide.2 (Int.len_ok _ HMd.out.t)).mono ?_⟩; rintro e w6 ⟨rfl, rfl⟩; rw [HC.out])
          | (refine ⟨trivial, (callsIn_wide.2 (awake_ok _ HMd.out.tab)).mono ?_⟩; rintro e w7 ⟨rfl, b7⟩; have c47 : w7.cell? ⟨w.heap.size + 1 + 1, 0, none⟩ = some (.bool false) := cell_later b7 c4d; have f47 : w7.frozen? ⟨w.heap.size + 1 + 1, 0, none⟩ = false := (b7.frozen (p := ⟨w.heap.size + 1 + 1, 0, none⟩) (World.block_lt_of_cell? _ _ c4d)).trans f4d))
        all_goals
          simp only [noPanic]
          gi_wp2
          have hK7 := ((b7.block D' hDz).trans HKd.out)
          have hK' := (KeepsOthers.setCell w7 ⟨w.heap.size + 1 + 1, 0, none⟩ (.bool true)).same D' _ hK7 rfl
          refine ⟨by simp, .inl ⟨_, _, rfl, run_takeDeferred hK', ?_⟩⟩
          have r4 := cell_kept (v := .bool true) (W := w7.setCell ⟨w.heap.size + 1 + 1, 0, none⟩ (.bool true)) (a := ⟨w.heap.size + 1 + 1, 0, none⟩) (by simp [go_sem, c47]) (grownBy_putObj' _ D' (.deferred none)) (fun r e => by cases e; exact ⟨_, hK', rfl⟩)
          have hb7 : Below w.heap.size w w7 := HMd.out.k.trans (b7.mono HMd.out.k.size)
          refine ⟨.bool true, ?_, rfl, (hb7.setCell (p := ⟨w.heap.size + 1 + 1, 0, none⟩) (by dsimp only; omega) _).trans (belowK_b (w := w) (Nat.le_refl _) _ D' _ _ (by have := HWM.out.k.size; omega) hK' rfl rfl)⟩
          simp [results, Tryd.f5, go_sem, r4]
set_option maxRecDepth 100000 in
set_option maxHeartbeats 1600000 in
theorem law_walks (w : World) (hG : SlF w ga n (zI G)) (hA : SlF w aa na (zB A)) (hV : SlF w va nv (zI V)) (hD : SlF w da nd (zB D)) (hn : n ≤ 9223372036854775807) (hnd : nd ≤ 9223372036854775807) (hT : Tab w) :
    Calls Tryd.prog 5 #[.agg #[.slice ga n gc, .slice aa na ac, .slice va nv vc], .slice da nd dc] w fun e w' => e = .returned (.bool true) ∧ Below w.heap.size w w' := by
  have bb := ((below_box0 w (.cells #[.slice ga n gc, .slice aa na ac, .slice va nv vc] 35)).trans ((below_box0 (w.alloc (.cells #[.slice ga n gc, .slice aa na ac, .slice va nv vc] 35)) (.cells #[.slice da nd dc] 33)).mono (by simp))).trans ((below_box0 ((w.alloc (.cells #[.slice ga n gc, .slice aa na ac, .slice va nv vc] 35)).alloc (.cells #[.slice da nd dc] 33)) (.cells #[.bool false] 4)).mono (by simp; omega))
  by_cases hfar : 200 < n
  · have d1 : decide ((200 : Int) < (n : Int)) = true := by simp; omega
    have d2 : decide (200 < n) = true := by simpa using hfar
    have HB := Lib.hid bb
    have HT := Lib.hid (hT.below bb)
    clear bb hfar hT hG hA hV hD
    go_enter Tryd.func5, Tryd.ntmps5
    go_wp2_with fail
    refine (awake_ok _ HT.out).mono ?_
    rintro e w1 ⟨rfl, b1⟩
    have c4 : w1.cell? ⟨w.heap.size + 1 + 1, 0, none⟩ = some (.bool false) := cell_later b1 (by simp [go_sem])
    have f4 : w1.frozen? ⟨w.heap.size + 1 + 1, 0, none⟩ = false := (b1.frozen (p := ⟨w.heap.size + 1 + 1, 0, none⟩) (by simp)).trans (by simp [go_sem])
    have HB1 := Lib.hid (HB.out.trans (b1.mono (by simp; omega)))
    clear b1
    go_wp2
    refine bodyPost_ret (v := .bool true) (by simp [results, Tryd.f5, go_sem, c4]) rfl ⟨rfl, HB1.out.setCell (p := ⟨w.heap.size + 1 + 1, 0, none⟩) (by dsimp only; omega) _⟩
  · by_cases he : hcE n na nv G A = 0
    · obtain ⟨_, _, rfl, rfl, _⟩ := hcE_zero he
      exact law_walks_ok w hG hA hV hD (by omega) hnd he hT
    · have d1 : decide ((200 : Int) < (n : Int)) = false := by simp; omega
      have d2 : decide (200 < n) = false := by simpa using hfar
      have hb := bne0_true he
      have HE := Lib.hid he
      have HB := Lib.hid bb
      have HT := Lib.hid (hT.below bb)
      have HG := Lib.hid (hG.below bb)
      have HA := Lib.hid (hA.below bb)
      clear bb hfar hT hG hA hV hD he
      go_enter Tryd.func5, Tryd.ntmps5
      go_wp2_with fail
      refine (Int.load_err _ HG.out HA.out HE.out).mono ?_
      rintro e w1 ⟨rfl, b1⟩
      have c4 : w1.cell? ⟨w.heap.size + 1 + 1, 0, none⟩ = some (.bool false) := cell_later b1 (by simp [go_sem])
      have f4 : w1.frozen? ⟨w.heap.size + 1 + 1, 0, none⟩ = false := (b1.frozen (p := ⟨w.heap.size + 1 + 1, 0, none⟩) (by simp)).trans (by simp [go_sem])
      have HB1 := Lib.hid (HB.out.trans (b1.mono (by simp; omega)))
      have HT1 := Lib.hid (HT.out.below b1)
      clear b1
      go_wp2_with fail
      have h4l := World.block_lt_of_cell? _ _ c4
      refine (awake_ok _ (HT1.out.below (below_box0 _ _))).mono ?_
      rintro e w2 ⟨rfl, b2⟩
      have b12 : Below w1.heap.size w1 w2 := (below_box0 _ _).trans (b2.mono (by simp))
      have c42 : w2.cell? ⟨w.heap.size + 1 + 1, 0, none⟩ = some (.bool false) := cell_later b12 c4
      have f42 : w2.frozen? ⟨w.heap.size + 1 + 1, 0, none⟩ = false := (b12.frozen (p := ⟨w.heap.size + 1 + 1, 0, none⟩) h4l).trans f4
      have HB2 := Lib.hid (HB1.out.trans (b12.mono HB1.out.size))
      clear b2 b12
      go_wp2
      refine bodyPost_ret (v := .bool true) (by simp [results, Tryd.f5, go_sem, c42]) rfl ⟨rfl, HB2.out.setCell (p := ⟨w.heap.size + 1 + 1, 0, none⟩) (by dsimp only; omega) _⟩
end
end Go.Proofs.YtpaecmpiokkdnaaDoor
