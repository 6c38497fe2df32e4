/- The radix map: Save. | The radix map: two maps beside each other, and a call in a box; Set and Clear of a range page by page, plain. -/
import Derived.Test.YtfmclbacoffdaaaDoorRSZ1
import Derived.Deep.MidRow
import Derived.Deep.RegionLaw
import Derived.Test.YtfmclbacoffdaaaDoorRSZ3
import Derived.Test.YtfmclbacoffdaaaDoorRSZ4
import Derived.Test.YtfmclbacoffdaaaDoorRZ10
namespace Go.Proofs.YtfmclbacoffdaaaDoor
open Go.RowKit Go.Sort Go.Joins
attribute [local go_sem] cell_grow frozen_grow size_grow Oper.semAt_some
theorem info_rmnode : (Tryd.prog.info? 60).map (fun i => (i.zero, i.size, i.bytes)) = some (some (.agg #[.int .i64 0, .slice none 0 0, .slice none 0 0]), 3, 56) := by kernel_rfl
/-- the kids and words of a node in a box, as slices -/
theorem box_kids {w : World} {b k : Nat} {x : Nd} (h : w.heap[b]? = some (.cells (ndc x).toArray 90 (0, 0))) (hk : k ≤ 16) : Reads w w.heap.size 1 (some ⟨b, 2, none⟩) k (intsV ((List.range k).map fun j => (x.kd j : Int))) := by
  refine ⟨by rw [intsV_length]; simp, fun _ => ⟨_, rfl, blk_lt h, fun j u hu => ?_⟩⟩
  have hj : j < k := by
    have := (List.getElem?_eq_some_iff.1 hu).1
    rw [intsV_length] at this
    simpa using this
  rw [Go.WideShapes.add_plain, cell_of_block h, List.getElem?_toArray, ndc_kd x (by omega), ← hu]
  unfold intsV
  simp [hj]
theorem box_words {w : World} {b k : Nat} {x : Nd} (h : w.heap[b]? = some (.cells (ndc x).toArray 90 (0, 0))) (hk : k ≤ 8) : Reads w w.heap.size 1 (some ⟨b, 18, none⟩) k (u64s ((List.range k).map x.wd)) := by
  refine ⟨by simp [u64s], fun _ => ⟨_, rfl, blk_lt h, fun j u hu => ?_⟩⟩
  have hj : j < k := by
    have := (List.getElem?_eq_some_iff.1 hu).1
    simpa [u64s] using this
  rw [Go.WideShapes.add_plain, cell_of_block h, List.getElem?_toArray, ndc_wd x (by omega), ← hu]
  unfold u64s
  simp [hj]
/-- what Save holds after i nodes -/
structure SvL (w wr : World) (n i : Nat) (v : Value) (K L : Nat → Value) (S : List Rn) : Prop where
  bx : wr.heap[w.heap.size + 1]? = some (.cells #[.int .i64 (n : Int), v] 45 (0, 0))
  out : wr.heap[w.heap.size]? = some (.cells #[.int .i64 0, .slice none 0 0] 45 (0, 0))
  st : OSt wr (w.heap.size + 2) v K L (S.take i)
  k : Below w.heap.size w wr
theorem there_new26 (w : World) (cs : Array Value) (t : TypeId) (x : Nd) (h : cs.size = 26) : (w.alloc (.cells cs t)).there w.heap.size 0 (ndc x).toArray.size := by
  have hs : (ndc x).toArray.size = 26 := by rw [List.size_toArray, ndc_length]
  have hb := heap_alloc_new w (.cells cs t)
  intro j hj
  rw [hs] at hj
  refine ⟨?_, unfrozen_of_block hb _⟩
  rw [cell_of_block hb, Array.getElem?_eq_getElem (by omega)]
  rfl
/-- a new box is filled -/
theorem box_new26 (w : World) (cs : Array Value) (t : TypeId) (x : Nd) (h : cs.size = 26) : ((w.alloc (.cells cs t)).setCells w.heap.size 0 (ndc x)).heap[w.heap.size]? = some (.cells (ndc x).toArray t (0, 0)) := by
  have hb := heap_alloc_new w (.cells cs t)
  have e : cs = cs.toList.toArray := by simp
  rw [e] at hb
  rw [e, setCells_list (ndc x) 0 cs.toList _ hb (by rw [ndc_length]; simp; omega)]
  rw [ndc_length]
  simp [List.drop_eq_nil_of_le, h]
theorem below_box26 (w : World) (o : Obj) (vs : List Value) : Below w.heap.size w ((w.alloc o).setCells w.heap.size 0 vs) := by
  have hb := below_box0 w o
  have : ∀ (vs : List Value) (k : Nat) (W : World), Below w.heap.size w W → Below w.heap.size w (W.setCells w.heap.size k vs) := by
    intro vs
    induction vs with
    | nil => exact fun k W h => h
    | cons v r ih => exact fun k W h => ih (k + 1) _ (h.setCell (p := ⟨w.heap.size, k, none⟩) (Nat.le_refl _) v)
  exact this vs 0 _ hb
/-- one node more -/
theorem SvL.next {w wr Wc w9 : World} {n i : Nat} {v v' kv uv : Value} {K L : Nat → Value} {S : List Rn} {x : Rn} (h : SvL w wr n i v K L S) (hb : Below wr.heap.size wr Wc)
    (hk : Wc.ownsRow (wr.heap.size + 1) 3 1 kv x.ks.length (intsV x.ks)) (hl : Wc.ownsRow (wr.heap.size + 1) 24 1 uv x.ws.length (u64s x.ws))
    (hr : w9.ownsRow (w.heap.size + 2) 60 3 v' (i + 1) (rnC K L (S.take i) ++ [.int .i64 x.lv, kv, uv])) (hg : Wc.grownBy w9 v.ownBlock) (hi : i < S.length) (hx : S.take (i + 1) = S.take i ++ [x]) :
    SvL w (w9.setCell ⟨w.heap.size + 1, 1, none⟩ v') n (i + 1) v' (updV K i kv) (updV L i uv) S := by
  have hlen : (S.take i).length = i := by rw [List.length_take]; omega
  have hst := h.st.below hb
  have hlt := blk_lt h.bx
  have hws := hb.size
  have hs2 : w.heap.size + 2 ≤ wr.heap.size := by omega
  have hne : ∀ k, k < w.heap.size + 2 → v.ownBlock ≠ some k := fun k hk e => by have := (h.st.row.lt k e).1; omega
  have hbx : w9.heap[w.heap.size + 1]? = some (.cells #[.int .i64 (n : Int), v] 45 (0, 0)) := by
    rw [hg.block _ (by omega) (fun e => hne _ (by omega) e.symm), hb.block _ hlt]; exact h.bx
  have hout : w9.heap[w.heap.size]? = some (.cells #[.int .i64 0, .slice none 0 0] 45 (0, 0)) := by
    rw [hg.block _ (by omega) (fun e => hne _ (by omega) e.symm), hb.block _ (by omega)]; exact h.out
  have hnew := OSt.snoc (w' := w9) (v' := v') (k := kv) (l := uv) (x := x) hst (own_leW hk (by omega)) (own_leW hl (by omega))
    (fun j hj g e e2 => by have a := (h.st.kid j hj).lt g e; have b := (hk.lt g e2).1; omega)
    (fun j hj g e e2 => by have a := (h.st.wrd j hj).lt g e; have b := (hl.lt g e2).1; omega)
    (by rw [hlen]; exact hr) hg
  rw [hlen, ← hx] at hnew
  refine ⟨?_, ?_, hnew.setBelow (a := ⟨w.heap.size + 1, 1, none⟩) (by dsimp only; omega) _, ?_⟩
  · rw [setCell_block hbx]; simp
  · rw [Below.heap_setCell _ _ _ _ (by dsimp only; omega)]; exact hout
  · have h1 : Below w.heap.size w Wc := h.k.trans (hb.mono h.k.size)
    exact (h1.grown hg (by omega) (fun k hk => by have := (h.st.row.lt k hk).1; omega)).setCell (p := ⟨w.heap.size + 1, 1, none⟩) (by dsimp only; omega) _
theorem reads_new3 (w : World) (a b c : Value) (t : TypeId) : Reads (w.alloc (.cells #[a, b, c] t)) (w.heap.size + 1) 3 (some ⟨w.heap.size, 0, none⟩) 1 [a, b, c] := by
  refine ⟨rfl, fun _ => ⟨_, rfl, Nat.lt_succ_self _, fun j x hj => ?_⟩⟩
  have hblk := heap_alloc_new w (.cells #[a, b, c] t)
  rw [Addr.add_lit, cell_of_block hblk]
  match j with
  | 0 => exact hj
  | 1 => exact hj
  | 2 => exact hj
  | j + 3 => simp at hj
theorem one3 (l : Int) (a : Option Addr) (n c : Nat) (b : Option Addr) (m d : Nat) : ∀ u ∈ [Value.int .i64 l, .slice a n c, .slice b m d], u.oneCell' = true := fun u hu => by
  simp at hu
  rcases hu with rfl | rfl | rfl <;> rfl
theorem keepA {W : World} {p : Addr} {u : Value} (o : Obj) (h : W.cell? p = some u) : (W.alloc o).cell? p = some u := by
  rw [World.cell?_alloc_lt _ _ _ (World.block_lt_of_cell? W _ h)]; exact h
theorem keepS {W : World} {p a : Addr} {u : Value} (v : Value) (hne : p.block ≠ a.block) (h : W.cell? p = some u) : (W.setCell a v).cell? p = some u := by
  rw [World.cell?_setCell_other _ _ _ _ (fun e => hne (by rw [e]))]; exact h
section
variable {w : World} {B p q : Nat}
set_option maxRecDepth 100000 in
set_option maxHeartbeats 6400000 in
theorem save_ok {X : RM} (h : TM w B p q X.st X.m X.r) :
    Calls Tryd.prog 24 #[.pointer (some ⟨p, 0, none⟩)] w fun e w' => ∃ a c, e = .returned (.agg #[.int .i64 X.st.length, .slice a X.st.length c]) ∧ (∃ K L, OSt w' w.heap.size (.slice a X.st.length c) K L (stS X)) ∧ Below w.heap.size w w' := by
  obtain ⟨i0, hi0, hz0, hz1, hz2'⟩ := info_parts info_rmnode
  have b1 := below_box0 w (.cells #[.int .i64 0, .slice none 0 0] 45)
  have h1 := h.below b1
  have H0 := Lib.hid h
  have HB1 := Lib.hid b1
  have H1 := Lib.hid h1
  have HM := Lib.hid (made_ok h1)
  have c0 := h.c0
  have lp := h.lp
  have n2 := h1.n2
  have HQ := Lib.hid h1.lq
  clear b1 h1 h
  go_enter Tryd.func24, Tryd.ntmps24
  go_wp2_with fail
  refine HM.out.mono ?_
  rintro e w1 ⟨rfl, rfl⟩
  go_wp2
  have b2 := below_box0 (w.alloc (.cells #[.int .i64 0, .slice none 0 0] 45)) (.cells #[.int .i64 X.st.length, .slice none 0 0] 45)
  obtain ⟨W0, hW0⟩ : ∃ W, (w.alloc (.cells #[.int .i64 0, .slice none 0 0] 45)).alloc (.cells #[.int .i64 X.st.length, .slice none 0 0] 45) = W := ⟨_, rfl⟩
  have hS0 : SvL w W0 X.st.length 0 (.slice none 0 0) (fun _ => undef) (fun _ => undef) (stS X) := by
    refine ⟨?_, ?_, OSt.nil _ _ _ _, ?_⟩
    · rw [← hW0]
      have := heap_alloc_new (w.alloc (.cells #[.int .i64 0, .slice none 0 0] 45)) (.cells #[.int .i64 X.st.length, .slice none 0 0] 45)
      rwa [World.size_alloc] at this
    · rw [← hW0]
      exact (Below.heap_alloc _ _ _ (by simp)).trans (heap_alloc_new w _)
    · rw [← hW0]; exact below_tr HB1.out b2
  rw [hW0]
  have HS0 := Lib.hid hS0
  clear hW0 hS0 b2 c0 lp HM H1
  obtain ⟨n, hn⟩ : ∃ n, X.st.length = n := ⟨_, rfl⟩
  have HN := Lib.hid hn
  rw [hn] at HS0 n2 ⊢
  clear hn
  go_loopw [23] (fun x wr => ∃ (i : Nat) (v : Value) (K L : Nat → Value), i ≤ n ∧ x = .int .i64 i ∧ Hid (SvL w wr n i v K L (stS X))) (fun x _ => n - (intOf x).toNat)
  case atStart => exact ⟨0, _, _, _, Nat.zero_le _, rfl, HS0⟩
  case round =>
    obtain ⟨i, v, K, L, hi, rfl, HSv⟩ := hrel
    have HT := Lib.hid (H0.out.below HSv.out.k)
    by_cases hlt : i < n
    · have hli : (i : Int) < (n : Int) := by omega
      have hl0 : (0 : Int) ≤ (i : Int) := by omega
      have hin : i < X.st.length := by rw [HN.out]; exact hlt
      obtain ⟨x, hx⟩ : ∃ x, X.N i = x := ⟨_, rfl⟩
      have hr : wr.rangeAt q (i * 26) (ndc x) := fun j u hu => by
        have hj : j < 26 := by
          have := (List.getElem?_eq_some_iff.1 hu).1
          rwa [ndc_length] at this
        rw [HT.out.at_ hin hj, ← hu, ← hx]
      have HR := Lib.hid hr
      have HI : Hid ((Tryd.prog.info? 90).map (·.size) = some (ndc x).length) := Lib.hid (by rw [ndc_length]; kernel_rfl)
      have HI2 : Hid ((Tryd.prog.info? 90).map (·.size) = some (ndc x).toArray.size) := Lib.hid (by rw [List.size_toArray, ndc_length]; kernel_rfl)
      have HO1 := Lib.hid (all_oneCell_toArray (ndc_one x))
      have HX := Lib.hid hx
      have HIN := Lib.hid hin
      clear hr hx hin
      go_upto_region 7 with (first | (refine wpList_load_mid rfl 90 (.tmp 25) rfl q (i * 26) rfl (ndc x) _ HR.out Tryd.underlying90 rfl HI.out ?_) | (refine wpList_store_mid rfl 90 (.tmp 5) (.tmp 26) rfl wr.heap.size 0 (ndc x).toArray rfl rfl (there_new26 wr _ _ x (by decide)) HI2.out HO1.out ?_) | fail)
      generalize hW6 : World.setCells _ _ _ _ = W6
      have B6 : Hid (Below wr.heap.size wr W6) := Lib.hid (by rw [← hW6]; exact below_box26 _ _ _)
      have X6 : Hid (W6.heap[wr.heap.size]? = some (.cells (ndc x).toArray 90 (0, 0))) := Lib.hid (by rw [← hW6]; exact box_new26 _ _ _ _ (by decide))
      clear hW6 HR HI HI2 HO1
      have hlv : W6.cell? ⟨wr.heap.size, 0, none⟩ = some (.int .i64 x.lv) := by rw [cell_of_block X6.out]; rfl
      have hk16 : kN x.lv ≤ 16 := by unfold kN; split; · omega
                                     · split <;> omega
      have hw8 : wN x.lv ≤ 8 := by unfold wN; split <;> omega
      have hws := HSv.out.k.size
      have hs2 : w.heap.size + 2 ≤ wr.heap.size := by have := blk_lt HSv.out.bx; omega
      have hs6 := B6.out.size
      have q6 : W6.cell? ⟨w.heap.size + 1, 1, none⟩ = some v := by
        have hb := (B6.out.block _ (blk_lt HSv.out.bx)).trans HSv.out.bx
        rw [cell_of_block hb]; rfl
      have HSZ := Lib.hid (sizes_ok x.lv)
      -- the two clones
      have CI : Hid (∀ W', Below W6.heap.size W6 W' → Calls Tryd.prog 48 #[.slice (some ⟨wr.heap.size, 2, none⟩) (kN x.lv) 16] W' fun e w' => ∃ a c, e = .returned (.slice a (rnOf x).ks.length c) ∧ w'.ownsRow (wr.heap.size + 1) 3 1 (.slice a (rnOf x).ks.length c) (rnOf x).ks.length (intsV (rnOf x).ks) ∧ Below W'.heap.size W' w') := Lib.hid (fun W' hb => by
        have hx := (hb.block _ (blk_lt X6.out)).trans X6.out
        have hl : (rnOf x).ks.length = kN x.lv := by simp [rnOf]
        have := cloneI_ok (c := 16) (box_kids hx hk16) (fun u hu => by unfold intsV at hu; simp at hu; obtain ⟨_, _, rfl⟩ := hu; rfl) (by omega)
        refine this.mono fun e w' ⟨v, he, ho, hbl⟩ => ?_
        obtain ⟨a, c, rfl⟩ := own_slice' ho
        rw [hl]
        exact ⟨a, c, he, own_leW ho (blk_lt hx), hbl⟩)
      have CU : Hid (∀ W', Below W6.heap.size W6 W' → Calls Tryd.prog 49 #[.slice (some ⟨wr.heap.size, 18, none⟩) (wN x.lv) 8] W' fun e w' => ∃ a c, e = .returned (.slice a (rnOf x).ws.length c) ∧ w'.ownsRow (wr.heap.size + 1) 24 1 (.slice a (rnOf x).ws.length c) (rnOf x).ws.length (u64s (rnOf x).ws) ∧ Below W'.heap.size W' w') := Lib.hid (fun W' hb => by
        have hx := (hb.block _ (blk_lt X6.out)).trans X6.out
        have hl : (rnOf x).ws.length = wN x.lv := by simp [rnOf]
        have := cloneU_ok (c := 8) (box_words hx hw8) (fun u hu => by unfold u64s at hu; simp at hu; obtain ⟨_, _, rfl⟩ := hu; rfl) (by omega)
        refine this.mono fun e w' ⟨v, he, ho, hbl⟩ => ?_
        obtain ⟨a, c, rfl⟩ := own_slice' ho
        rw [hl]
        exact ⟨a, c, he, own_leW ho (blk_lt hx), hbl⟩)
      have HROW : Hid (∀ W', Below W6.heap.size W6 W' → W'.ownsRow (w.heap.size + 2) 60 3 v i (rnC K L ((stS X).take i))) := Lib.hid (fun W' hb => by
        have hlen : ((stS X).take i).length = i := by rw [List.length_take, stS_len, HN.out]; omega
        have := own_belowW (own_belowW HSv.out.st.row B6.out) hb
        rw [hlen] at this
        exact this)
      have HTK : Hid ((stS X).take (i + 1) = (stS X).take i ++ [rnOf x]) := Lib.hid (by rw [stS_take X HIN.out, HX.out])
      have HLT : Hid (i < (stS X).length) := Lib.hid (by rw [stS_len, HN.out]; exact hlt)
      have HNB : Hid (∀ W', Below W6.heap.size W6 W' → ∀ w9, W'.grownBy w9 v.ownBlock → w9.cell? ⟨wr.heap.size, 0, none⟩ = some (.int .i64 x.lv) ∧ w9.cell? ⟨w.heap.size + 1, 1, none⟩ = some v ∧ w9.frozen? ⟨w.heap.size + 1, 1, none⟩ = false) := Lib.hid (fun W' hb w9 hg => by
        have hn : ∀ k, k < w.heap.size + 2 → v.ownBlock ≠ some k := fun k hk e => by have := (HSv.out.st.row.lt k e).1; omega
        have hn2 : v.ownBlock ≠ some wr.heap.size := fun e => by have := (HSv.out.st.row.lt _ e).2; omega
        have hbs := hb.size
        have hl6 := blk_lt X6.out
        refine ⟨?_, ?_⟩
        · rw [World.cell?_of_block (a := ⟨wr.heap.size, 0, none⟩) (hg.block _ (by dsimp only; omega) (fun e => hn2 e.symm))]
          exact cell_later hb hlv
        · have hb9 : w9.heap[w.heap.size + 1]? = some (.cells #[.int .i64 (n : Int), v] 45 (0, 0)) := by
            rw [hg.block _ (by omega) (fun e => hn _ (by omega) e.symm), hb.block _ (by omega), B6.out.block _ (blk_lt HSv.out.bx)]
            exact HSv.out.bx
          exact ⟨by rw [cell_of_block hb9]; rfl, unfrozen_of_block hb9 1⟩)
      have k0 : (0 : Int) ≤ (kN x.lv : Int) := by omega
      have k1 : (kN x.lv : Int) ≤ 16 := by omega
      have u0 : (0 : Int) ≤ (wN x.lv : Int) := by omega
      have u1 : (wN x.lv : Int) ≤ 8 := by omega
      go_wp2_with fail
      refine (HSZ.out _).mono ?_
      rintro e w7 ⟨rfl, rfl⟩
      go_upto_region 8 with fail
      have HSX : Hid (∀ W', Below W6.heap.size W6 W' → w.heap.size + 2 ≤ W'.heap.size) := Lib.hid (fun W' hb => by have := hb.size; omega)
      go_region_law (first
          | (refine step_append_any _ rfl (.tmp 34) (.tmp 46) 43 rfl (w.heap.size + 2) 60 i0 _ 3 56 Tryd.underlying43 hi0 hz0 hz1 hz2' rfl (by decide) v i (rnC K L ((stS X).take i)) (by simp [Act.eval]) (HROW.out _ (below_tr gU.out (below_box0 _ _))) (w8.heap.size + 1) (some ⟨w8.heap.size, 0, none⟩) 1 1 [.int .i64 x.lv, .slice ka (rnOf x).ks.length kc, .slice ua (rnOf x).ws.length uc] (by simp [Act.eval]) (reads_new3 w8 _ _ _ _) (one3 _ _ _ _ _ _ _) (by unfold maxLen; omega) (by omega) (HSX.out _ (below_tr gU.out (below_box0 _ _))) ?_; intro v' w9 hown hg hat; obtain ⟨na, nc, rfl⟩ := own_slice' hown; have NX := Lib.hid (SvL.next HSv.out (below_tr B6.out (below_tr gU.out (below_box0 _ _))) (own_belowW OK2.out (below_box0 _ _)) (own_belowW OU.out (below_box0 _ _)) hown hg HLT.out HTK.out); have n9 := HNB.out _ (below_tr gU.out (below_box0 _ _)) _ hg; have s9 := n9.1; have c9 := n9.2.1; have f9 := n9.2.2)
          | (refine step_append_any _ rfl (.tmp 34) (.tmp 46) 43 rfl (w.heap.size + 2) 60 i0 _ 3 56 Tryd.underlying43 hi0 hz0 hz1 hz2' rfl (by decide) v i (rnC K L ((stS X).take i)) (by simp [Act.eval, Act.put]) (HROW.out _ (below_tr gI.out (below_box0 _ _))) (w7.heap.size + 1) (some ⟨w7.heap.size, 0, none⟩) 1 1 [.int .i64 x.lv, .slice ka (rnOf x).ks.length kc, .slice ua (rnOf x).ws.length uc] (by simp [Act.eval, Act.put]) (reads_new3 w7 _ _ _ _) (one3 _ _ _ _ _ _ _) (by unfold maxLen; omega) (by omega) (HSX.out _ (below_tr gI.out (below_box0 _ _))) ?_; intro v' w9 hown hg hat; obtain ⟨na, nc, rfl⟩ := own_slice' hown; have NX := Lib.hid (SvL.next HSv.out (below_tr B6.out (below_tr gI.out (below_box0 _ _))) (own_belowW OK.out (below_box0 _ _)) (own_belowW OU2.out (below_box0 _ _)) hown hg HLT.out HTK.out); have n9 := HNB.out _ (below_tr gI.out (below_box0 _ _)) _ hg; have s9 := n9.1; have c9 := n9.2.1; have f9 := n9.2.2)
          | (go_simp; go_at_call 48; refine (CI.out _ gU.out).mono ?_; rintro e w7 ⟨ka, kc, rfl, ok, bk⟩; have gI := Lib.hid (below_tr gU.out bk); have OK := Lib.hid ok; have OU2 := Lib.hid (own_belowW OU.out bk); have qI := cell_later gI.out q6; have sI := cell_later gI.out hlv; have lI : w.heap.size + 1 < w7.heap.size := World.block_lt_of_cell? _ _ qI)
          | (go_simp; go_at_call 48; refine (CI.out _ (Below.refl _ _).drew).mono ?_; rintro e w7 ⟨ka, kc, rfl, ok, bk⟩; have gI := Lib.hid (below_tr (Below.refl _ W6).drew bk); have OK := Lib.hid ok; have qI := cell_later gI.out q6; have sI := cell_later gI.out hlv; have lI : w.heap.size + 1 < w7.heap.size := World.block_lt_of_cell? _ _ qI)
          | (go_simp; go_at_call 49; refine (CU.out _ gI.out).mono ?_; rintro e w8 ⟨ua, uc, rfl, ou, bu⟩; have gU := Lib.hid (below_tr gI.out bu); have OU := Lib.hid ou; have OK2 := Lib.hid (own_belowW OK.out bu); have qU := cell_later gU.out q6; have sU := cell_later gU.out hlv; have lU : w.heap.size + 1 < w8.heap.size := World.block_lt_of_cell? _ _ qU)
          | (go_simp; go_at_call 49; refine (CU.out _ (Below.refl _ _).drew).mono ?_; rintro e w8 ⟨ua, uc, rfl, ou, bu⟩; have gU := Lib.hid (below_tr (Below.refl _ W6).drew bu); have OU := Lib.hid ou; have qU := cell_later gU.out q6; have sU := cell_later gU.out hlv; have lU : w.heap.size + 1 < w8.heap.size := World.block_lt_of_cell? _ _ qU))
      all_goals
        clear n9 s9 c9 f9 hown hg hat CI CU HROW HNB HSX HTK HLT
        go_wp2
        go_roundw
        case rel => exact ⟨i + 1, _, _, _, by omega, by go_num, NX⟩
        case measure => simp [intOf]; omega
    · obtain rfl : i = n := by omega
      have hli : ¬ ((i : Int) < (i : Int)) := by omega
      have b0 := HSv.out.bx
      have b1 := HSv.out.out
      obtain ⟨va, vc, rfl⟩ := own_slice' HSv.out.st.row
      have hlen : ((stS X).take i).length = i := by rw [List.length_take, stS_len, HN.out]; omega
      rw [hlen] at b0
      have q0 : wr.cell? ⟨w.heap.size + 1, 0, none⟩ = some (.int .i64 (i : Int)) := by rw [cell_of_block b0]; rfl
      have q1 : wr.cell? ⟨w.heap.size + 1, 1, none⟩ = some (.slice va i vc) := by rw [cell_of_block b0]; rfl
      have p0 : wr.cell? ⟨w.heap.size, 0, none⟩ = some (.int .i64 0) := by rw [cell_of_block b1]; rfl
      have p1 : wr.cell? ⟨w.heap.size, 1, none⟩ = some (.slice none 0 0) := by rw [cell_of_block b1]; rfl
      have fz : ∀ j, wr.frozen? ⟨w.heap.size, j, none⟩ = false := fun j => unfrozen_of_block b1 j
      have hst : OSt ((wr.setCell ⟨w.heap.size, 0, none⟩ (.int .i64 (i : Int))).setCell ⟨w.heap.size, 1, none⟩ (.slice va i vc)) w.heap.size (.slice va i vc) K L (stS X) := by
        have h1 := HSv.out.st
        rw [hlen, List.take_of_length_le (by rw [stS_len, HN.out]; exact Nat.le_refl _)] at h1
        exact ((h1.setBelow (a := ⟨w.heap.size, 0, none⟩) (by dsimp only; omega) _).setBelow (a := ⟨w.heap.size, 1, none⟩) (by dsimp only; omega) _).le (by omega)
      have HST := Lib.hid hst
      have HK := Lib.hid ((HSv.out.k.setCell (p := ⟨w.heap.size, 0, none⟩) (Nat.le_refl _) (.int .i64 (i : Int))).setCell (p := ⟨w.heap.size, 1, none⟩) (Nat.le_refl _) (.slice va i vc))
      clear b0 b1 hst hlen
      go_wp2
      exact bodyPost_ret (v := .agg #[.int .i64 (i : Int), .slice va i vc]) (by simp [results, Tryd.results24, go_sem, p0, p1]) rfl ⟨va, vc, by rw [HN.out], ⟨K, L, by rw [HN.out]; exact HST.out⟩, HK.out⟩
end
end Go.Proofs.YtfmclbacoffdaaaDoor

namespace Go.Proofs.YtfmclbacoffdaaaDoor
open Go.RowKit Go.Sort Go.Joins
abbrev clC (c : Cl) : Array Value := #[.int .u8 (c.wh : Int), .int .i64 c.f, .int .i64 c.t, .int .i64 c.o, .int .i64 c.s, .int .i64 c.c, .bool c.g]
/-- a map X at the blocks q + 1, q; the call in a box -/
structure One (w wr : World) (x : Cl) (q : Nat) (X : RM) : Prop where
  m : TM wr w.heap.size (q + 1) q X.st X.m X.r
  bx : wr.heap[w.heap.size]? = some (.cells (clC x) 73 (0, 0))
  hq : w.heap.size < q
  k : Below w.heap.size w wr
/-- .. and another one, Y -/
structure Two (w wr : World) (x : Cl) (q g : Nat) (X Y : RM) : Prop where
  o : One w wr x q X
  n : TM wr w.heap.size (g + 1) g Y.st Y.m Y.r
  hg : q + 1 < g
section
variable {w wr wr' : World} {x : Cl} {q g : Nat} {X Y Z : RM}
theorem One.below (h : One w wr x q X) (hb : Below wr.heap.size wr wr') : One w wr' x q X := ⟨h.m.below hb, (hb.block _ (blk_lt h.bx)).trans h.bx, h.hq, below_tr h.k hb⟩
theorem One.fr (h : One w wr x q X) (hf : Fr (q + 1) q wr wr') (hm : TM wr' w.heap.size (q + 1) q Z.st Z.m Z.r) : One w wr' x q Z :=
  ⟨hm, (hf.block _ (blk_lt h.bx) (by have := h.hq; omega) (by have := h.hq; omega)).trans h.bx, h.hq, Fr.below h.k hf (by have := h.hq; omega) (by have := h.hq; omega) h.k.size⟩
theorem Two.below (h : Two w wr x q g X Y) (hb : Below wr.heap.size wr wr') : Two w wr' x q g X Y := ⟨h.o.below hb, h.n.below hb, h.hg⟩
theorem Two.frM (h : Two w wr x q g X Y) (hf : Fr (q + 1) q wr wr') (hm : TM wr' w.heap.size (q + 1) q Z.st Z.m Z.r) : Two w wr' x q g Z Y :=
  ⟨h.o.fr hf hm, TM.other h.n h.o.m hf (by have := h.hg; omega) (by have := h.hg; omega), h.hg⟩
theorem Two.frN (h : Two w wr x q g X Y) (hf : Fr (g + 1) g wr wr') (hn : TM wr' w.heap.size (g + 1) g Z.st Z.m Z.r) : Two w wr' x q g X Z := by
  have h1 := h.hg
  have h2 := h.o.hq
  exact ⟨⟨TM.other h.o.m h.n hf (by omega) (by omega), (hf.block _ (blk_lt h.o.bx) (by omega) (by omega)).trans h.o.bx, h.o.hq, Fr.below h.o.k hf (by omega) (by omega) h.o.k.size⟩, hn, h.hg⟩
theorem One.c0 (h : One w wr x q X) : wr.cell? ⟨w.heap.size, 0, none⟩ = some (.int .u8 (x.wh : Int)) := by rw [cell_of_block h.bx]; rfl
theorem One.c1 (h : One w wr x q X) : wr.cell? ⟨w.heap.size, 1, none⟩ = some (.int .i64 x.f) := by rw [cell_of_block h.bx]; rfl
theorem One.c2 (h : One w wr x q X) : wr.cell? ⟨w.heap.size, 2, none⟩ = some (.int .i64 x.t) := by rw [cell_of_block h.bx]; rfl
theorem One.c3 (h : One w wr x q X) : wr.cell? ⟨w.heap.size, 3, none⟩ = some (.int .i64 x.o) := by rw [cell_of_block h.bx]; rfl
theorem One.c4 (h : One w wr x q X) : wr.cell? ⟨w.heap.size, 4, none⟩ = some (.int .i64 x.s) := by rw [cell_of_block h.bx]; rfl
theorem One.c5 (h : One w wr x q X) : wr.cell? ⟨w.heap.size, 5, none⟩ = some (.int .i64 x.c) := by rw [cell_of_block h.bx]; rfl
theorem One.c6 (h : One w wr x q X) : wr.cell? ⟨w.heap.size, 6, none⟩ = some (.bool x.g) := by rw [cell_of_block h.bx]; rfl
theorem One.lt (h : One w wr x q X) : w.heap.size < wr.heap.size := blk_lt h.bx
end
/-! a range, page by page -/
section
variable {X : RM}
theorem growM_m (X : RM) (i k : Nat) : (growM X i k).m = X.m + 1 := rfl
theorem putM_m (X : RM) (x p : Nat) : (putM X x p).m = X.m + (if mdI X.st p = 0 then 1 else 0) + (if lfI X.st p = 0 then 1 else 0) := by
  show (putB X p).m = _
  unfold putB putA
  by_cases c1 : mdI X.st p = 0 <;> by_cases c2 : lfI X.st p = 0 <;> simp only [c1, c2, if_true, if_false, growM_m, Nat.add_zero]
theorem needF_more (st : List Nd) : ∀ (n k p : Nat) (b s : Int), needF st n p b s ≤ needF st (n + k) p b s
  | 0, _, _, _, _ => Nat.zero_le _
  | n + 1, k, p, b, s => by
    rw [show n + 1 + k = (n + k) + 1 by omega]
    simp only [needF]
    have := needF_more st n k (p + 1) ((p / 64 : Nat) : Int) ((p / 8 : Nat) : Int)
    omega
theorem needF_one (st : List Nd) (p : Nat) : needF st 1 p (-1) (-1) = (if mdI st p = 0 then 1 else 0) + (if lfI st p = 0 then 1 else 0) := by
  simp only [needF]
  have e1 : (mdI st p = 0 ∧ ((p / 64 : Nat) : Int) ≠ -1) ↔ mdI st p = 0 := ⟨fun h => h.1, fun h => ⟨h, by omega⟩⟩
  have e2 : (lfI st p = 0 ∧ ((p / 8 : Nat) : Int) ≠ -1) ↔ lfI st p = 0 := ⟨fun h => h.1, fun h => ⟨h, by omega⟩⟩
  rw [ite_congr' e1, ite_congr' e2, Nat.add_zero]
/-- Set of one page of a range that is set -/
theorem set_page (h : RGood X) {f t o s c : Int} {g : Bool} (hE : setE X f t o s c = 0) {j : Nat} (hj : j < (t - f).toNat) :
    setE (setM (pkW o s c g).toNat j X f.toNat) (f + j) (f + j + 1) o s c = 0 ∧ setX (setM (pkW o s c g).toNat j X f.toNat) (f + j) (f + j + 1) o s c g = setM (pkW o s c g).toNat (j + 1) X f.toNat := by
  obtain ⟨e1, e2, e3⟩ := setE_zero hE
  obtain ⟨p1, p2, p3⟩ := paE_zero e1
  obtain ⟨Z, hZ⟩ : ∃ Z, setM (pkW o s c g).toNat j X f.toNat = Z := ⟨_, rfl⟩
  have hm : ∀ n, n ≤ (t - f).toNat → X.m + needF X.st n f.toNat (-1) (-1) ≤ X.st.length := fun n hn => by
    have := needF_more X.st n ((t - f).toNat - n) f.toNat (-1) (-1)
    rw [show n + ((t - f).toNat - n) = (t - f).toNat by omega] at this
    omega
  have g1 := h.a.i.set (pkW o s c g).toNat j (p := f.toNat) (b := -1) (s := -1) (by omega) (fun e => by omega) (fun e => by omega) (hm j (by omega))
  have g2 := h.a.i.set (pkW o s c g).toNat (j + 1) (p := f.toNat) (b := -1) (s := -1) (by omega) (fun e => by omega) (fun e => by omega) (hm (j + 1) (by omega))
  have e4 : setM (pkW o s c g).toNat (j + 1) X f.toNat = putM Z (pkW o s c g).toNat (f.toNat + j) := by rw [← hZ]; rfl
  have hlen : Z.st.length = X.st.length := by rw [← hZ]; exact setM_len _ _ _ _
  have hmm := g2.2.2.1
  rw [e4, putM_m] at hmm
  rw [hZ, e4]
  have hp : (f + j).toNat = f.toNat + j := by omega
  have hnn : (f + j + 1 - (f + j)).toNat = 1 := by omega
  have hpa : paE (f + j) (f + j + 1) = 0 := by unfold paE; rw [if_neg (by omega)]
  have hz : setE Z (f + j) (f + j + 1) o s c = 0 := by
    unfold setE
    rw [if_neg (fun h => h hpa), if_neg (fun h => h e2), hnn, hp, needF_one, if_neg]
    rw [hlen]
    have := hm (j + 1) (by omega)
    omega
  refine ⟨hz, ?_⟩
  unfold setX
  rw [if_pos hz, hnn, hp]
  rfl
theorem clr_page {f t : Int} (hE : paE f t = 0) {j : Nat} (hj : j < (t - f).toNat) :
    paE (f + j) (f + j + 1) = 0 ∧ clrX (clrN j X f.toNat) (f + j) (f + j + 1) = clrN (j + 1) X f.toNat := by
  obtain ⟨p1, p2, p3⟩ := paE_zero hE
  have hpa : paE (f + j) (f + j + 1) = 0 := by unfold paE; rw [if_neg (by omega)]
  refine ⟨hpa, ?_⟩
  unfold clrX
  rw [if_pos hpa, show (f + j).toNat = f.toNat + j by omega, show (f + j + 1 - (f + j)).toNat = 1 by omega]
  rfl
theorem RGood.setN (h : RGood X) {f t o s c : Int} {g : Bool} (hE : setE X f t o s c = 0) : ∀ j, j ≤ (t - f).toNat → RGood (setM (pkW o s c g).toNat j X f.toNat)
  | 0, _ => h
  | j + 1, hj => by
    have := (h.setN hE (g := g) j (by omega)).setX (f + j) (f + j + 1) o s c g
    rwa [(set_page h hE (g := g) (j := j) (by omega)).2] at this
theorem RGood.clrNs (h : RGood X) {f t : Int} (hE : paE f t = 0) : ∀ j, j ≤ (t - f).toNat → RGood (clrN j X f.toNat)
  | 0, _ => h
  | j + 1, hj => by
    have := (h.clrNs hE j (by omega)).clrX (f + j) (f + j + 1)
    rwa [(clr_page (X := X) hE (j := j) (by omega)).2] at this
end
end Go.Proofs.YtfmclbacoffdaaaDoor
