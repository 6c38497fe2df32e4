/- Clocks: the reference's Run of a plan that is right: its loop. | Clocks: what Add answers; the reference's Add. | Clocks: the reference's Add of an alarm that is right. | Clocks, plain: what Add and Cancel leave, by the place of the name. -/
import Derived.Test.YtjceahbikdncmaaDoorPZ12
namespace Go.Proofs.YtjceahbikdncmaaDoor
open Go.RowKit Go.Sort Go.Joins Go.Shelf
attribute [local go_sem] cell_grow frozen_grow size_grow Oper.semAt_some
theorem SlA.set_box {W : World} {ap : Option Addr} {m : Nat} {Q : Nat → Al} {z : Nat} {x : Option Addr} {y y' : Nat} (h : SlA W ap m Q) (hb : BoxA W z x y y') (v : Value) : SlA (W.setCell ⟨z, 0, none⟩ v) ap m Q := by
  rcases h with h | ⟨b, o, ha, hc⟩
  · exact .inl h
  · refine .inr ⟨b, o, ha, fun j hj => ?_⟩
    obtain ⟨h0, h1, h2⟩ := hc j hj
    refine ⟨(World.cell?_setCell_other _ _ _ _ (fun e => ?_)).trans h0, (World.cell?_setCell_other _ _ _ _ (fun e => ?_)).trans h1, (World.cell?_setCell_other _ _ _ _ (fun e => ?_)).trans h2⟩
    · injection e with e1 e2
      subst e1
      rw [← e2, cell_of_block hb] at h0
      cases h0
    · injection e with e1 e2
      omega
    · injection e with e1 e2
      omega
theorem run_done {w W : World} {B n cp vc : Nat} {R : Nat → Al} {u : Int} {c : Nat → Nat} {L : List (Int × Nat)} {va ap : Option Addr} (h : RR w B n R u c L (.slice va L.length vc) ap cp W) (hP : PlOk n R) (hu : u ≤ MT) (hE : ctE n R u = 0)
    (hs : bst (fc R c) n = -1 ∨ ∃ b : Nat, bst (fc R c) n = b ∧ u < fc R c b) (x : Value) (k : Nat) :
    RRunPost w n R u (.returned (.tuple #[.slice va L.length vc, .agg #[.slice ap (curL R (fc R c) 0 n).length cp], .int .i64 0])) ((W.setCell ⟨w.heap.size + 1, 0, none⟩ x).drewN k) := by
  have hok : RunOk n R u L := h.rg.run hP.ok hu hs
  obtain ⟨_, h2⟩ := h.rg.stop hP.ok hs
  have hcur : rstA R u n = curL R (fc R c) 0 n := cur_rst fun i hi => nxA_pos (hP.ok i hi) (h.rg.count hP.ok hu hi (h2 i hi))
  have hrn : rnE n R u = 0 := rnE_of hE (by have := hok.len; have := h.le; omega)
  refine .inl ⟨hrn, va, vc, ap, cp, L, by rw [hcur], ?_, ?_, hok, h.le, ?_⟩
  · have hne : (Value.slice va L.length vc).ownBlock ≠ some (⟨w.heap.size + 1, 0, none⟩ : Addr).block := fun e => by have := (h.own.lt _ e).1; have := h.hB; dsimp only at *; omega
    have ho := ownsRow_setCell_other h.own hne x
    have hl : (L.map (rgN R)).length = L.length := List.length_map _
    rw [← hl] at ho ⊢
    have := SlG.of_own ho
    exact this
  · rw [hcur]
    exact h.sl.set_box h.b5 x
  · exact (h.k.setCell (p := ⟨w.heap.size + 1, 0, none⟩) (by dsimp only; omega) x).trans (below_draw _ k |>.mono (by have := (h.k.setCell (p := ⟨w.heap.size + 1, 0, none⟩) (by dsimp only; omega) x).size; exact this))
/-- what is there behind the append -/
structure R3 (w : World) (B n : Nat) (R : Nat → Al) (c : Nat → Nat) (v : Value) (m : Nat) (xs : List Value) (ap : Option Addr) (cp : Nat) (W : World) : Prop where
  k : Below w.heap.size w W
  own : W.ownsRow B 45 2 v m xs
  p : BoxA W w.heap.size ap (curL R (fc R c) 0 n).length cp
  sl : SlA W ap (curL R (fc R c) 0 n).length (fun j => (curL R (fc R c) 0 n).getD j al0)
  b5 : BoxA W (w.heap.size + 1) none 0 0
  hB : w.heap.size + 2 ≤ B
  hW : B ≤ W.heap.size
theorem RR.grow {w W W' : World} {B n cp m : Nat} {R : Nat → Al} {u : Int} {c : Nat → Nat} {L : List (Int × Nat)} {v v' : Value} {ap : Option Addr} {o : Obj} {xs : List Value} (h : RR w B n R u c L v ap cp W) (hg : ((W.alloc o).drew).grownBy W' v.ownBlock)
    (hown : W'.ownsRow B 45 2 v' m xs) : R3 w B n R c v' m xs ap cp W' := by
  have bA := (below_box0 W o).drew
  have h2 := h.below bA
  have hrow : ∀ r, v.ownBlock = some r → B ≤ r := fun r e => (h.own.lt _ e).1
  have hB := h.hB
  have hgb : ∀ k, k < B → k < (W.alloc o).drew.heap.size → W'.heap[k]? = (W.alloc o).drew.heap[k]? := fun k hk hl => hg.block k hl (fun e => by have := hrow _ e.symm; omega)
  refine ⟨h2.k.grown hg h2.k.size (fun r e => by have := hrow r e; omega), hown, (hgb _ (by omega) (blk_lt h2.p)).trans h2.p, h2.sl.grown hg (fun q e er => ?_), (hgb _ (by omega) (blk_lt h2.b5)).trans h2.b5, hB, ?_⟩
  · exact h.ne _ er.symm q e rfl
  · have := hg.size; have := h2.hW; omega
theorem R3.close {w W W' : World} {B n cp g' c' q : Nat} {R : Nat → Al} {u : Int} {c : Nat → Nat} {M : List (Int × Nat)} {v : Value} {ap : Option Addr} {d : Nat → Nat} (h : R3 w B n R c v M.length (rgc (M.map (rgN R))) ap cp W) (hb : Below W.heap.size W W') (hg : W.heap.size ≤ g')
    (hs : SlA W' (some ⟨g', 0, none⟩) (rungL (curL R (fc R c) 0 n) q).length (fun j => (rungL (curL R (fc R c) 0 n) q).getD j al0)) (hr : rungL (curL R (fc R c) 0 n) q = curL R (fc R d) 0 n) (hrg : RgAt n (alP R) u d M) (hle : M.length ≤ 1000) :
    RR w B n R u d M v (some ⟨g', 0, none⟩) c' (W'.setCell ⟨w.heap.size, 0, none⟩ (.slice (some ⟨g', 0, none⟩) (rungL (curL R (fc R c) 0 n) q).length c')) := by
  rw [hr] at hs ⊢
  have hB := h.hB
  have hp := (hb.block _ (blk_lt h.p)).trans h.p
  have ho := own_below h.own hb
  refine ⟨(below_tr h.k hb).setCell (p := ⟨w.heap.size, 0, none⟩) (Nat.le_refl _) _, hrg, ownsRow_setCell_other ho (fun e => by have := (ho.lt _ e).1; dsimp only at this; omega) _, (setCell_block hp _).trans (by simp), hs.set_box hp _, (Below.heap_setCell _ _ _ _ (show w.heap.size + 1 ≠ w.heap.size by omega)).trans ((hb.block _ (blk_lt h.b5)).trans h.b5), fun r e x hx => ?_, hB, ?_, hle⟩
  · have := (h.own.lt _ e).2
    cases hx
    dsimp only
    omega
  · have := hb.size; have := h.hW; rw [World.size_setCell]; omega
abbrev lenV : Value → Nat
  | .slice _ n _ => n
  | _ => 0
section
variable {w : World} {a : Option Addr} {n c : Nat} {R : Nat → Al} {u : Int}
set_option maxRecDepth 100000 in
set_option maxHeartbeats 6400000 in
theorem rrun_ok (hS : SlA w a n R) (hn : n ≤ 9223372036854775807) (hR : ∀ j, j < n → AlB (R j)) (hE : ctE n R u = 0) :
    Calls Tryd.prog 12 #[pV a n c, .int .i64 u] w (RRunPost w n R u) := by
  obtain ⟨i0, hi0, hz0, hz1, hz2'⟩ := info_parts info_ring
  have b1 : Below w.heap.size w ((w.alloc (.cells #[.slice a n c] 24)).alloc (.cells #[.slice none 0 0] 24)) := ((Below.refl _ w).alloc (Nat.le_refl _) _).alloc (by simp) _
  have h5 : BoxA ((w.alloc (.cells #[.slice a n c] 24)).alloc (.cells #[.slice none 0 0] 24)) (w.heap.size + 1) none 0 0 := by
    have := heap_alloc_new (w.alloc (.cells #[.slice a n c] 24)) (.cells #[.slice none 0 0] 24)
    rwa [World.size_alloc] at this
  have h4 : BoxA ((w.alloc (.cells #[.slice a n c] 24)).alloc (.cells #[.slice none 0 0] 24)) w.heap.size a n c := (Below.heap_alloc _ _ _ (by simp)).trans (heap_alloc_new w _)
  obtain ⟨hce, hu0, hu1⟩ := ctE_zero hE
  have hp := cE_zero hce
  have HP := Lib.hid hp
  have hn50 := hp.n50
  have huM : u ≤ MT := by rw [MT_eq]; exact hu1
  have HUM := Lib.hid huM
  have HC := Lib.hid (rCheck_ok (c := c) (hS.below b1) hn hR)
  have HS1 := Lib.hid (hS.below b1)
  have HB := Lib.hid b1
  have H5 := Lib.hid h5
  have H4 := Lib.hid h4
  have HT := Lib.hid (rtime_ok u)
  rw [tmB_yes.2 ⟨hu0, hu1⟩] at HT
  rw [hce] at HC
  have HCT := Lib.hid hE
  clear hS hR hE hce b1 h5 h4 hp huM
  go_enter Tryd.func12, Tryd.ntmps12
  go_wp2_with fail
  refine HC.out.mono ?_
  rintro e w1 ⟨rfl, b1⟩
  have h51 := (b1.block _ (blk_lt H5.out)).trans H5.out
  have h41 := (b1.block _ (blk_lt H4.out)).trans H4.out
  have hsz : w.heap.size + 2 ≤ w1.heap.size := by have := blk_lt h51; omega
  obtain ⟨ca1, ca2⟩ := cur_all (R := R) (f := fc R (fun _ => 0)) (n := n) (fun i hi => by have := HP.out.ok i hi; exact ⟨by show 0 ≤ pos (R i).2 0; rw [pos_zero this]; exact this.a0, pos_zero this⟩) (Nat.le_refl n)
  have hrr : RR w w1.heap.size n R u (fun _ => 0) [] (.slice none 0 0) a c w1 := by
    refine ⟨below_tr HB.out b1, RgAt.start n (alP R) u, World.ownsRow_nil _ _ _ _, ?_, ?_, h51, fun r e => by simp [Value.ownBlock] at e, hsz, Nat.le_refl _, Nat.zero_le _⟩
    · rw [ca1]; exact h41
    · rw [ca1]; exact (HS1.out.below b1).congr fun j hj => (ca2 j hj).symm
  have HRR := Lib.hid hrr
  clear h51 h41 hsz ca1 ca2 hrr b1 HC HS1 HB H5 H4
  go_wp2_with (go_at_call 35; refine (HT.out _).mono ?_; rintro e w2 ⟨rfl, rfl⟩)
  clear HT
  obtain ⟨B, hB⟩ : ∃ B, w1.heap.size = B := ⟨_, rfl⟩
  rw [hB] at HRR
  clear hB
  go_loopw [9] (fun o wr => ∃ (c : Nat → Nat) (L : List (Int × Nat)) (va : Option Addr) (vc : Nat) (ap : Option Addr) (cp : Nat), o = .slice va L.length vc ∧ Hid (RR w B n R u c L (.slice va L.length vc) ap cp wr)) (fun o _ => 1001 - lenV o)
  case atStart => exact ⟨fun _ => 0, [], none, 0, a, c, rfl, HRR⟩
  case round =>
    clear HRR
    obtain ⟨c, L, va, vc, ap, cp, rfl, HI⟩ := hrel
    have hle := HI.out.le
    obtain ⟨m, hm⟩ : ∃ m, (curL R (fc R c) 0 n).length = m := ⟨_, rfl⟩
    have hmn : m ≤ n := by rw [← hm]; exact cur_len
    have HM := Lib.hid hm
    have h0 := HI.out.p
    rw [hm] at h0
    have k0 : wr.cell? ⟨w.heap.size, 0, none⟩ = some (.slice ap m cp) := by rw [cell_of_block h0]; rfl
    have l0 := blk_lt h0
    have hsl := HI.out.sl
    rw [hm] at hsl
    have HSL := Lib.hid hsl
    have HF := Lib.hid (rfirst_ok (c := cp) hsl (by omega) (fun j hj => (cur_ok (c := c) HP.out (by rw [hm]; exact hj)).a0))
    have hw : ((∀ i, i < n → fc R c i < 0) ∧ bst (fc R c) n = -1 ∧ bst (tmsA (fun j => (curL R (fc R c) 0 n).getD j al0)) m = -1) ∨
        (∃ (b q : Nat), b < n ∧ bst (fc R c) n = b ∧ 0 ≤ fc R c b ∧ bst (tmsA (fun j => (curL R (fc R c) 0 n).getD j al0)) m = q ∧ q < m ∧ q = (curL R (fc R c) 0 b).length ∧ (curL R (fc R c) 0 n).getD q al0 = atF R (fc R c) b) := by
      rcases bst_spec (fc R c) n with ⟨e, h⟩ | ⟨b, e, hb, hb0, hmin⟩
      · left
        refine ⟨h, e, ?_⟩
        have : m = 0 := by rw [← hm, cur_none h]; rfl
        rw [this]; rfl
      · right
        obtain ⟨h1, h2, h3⟩ := cur_bst (R := R) hb hb0 hmin
        rw [hm] at h1 h2
        exact ⟨b, _, hb, e, hb0, h1, h2, rfl, h3⟩
    clear hm h0 hsl
    rcases hw with ⟨hneg, hbst, hq⟩ | ⟨b, q, hb, hbst, hb0, hq, hqm, hqe, hqx⟩
    · rw [hq] at HF
      have HST := Lib.hid hbst
      clear hneg hbst hq
      go_wp2_with fail
      refine HF.out.mono ?_
      rintro e w2 ⟨rfl, b2⟩
      have HI2 := Lib.hid (HI.out.below b2)
      have h02 := HI2.out.p
      rw [HM.out] at h02
      clear k0 l0 b2
      have k0 : w2.cell? ⟨w.heap.size, 0, none⟩ = some (.slice ap m cp) := by rw [cell_of_block h02]; rfl
      have l0 := blk_lt h02
      have k5 : w2.cell? ⟨w.heap.size + 1, 0, none⟩ = some (.slice none 0 0) := by rw [cell_of_block HI2.out.b5]; rfl
      have f5 := unfrozen_of_block HI2.out.b5
      have l5 := blk_lt HI2.out.b5
      clear h02
      go_wp2_with fail
      go_region
      all_goals
        go_wp2
        refine bodyPost_ret (v := .tuple #[.slice va L.length vc, .agg #[.slice ap m cp], .int .i64 0]) (by simp [results, Tryd.results12, go_sem, k5, f5]) rfl ?_
        have := run_done HI2.out HP.out HUM.out HCT.out (.inl HST.out) (.slice ap m cp) 1
        rw [HM.out] at this
        exact this
    · rw [hq] at HF
      have HBI := Lib.hid (And.intro hb (And.intro hbst hb0))
      have HQE := Lib.hid hqe
      have HQX := Lib.hid hqx
      have hok := HP.out.ok b hb
      obtain ⟨s, hs⟩ : ∃ s, (R b).1 = s := ⟨_, rfl⟩
      obtain ⟨t, ht⟩ : ∃ t, fc R c b = t := ⟨_, rfl⟩
      have hxe : atF R (fc R c) b = (s, t, (R b).2.2) := by unfold atF; rw [hs, ht]
      rw [hxe] at hqx
      rw [ht] at hb0
      have HX := Lib.hid (And.intro hs ht)
      obtain ⟨pE, hpE⟩ : ∃ x, (R b).2.2 = x := ⟨_, rfl⟩
      rw [hpE] at hqx
      have HPE := Lib.hid hpE
      have hqm' : (q : Int) < (m : Int) := by omega
      have hq0 : (0 : Int) ≤ (q : Int) := by omega
      have dq : decide ((q : Int) < 0) = false := decide_eq_false (by omega)
      clear hq hqe hxe hs ht hok hpE
      go_wp2_with fail
      refine HF.out.mono ?_
      rintro e w2 ⟨rfl, b2⟩
      have HI2 := Lib.hid (HI.out.below b2)
      have h02 := HI2.out.p
      rw [HM.out] at h02
      clear k0 l0 b2 HF HI HSL
      have hsl2 := HI2.out.sl
      rw [HM.out] at hsl2
      obtain ⟨ab, ao, hap, g0, g1, g2⟩ := hsl2.at_ hqm
      rw [hqx] at g0 g1 g2
      dsimp only at g0 g1 g2
      subst hap
      have k0 : w2.cell? ⟨w.heap.size, 0, none⟩ = some (.slice (some ⟨ab, ao, none⟩) m cp) := by rw [cell_of_block h02]; rfl
      have l0 := blk_lt h02
      have hbl := World.block_lt_of_cell? _ _ g0
      dsimp only at hbl
      have k5 : w2.cell? ⟨w.heap.size + 1, 0, none⟩ = some (.slice none 0 0) := by rw [cell_of_block HI2.out.b5]; rfl
      have f5 := unfrozen_of_block HI2.out.b5
      have l5 := blk_lt HI2.out.b5
      clear h02 hqx hsl2 hbst
      by_cases hlate : u < t
      · have d2 : decide (u < t) = true := by simpa using hlate
        have HLT := Lib.hid hlate
        clear hlate
        go_wp2_with fail
        go_region
        all_goals
          go_wp2
          refine bodyPost_ret (v := .tuple #[.slice va L.length vc, .agg #[.slice (some ⟨ab, ao, none⟩) m cp], .int .i64 0]) (by simp [results, Tryd.results12, go_sem, k5, f5]) rfl ?_
          have := run_done HI2.out HP.out HUM.out HCT.out (.inr ⟨b, HBI.out.2.1, by rw [HX.out.2]; exact HLT.out⟩) (.slice (some ⟨ab, ao, none⟩) m cp) 1
          rw [HM.out] at this
          exact this
      · have d2 : decide (u < t) = false := by simpa using hlate
        have hst := HI2.out.rg.step HP.out.ok HBI.out.2.1 (by have := HX.out.2; show fc R c b ≤ u; omega)
        have hsum := sumC_le (R := R) (u := u) fun i hi => hst.le_count HP.out.ok HUM.out hi
        rw [← hst.len] at hsum
        have HST := Lib.hid hst
        have HSUM : Hid ((L.length : Int) + 1 ≤ sumA R u n) := Lib.hid (by simpa using hsum)
        clear hst hsum hlate
        by_cases hth : L.length = 1000
        · have d3 : ((L.length : Int) == 1000) = true := by simp; omega
          have hrn : rnE n R u = 3 := by
            unfold rnE
            rw [if_neg (by simpa using HCT.out), if_pos (by have := HSUM.out; omega)]
          have HRN := Lib.hid hrn
          clear hrn
          go_wp2
          refine bodyPost_ret (v := .tuple #[.slice none 0 0, .agg #[.slice none 0 0], .int .i64 3]) (by simp [results, Tryd.results12, go_sem, k5, f5]) rfl (.inr ⟨by rw [HRN.out]; decide, by rw [HRN.out], HI2.out.k.setCell (p := ⟨w.heap.size + 1, 0, none⟩) (by dsimp only; omega) _⟩)
        · have d3 : ((L.length : Int) == 1000) = false := by simp; omega
          have HO2 : Hid (w2.drew.ownsRow B 45 2 (.slice va L.length vc) L.length (rgc (L.map (rgN R)))) := Lib.hid HI2.out.own
          have HO3 := Lib.hid (HO2.out.alloc (.cells #[.string s, .int .i64 t] 45))
          have HRD : Hid (Reads (w2.drew.alloc (.cells #[.string s, .int .i64 t] 45)) (w2.heap.size + 1) 2 (some ⟨w2.heap.size, 0, none⟩) 1 [.string s, .int .i64 t]) := Lib.hid ⟨rfl, fun _ => ⟨_, rfl, Nat.lt_succ_self _, fun j x hj => by
            have hblk : (w2.drew.alloc (.cells #[.string s, .int .i64 t] 45)).heap[w2.heap.size]? = some (.cells #[.string s, .int .i64 t] 45 (0, 0)) := heap_alloc_new w2.drew _
            rw [Addr.add_lit, cell_of_block hblk]
            match j with
            | 0 => exact hj
            | 1 => exact hj
            | j + 2 => simp at hj⟩⟩
          have HBW : Hid (B ≤ (w2.drew.alloc (.cells #[.string s, .int .i64 t] 45)).heap.size) := Lib.hid (by have := HI2.out.hW; simp; omega)
          go_wp2_with fail
          go_region_law (refine step_append_any _ rfl (.tmp 47) (.tmp 61) 27 rfl B 45 i0 _ 2 24 Tryd.underlying27 hi0 hz0 hz1 hz2' rfl (by decide) (.slice va L.length vc) L.length (rgc (L.map (rgN R))) (by simp [Act.eval, Act.put]) HO3.out (w2.heap.size + 1) (some ⟨w2.heap.size, 0, none⟩) 1 1 [.string s, .int .i64 t] (by simp [Act.eval, Act.put]) HRD.out (fun x hx => by simp at hx; rcases hx with rfl | rfl <;> rfl) (by unfold maxLen; omega) (by omega) HBW.out ?_; intro v' w3 hown hg hat)
          all_goals
            obtain ⟨va', vc', rfl⟩ := own_slice' hown
            have hx : rgc ((L ++ [(pos (alP R b) (c b), b)]).map (rgN R)) = rgc (L.map (rgN R)) ++ [.string s, .int .i64 t] := by
              have e : rgN R (pos (alP R b) (c b), b) = (s, t) := by rw [← HX.out.1, ← HX.out.2]; rfl
              rw [List.map_append, List.map_cons, List.map_nil, e, rgc_snoc]
            have hl : (L ++ [(pos (alP R b) (c b), b)]).length = L.length + 1 := by rw [List.length_append, List.length_singleton]
            have h3 := HI2.out.grow hg hown
            rw [← hx, ← hl] at h3
            have H3 := Lib.hid h3
            have HL := Lib.hid hl
            have hp3 := h3.p
            rw [HM.out] at hp3
            clear k0 l0 k5 f5 l5 g0 g1 g2 hbl hx h3 hl hg hown hat HO2 HO3 HRD HBW
            have k0 : w3.cell? ⟨w.heap.size, 0, none⟩ = some (.slice (some ⟨ab, ao, none⟩) m cp) := by rw [cell_of_block hp3]; rfl
            have l0 := blk_lt hp3
            have hrung := rung_ok (c := cp) (i := q) H3.out.sl (by rw [HM.out]; omega) (by rw [HM.out]; exact hqm) (fun j hj => cur_ok HP.out hj)
            have hstep : rungL (curL R (fc R c) 0 n) q = curL R (fc R (fun i => if i = b then c i + 1 else c i)) 0 n := by
              rw [HQE.out]
              refine cur_step HBI.out.1 HBI.out.2.2 (fun k hk => ?_) ?_ (HP.out.ok b HBI.out.1).e0
              · show pos (alP R k) (if k = b then c k + 1 else c k) = _
                rw [if_neg hk]
              · show pos (alP R b) (if b = b then c b + 1 else c b) = _
                rw [if_pos rfl]
                exact pos_nextR (HP.out.ok b HBI.out.1) HBI.out.2.2
            rw [HM.out] at hrung
            have HRU := Lib.hid hrung
            have HSP := Lib.hid hstep
            clear hrung hstep hp3
            (try simp only [Exit.inBlock, Exit.then])
            go_wp2_with fail
            refine HRU.out.mono ?_
            rintro e w4 ⟨g', c', rfl, hg', hs4, b4⟩
            have HCL := Lib.hid (H3.out.close (c' := c') (u := u) b4 hg' hs4 HSP.out HST.out (by rw [HL.out]; have := HI2.out.le; omega))
            have hp4 := (b4.block _ (blk_lt H3.out.p)).trans H3.out.p
            rw [HM.out] at hp4
            clear k0 l0
            have k0 : w4.cell? ⟨w.heap.size, 0, none⟩ = some (.slice (some ⟨ab, ao, none⟩) m cp) := by rw [cell_of_block hp4]; rfl
            have f0 := unfrozen_of_block hp4
            have l0 := blk_lt hp4
            clear hp4 hg' hs4 b4
            go_wp2
            go_roundw
            case rel => exact ⟨_, L ++ [(pos (alP R b) (c b), b)], va', vc', some ⟨g', 0, none⟩, c', by rw [HL.out], by rw [HL.out] at HCL; rw [HL.out]; exact HCL⟩
            case measure => simp [lenV]; omega
end
end Go.Proofs.YtjceahbikdncmaaDoor

namespace Go.Proofs.YtjceahbikdncmaaDoor
open Go.RowKit Go.Sort Go.Joins Go.Shelf
attribute [local go_sem] cell_grow frozen_grow size_grow Oper.semAt_some
/-- what Add answers -/
def addE (n : Nat) (R : Nat → Al) (x : Al) : Int :=
  if cE n R ≠ 0 then cE n R else if alE x ≠ 0 then alE x else if lowI n R x.1 < n ∧ (R (lowI n R x.1)).1 = x.1 then 8 else if n = 50 then 5 else 0
def addL (n : Nat) (R : Nat → Al) (x : Al) : List Al := ((List.range (lowI n R x.1)).map R) ++ [x] ++ ((List.range' (lowI n R x.1) (n - lowI n R x.1)).map R)
def addR (n : Nat) (R : Nat → Al) (x : Al) : List Al := if addE n R x = 0 then addL n R x else []
/-- what Add hands back -/
def AddPost (w : World) (n : Nat) (R : Nat → Al) (x : Al) (e : Ending) (w' : World) : Prop :=
  ∃ (a : Option Addr) (c : Nat) (L : List Al), e = .returned (.tuple #[pV a L.length c, .int .i64 (addE n R x)]) ∧ Hid (L = addR n R x) ∧ SlA w' a L.length (fun j => L.getD j al0) ∧ Below w.heap.size w w'
theorem AddPost.bad {w w' : World} {n : Nat} {R : Nat → Al} {x : Al} {E : Int} (hE : addE n R x = E) (h0 : E ≠ 0) (hb : Below w.heap.size w w') : AddPost w n R x (.returned (.tuple #[pV none 0 0, .int .i64 E])) w' :=
  ⟨none, 0, [], by rw [hE]; rfl, Lib.hid (by unfold addR; rw [hE, if_neg h0]), .inl rfl, hb⟩
section
variable {w : World} {a : Option Addr} {n c : Nat} {R : Nat → Al}
set_option maxRecDepth 100000 in
set_option maxHeartbeats 3200000 in
theorem rAdd_bad (hS : SlA w a n R) (hn : n ≤ 9223372036854775807) (hR : ∀ j, j < n → AlB (R j)) (x : Al) (hx : x.1.size ≤ 9223372036854775807) (hE : cE n R ≠ 0) :
    Calls Tryd.prog 28 #[pV a n c, aV x] w (AddPost w n R x) := by
  have b1 : Below w.heap.size w (((w.alloc (.cells #[.slice a n c] 24)).alloc (.cells #[.string x.1, .int .i64 x.2.1, .int .i64 x.2.2] 47)).alloc (.cells #[.slice none 0 0] 24)) := (((Below.refl _ w).alloc (Nat.le_refl _) _).alloc (by simp) _).alloc (by simp; omega) _
  have h5 : BoxA (((w.alloc (.cells #[.slice a n c] 24)).alloc (.cells #[.string x.1, .int .i64 x.2.1, .int .i64 x.2.2] 47)).alloc (.cells #[.slice none 0 0] 24)) (w.heap.size + 1 + 1) none 0 0 := by
    have := heap_alloc_new ((w.alloc (.cells #[.slice a n c] 24)).alloc (.cells #[.string x.1, .int .i64 x.2.1, .int .i64 x.2.2] 47)) (.cells #[.slice none 0 0] 24)
    rw [World.size_alloc, World.size_alloc] at this
    exact this
  have HC := Lib.hid (rCheck_ok (c := c) (hS.below b1) hn hR)
  have HB := Lib.hid b1
  have H5 := Lib.hid h5
  have hae : addE n R x = cE n R := if_pos hE
  obtain ⟨p, hp⟩ : ∃ p, cE n R = p := ⟨_, rfl⟩
  rw [hp] at HC hE hae
  have d0 := bne0_true hE
  have d1 : (p == 0) = false := by simpa using hE
  have HE := Lib.hid hE
  have HAE := Lib.hid hae
  clear hS hR b1 h5 hp hE hae
  go_enter Tryd.func28, Tryd.ntmps28
  go_wp2_with fail
  refine HC.out.mono ?_
  rintro e w1 ⟨rfl, b1⟩
  have h51 := (b1.block _ (blk_lt H5.out)).trans H5.out
  have k5 : w1.cell? ⟨w.heap.size + 1 + 1, 0, none⟩ = some (.slice none 0 0) := by rw [cell_of_block h51]; rfl
  have f5 := unfrozen_of_block h51
  have l5 := blk_lt h51
  have HB1 := Lib.hid (below_tr HB.out b1)
  clear b1 h51
  go_wp2
  go_loopw [8] (fun o wr => o = .int .i64 0 ∧ ∃ k, Hid (wr = w1.drewN k)) (fun _ _ => 0)
  case atStart => exact ⟨rfl, 0, Lib.hid rfl⟩
  case round =>
    obtain ⟨rfl, k, HK⟩ := hrel
    have hk := HK.out
    subst hk
    go_wp2_with fail
    go_quiet (fail)
    go_wp2_with fail
    go_quiet (fail)
    go_wp2
    refine bodyPost_ret (v := .tuple #[pV none 0 0, .int .i64 p]) (by simp [results, Tryd.results28, go_sem, k5, f5]) rfl (AddPost.bad HAE.out HE.out ?_)
    exact (HB1.out.trans ((below_draw _ _).mono HB1.out.size)).setCell (p := ⟨w.heap.size + 1 + 1, 0, none⟩) (by dsimp only; omega) _
set_option maxRecDepth 100000 in
set_option maxHeartbeats 3200000 in
theorem rAdd_alarm (hS : SlA w a n R) (hn : n ≤ 9223372036854775807) (hR : ∀ j, j < n → AlB (R j)) (x : Al) (hx : x.1.size ≤ 9223372036854775807) (h0 : cE n R = 0) (hE : alE x ≠ 0) :
    Calls Tryd.prog 28 #[pV a n c, aV x] w (AddPost w n R x) := by
  have b1 : Below w.heap.size w (((w.alloc (.cells #[.slice a n c] 24)).alloc (.cells #[.string x.1, .int .i64 x.2.1, .int .i64 x.2.2] 47)).alloc (.cells #[.slice none 0 0] 24)) := (((Below.refl _ w).alloc (Nat.le_refl _) _).alloc (by simp) _).alloc (by simp; omega) _
  have h5 : BoxA (((w.alloc (.cells #[.slice a n c] 24)).alloc (.cells #[.string x.1, .int .i64 x.2.1, .int .i64 x.2.2] 47)).alloc (.cells #[.slice none 0 0] 24)) (w.heap.size + 1 + 1) none 0 0 := by
    have := heap_alloc_new ((w.alloc (.cells #[.slice a n c] 24)).alloc (.cells #[.string x.1, .int .i64 x.2.1, .int .i64 x.2.2] 47)) (.cells #[.slice none 0 0] 24)
    rw [World.size_alloc, World.size_alloc] at this
    exact this
  have HC := Lib.hid (rCheck_ok (c := c) (hS.below b1) hn hR)
  have HB := Lib.hid b1
  have H5 := Lib.hid h5
  have HX := Lib.hid (ralarm_ok x hx)
  have h4 : (((w.alloc (.cells #[.slice a n c] 24)).alloc (.cells #[.string x.1, .int .i64 x.2.1, .int .i64 x.2.2] 47)).alloc (.cells #[.slice none 0 0] 24)).heap[w.heap.size + 1]? = some (.cells #[.string x.1, .int .i64 x.2.1, .int .i64 x.2.2] 47 (0, 0)) := by
    have := heap_alloc_new (w.alloc (.cells #[.slice a n c] 24)) (.cells #[.string x.1, .int .i64 x.2.1, .int .i64 x.2.2] 47)
    rw [World.size_alloc] at this
    exact (Below.heap_alloc _ _ _ (by simp)).trans this
  have H4 := Lib.hid h4
  have hae : addE n R x = alE x := by unfold addE; rw [if_neg (by simpa using h0), if_pos hE]
  obtain ⟨p, hp⟩ : ∃ p, alE x = p := ⟨_, rfl⟩
  rw [hp] at HX hE hae
  rw [h0] at HC
  have d0 := bne0_true hE
  have d1 : (p == 0) = false := by simpa using hE
  have HE := Lib.hid hE
  have HAE := Lib.hid hae
  clear hS hR b1 h5 h4 hp hE hae h0
  go_enter Tryd.func28, Tryd.ntmps28
  go_wp2_with fail
  refine HC.out.mono ?_
  rintro e w0 ⟨rfl, b0⟩
  have h40 := (b0.block _ (blk_lt H4.out)).trans H4.out
  have H50 := Lib.hid ((b0.block _ (blk_lt H5.out)).trans H5.out)
  have HB0 := Lib.hid (below_tr HB.out b0)
  have q0 : w0.cell? ⟨w.heap.size + 1, 0, none⟩ = some (.string x.1) := by rw [cell_of_block h40]; rfl
  have q1 : w0.cell? ⟨w.heap.size + 1, 1, none⟩ = some (.int .i64 x.2.1) := by rw [cell_of_block h40]; rfl
  have q2 : w0.cell? ⟨w.heap.size + 1, 2, none⟩ = some (.int .i64 x.2.2) := by rw [cell_of_block h40]; rfl
  clear b0 h40
  go_wp2_with fail
  refine (HX.out _).mono ?_
  clear q0 q1 q2
  rintro e w1 ⟨rfl, b1⟩
  have h51 := (b1.block _ (blk_lt H50.out)).trans H50.out
  have k5 : w1.cell? ⟨w.heap.size + 1 + 1, 0, none⟩ = some (.slice none 0 0) := by rw [cell_of_block h51]; rfl
  have f5 := unfrozen_of_block h51
  have l5 := blk_lt h51
  have HB1 := Lib.hid (below_tr HB0.out b1)
  clear b1 h51
  go_wp2
  go_loopw [8] (fun o wr => o = .int .i64 0 ∧ ∃ k, Hid (wr = w1.drewN k)) (fun _ _ => 0)
  case atStart => exact ⟨rfl, 0, Lib.hid rfl⟩
  case round =>
    obtain ⟨rfl, k, HK⟩ := hrel
    have hk := HK.out
    subst hk
    go_wp2_with fail
    go_quiet (fail)
    go_wp2_with fail
    go_quiet (fail)
    go_wp2
    refine bodyPost_ret (v := .tuple #[pV none 0 0, .int .i64 p]) (by simp [results, Tryd.results28, go_sem, k5, f5]) rfl (AddPost.bad HAE.out HE.out ?_)
    exact (HB1.out.trans ((below_draw _ _).mono HB1.out.size)).setCell (p := ⟨w.heap.size + 1 + 1, 0, none⟩) (by dsimp only; omega) _
end
end Go.Proofs.YtjceahbikdncmaaDoor

namespace Go.Proofs.YtjceahbikdncmaaDoor
open Go.RowKit Go.Sort Go.Joins Go.Shelf
attribute [local go_sem] cell_grow frozen_grow size_grow Oper.semAt_some
/-- the boxes of Add -/
structure AB (w : World) (a : Option Addr) (n c : Nat) (x : Al) (W : World) : Prop where
  k : Below w.heap.size w W
  p : BoxA W w.heap.size a n c
  x : W.heap[w.heap.size + 1]? = some (.cells #[.string x.1, .int .i64 x.2.1, .int .i64 x.2.2] 47 (0, 0))
  o : BoxA W (w.heap.size + 1 + 1) none 0 0
theorem AB.below {w W W' : World} {a : Option Addr} {n c : Nat} {x : Al} (h : AB w a n c x W) (hb : Below W.heap.size W W') : AB w a n c x W' :=
  ⟨below_tr h.k hb, (hb.block _ (blk_lt h.p)).trans h.p, (hb.block _ (blk_lt h.x)).trans h.x, (hb.block _ (blk_lt h.o)).trans h.o⟩
section
variable {w : World} {a : Option Addr} {n c : Nat} {R : Nat → Al}
set_option maxRecDepth 100000 in
set_option maxHeartbeats 3200000 in
theorem rAdd_full (hS : SlA w a n R) (hn : n ≤ 9223372036854775807) (hR : ∀ j, j < n → AlB (R j)) (x : Al) (hx : x.1.size ≤ 9223372036854775807) (h0 : cE n R = 0) (hA : alE x = 0) (hE : addE n R x ≠ 0) :
    Calls Tryd.prog 28 #[pV a n c, aV x] w (AddPost w n R x) := by
  have b1 : Below w.heap.size w (((w.alloc (.cells #[.slice a n c] 24)).alloc (.cells #[.string x.1, .int .i64 x.2.1, .int .i64 x.2.2] 47)).alloc (.cells #[.slice none 0 0] 24)) := (((Below.refl _ w).alloc (Nat.le_refl _) _).alloc (by simp) _).alloc (by simp; omega) _
  have hab : AB w a n c x (((w.alloc (.cells #[.slice a n c] 24)).alloc (.cells #[.string x.1, .int .i64 x.2.1, .int .i64 x.2.2] 47)).alloc (.cells #[.slice none 0 0] 24)) := by
    refine ⟨b1, ?_, ?_, ?_⟩
    · exact (Below.heap_alloc _ _ _ (by simp; omega)).trans ((Below.heap_alloc _ _ _ (by simp)).trans (heap_alloc_new w _))
    · have := heap_alloc_new (w.alloc (.cells #[.slice a n c] 24)) (.cells #[.string x.1, .int .i64 x.2.1, .int .i64 x.2.2] 47)
      rw [World.size_alloc] at this
      exact (Below.heap_alloc _ _ _ (by simp)).trans this
    · have := heap_alloc_new ((w.alloc (.cells #[.slice a n c] 24)).alloc (.cells #[.string x.1, .int .i64 x.2.1, .int .i64 x.2.2] 47)) (.cells #[.slice none 0 0] 24)
      rw [World.size_alloc, World.size_alloc] at this
      exact this
  have HAB := Lib.hid hab
  have HC := Lib.hid (rCheck_ok (c := c) (hS.below b1) hn hR)
  have HS := Lib.hid hS
  have HX := Lib.hid (ralarm_ok x hx)
  have hP := cE_zero h0
  have HP := Lib.hid hP
  have hn50 := hP.n50
  rw [h0] at HC
  rw [hA] at HX
  have hae : addE n R x = if lowI n R x.1 < n ∧ (R (lowI n R x.1)).1 = x.1 then 8 else if n = 50 then 5 else 0 := by
    unfold addE; rw [if_neg (by simpa using h0), if_neg (by simpa using hA)]
  have HAE := Lib.hid hae
  have HE := Lib.hid hE
  clear hS hR b1 hab h0 hA hE hae hP
  obtain ⟨nm, t, pp⟩ := x
  go_enter Tryd.func28, Tryd.ntmps28
  go_wp2_with fail
  refine HC.out.mono ?_
  rintro e w0 ⟨rfl, b0⟩
  have HAB0 := Lib.hid (HAB.out.below b0)
  have q0 : w0.cell? ⟨w.heap.size + 1, 0, none⟩ = some (.string nm) := by rw [cell_of_block HAB0.out.x]; rfl
  have q1 : w0.cell? ⟨w.heap.size + 1, 1, none⟩ = some (.int .i64 t) := by rw [cell_of_block HAB0.out.x]; rfl
  have q2 : w0.cell? ⟨w.heap.size + 1, 2, none⟩ = some (.int .i64 pp) := by rw [cell_of_block HAB0.out.x]; rfl
  clear b0 HC HAB
  go_wp2_with fail
  refine (HX.out _).mono ?_
  clear q0 q1 q2
  rintro e w1 ⟨rfl, b1⟩
  have HAB1 := Lib.hid (HAB0.out.below b1)
  clear b1 HX HAB0
  go_wp2
  go_loopw [8] (fun o wr => ∃ k : Nat, o = .int .i64 k ∧ k ≤ n ∧ Hid (∀ j, j < k → nlt (R j).1 nm = true) ∧ Hid (Below w1.heap.size w1 wr)) (fun o _ => n - (intOf o).toNat)
  case atStart => exact ⟨0, rfl, Nat.zero_le _, Lib.hid (fun j hj => by omega), Lib.hid (Below.refl _ _)⟩
  case round =>
    obtain ⟨k, rfl, hk, HA, HBr⟩ := hrel
    have HABr := Lib.hid (HAB1.out.below HBr.out)
    have k0 : wr.cell? ⟨w.heap.size, 0, none⟩ = some (.slice a n c) := by rw [cell_of_block HABr.out.p]; rfl
    have q0 : wr.cell? ⟨w.heap.size + 1, 0, none⟩ = some (.string nm) := by rw [cell_of_block HABr.out.x]; rfl
    have k5 : wr.cell? ⟨w.heap.size + 1 + 1, 0, none⟩ = some (.slice none 0 0) := by rw [cell_of_block HABr.out.o]; rfl
    have f5 := unfrozen_of_block HABr.out.o
    have l5 := blk_lt HABr.out.o
    by_cases hlt : k < n
    · obtain ⟨b, o, rfl, g0, g1, g2⟩ := (HS.out.below HABr.out.k).at_ hlt
      have hbl := World.block_lt_of_cell? _ _ g0
      dsimp only at hbl
      have hki : (k : Int) < (n : Int) := by omega
      have hk0 : (0 : Int) ≤ (k : Int) := by omega
      have hdk : decide ((k : Int) < (n : Int)) = true := decide_eq_true hki
      have hlt' := str_lt (R k).1 nm
      have heq' := str_eq (R k).1 nm
      cases hc : nlt (R k).1 nm
      · rw [hc] at hlt'
        have hlow := low_eq (n := n) (R := R) (s := nm) (by omega) HA.out (fun j h1 h2 => by
          by_cases ej : j = k
          · rw [ej]; exact hc
          · cases hj : nlt (R j).1 nm with
            | false => rfl
            | true => have := nlt_tr (HP.out.up k j (by omega) h2) hj; rw [hc] at this; cases this)
        have hae := HAE.out
        rw [← hlow] at hae
        clear hc hlow
        by_cases hnm : (R k).1 = nm
        · rw [if_pos ⟨hlt, hnm⟩] at hae
          rw [decide_eq_true hnm] at heq'
          have HA8 := Lib.hid hae
          clear hae hnm
          go_wp2_with fail
          go_quiet (fail)
          go_wp2_with fail
          go_quiet (fail)
          go_wp2
          refine bodyPost_ret (v := .tuple #[pV none 0 0, .int .i64 8]) (by simp [results, Tryd.results28, go_sem, k5, f5]) rfl (AddPost.bad HA8.out (by decide) ?_)
          exact (HABr.out.k.trans ((below_draw _ _).mono HABr.out.k.size)).setCell (p := ⟨w.heap.size + 1 + 1, 0, none⟩) (by dsimp only; omega) _
        · rw [if_neg (fun h => hnm h.2)] at hae
          have hn5 : n = 50 := by
            by_cases h : n = 50
            · exact h
            · rw [if_neg h] at hae; exact absurd hae HE.out
          rw [if_pos hn5] at hae
          rw [decide_eq_false hnm] at heq'
          have HA5 := Lib.hid hae
          have d5 : ((n : Int) == 50) = true := by simp; omega
          clear hae hnm hn5
          go_wp2_with fail
          go_quiet (fail)
          go_wp2_with fail
          go_quiet (fail)
          go_wp2
          refine bodyPost_ret (v := .tuple #[pV none 0 0, .int .i64 5]) (by simp [results, Tryd.results28, go_sem, k5, f5]) rfl (AddPost.bad HA5.out (by decide) ?_)
          exact (HABr.out.k.trans ((below_draw _ _).mono HABr.out.k.size)).setCell (p := ⟨w.heap.size + 1 + 1, 0, none⟩) (by dsimp only; omega) _
      · rw [hc] at hlt'
        have HCk := Lib.hid hc
        clear hc heq'
        go_wp2_with fail
        go_quiet (fail)
        go_wp2
        go_roundw
        case rel => exact ⟨k + 1, by go_num, by omega, Lib.hid (fun j hj => by
          by_cases ej : j = k
          · rw [ej]; exact HCk.out
          · exact HA.out j (by omega)), Lib.hid (HBr.out.trans ((below_draw _ _).mono HBr.out.size))⟩
        case measure => simp [intOf]; omega
    · obtain rfl : k = n := by omega
      have hdk : decide ((k : Int) < (k : Int)) = false := decide_eq_false (by omega)
      have hlow := low_eq (n := k) (R := R) (s := nm) (Nat.le_refl _) HA.out (fun j h1 h2 => by omega)
      have hae := HAE.out
      rw [← hlow, if_neg (fun h => by omega)] at hae
      have hn5 : k = 50 := by
        by_cases h : k = 50
        · exact h
        · rw [if_neg h] at hae; exact absurd hae HE.out
      rw [if_pos hn5] at hae
      have HA5 := Lib.hid hae
      have d5 : ((k : Int) == 50) = true := by simp; omega
      clear hae hlow hn5
      go_wp2_with fail
      go_quiet (fail)
      go_wp2_with fail
      go_quiet (fail)
      go_wp2
      refine bodyPost_ret (v := .tuple #[pV none 0 0, .int .i64 5]) (by simp [results, Tryd.results28, go_sem, k5, f5]) rfl (AddPost.bad HA5.out (by decide) ?_)
      exact (HABr.out.k.trans ((below_draw _ _).mono HABr.out.k.size)).setCell (p := ⟨w.heap.size + 1 + 1, 0, none⟩) (by dsimp only; omega) _
end
end Go.Proofs.YtjceahbikdncmaaDoor

namespace Go.Proofs.YtjceahbikdncmaaDoor
open Go.RowKit Go.Sort Go.Joins Go.Shelf
theorem low_spec (n : Nat) (R : Nat → Al) (s : ByteArray) : lowI n R s ≤ n ∧ (∀ k, k < lowI n R s → nlt (R k).1 s = true) ∧ (lowI n R s < n → nlt (R (lowI n R s)).1 s = false) := by
  obtain ⟨_, h2, h3, h4⟩ := nxt_spec (p := fun j => !nlt (R j).1 s) (a := 0) (n := n) (Nat.zero_le _)
  refine ⟨h2, fun k hk => ?_, fun h => ?_⟩
  · have := h3 k (Nat.zero_le _) hk
    simpa using this
  · have h5 := h4 h
    have h6 : (!nlt (R (lowI n R s)).1 s) = true := h5
    simpa using h6
theorem canL_all (R : Nat → Al) (s : ByteArray) : ∀ m, (∀ j, j < m → (R j).1 ≠ s) → canL R s m = (List.range m).map R
  | 0, _ => rfl
  | m + 1, h => by
    simp only [canL]
    rw [if_neg (h m (by omega)), canL_all R s m (fun j hj => h j (by omega)), List.range_succ, List.map_append]
    rfl
theorem canL_one (R : Nat → Al) (s : ByteArray) (i : Nat) (hi : (R i).1 = s) : ∀ m, i < m → (∀ j, j < m → j ≠ i → (R j).1 ≠ s) → canL R s m = ((List.range m).map R).eraseIdx i
  | 0, h, _ => by omega
  | m + 1, h, hn => by
    simp only [canL]
    rw [List.range_succ, List.map_append]
    by_cases e : i = m
    · subst e
      rw [if_pos hi, canL_all R s i (fun j hj => hn j (by omega) (by omega)), List.eraseIdx_append_of_length_le (by simp)]
      simp
    · rw [if_neg (hn m (by omega) (fun h => e h.symm)), canL_one R s i hi m (by omega) (fun j hj => hn j (by omega)), List.eraseIdx_append_of_lt_length (by simp; omega)]
      rfl
section
variable {n : Nat} {R : Nat → Al} {s : ByteArray}
theorem canL_low (hP : PlOk n R) (h : lowI n R s < n) (he : (R (lowI n R s)).1 = s) : canL R s n = ((List.range n).map R).eraseIdx (lowI n R s) :=
  canL_one R s _ he n h (fun j hj hne hs => by
    by_cases hlt : j < lowI n R s
    · have := hP.up j (lowI n R s) hlt h
      rw [hs, he, nlt_irr] at this; cases this
    · have := hP.up (lowI n R s) j (by omega) hj
      rw [hs, he, nlt_irr] at this; cases this)
theorem canL_none (hP : PlOk n R) (h : ¬ (lowI n R s < n ∧ (R (lowI n R s)).1 = s)) : canL R s n = (List.range n).map R :=
  canL_all R s n (fun j hj hs => by
    obtain ⟨h1, h2, h3⟩ := low_spec n R s
    by_cases hlt : j < lowI n R s
    · have := h2 j hlt
      rw [hs, nlt_irr] at this; cases this
    · by_cases e : j = lowI n R s
      · exact h ⟨by omega, by rw [← e]; exact hs⟩
      · have h4 := hP.up (lowI n R s) j (by omega) hj
        rw [hs, h3 (by omega)] at h4; cases h4)
theorem canE_found (hP : PlOk n R) (h0 : cE n R = 0) (h : lowI n R s < n) (he : (R (lowI n R s)).1 = s) : canE n R s = 0 ∧ canR n R s = ((List.range n).map R).eraseIdx (lowI n R s) := by
  have hl := canL_low hP h he
  have hE : canE n R s = 0 := by
    unfold canE
    rw [if_neg (by simpa using h0), hl, if_neg (by rw [List.length_eraseIdx]; simp [h]; omega)]
  exact ⟨hE, by unfold canR; rw [if_pos hE, hl]⟩
theorem canE_none (hP : PlOk n R) (h0 : cE n R = 0) (h : ¬ (lowI n R s < n ∧ (R (lowI n R s)).1 = s)) : canE n R s = 4 ∧ canR n R s = [] := by
  have hl := canL_none hP h
  have hE : canE n R s = 4 := by
    unfold canE
    rw [if_neg (by simpa using h0), hl, if_pos (by simp)]
  exact ⟨hE, by unfold canR; rw [if_neg (by rw [hE]; decide)]⟩
theorem canE_bad (h0 : cE n R ≠ 0) : canE n R s = cE n R ∧ canR n R s = [] := by
  have hE : canE n R s = cE n R := if_pos h0
  exact ⟨hE, by unfold canR; rw [if_neg (by rw [hE]; exact h0)]⟩
theorem addL_take (n : Nat) (R : Nat → Al) (x : Al) : addL n R x = ((List.range n).map R).take (lowI n R x.1) ++ [x] ++ ((List.range n).map R).drop (lowI n R x.1) := by
  obtain ⟨h1, _⟩ := low_spec n R x.1
  unfold addL
  rw [← List.map_take, ← List.map_drop, List.take_range, Nat.min_eq_left h1, List.range_eq_range', List.range_eq_range', List.drop_range']
  simp
theorem addL_len (n : Nat) (R : Nat → Al) (x : Al) : (addL n R x).length = n + 1 := by
  obtain ⟨h1, _⟩ := low_spec n R x.1
  rw [addL_take]
  simp
  omega
end
end Go.Proofs.YtjceahbikdncmaaDoor
