/- Clocks: the reference's Run of a plan that is right: its loop. -/
import Derived.Test.YtjceahbikdncmaaDoorC9Q
namespace Go.Proofs.YtjceahbikdncmaaDoor
open Go.RowKit Go.Sort Go.Joins Go.Shelf
attribute [local go_sem] cell_grow frozen_grow size_grow Oper.semAt_some
theorem SlA.set_box {W : World} {ap : Option Addr} {m : Nat} {Q : Nat → Al} {z : Nat} {x : Option Addr} {y y' : Nat} (h : SlA W ap m Q) (hb : BoxA W z x y y') (v : Value) : SlA (W.setCell ⟨z, 0, none⟩ v) ap m Q := by
  rcases h with h | ⟨b, o, ha, hc⟩
  · exact .inl h
  · refine .inr ⟨b, o, ha, fun j hj => ?_⟩
    obtain ⟨h0, h1, h2⟩ := hc j hj
    refine ⟨(World.cell?_setCell_other _ _ _ _ (fun e => ?_)).trans h0, (World.cell?_setCell_other _ _ _ _ (fun e => ?_)).trans h1, (World.cell?_setCell_other _ _ _ _ (fun e => ?_)).trans h2⟩
    · injection e with e1 e2
      subst e1
      rw [← e2, cell_of_block hb] at h0
      cases h0
    · injection e with e1 e2
      omega
    · injection e with e1 e2
      omega
theorem run_done {w W : World} {B n cp vc : Nat} {R : Nat → Al} {u : Int} {c : Nat → Nat} {L : List (Int × Nat)} {va ap : Option Addr} (h : RR w B n R u c L (.slice va L.length vc) ap cp W) (hP : PlOk n R) (hu : u ≤ MT) (hE : ctE n R u = 0)
    (hs : bst (fc R c) n = -1 ∨ ∃ b : Nat, bst (fc R c) n = b ∧ u < fc R c b) (x : Value) (k : Nat) :
    RRunPost w n R u (.returned (.tuple #[.slice va L.length vc, .agg #[.slice ap (curL R (fc R c) 0 n).length cp], .int .i64 0])) ((W.setCell ⟨w.heap.size + 1, 0, none⟩ x).drewN k) := by
  have hok : RunOk n R u L := h.rg.run hP.ok hu hs
  obtain ⟨_, h2⟩ := h.rg.stop hP.ok hs
  have hcur : rstA R u n = curL R (fc R c) 0 n := cur_rst fun i hi => nxA_pos (hP.ok i hi) (h.rg.count hP.ok hu hi (h2 i hi))
  have hrn : rnE n R u = 0 := rnE_of hE (by have := hok.len; have := h.le; omega)
  refine .inl ⟨hrn, va, vc, ap, cp, L, by rw [hcur], ?_, ?_, hok, h.le, ?_⟩
  · have hne : (Value.slice va L.length vc).ownBlock ≠ some (⟨w.heap.size + 1, 0, none⟩ : Addr).block := fun e => by have := (h.own.lt _ e).1; have := h.hB; dsimp only at *; omega
    have ho := ownsRow_setCell_other h.own hne x
    have hl : (L.map (rgN R)).length = L.length := List.length_map _
    rw [← hl] at ho ⊢
    have := SlG.of_own ho
    exact this
  · rw [hcur]
    exact h.sl.set_box h.b5 x
  · exact (h.k.setCell (p := ⟨w.heap.size + 1, 0, none⟩) (by dsimp only; omega) x).trans (below_draw _ k |>.mono (by have := (h.k.setCell (p := ⟨w.heap.size + 1, 0, none⟩) (by dsimp only; omega) x).size; exact this))
/-- what is there behind the append -/
structure R3 (w : World) (B n : Nat) (R : Nat → Al) (c : Nat → Nat) (v : Value) (m : Nat) (xs : List Value) (ap : Option Addr) (cp : Nat) (W : World) : Prop where
  k : Below w.heap.size w W
  own : W.ownsRow B 45 2 v m xs
  p : BoxA W w.heap.size ap (curL R (fc R c) 0 n).length cp
  sl : SlA W ap (curL R (fc R c) 0 n).length (fun j => (curL R (fc R c) 0 n).getD j al0)
  b5 : BoxA W (w.heap.size + 1) none 0 0
  hB : w.heap.size + 2 ≤ B
  hW : B ≤ W.heap.size
theorem RR.grow {w W W' : World} {B n cp m : Nat} {R : Nat → Al} {u : Int} {c : Nat → Nat} {L : List (Int × Nat)} {v v' : Value} {ap : Option Addr} {o : Obj} {xs : List Value} (h : RR w B n R u c L v ap cp W) (hg : ((W.alloc o).drew).grownBy W' v.ownBlock)
    (hown : W'.ownsRow B 45 2 v' m xs) : R3 w B n R c v' m xs ap cp W' := by
  have bA := (below_box0 W o).drew
  have h2 := h.below bA
  have hrow : ∀ r, v.ownBlock = some r → B ≤ r := fun r e => (h.own.lt _ e).1
  have hB := h.hB
  have hgb : ∀ k, k < B → k < (W.alloc o).drew.heap.size → W'.heap[k]? = (W.alloc o).drew.heap[k]? := fun k hk hl => hg.block k hl (fun e => by have := hrow _ e.symm; omega)
  refine ⟨h2.k.grown hg h2.k.size (fun r e => by have := hrow r e; omega), hown, (hgb _ (by omega) (blk_lt h2.p)).trans h2.p, h2.sl.grown hg (fun q e er => ?_), (hgb _ (by omega) (blk_lt h2.b5)).trans h2.b5, hB, ?_⟩
  · exact h.ne _ er.symm q e rfl
  · have := hg.size; have := h2.hW; omega
theorem R3.close {w W W' : World} {B n cp g' c' q : Nat} {R : Nat → Al} {u : Int} {c : Nat → Nat} {M : List (Int × Nat)} {v : Value} {ap : Option Addr} {d : Nat → Nat} (h : R3 w B n R c v M.length (rgc (M.map (rgN R))) ap cp W) (hb : Below W.heap.size W W') (hg : W.heap.size ≤ g')
    (hs : SlA W' (some ⟨g', 0, none⟩) (rungL (curL R (fc R c) 0 n) q).length (fun j => (rungL (curL R (fc R c) 0 n) q).getD j al0)) (hr : rungL (curL R (fc R c) 0 n) q = curL R (fc R d) 0 n) (hrg : RgAt n (alP R) u d M) (hle : M.length ≤ 1000) :
    RR w B n R u d M v (some ⟨g', 0, none⟩) c' (W'.setCell ⟨w.heap.size, 0, none⟩ (.slice (some ⟨g', 0, none⟩) (rungL (curL R (fc R c) 0 n) q).length c')) := by
  rw [hr] at hs ⊢
  have hB := h.hB
  have hp := (hb.block _ (blk_lt h.p)).trans h.p
  have ho := own_below h.own hb
  refine ⟨(below_tr h.k hb).setCell (p := ⟨w.heap.size, 0, none⟩) (Nat.le_refl _) _, hrg, ownsRow_setCell_other ho (fun e => by have := (ho.lt _ e).1; dsimp only at this; omega) _, (setCell_block hp _).trans (by simp), hs.set_box hp _, (Below.heap_setCell _ _ _ _ (show w.heap.size + 1 ≠ w.heap.size by omega)).trans ((hb.block _ (blk_lt h.b5)).trans h.b5), fun r e x hx => ?_, hB, ?_, hle⟩
  · have := (h.own.lt _ e).2
    cases hx
    dsimp only
    omega
  · have := hb.size; have := h.hW; rw [World.size_setCell]; omega
abbrev lenV : Value → Nat
  | .slice _ n _ => n
  | _ => 0
section
variable {w : World} {a : Option Addr} {n c : Nat} {R : Nat → Al} {u : Int}
set_option maxRecDepth 100000 in
set_option maxHeartbeats 6400000 in
theorem rrun_ok (hS : SlA w a n R) (hn : n ≤ 9223372036854775807) (hR : ∀ j, j < n → AlB (R j)) (hE : ctE n R u = 0) :
    Calls Tryd.prog 12 #[pV a n c, .int .i64 u] w (RRunPost w n R u) := by
  obtain ⟨i0, hi0, hz0, hz1, hz2'⟩ := info_parts info_ring
  have b1 : Below w.heap.size w ((w.alloc (.cells #[.slice a n c] 24)).alloc (.cells #[.slice none 0 0] 24)) := ((Below.refl _ w).alloc (Nat.le_refl _) _).alloc (by simp) _
  have h5 : BoxA ((w.alloc (.cells #[.slice a n c] 24)).alloc (.cells #[.slice none 0 0] 24)) (w.heap.size + 1) none 0 0 := by
    have := heap_alloc_new (w.alloc (.cells #[.slice a n c] 24)) (.cells #[.slice none 0 0] 24)
    rwa [World.size_alloc] at this
  have h4 : BoxA ((w.alloc (.cells #[.slice a n c] 24)).alloc (.cells #[.slice none 0 0] 24)) w.heap.size a n c := (Below.heap_alloc _ _ _ (by simp)).trans (heap_alloc_new w _)
  obtain ⟨hce, hu0, hu1⟩ := ctE_zero hE
  have hp := cE_zero hce
  have HP := Lib.hid hp
  have hn50 := hp.n50
  have huM : u ≤ MT := by rw [MT_eq]; exact hu1
  have HUM := Lib.hid huM
  have HC := Lib.hid (rCheck_ok (c := c) (hS.below b1) hn hR)
  have HS1 := Lib.hid (hS.below b1)
  have HB := Lib.hid b1
  have H5 := Lib.hid h5
  have H4 := Lib.hid h4
  have HT := Lib.hid (rtime_ok u)
  rw [tmB_yes.2 ⟨hu0, hu1⟩] at HT
  rw [hce] at HC
  have HCT := Lib.hid hE
  clear hS hR hE hce b1 h5 h4 hp huM
  go_enter Tryd.func12, Tryd.ntmps12
  go_wp2_with fail
  refine HC.out.mono ?_
  rintro e w1 ⟨rfl, b1⟩
  have h51 := (b1.block _ (blk_lt H5.out)).trans H5.out
  have h41 := (b1.block _ (blk_lt H4.out)).trans H4.out
  have hsz : w.heap.size + 2 ≤ w1.heap.size := by have := blk_lt h51; omega
  obtain ⟨ca1, ca2⟩ := cur_all (R := R) (f := fc R (fun _ => 0)) (n := n) (fun i hi => by have := HP.out.ok i hi; exact ⟨by show 0 ≤ pos (R i).2 0; rw [pos_zero this]; exact this.a0, pos_zero this⟩) (Nat.le_refl n)
  have hrr : RR w w1.heap.size n R u (fun _ => 0) [] (.slice none 0 0) a c w1 := by
    refine ⟨below_tr HB.out b1, RgAt.start n (alP R) u, World.ownsRow_nil _ _ _ _, ?_, ?_, h51, fun r e => by simp [Value.ownBlock] at e, hsz, Nat.le_refl _, Nat.zero_le _⟩
    · rw [ca1]; exact h41
    · rw [ca1]; exact (HS1.out.below b1).congr fun j hj => (ca2 j hj).symm
  have HRR := Lib.hid hrr
  clear h51 h41 hsz ca1 ca2 hrr b1 HC HS1 HB H5 H4
  go_wp2_with (go_at_call 35; refine (HT.out _).mono ?_; rintro e w2 ⟨rfl, rfl⟩)
  clear HT
  obtain ⟨B, hB⟩ : ∃ B, w1.heap.size = B := ⟨_, rfl⟩
  rw [hB] at HRR
  clear hB
  go_loopw [9] (fun o wr => ∃ (c : Nat → Nat) (L : List (Int × Nat)) (va : Option Addr) (vc : Nat) (ap : Option Addr) (cp : Nat), o = .slice va L.length vc ∧ Hid (RR w B n R u c L (.slice va L.length vc) ap cp wr)) (fun o _ => 1001 - lenV o)
  case atStart => exact ⟨fun _ => 0, [], none, 0, a, c, rfl, HRR⟩
  case round =>
    clear HRR
    obtain ⟨c, L, va, vc, ap, cp, rfl, HI⟩ := hrel
    have hle := HI.out.le
    obtain ⟨m, hm⟩ : ∃ m, (curL R (fc R c) 0 n).length = m := ⟨_, rfl⟩
    have hmn : m ≤ n := by rw [← hm]; exact cur_len
    have HM := Lib.hid hm
    have h0 := HI.out.p
    rw [hm] at h0
    have k0 : wr.cell? ⟨w.heap.size, 0, none⟩ = some (.slice ap m cp) := by rw [cell_of_block h0]; rfl
    have l0 := blk_lt h0
    have hsl := HI.out.sl
    rw [hm] at hsl
    have HSL := Lib.hid hsl
    have HF := Lib.hid (rfirst_ok (c := cp) hsl (by omega) (fun j hj => (cur_ok (c := c) HP.out (by rw [hm]; exact hj)).a0))
    have hw : ((∀ i, i < n → fc R c i < 0) ∧ bst (fc R c) n = -1 ∧ bst (tmsA (fun j => (curL R (fc R c) 0 n).getD j al0)) m = -1) ∨
        (∃ (b q : Nat), b < n ∧ bst (fc R c) n = b ∧ 0 ≤ fc R c b ∧ bst (tmsA (fun j => (curL R (fc R c) 0 n).getD j al0)) m = q ∧ q < m ∧ q = (curL R (fc R c) 0 b).length ∧ (curL R (fc R c) 0 n).getD q al0 = atF R (fc R c) b) := by
      rcases bst_spec (fc R c) n with ⟨e, h⟩ | ⟨b, e, hb, hb0, hmin⟩
      · left
        refine ⟨h, e, ?_⟩
        have : m = 0 := by rw [← hm, cur_none h]; rfl
        rw [this]; rfl
      · right
        obtain ⟨h1, h2, h3⟩ := cur_bst (R := R) hb hb0 hmin
        rw [hm] at h1 h2
        exact ⟨b, _, hb, e, hb0, h1, h2, rfl, h3⟩
    clear hm h0 hsl
    rcases hw with ⟨hneg, hbst, hq⟩ | ⟨b, q, hb, hbst, hb0, hq, hqm, hqe, hqx⟩
    · rw [hq] at HF
      have HST := Lib.hid hbst
      clear hneg hbst hq
      go_wp2_with fail
      refine HF.out.mono ?_
      rintro e w2 ⟨rfl, b2⟩
      have HI2 := Lib.hid (HI.out.below b2)
      have h02 := HI2.out.p
      rw [HM.out] at h02
      clear k0 l0 b2
      have k0 : w2.cell? ⟨w.heap.size, 0, none⟩ = some (.slice ap m cp) := by rw [cell_of_block h02]; rfl
      have l0 := blk_lt h02
      have k5 : w2.cell? ⟨w.heap.size + 1, 0, none⟩ = some (.slice none 0 0) := by rw [cell_of_block HI2.out.b5]; rfl
      have f5 := unfrozen_of_block HI2.out.b5
      have l5 := blk_lt HI2.out.b5
      clear h02
      go_wp2_with fail
      go_region
      all_goals
        go_wp2
        refine bodyPost_ret (v := .tuple #[.slice va L.length vc, .agg #[.slice ap m cp], .int .i64 0]) (by simp [results, Tryd.results12, go_sem, k5, f5]) rfl ?_
        have := run_done HI2.out HP.out HUM.out HCT.out (.inl HST.out) (.slice ap m cp) 1
        rw [HM.out] at this
        exact this
    · rw [hq] at HF
      have HBI := Lib.hid (And.intro hb (And.intro hbst hb0))
      have HQE := Lib.hid hqe
      have HQX := Lib.hid hqx
      have hok := HP.out.ok b hb
      obtain ⟨s, hs⟩ : ∃ s, (R b).1 = s := ⟨_, rfl⟩
      obtain ⟨t, ht⟩ : ∃ t, fc R c b = t := ⟨_, rfl⟩
      have hxe : atF R (fc R c) b = (s, t, (R b).2.2) := by unfold atF; rw [hs, ht]
      rw [hxe] at hqx
      rw [ht] at hb0
      have HX := Lib.hid (And.intro hs ht)
      obtain ⟨pE, hpE⟩ : ∃ x, (R b).2.2 = x := ⟨_, rfl⟩
      rw [hpE] at hqx
      have HPE := Lib.hid hpE
      have hqm' : (q : Int) < (m : Int) := by omega
      have hq0 : (0 : Int) ≤ (q : Int) := by omega
      have dq : decide ((q : Int) < 0) = false := decide_eq_false (by omega)
      clear hq hqe hxe hs ht hok hpE
      go_wp2_with fail
      refine HF.out.mono ?_
      rintro e w2 ⟨rfl, b2⟩
      have HI2 := Lib.hid (HI.out.below b2)
      have h02 := HI2.out.p
      rw [HM.out] at h02
      clear k0 l0 b2 HF HI HSL
      have hsl2 := HI2.out.sl
      rw [HM.out] at hsl2
      obtain ⟨ab, ao, hap, g0, g1, g2⟩ := hsl2.at_ hqm
      rw [hqx] at g0 g1 g2
      dsimp only at g0 g1 g2
      subst hap
      have k0 : w2.cell? ⟨w.heap.size, 0, none⟩ = some (.slice (some ⟨ab, ao, none⟩) m cp) := by rw [cell_of_block h02]; rfl
      have l0 := blk_lt h02
      have hbl := World.block_lt_of_cell? _ _ g0
      dsimp only at hbl
      have k5 : w2.cell? ⟨w.heap.size + 1, 0, none⟩ = some (.slice none 0 0) := by rw [cell_of_block HI2.out.b5]; rfl
      have f5 := unfrozen_of_block HI2.out.b5
      have l5 := blk_lt HI2.out.b5
      clear h02 hqx hsl2 hbst
      by_cases hlate : u < t
      · have d2 : decide (u < t) = true := by simpa using hlate
        have HLT := Lib.hid hlate
        clear hlate
        go_wp2_with fail
        go_region
        all_goals
          go_wp2
          refine bodyPost_ret (v := .tuple #[.slice va L.length vc, .agg #[.slice (some ⟨ab, ao, none⟩) m cp], .int .i64 0]) (by simp [results, Tryd.results12, go_sem, k5, f5]) rfl ?_
          have := run_done HI2.out HP.out HUM.out HCT.out (.inr ⟨b, HBI.out.2.1, by rw [HX.out.2]; exact HLT.out⟩) (.slice (some ⟨ab, ao, none⟩) m cp) 1
          rw [HM.out] at this
          exact this
      · have d2 : decide (u < t) = false := by simpa using hlate
        have hst := HI2.out.rg.step HP.out.ok HBI.out.2.1 (by have := HX.out.2; show fc R c b ≤ u; omega)
        have hsum := sumC_le (R := R) (u := u) fun i hi => hst.le_count HP.out.ok HUM.out hi
        rw [← hst.len] at hsum
        have HST := Lib.hid hst
        have HSUM : Hid ((L.length : Int) + 1 ≤ sumA R u n) := Lib.hid (by simpa using hsum)
        clear hst hsum hlate
        by_cases hth : L.length = 1000
        · have d3 : ((L.length : Int) == 1000) = true := by simp; omega
          have hrn : rnE n R u = 3 := by
            unfold rnE
            rw [if_neg (by simpa using HCT.out), if_pos (by have := HSUM.out; omega)]
          have HRN := Lib.hid hrn
          clear hrn
          go_wp2
          refine bodyPost_ret (v := .tuple #[.slice none 0 0, .agg #[.slice none 0 0], .int .i64 3]) (by simp [results, Tryd.results12, go_sem, k5, f5]) rfl (.inr ⟨by rw [HRN.out]; decide, by rw [HRN.out], HI2.out.k.setCell (p := ⟨w.heap.size + 1, 0, none⟩) (by dsimp only; omega) _⟩)
        · have d3 : ((L.length : Int) == 1000) = false := by simp; omega
          have HO2 : Hid (w2.drew.ownsRow B 45 2 (.slice va L.length vc) L.length (rgc (L.map (rgN R)))) := Lib.hid HI2.out.own
          have HO3 := Lib.hid (HO2.out.alloc (.cells #[.string s, .int .i64 t] 45))
          have HRD : Hid (Reads (w2.drew.alloc (.cells #[.string s, .int .i64 t] 45)) (w2.heap.size + 1) 2 (some ⟨w2.heap.size, 0, none⟩) 1 [.string s, .int .i64 t]) := Lib.hid ⟨rfl, fun _ => ⟨_, rfl, Nat.lt_succ_self _, fun j x hj => by
            have hblk : (w2.drew.alloc (.cells #[.string s, .int .i64 t] 45)).heap[w2.heap.size]? = some (.cells #[.string s, .int .i64 t] 45 (0, 0)) := heap_alloc_new w2.drew _
            rw [Addr.add_lit, cell_of_block hblk]
            match j with
            | 0 => exact hj
            | 1 => exact hj
            | j + 2 => simp at hj⟩⟩
          have HBW : Hid (B ≤ (w2.drew.alloc (.cells #[.string s, .int .i64 t] 45)).heap.size) := Lib.hid (by have := HI2.out.hW; simp; omega)
          go_wp2_with fail
          go_region_law (refine step_append_any _ rfl (.tmp 47) (.tmp 61) 27 rfl B 45 i0 _ 2 24 Tryd.underlying27 hi0 hz0 hz1 hz2' rfl (by decide) (.slice va L.length vc) L.length (rgc (L.map (rgN R))) (by simp [Act.eval, Act.put]) HO3.out (w2.heap.size + 1) (some ⟨w2.heap.size, 0, none⟩) 1 1 [.string s, .int .i64 t] (by simp [Act.eval, Act.put]) HRD.out (fun x hx => by simp at hx; rcases hx with rfl | rfl <;> rfl) (by unfold maxLen; omega) (by omega) HBW.out ?_; intro v' w3 hown hg hat)
          all_goals
            obtain ⟨va', vc', rfl⟩ := own_slice' hown
            have hx : rgc ((L ++ [(pos (alP R b) (c b), b)]).map (rgN R)) = rgc (L.map (rgN R)) ++ [.string s, .int .i64 t] := by
              have e : rgN R (pos (alP R b) (c b), b) = (s, t) := by rw [← HX.out.1, ← HX.out.2]; rfl
              rw [List.map_append, List.map_cons, List.map_nil, e, rgc_snoc]
            have hl : (L ++ [(pos (alP R b) (c b), b)]).length = L.length + 1 := by rw [List.length_append, List.length_singleton]
            have h3 := HI2.out.grow hg hown
            rw [← hx, ← hl] at h3
            have H3 := Lib.hid h3
            have HL := Lib.hid hl
            have hp3 := h3.p
            rw [HM.out] at hp3
            clear k0 l0 k5 f5 l5 g0 g1 g2 hbl hx h3 hl hg hown hat HO2 HO3 HRD HBW
            have k0 : w3.cell? ⟨w.heap.size, 0, none⟩ = some (.slice (some ⟨ab, ao, none⟩) m cp) := by rw [cell_of_block hp3]; rfl
            have l0 := blk_lt hp3
            have hrung := rung_ok (c := cp) (i := q) H3.out.sl (by rw [HM.out]; omega) (by rw [HM.out]; exact hqm) (fun j hj => cur_ok HP.out hj)
            have hstep : rungL (curL R (fc R c) 0 n) q = curL R (fc R (fun i => if i = b then c i + 1 else c i)) 0 n := by
              rw [HQE.out]
              refine cur_step HBI.out.1 HBI.out.2.2 (fun k hk => ?_) ?_ (HP.out.ok b HBI.out.1).e0
              · show pos (alP R k) (if k = b then c k + 1 else c k) = _
                rw [if_neg hk]
              · show pos (alP R b) (if b = b then c b + 1 else c b) = _
                rw [if_pos rfl]
                exact pos_nextR (HP.out.ok b HBI.out.1) HBI.out.2.2
            rw [HM.out] at hrung
            have HRU := Lib.hid hrung
            have HSP := Lib.hid hstep
            clear hrung hstep hp3
            (try simp only [Exit.inBlock, Exit.then])
            go_wp2_with fail
            refine HRU.out.mono ?_
            rintro e w4 ⟨g', c', rfl, hg', hs4, b4⟩
            have HCL := Lib.hid (H3.out.close (c' := c') (u := u) b4 hg' hs4 HSP.out HST.out (by rw [HL.out]; have := HI2.out.le; omega))
            have hp4 := (b4.block _ (blk_lt H3.out.p)).trans H3.out.p
            rw [HM.out] at hp4
            clear k0 l0
            have k0 : w4.cell? ⟨w.heap.size, 0, none⟩ = some (.slice (some ⟨ab, ao, none⟩) m cp) := by rw [cell_of_block hp4]; rfl
            have f0 := unfrozen_of_block hp4
            have l0 := blk_lt hp4
            clear hp4 hg' hs4 b4
            go_wp2
            go_roundw
            case rel => exact ⟨_, L ++ [(pos (alP R b) (c b), b)], va', vc', some ⟨g', 0, none⟩, c', by rw [HL.out], by rw [HL.out] at HCL; rw [HL.out]; exact HCL⟩
            case measure => simp [lenV]; omega
end
end Go.Proofs.YtjceahbikdncmaaDoor
