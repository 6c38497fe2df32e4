/- Handles: HandlesTypes returns true. | Handles: HandlesTypes where nothing is examined. -/
import Derived.Test.YtpaecmpiokkdnaaDoorTypesZ23
import Derived.Test.YtpaecmpiokkdnaaDoorTypesZ27
import Derived.Deep.RegionHeld3
import Derived.RegionTactic
namespace Go.Proofs.YtpaecmpiokkdnaaDoor.Thing
open Go.RowKit Go.Sort Go.Joins
attribute [local go_sem] cell_grow frozen_grow size_grow

theorem stP_congr {n : Nat} {G : Nat → Int} {A : Nat → Bool} {V V' : Nat → Value} {Z : Value} (h : ∀ j, j < n → V j = V' j) : stP n G A V Z n = stP n G A V' Z n :=
  List.map_congr_left fun j hj => by have := h j (List.mem_range.1 hj); simp only [this]
theorem SlT.congr {w : World} {a : Option Addr} {n : Nat} {f g : Nat → Value} (h : SlT w a n f) (hf : ∀ j, j < n → f j = g j) : SlT w a n g := by
  rcases h with h | ⟨b, o, ha, hc⟩
  · exact .inl h
  · exact .inr ⟨b, o, ha, fun j hj => by rw [← hf j hj]; exact hc j hj⟩
theorem thing_list : thing.toList = [116, 104, 105, 110, 103] := by decide +kernel

section
variable {m : Nat} {ca : Option Addr} {cc : Nat} {C : Nat → Cll}
set_option maxRecDepth 100000 in
set_option maxHeartbeats 12800000 in
theorem types_ok (n : Nat) (w : World) (h1 : 1 ≤ n) (hn : n ≤ 60) (hC : SlC w ca m C) (hm : m ≤ 60) (hcb : ∀ j, j < m → (C j).1 ≤ 255 ∧ (C j).2.2.1 ≤ 255) (hT : Tab w) :
    Calls Tryd.prog 9 #[.int .i64 n, .slice ca m cc] w fun e w' => e = .returned (.bool true) ∧ Below w.heap.size w w' := by
  obtain ⟨i0, hi0, hz0, hs0, hb0⟩ := info_parts info_i64
  have HT := Lib.hid hT
  have HTl := Lib.hid hT.lt
  have HCt : Hid (∀ W, Below w.heap.size w W → SlC W ca m C) := Lib.hid (fun W hb => SlC.below hC hb rfl)
  have HCB := Lib.hid hcb
  have d1 : decide ((n : Int) < 1) = false := by simp; omega
  have d2 : decide (n < 1) = false := by simp; omega
  have d5 : decide ((60 : Int) < (n : Int)) = false := by simp; omega
  have d6 : decide (60 < n) = false := by simp; omega
  have d3 : decide ((60 : Int) < (m : Int)) = false := by simp; omega
  have d4 : decide (60 < m) = false := by simp; omega
  clear hT hC hcb
  go_enter Tryd.func9, Tryd.ntmps9
  go_wp2_with fail
  refine (Int.tnew_ok n _ h1 (by omega)).mono ?_
  rintro e w1 ⟨rfl, t1, b1⟩
  have T1 := Lib.hid t1
  have K1 := Lib.hid b1
  have hp1 := World.block_lt_of_cell? _ _ (Go.Proofs.YtpaecmpiokkdnaaDoor.Tb.c0 t1)
  have hq1 := blk_lt (Go.Proofs.YtpaecmpiokkdnaaDoor.Tb.slots t1)
  dsimp only at hp1
  clear t1 b1
  go_wp2_with fail
  refine (tnew_ok n _ h1 (by omega)).mono ?_
  rintro e w2 ⟨rfl, t2, b2⟩
  have HP0 : Hid (TL w w2 (w.heap.size + 1) w.heap.size (w1.heap.size + 1) w1.heap.size (List.replicate n (0, false, .int .i64 0)) (List.replicate n (0, false, .int .i64 0)) [] (.slice none 0 0)) := Lib.hid
    ⟨Go.Proofs.YtpaecmpiokkdnaaDoor.Tg.below T1.out b2, by rw [tS_rep]; exact Tg.base t2 K1.out.size, (HT.out.below K1.out).below b2, World.ownsRow_nil _ _ _ _, K1.out.trans (b2.mono K1.out.size), HTl.out, by omega, by omega, by omega, by omega⟩
  have HPS0 : Hid (PS n (List.replicate n (0, false, .int .i64 0))) := Lib.hid (PS.new n)
  have hsz2 := b2.size
  clear t2 b2 T1 K1 HT
  go_wp2_with fail
  go_loopw [9, 10] (fun s x wr => ∃ (k : Nat) (r : Value) (st : List Slt) (K : List Kn), r = s ∧ k ≤ m ∧ x = .int .i64 k ∧ Hid (TL w wr (w.heap.size + 1) w.heap.size (w1.heap.size + 1) w1.heap.size st st K r) ∧ Hid (PS n st) ∧ K.length ≤ k) (fun _ x _ => m - (intOf x).toNat)
  case atStart => exact ⟨0, _, _, [], rfl, Nat.zero_le _, rfl, HP0, HPS0, Nat.le_refl _⟩
  case round =>
    clear HP0 HPS0
    obtain ⟨k, r, st, K, rfl, hk, rfl, HP, HPS, hKl⟩ := hrel
    have hszw := HP.out.k.size
    have hl1 := World.block_lt_of_cell? _ _ (Go.Proofs.YtpaecmpiokkdnaaDoor.Tb.c0 HP.out.t)
    have hl2 := World.block_lt_of_cell? _ _ (Tb.c0 HP.out.u)
    dsimp only at hl1 hl2
    by_cases hlt : k < m
    · obtain ⟨cb, co, hca, hcc⟩ := (HCt.out wr HP.out.k).resolve_left (by omega)
      obtain ⟨c0, c1, c2, c3⟩ := hcc k hlt
      obtain ⟨hw1, ho1⟩ := HCB.out k hlt
      subst hca
      obtain ⟨⟨wh, hh, oo, vv⟩, hCk⟩ : ∃ c, C k = c := ⟨_, rfl⟩
      rw [hCk] at c0 c1 c2 c3 hw1 ho1
      dsimp only at c0 c1 c2 c3 hw1 ho1
      have hcl := World.block_lt_of_cell? _ _ c0
      dsimp only at hcl
      obtain ⟨n2, hn2⟩ : ∃ n2, K.length = n2 := ⟨_, rfl⟩
      have e0 := HP.out.row
      rw [hn2] at e0 hKl
      obtain ⟨u, c, rfl⟩ := own_slice e0
      have HSF : Hid (SlF wr u n2 (fun j => .int .i64 (K.getD j (0, false, 0)).1)) := Lib.hid (SlF.of_own e0 (fun j hj => kH_get (by omega)))
      have HKN := Lib.hid hn2
      obtain ⟨r, hr⟩ : ∃ r : Nat, wh % 6 = r := ⟨_, rfl⟩
      have hr6 : r < 6 := by rw [← hr]; exact Nat.mod_lt _ (by decide)
      have m1 : (wh : Int) % 6 = (r : Int) := by omega
      have wh0 : (0 : Int) ≤ (wh : Int) := by omega
      have wh1 : (wh : Int) ≤ 255 := by omega
      have z0 : (0 : Int) ≤ (k : Int) := by omega
      have z1 : (k : Int) < (m : Int) := by omega
      have z2 : decide ((k : Int) < (m : Int)) = true := by simp; omega
      have z3 : decide (k < m) = true := by simpa using hlt
      have HM1 := Lib.hid m1
      clear hcc hCk hn2 e0 hr m1
      go_wp2_with fail
      refine (Go.Proofs.YtpaecmpiokkdnaaDoor.handle_ok (wh, hh, oo, vv) _ (HSF.out.below (below_box0 _ _)) HKN.out (by omega) (by dsimp only; omega)).mono ?_
      rintro e w3 ⟨rfl, b3⟩
      obtain ⟨h, hhd⟩ : ∃ h, hndC hh oo K = h := ⟨_, rfl⟩
      rw [hhd]
      have bbx : Below wr.heap.size wr w3 := (below_box0 _ _).trans (b3.mono (by simp))
      have P3 := Lib.hid (HP.out.below bbx)
      have hbx3 := (b3.block _ (by simp)).trans (heap_alloc_new wr (.cells #[.int .u8 (wh : Int), .int .i64 hh, .int .u8 (oo : Int), .int .i64 vv] 55))
      have b30 : w3.cell? ⟨wr.heap.size, 0, none⟩ = some (.int .u8 (wh : Int)) := by rw [cell_of_block hbx3]; rfl
      have b33 : w3.cell? ⟨wr.heap.size, 3, none⟩ = some (.int .i64 vv) := by rw [cell_of_block hbx3]; rfl
      have HX3 := Lib.hid hbx3
      have hrm := HM1.out
      have hps := HPS.out
      clear hhd b3 bbx c0 c1 c2 c3 HP HSF z0 z1 z2 z3 hbx3
      by_cases hr2 : r = 2
      · have q2 : ((r : Int) == 2) = true := by simp; omega
        by_cases he : findE st h = 0
        · obtain ⟨i, hi, hil, hal, _⟩ := Int.findE_zero he
          obtain ⟨z, hz⟩ := hps.iv i hil
          have hz' : (st.getD i (0, false, undef)).2.2 = .int .i64 z := hz
          have hth := thing_list
          have hget := Int.get_ok h w3 P3.out.t he
          rw [hi, Int.toNat_natCast, hz'] at hget
          have HG := Lib.hid hget
          have HU := Lib.hid (get_ok h i thing z w3 P3.out.u (by rw [tS_find]; exact he) hi (tS_alive hil hal hz'))
          clear hget he hi hil hal hz hz' hps hr2
          go_wp2_with fail
          refine HG.out.mono ?_
          rintro e w4 ⟨rfl, rfl⟩
          go_wp2_with fail
          refine HU.out.mono ?_
          rintro e W5 ⟨rfl, b5⟩
          have P5 := Lib.hid (P3.out.below b5)
          clear b5 b30 b33
          go_wp2
          exact ⟨⟨k + 1, _, st, K, rfl, by omega, by simp, Lib.hid (P5.out.below (below_box0 _ _)), HPS, by have := HKN.out; omega⟩, by simp [intOf]; omega⟩
        · have hget := Int.get_err h w3 P3.out.t he
          have hu := get_err h w3 P3.out.u (by rw [tS_find]; exact he)
          rw [tS_find] at hu
          obtain ⟨ev, hev⟩ : ∃ ev, findE st h = ev := ⟨_, rfl⟩
          rw [hev] at hget hu he
          have HG := Lib.hid hget
          have HU := Lib.hid hu
          have qz : (ev != ev) = false := by simp
          have qy : (ev == 0) = false := by simpa using he
          clear hget hu he hev hps hr2
          go_wp2_with fail
          refine HG.out.mono ?_
          rintro e w4 ⟨rfl, rfl⟩
          go_wp2_with fail
          refine HU.out.mono ?_
          rintro e W5 ⟨rfl, b5⟩
          have P5 := Lib.hid (P3.out.below b5)
          clear b5 b30 b33
          go_wp2
          exact ⟨⟨k + 1, _, st, K, rfl, by omega, by simp, Lib.hid (P5.out.below (below_box0 _ _)), HPS, by have := HKN.out; omega⟩, by simp [intOf]; omega⟩
      · have q2 : ((r : Int) == 2) = false := by simp; omega
        by_cases hr3 : r = 3
        · have q3 : ((r : Int) == 3) = true := by simp; omega
          by_cases he : findE st h = 0
          · obtain ⟨i, hi, hil, hal, _⟩ := Int.findE_zero he
            have hsl := hps.set (s := ((st.getD i (0, false, undef)).1, (st.getD i (0, false, undef)).2.1, .int .i64 vv)) hil (hps.gb i hil) (hps.one i hil) ⟨vv, rfl⟩ (fun e => by dsimp only at e; rw [hal] at e; cases e)
            have hset := fun W (T : Int.TT W w.heap.size (w.heap.size + 1) w.heap.size st) => Int.set_ok h i vv W T he hi
            have husb : ∀ W, TT W w.heap.size (w1.heap.size + 1) w1.heap.size (tS st) → Calls Tryd.prog 39 #[.pointer (some ⟨w1.heap.size + 1, 0, none⟩), .int .i64 h, .agg #[.string ⟨#[116, 104, 105, 110, 103]⟩, .int .i64 vv]] W fun e w' => e = .returned (.int .i64 0) ∧ TT w' w.heap.size (w1.heap.size + 1) w1.heap.size (tS (st.set i ((st.getD i (0, false, undef)).1, (st.getD i (0, false, undef)).2.1, .int .i64 vv))) ∧ Fr (w1.heap.size + 1) w1.heap.size W w' := fun W T => by
              have := set_ok h i thing vv W T (by rw [tS_find]; exact he) hi
              rw [tS_1, tS_2, hal] at this
              rw [tS_set, hal]
              exact this
            obtain ⟨st5, hst5⟩ : ∃ s, st.set i ((st.getD i (0, false, undef)).1, (st.getD i (0, false, undef)).2.1, .int .i64 vv) = s := ⟨_, rfl⟩
            simp only [hst5] at hset husb
            rw [hst5] at hsl
            have PS5 := Lib.hid hsl
            have HS := Lib.hid hset
            have HU := Lib.hid husb
            have P3d : Hid (TL w w3.drew (w.heap.size + 1) w.heap.size (w1.heap.size + 1) w1.heap.size st st K (.slice u n2 c)) := Lib.hid (P3.out.below (below_draw w3 1))
            have HX3d : Hid (w3.drew.heap[wr.heap.size]? = some (.cells #[.int .u8 (wh : Int), .int .i64 hh, .int .u8 (oo : Int), .int .i64 vv] 55 (0, 0))) := Lib.hid HX3.out
            clear he hi hil hal hsl hst5 hps hr2 hr3 hset husb
            go_wp2_with fail
            go_region_with (first
              | (go_at_call 27; (refine (HS.out _ P3d.out.t).mono ?_); rintro e w4 ⟨rfl, t4, f4⟩; have P4 := Lib.hid (P3d.out.int t4 f4); have hbx4 := (f4.block _ (blk_lt HX3d.out) (by omega) (by omega)).trans HX3d.out; have b43 : w4.cell? ⟨wr.heap.size, 3, none⟩ = some (.int .i64 vv) := (by rw [cell_of_block hbx4]; rfl); clear hbx4 t4 f4)
              | (go_at_call 39; (refine (HU.out _ P4.out.u).mono ?_); rintro e w5 ⟨rfl, t5, f5⟩; have P5 := Lib.hid (P4.out.things t5 f5); clear t5 f5))
            all_goals
              go_wp2
              exact ⟨⟨k + 1, _, st5, K, rfl, by omega, by simp, Lib.hid (P5.out), PS5, by have := HKN.out; omega⟩, by simp [intOf]; omega⟩
          · obtain ⟨ev, hev⟩ : ∃ ev, findE st h = ev := ⟨_, rfl⟩
            have hset := fun W (T : Int.TT W w.heap.size (w.heap.size + 1) w.heap.size st) => Int.set_err h vv W T he
            have husb : ∀ W, TT W w.heap.size (w1.heap.size + 1) w1.heap.size (tS st) → Calls Tryd.prog 39 #[.pointer (some ⟨w1.heap.size + 1, 0, none⟩), .int .i64 h, .agg #[.string ⟨#[116, 104, 105, 110, 103]⟩, .int .i64 vv]] W fun e w' => e = .returned (.int .i64 (findE st h)) ∧ Below W.heap.size W w' := fun W T => by
              have := set_err h thing vv W T (by rw [tS_find]; exact he)
              rw [tS_find] at this
              exact this
            simp only [hev] at hset husb
            have HS := Lib.hid hset
            have HU := Lib.hid husb
            have qz : (ev != ev) = false := by simp
            have P3d : Hid (TL w w3.drew (w.heap.size + 1) w.heap.size (w1.heap.size + 1) w1.heap.size st st K (.slice u n2 c)) := Lib.hid (P3.out.below (below_draw w3 1))
            clear he hev hps hr2 hr3 hset husb
            go_wp2_with fail
            go_region_with (first
              | (go_at_call 27; (refine (HS.out _ P3d.out.t).mono ?_); rintro e w4 ⟨rfl, rfl⟩)
              | (go_at_call 39; (refine (HU.out _ P3d.out.u).mono ?_); rintro e w5 ⟨rfl, b5⟩; have P5 := Lib.hid (P3d.out.below b5); clear b5))
            all_goals
              go_wp2
              exact ⟨⟨k + 1, _, st, K, rfl, by omega, by simp, Lib.hid (P5.out), HPS, by have := HKN.out; omega⟩, by simp [intOf]; omega⟩
        · have q3 : ((r : Int) == 3) = false := by simp; omega
          by_cases hr4 : 4 ≤ r
          · have key : ((r : Int) == 4) = true ∨ (((r : Int) == 4) = false ∧ ((r : Int) == 5) = true) := by
              by_cases e : r = 4
              · left; simp; omega
              · right; exact ⟨by simp; omega, by simp; omega⟩
            by_cases he : findE st h = 0
            · obtain ⟨i, hi, hil, hal, _⟩ := Int.findE_zero he
              obtain ⟨z, hz⟩ := hps.iv i hil
              have hz' : (st.getD i (0, false, undef)).2.2 = .int .i64 z := hz
              have hsl := hps.set (s := ((st.getD i (0, false, undef)).1, false, .int .i64 0)) hil (hps.gb i hil) (fun e => by cases e) ⟨0, rfl⟩ (fun _ => rfl)
              have htd := Int.tdrop_ok h i w3 P3.out.t he hi
              have hrd : ∀ W, TT W w.heap.size (w1.heap.size + 1) w1.heap.size (tS st) → Calls Tryd.prog 40 #[.pointer (some ⟨w1.heap.size + 1, 0, none⟩), .int .i64 h] W fun e w' => e = .returned (.tuple #[.agg #[.string thing, .int .i64 z], .int .i64 0]) ∧ TT w' w.heap.size (w1.heap.size + 1) w1.heap.size (tS (st.set i ((st.getD i (0, false, undef)).1, false, .int .i64 0))) ∧ Fr (w1.heap.size + 1) w1.heap.size W w' := fun W T => by
                have := tdrop_ok h i thing z W T (by rw [tS_find]; exact he) hi (tS_alive hil hal hz')
                rw [tS_1] at this
                rw [tS_set]
                exact this
              obtain ⟨st5, hst5⟩ : ∃ s, st.set i ((st.getD i (0, false, undef)).1, false, .int .i64 0) = s := ⟨_, rfl⟩
              rw [hst5] at hsl
              rw [hst5, hz'] at htd
              simp only [hst5] at hrd
              have PS5 := Lib.hid hsl
              have HTD := Lib.hid htd
              have HRD := Lib.hid hrd
              have hth := thing_list
              clear he hi hil hal hsl hst5 hps hr2 hr3 hr4 htd hrd hz hz'
              rcases key with q4 | ⟨q4, q5⟩
              all_goals
                go_wp2_with fail
                refine HTD.out.mono ?_
                rintro e w4 ⟨rfl, t4, f4⟩
                have P4 := Lib.hid (P3.out.int t4 f4)
                clear t4 f4 b30 b33
                go_wp2_with fail
                refine (HRD.out _ P4.out.u).mono ?_
                rintro e w5 ⟨rfl, t5, f5⟩
                have P5 := Lib.hid (P4.out.things t5 f5)
                clear t5 f5
                go_wp2
                exact ⟨⟨k + 1, _, st5, K, rfl, by omega, by simp, Lib.hid (P5.out.below (below_box0 _ _)), PS5, by have := HKN.out; omega⟩, by simp [intOf]; omega⟩
            · obtain ⟨ev, hev⟩ : ∃ ev, findE st h = ev := ⟨_, rfl⟩
              have htd := Int.drop_err h w3 P3.out.t he
              have hrd := drop_err h w3 P3.out.u (by rw [tS_find]; exact he)
              rw [tS_find] at hrd
              rw [hev] at htd hrd he
              have HTD := Lib.hid htd
              have HRD := Lib.hid hrd
              have qz : (ev != ev) = false := by simp
              have qy : (ev == 0) = false := by simpa using he
              clear he hev hps hr2 hr3 hr4 htd hrd
              rcases key with q4 | ⟨q4, q5⟩
              all_goals
                go_wp2_with fail
                refine HTD.out.mono ?_
                rintro e w4 ⟨rfl, rfl⟩
                go_wp2_with fail
                refine HRD.out.mono ?_
                rintro e w5 ⟨rfl, bb5⟩
                have P5 := Lib.hid (P3.out.below bb5)
                clear bb5 b30 b33
                go_wp2
                exact ⟨⟨k + 1, _, st, K, rfl, by omega, by simp, Lib.hid (P5.out.below (below_box0 _ _)), HPS, by have := HKN.out; omega⟩, by simp [intOf]; omega⟩
          · have q4 : ((r : Int) == 4) = false := by simp; omega
            have q5 : ((r : Int) == 5) = false := by simp; omega
            by_cases hfull : nxt (rdyF st) 0 st.length < st.length
            · obtain ⟨i, hi⟩ : ∃ i, nxt (rdyF st) 0 st.length = i := ⟨_, rfl⟩
              rw [hi] at hfull
              obtain ⟨_, hal, hg9⟩ := Int.rdyF_at (Int.next_at hi hfull)
              have hput := fun W (T : Int.TT W w.heap.size (w.heap.size + 1) w.heap.size st) (X : Tab W) => Int.tput_ok i vv W T X hi hfull
              have hrp : ∀ W, TT W w.heap.size (w1.heap.size + 1) w1.heap.size (tS st) → Tab W → Calls Tryd.prog 41 #[.pointer (some ⟨w1.heap.size + 1, 0, none⟩), .agg #[.string ⟨#[116, 104, 105, 110, 103]⟩, .int .i64 vv]] W fun e w' => e = .returned (.tuple #[.int .i64 ((((st.getD i (0, false, undef)).1 : Int) + 1) * 65536 + i), .int .i64 0]) ∧ TT w' w.heap.size (w1.heap.size + 1) w1.heap.size (tS (st.set i ((st.getD i (0, false, undef)).1 + 1, true, .int .i64 vv))) ∧ Fr (w1.heap.size + 1) w1.heap.size W w' := fun W T X => by
                have := tput_ok i thing vv W T X (by rw [tS_rdy, tS_len]; exact hi) (by rw [tS_len]; exact hfull)
                rw [tS_1] at this
                rw [tS_set]
                exact this
              obtain ⟨g, hg⟩ : ∃ g, (st.getD i (0, false, undef)).1 = g := ⟨_, rfl⟩
              have hsl := hps.set (s := (g + 1, true, .int .i64 vv)) hfull (by rw [hg] at hg9; dsimp only; omega) (fun _ => by dsimp only; omega) ⟨vv, rfl⟩ (fun e => by cases e)
              obtain ⟨st5, hst5⟩ : ∃ s, st.set i (g + 1, true, .int .i64 vv) = s := ⟨_, rfl⟩
              obtain ⟨hnew, hhn⟩ : ∃ z : Int, ((g : Int) + 1) * 65536 + i = z := ⟨_, rfl⟩
              simp only [hg, hst5, hhn] at hput hrp
              rw [hst5] at hsl
              have PS5 := Lib.hid hsl
              have HTP := Lib.hid hput
              have HRP := Lib.hid hrp
              have qz : (hnew != hnew) = false := by simp
              clear hput hrp hsl hst5 hhn hg hg9 hal hi hfull hps hr2 hr3 hr4
              go_wp2_with fail
              refine (HTP.out _ P3.out.t P3.out.tab).mono ?_
              rintro e w4 ⟨rfl, t4, f4⟩
              have P4 := Lib.hid (P3.out.int t4 f4)
              have hbx4 := (f4.block _ (blk_lt HX3.out) (by omega) (by omega)).trans HX3.out
              have b43 : w4.cell? ⟨wr.heap.size, 3, none⟩ = some (.int .i64 vv) := by rw [cell_of_block hbx4]; rfl
              clear t4 f4 b30 b33 hbx4
              go_wp2_with fail
              refine (HRP.out _ P4.out.u P4.out.tab).mono ?_
              rintro e w5 ⟨rfl, t5, f5⟩
              have PA := Lib.hid (P4.out.things t5 f5)
              have hrow := PA.out.row
              rw [HKN.out] at hrow
              have HROW := Lib.hid hrow
              have hnews := heap_alloc_new w5 (.cells #[.int .i64 hnew] 2)
              have HNEWS := Lib.hid hnews
              have hsz5 := PA.out.k.size
              clear hrow hnews t5 f5 b43
              go_wp2_with (at_builtin; refine wpList_append_lies _ rfl (.tmp 97) (.tmp 99) 51 rfl w.heap.size 2 i0 (.int .i64 0) 1 8 Tryd.underlying51 hi0 hz0 hs0 hb0 rfl (by decide) (.slice u n2 c) n2 (kH K) rfl (HROW.out.alloc _) ⟨w5.heap.size, 0, none⟩ 1 1 [.int .i64 hnew] rfl rfl (World.news_of_block HNEWS.out) (by intro u hu; simp at hu; subst hu; rfl) (by decide) (by simp only [maxLen]; omega) (by omega) (by simp only [World.size_alloc]; omega) (w5.heap.size + 1) (by simp only [World.size_alloc]) ?_)
              intro gg cap W5 hown hgrow hat hlt1
              have P5 := Lib.hid (PA.out.give HKN.out hown hgrow)
              clear hown hgrow hat
              go_wp2
              exact ⟨⟨k + 1, _, st5, K ++ [(hnew, false, 0)], rfl, by omega, by simp, Lib.hid (P5.out), PS5, by rw [List.length_append]; have := HKN.out; simp; omega⟩, by simp [intOf]; omega⟩
            · have htp := fun W (T : Int.TT W w.heap.size (w.heap.size + 1) w.heap.size st) (X : Tab W) => Int.tput_full vv W T X hfull
              have hrp : ∀ W, TT W w.heap.size (w1.heap.size + 1) w1.heap.size (tS st) → Tab W → Calls Tryd.prog 41 #[.pointer (some ⟨w1.heap.size + 1, 0, none⟩), .agg #[.string ⟨#[116, 104, 105, 110, 103]⟩, .int .i64 vv]] W fun e w' => e = .returned (.tuple #[.int .i64 0, .int .i64 5]) ∧ Below W.heap.size W w' := fun W T X =>
                tput_full thing vv W T X (by rw [tS_rdy, tS_len]; exact hfull)
              have HTP := Lib.hid htp
              have HRP := Lib.hid hrp
              clear htp hrp hfull hps hr2 hr3 hr4
              go_wp2_with fail
              refine (HTP.out _ P3.out.t P3.out.tab).mono ?_
              rintro e w4 ⟨rfl, bb4⟩
              have P4 := Lib.hid (P3.out.below bb4)
              have hbx4 := (bb4.block _ (blk_lt HX3.out)).trans HX3.out
              have b43 : w4.cell? ⟨wr.heap.size, 3, none⟩ = some (.int .i64 vv) := by rw [cell_of_block hbx4]; rfl
              clear bb4 b30 b33 hbx4
              go_wp2_with fail
              refine (HRP.out _ P4.out.u P4.out.tab).mono ?_
              rintro e w5 ⟨rfl, bb5⟩
              have P5 := Lib.hid (P4.out.below bb5)
              clear bb5 b43
              go_wp2
              exact ⟨⟨k + 1, _, st, K, rfl, by omega, by simp, Lib.hid (P5.out), HPS, by have := HKN.out; omega⟩, by simp [intOf]; omega⟩
    · have z2 : decide ((k : Int) < (m : Int)) = false := by simp; omega
      have z3 : decide (k < m) = false := by simpa using hlt
      have HVZ : Hid (∀ j, j < st.length → ∃ z : Int, (st.getD j (0, false, undef)).2.2 = .int .i64 z) := Lib.hid (fun j hj => HPS.out.iv j hj)
      have HCZ := Lib.hid (hc_ps HPS.out h1 (by omega))
      have HLEN := Lib.hid HPS.out.len
      clear hlt
      go_wp2_with fail
      refine (Int.save_ok wr HP.out.t HVZ.out).mono ?_
      rintro e w3 ⟨x, rfl, ⟨ga, gc, aa, ac, va, vc, rfl, ra⟩, b3⟩
      rw [HLEN.out]
      have hb4 := below_box0 w3 (.cells #[.slice ga n gc, .slice aa n ac, .slice va n vc] 35)
      have P4 := Lib.hid ((HP.out.below b3).below hb4)
      have RA4 := Lib.hid (ra.below hb4)
      have HBX := Lib.hid (heap_alloc_new w3 (.cells #[.slice ga n gc, .slice aa n ac, .slice va n vc] 35))
      clear b3 hb4 ra
      go_wp2_with fail
      have hg := RA4.out.g
      have ha := RA4.out.a
      have hv := RA4.out.v
      rw [HLEN.out] at hg ha hv
      refine (Int.load_ok (V := fun j => if j < n then vF st j else .int .i64 0) _ hg ha (hv.congr fun j hj => (if_pos hj).symm) (fun j => ?_) HCZ.out).mono ?_
      · by_cases hj : j < n
        · simp only [if_pos hj]; exact HVZ.out j (by have := HLEN.out; omega)
        · simp only [if_neg hj]; exact ⟨0, rfl⟩
      rintro e w5 ⟨p2, q2, rfl, t5, b5⟩
      rw [stP_congr (V' := vF st) (fun j hj => if_pos hj), stP_self HLEN.out HPS.out.dz] at t5
      have T5 := Lib.hid t5
      have P5 := Lib.hid (P4.out.below b5)
      have RA5 := Lib.hid (RA4.out.below b5)
      have BX5 := Lib.hid ((b5.block _ (by simp)).trans HBX.out)
      clear t5 b5 hg ha hv
      go_wp2_with fail
      refine (save_ok w5 P5.out.u (fun j hj => tS_tv (by rw [tS_len] at hj; exact hj))).mono ?_
      rintro e w6 ⟨x, rfl, ⟨hga, hgc, haa, hac, hva, hvc, rfl, sg, sa, sv⟩, b6⟩
      rw [tS_len, HLEN.out, tS_gF] at sg
      rw [tS_len, HLEN.out, tS_aF] at sa
      rw [tS_len, HLEN.out] at sv
      rw [tS_len, HLEN.out]
      have T6 := Lib.hid (Go.Proofs.YtpaecmpiokkdnaaDoor.Tg.below T5.out b6)
      have P6 := Lib.hid (P5.out.below b6)
      have RA6 := Lib.hid (RA5.out.below b6)
      have BX6 := Lib.hid ((b6.block _ (blk_lt BX5.out)).trans BX5.out)
      go_wp2_with fail
      refine (load_ok (V := fun j => if j < n then vF (tS st) j else zT) _ sg sa (sv.congr fun j hj => (if_pos hj).symm) (fun j => ?_) HCZ.out).mono ?_
      · by_cases hj : j < n
        · simp only [if_pos hj]; exact tS_tv (by have := HLEN.out; omega)
        · simp only [if_neg hj]; exact ⟨_, _, rfl⟩
      rintro e w7 ⟨p3, q3, rfl, t7, b7⟩
      rw [stP_congr (V' := vF (tS st)) (fun j hj => if_pos hj), ← tS_gF, ← tS_aF, stP_self (by rw [tS_len]; exact HLEN.out) tS_dz] at t7
      have U7 := Lib.hid t7
      have T7 := Lib.hid (Go.Proofs.YtpaecmpiokkdnaaDoor.Tg.below T6.out b7)
      have P7 := Lib.hid (P6.out.below b7)
      have RA7 := Lib.hid (RA6.out.below b7)
      have bx7 := (b7.block _ (blk_lt BX6.out)).trans BX6.out
      have v0 : w7.cell? ⟨w3.heap.size, 0, none⟩ = some (.slice ga n gc) := by rw [cell_of_block bx7]; rfl
      have v1 : w7.cell? ⟨w3.heap.size, 1, none⟩ = some (.slice aa n ac) := by rw [cell_of_block bx7]; rfl
      have v2 : w7.cell? ⟨w3.heap.size, 2, none⟩ = some (.slice va n vc) := by rw [cell_of_block bx7]; rfl
      have HD : Hid (∀ w', Below w7.heap.size w7 w' → w'.cell? ⟨w3.heap.size, 0, none⟩ = some (.slice ga n gc) ∧ w'.cell? ⟨w3.heap.size, 1, none⟩ = some (.slice aa n ac) ∧ w'.cell? ⟨w3.heap.size, 2, none⟩ = some (.slice va n vc)) := Lib.hid (fun w' h => ⟨cell_later h v0, cell_later h v1, cell_later h v2⟩)
      obtain ⟨cn, hcn⟩ : ∃ cn, st.countP alv = cn := ⟨_, rfl⟩
      obtain ⟨rm, hrm'⟩ : ∃ rm, cnt (rdyF st) 0 st.length = rm := ⟨_, rfl⟩
      have LS : Hid (∀ W', Below w7.heap.size w7 W' → Calls Tryd.prog 21 #[.pointer (some ⟨p2, 0, none⟩)] W' fun e w' => ∃ x, e = .returned x ∧ RS w' x st ∧ Below W'.heap.size W' w') := Lib.hid (fun W' hb => Int.save_ok W' (Go.Proofs.YtpaecmpiokkdnaaDoor.Tg.below T7.out hb) HVZ.out)
      have LQ : Hid (∀ W' x, Below w7.heap.size w7 W' → RS W' x st → Calls Tryd.prog 20 #[x, .agg #[.slice ga n gc, .slice aa n ac, .slice va n vc]] W' fun e w' => e = .returned (.bool true) ∧ Below W'.heap.size W' w') := Lib.hid (fun W' x hb hr => rsame_rs hr (by
        refine ⟨ga, gc, aa, ac, va, vc, ?_, RA7.out.below hb⟩
        rw [HLEN.out]) HVZ.out (by have := HLEN.out; omega))
      have L1 : Hid (∀ W', Below w7.heap.size w7 W' → Calls Tryd.prog 44 #[.pointer (some ⟨p3, 0, none⟩)] W' fun e w' => e = .returned (.int .i64 (cn : Int)) ∧ W' = w') := Lib.hid (fun W' h => by rw [← hcn, ← tS_cnt]; exact len_ok W' (Tg.below U7.out h))
      have L2 : Hid (∀ W', Below w7.heap.size w7 W' → Calls Tryd.prog 24 #[.pointer (some ⟨w.heap.size + 1, 0, none⟩)] W' fun e w' => e = .returned (.int .i64 (cn : Int)) ∧ W' = w') := Lib.hid (fun W' h => by rw [← hcn]; exact Int.len_ok W' (Go.Proofs.YtpaecmpiokkdnaaDoor.Tg.below P7.out.t h))
      have L3 : Hid (∀ W', Below w7.heap.size w7 W' → Calls Tryd.prog 45 #[.pointer (some ⟨p3, 0, none⟩)] W' fun e w' => e = .returned (.int .i64 (rm : Int)) ∧ Below W'.heap.size W' w') := Lib.hid (fun W' h => by
        have := room_ok W' (Tg.below U7.out h)
        rw [tS_rdy, tS_len, hrm'] at this; exact this)
      have L4 : Hid (∀ W', Below w7.heap.size w7 W' → Calls Tryd.prog 36 #[.pointer (some ⟨w.heap.size + 1, 0, none⟩)] W' fun e w' => e = .returned (.int .i64 (rm : Int)) ∧ Below W'.heap.size W' w') := Lib.hid (fun W' h => by rw [← hrm']; exact Int.room_ok W' (Go.Proofs.YtpaecmpiokkdnaaDoor.Tg.below P7.out.t h))
      have qc : ((cn : Int) == (cn : Int)) = true := by simp
      have qr : ((rm : Int) == (rm : Int)) = true := by simp
      clear hcn hrm' t7 b7 b6 sg sa sv bx7 v0 v1 v2
      go_wp2_with fail
      go_region_held3 (fun w' => Below w7.heap.size w7 w' ∧ w'.cell? ⟨w3.heap.size, 0, none⟩ = some (.slice ga n gc) ∧ w'.cell? ⟨w3.heap.size, 1, none⟩ = some (.slice aa n ac) ∧ w'.cell? ⟨w3.heap.size, 2, none⟩ = some (.slice va n vc))
        ((refine keepN HD ?_; first | exact (Below.refl _ _).drew | exact And.left (by assumption) | exact bel_call (by assumption) (by assumption)))
        (first
          | (go_at_call 21; (with_reducible refine (LS.out _ (And.left (by assumption))).mono ?_); rintro e w12 ⟨xs, rfl, rs12, b12⟩; have g12 : Below w7.heap.size w7 w12 := bel_call (by assumption) b12; have RS12 := Lib.hid rs12; clear rs12)
          | (go_at_call 20; (with_reducible refine (LQ.out _ _ (And.left (by assumption)) RS12.out).mono ?_); rintro e w13 ⟨rfl, b13⟩; have g13 : Below w7.heap.size w7 w13 := bel_call (by assumption) b13)
          | (go_at_call 44; (with_reducible refine (L1.out _ (And.left (by assumption))).mono ?_); rintro e w15 ⟨rfl, rfl⟩)
          | (go_at_call 24; (with_reducible refine (L2.out _ (And.left (by assumption))).mono ?_); rintro e w16 ⟨rfl, rfl⟩)
          | (go_at_call 45; (with_reducible refine (L3.out _ (And.left (by assumption))).mono ?_); rintro e w17 ⟨rfl, b17⟩; have g17 : Below w7.heap.size w7 w17 := bel_call (by assumption) b17)
          | (go_at_call 36; (with_reducible refine (L4.out _ (And.left (by assumption))).mono ?_); rintro e w18 ⟨rfl, b18⟩; have g18 : Below w7.heap.size w7 w18 := bel_call (by assumption) b18)
          | (go_at_call 15; (with_reducible refine (awake_ok _ (P7.out.tab.below (And.left (by assumption)))).mono ?_); rintro e w14 ⟨rfl, b14⟩; have g14 : Below w7.heap.size w7 w14 := bel_call (by assumption) b14))
      all_goals
        go_wp2
        go_ret
        exact ⟨rfl, P7.out.k.trans (g14.mono P7.out.k.size)⟩
end
end Go.Proofs.YtpaecmpiokkdnaaDoor.Thing

namespace Go.Proofs.YtpaecmpiokkdnaaDoor
open Go.RowKit Go.Sort Go.Joins
attribute [local go_sem] cell_grow frozen_grow size_grow

set_option maxRecDepth 100000 in
set_option maxHeartbeats 3200000 in
theorem types_far {m : Nat} {ca : Option Addr} {cc : Nat} (slots : Int) (w : World) (hfar : 60 < m ∨ slots < 1 ∨ 60 < slots) (hT : Tab w) :
    Calls Tryd.prog 9 #[.int .i64 slots, .slice ca m cc] w fun e w' => e = .returned (.bool true) ∧ Below w.heap.size w w' := by
  have key : (decide ((60 : Int) < (m : Int)) = true ∧ decide (60 < m) = true) ∨ (decide ((60 : Int) < (m : Int)) = false ∧ decide (60 < m) = false ∧ decide (slots < 1) = true) ∨
      (decide ((60 : Int) < (m : Int)) = false ∧ decide (60 < m) = false ∧ decide (slots < 1) = false ∧ decide (60 < slots) = true) := by
    by_cases h : 60 < m
    · exact .inl ⟨by simp; omega, by simpa using h⟩
    · by_cases h1 : slots < 1
      · exact .inr (.inl ⟨by simp; omega, by simpa using h, by simpa using h1⟩)
      · exact .inr (.inr ⟨by simp; omega, by simpa using h, by simpa using h1, by simp; omega⟩)
  have HT := Lib.hid hT
  clear hfar hT
  rcases key with ⟨d1, d2⟩ | ⟨d1, d2, d3⟩ | ⟨d1, d2, d3, d4⟩
  all_goals
    go_enter Tryd.func9, Tryd.ntmps9
    go_wp2_with fail
    refine (awake_ok _ HT.out).mono ?_
    rintro e w1 ⟨rfl, b1⟩
    have HB1 := Lib.hid b1
    clear b1
    go_wp2
    go_ret
    exact ⟨rfl, HB1.out⟩
end Go.Proofs.YtpaecmpiokkdnaaDoor
