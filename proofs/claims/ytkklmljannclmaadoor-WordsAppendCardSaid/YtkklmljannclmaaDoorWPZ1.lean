/- Words: ParseList of the program, the capacity of what it hands back told. | Words: the law of the least text. -/
import Derived.Test.YtkklmljannclmaaDoorWZ9
namespace Go.Proofs.YtkklmljannclmaaDoor
open Go.RowKit Go.Sort Go.Joins Go.Shelf
attribute [local go_sem] cell_grow frozen_grow size_grow

def PlC (w : World) (N : List Nat) (E : Int) (x : Ending) (w' : World) : Prop :=
  ∃ a c, x = .returned (.tuple #[.slice a N.length c, .int .i64 E]) ∧ SlN w' a (ints N) ∧ Below w.heap.size w w' ∧ N.length ≤ c
theorem PlC.none {w w' : World} {E : Int} (h : Below w.heap.size w w') : PlC w [] E (.returned (.tuple #[.slice none 0 0, .int .i64 E])) w' := ⟨_, _, rfl, .inl rfl, h, Nat.le_refl _⟩
theorem own_capL {w : World} {a : Option Addr} {l c n base size : Nat} {e : TypeId} {xs : List Value} (h : w.ownsRow base e size (.slice a l c) n xs) : n ≤ c := by
  rcases h.2 with ⟨e, h0⟩ | ⟨g', cap, cur, hv, _, hh, h1, _⟩
  · omega
  · cases hv; assumption
set_option maxRecDepth 100000 in
set_option maxHeartbeats 6400000 in
theorem wparse_c (s : ByteArray) (L : List UInt8) (hL : s.data.toList = L) (hs : s.size ≤ 4611686018427387904) (w : World) (hM : ML w) (hT : TW w) :
    Calls Tryd.prog 20 #[.string s] w (PlC w (plL L) (plE L)) := by
  have hlen := len_of hL
  by_cases h1 : 2500 < s.size
  · have d1 : decide ((2500 : Int) < (s.size : Int)) = true := decide_eq_true (by omega)
    have hE := plE_long (s := L) (by omega)
    rw [plL_bad (by rw [hE]; decide), hE]
    clear hL hM hT hE
    go_enter Tryd.func20, Tryd.ntmps20
    go_wp2_with fail
    go_ret2
    exact PlC.none (Below.refl _ _)
  · have d1 : decide ((2500 : Int) < (s.size : Int)) = false := decide_eq_false (by omega)
    have hem := empty_nil hL
    by_cases h0 : L = []
    · rw [decide_eq_true h0] at hem
      have hE : plE L = 0 := by rw [h0]; rfl
      have hN : plL L = [] := by rw [h0]; rfl
      rw [hN, hE]
      clear hL hM hT hE hN
      go_enter Tryd.func20, Tryd.ntmps20
      go_wp2_with fail
      go_ret2
      exact PlC.none (Below.refl _ _)
    · rw [decide_eq_false h0] at hem
      obtain ⟨i0, hi0, hz0, hz1, hz2⟩ := info_parts info_part
      have HSP := Lib.hid (split_ok s L hL 44 (by omega) w hM)
      have hpl := spl_len 44 L
      have hct : L.count 44 ≤ L.length := List.count_le_length
      have HML := Lib.hid (fun p => @spl_size 44 L p)
      have HFM := Lib.hid (fun p => @plE_form L (by omega) h0 p)
      have HRG := Lib.hid (fun h x => @plE_range L (by omega) h0 h x)
      have HRS := Lib.hid (plE_rest (s := L) (by omega) h0)
      have HOK := Lib.hid (fun h => @plL_ok L h h0)
      have HBD := Lib.hid (@plL_bad L)
      have HPP : Hid (plP L = (spl 44 L).filterMap itmP) := Lib.hid rfl
      obtain ⟨E, hE⟩ : ∃ E, plE L = E := ⟨_, rfl⟩
      obtain ⟨R, hR⟩ : ∃ R, plL L = R := ⟨_, rfl⟩
      obtain ⟨P, hP⟩ : ∃ P, spl 44 L = P := ⟨_, rfl⟩
      obtain ⟨Q, hQ⟩ : ∃ Q, plP L = Q := ⟨_, rfl⟩
      rw [hP] at HSP HML HFM HRG HRS HPP hpl
      rw [hQ] at HRG HRS HOK HPP
      rw [hE] at HFM HRG HRS HOK HBD ⊢
      rw [hR] at HOK HBD ⊢
      obtain ⟨n, hn⟩ : ∃ n, P.length = n := ⟨_, rfl⟩
      rw [hn] at hpl
      have HN := Lib.hid hn
      have HT := Lib.hid hT
      have hnb : n ≤ 2501 := by omega
      clear hE hR hP hQ hL hM hT hn hpl hct h0
      go_enter Tryd.func20, Tryd.ntmps20
      go_wp2_with fail
      refine HSP.out.mono ?_
      rintro e w1 ⟨b, rfl, hS, hb1⟩
      have HS := Lib.hid hS
      have HB1 := Lib.hid hb1
      clear hS hb1 HSP
      rw [HN.out]
      go_wp2
      go_loopw [4, 28] (fun o i wr => ∃ (k : Nat) (va : Option Addr) (vc : Nat) (Y : List Prt), i = .int .i64 (k : Int) ∧ k ≤ n ∧ o = .slice va Y.length vc ∧ Hid (Y.length = k) ∧ Hid ((P.take k).map itmP = Y.map some) ∧ Hid (wr.ownsRow w1.heap.size 74 3 (.slice va Y.length vc) Y.length (pc3 Y)) ∧ Hid (Below w1.heap.size w1 wr)) (fun _ i _ => n - (intOf i).toNat)
      case atStart => exact ⟨0, none, 0, [], rfl, Nat.zero_le _, rfl, Lib.hid rfl, Lib.hid rfl, Lib.hid (World.ownsRow_nil _ _ _ _), Lib.hid (Below.refl _ _)⟩
      case round =>
        obtain ⟨k, va, vc, Y, rfl, hk, rfl, HYk, HY, HO, HBr⟩ := hrel
        by_cases hlt : k < n
        · obtain ⟨b', o', S, e, g0, gS⟩ := (HS.out.below HBr.out).at_ (j := k) (by rw [HN.out]; exact hlt)
          cases e
          rw [Nat.zero_add] at g0
          have hkP : P[k]? = some (P.getD k []) := by rw [List.getD_eq_getElem?_getD, List.getElem?_eq_getElem (by rw [HN.out]; exact hlt)]; rfl
          rw [← gS] at hkP
          have hmem := List.mem_of_getElem? hkP
          have hsz := HML.out _ hmem
          have hsl := len_of (rfl : S.data.toList = S.data.toList)
          obtain ⟨D, hD⟩ : ∃ D, S.data.toList = D := ⟨_, rfl⟩
          rw [hD] at hkP hmem hsz hsl
          have hlt0 := HBr.out.size
          have HRD := Lib.hid (fun W h => read_ok S D hD (by omega) W h)
          have HKP := Lib.hid hkP
          have HME := Lib.hid hmem
          clear hkP hmem gS hD
          go_wp2_with fail
          refine (HRD.out wr (HT.out.below (below_tr HB1.out HBr.out))).mono ?_
          rintro e w3 ⟨f, l, c, rfl, hv, b3⟩
          have HV := Lib.hid hv
          have HB3 := Lib.hid b3
          have HO3 := Lib.hid (own_below HO.out b3)
          clear hv b3
          cases hi : itmP D with
          | none =>
            have hE := HFM.out D HME.out hi
            subst hE
            have hR := HBD.out (by decide)
            subst hR
            simp only [Option.isSome_none]
            clear hi HFM HRG HRS HOK HBD
            go_wp2
            go_ret2
            exact PlC.none (below_tr HB1.out (below_tr HBr.out ((HB3.out).alloc HB3.out.size _)))
          | some y =>
            obtain ⟨hf, hl, hc⟩ := HV.out y hi
            have HYY : Hid ((P.take (k + 1)).map itmP = (Y ++ [y]).map some) := Lib.hid (by rw [take_snoc HKP.out, List.map_append, HY.out, List.map_append]; simp [hi])
            have HNW : Hid ([Value.int .i64 f, .int .i64 l, .int .i64 c] = [.int .i64 (capN y.1), .int .i64 (capN y.2.1), .int .i64 (capN y.2.2)]) := Lib.hid (by rw [hf, hl, hc])
            simp only [Option.isSome_some]
            clear hi hf hl hc HFM HRG HRS HOK HBD HV HY HKP HME
            go_wp2_with (at_builtin; refine wpList_append_own _ rfl (.tmp 39) (.tmp 41) 71 rfl w1.heap.size 74 i0 (.agg #[.int .i64 0, .int .i64 0, .int .i64 0]) 3 24 Tryd.underlying71 hi0 hz0 hz1 hz2 rfl (by decide) _ _ _ rfl ((HO3.out.alloc _).alloc _) ⟨w3.heap.size + 1, 0, none⟩ 1 1 [.int .i64 f, .int .i64 l, .int .i64 c] rfl rfl ?c1 ?c2 ?c3 ?c4 ?c5 ?_)
            case c1 => intro j q hq; match j with | 0 => (simp at hq; subst hq; simp [go_sem]) | 1 => (simp at hq; subst hq; simp [go_sem]) | 2 => (simp at hq; subst hq; simp [go_sem]) | j + 3 => simp at hq
            case c2 => intro q hq; simp at hq; rcases hq with rfl | rfl | rfl <;> rfl
            case c3 => have := HYk.out; unfold maxLen; omega
            case c4 => have := HYk.out; omega
            case c5 => have := HB3.out.size; simp; omega
            intro v' w4 hown hg _
            obtain ⟨va', vc', rfl⟩ := own_slice hown
            have hs3 := HB3.out.size
            have HB4 := Lib.hid (((below_tr HBr.out HB3.out).alloc (by omega) (.cells #[.int .i64 f, .int .i64 l, .int .i64 c] 74)).alloc (by simp; omega) (.cells #[.int .i64 f, .int .i64 l, .int .i64 c] 74) |>.grown hg (by simp; omega) (by intro r hr; exact (HO.out.lt r hr).1))
            have HW : Hid (w4.ownsRow w1.heap.size 74 3 (.slice va' (Y ++ [y]).length vc') (Y ++ [y]).length (pc3 (Y ++ [y]))) := Lib.hid (by rw [pc3_snoc, ← HNW.out, List.length_append, List.length_singleton]; exact hown)
            clear hown hg
            go_wp2
            go_roundw
            case rel => exact ⟨k + 1, va', vc', Y ++ [y], by go_num, by omega, by rw [List.length_append, List.length_singleton], Lib.hid (by rw [List.length_append, List.length_singleton, HYk.out]), HYY, HW, HB4⟩
            case measure => simp [intOf]; omega
        · obtain rfl : k = n := by omega
          have hPY : P.map itmP = Y.map some := by have := HY.out; rwa [List.take_of_length_le (by rw [HN.out]; exact Nat.le_refl _)] at this
          have hQY : Q = Y := by rw [HPP.out]; exact filt_some hPY
          subst hQY
          have hall := all_some hPY
          have HRG2 := Lib.hid (HRG.out hall)
          have HRS2 := Lib.hid (HRS.out hall)
          have HPO : Hid (∀ y, y ∈ Q → PrtOk y) := Lib.hid (fun y hy => by
            have : some y ∈ Q.map some := List.mem_map_of_mem hy
            rw [← hPY] at this
            obtain ⟨p, _, hp⟩ := List.mem_map.1 this
            exact itm_ok hp)
          have HQ := Lib.hid (SlP.of_own HO.out)
          have HBA := Lib.hid (below_tr HB1.out HBr.out)
          have hYk := HYk.out
          subst hYk
          clear HY hPY hall HRG HRS HFM HML HPP HS HO HBr HB1 HYk HN hk hlt HT
          go_wp2
          clear hem d1
          obtain ⟨W2, hW2⟩ : ∃ V, wr = V := ⟨_, rfl⟩
          rw [hW2] at HQ HBA ⊢
          clear hW2
          go_loopw [46] (fun i wr => ∃ (k : Nat), i = .int .i64 (k : Int) ∧ k ≤ Q.length ∧ Hid (∀ j (hj : j < Q.length), j < k → Q[j].2.1 ≤ 9999) ∧ Hid (Below W2.heap.size W2 wr)) (fun i _ => Q.length - (intOf i).toNat)
          case atStart => exact ⟨0, rfl, Nat.zero_le _, Lib.hid (fun j _ hj => absurd hj (Nat.not_lt_zero _)), Lib.hid (Below.refl _ _)⟩
          case round =>
            obtain ⟨k, rfl, hk, HA, HBr⟩ := hrel
            by_cases hlt : k < Q.length
            · obtain ⟨b, o, rfl, g0, g1, g2⟩ := (HQ.out.below HBr.out) k hlt
              have hbig := @capN_big Q[k].2.1
              have hbl := World.block_lt_of_cell? _ _ g0
              dsimp only at hbl
              obtain ⟨l, hl⟩ : ∃ l, capN Q[k].2.1 = l := ⟨_, rfl⟩
              obtain ⟨f, hf⟩ : ∃ l, capN Q[k].1 = l := ⟨_, rfl⟩
              obtain ⟨c, hc⟩ : ∃ l, capN Q[k].2.2 = l := ⟨_, rfl⟩
              rw [hl] at g1 hbig
              rw [hf] at g0
              rw [hc] at g2
              clear hf hc hl
              by_cases h9 : 9999 < l
              · have d9 : decide (9999 < l) = true := decide_eq_true h9
                have hE := HRG2.out Q[k] (List.getElem_mem hlt) (hbig.1 h9)
                subst hE
                have hR := HBD.out (by decide)
                subst hR
                clear hbig HRG2 HRS2 HBD HOK
                go_wp2
                go_ret2
                exact PlC.none (below_tr HBA.out ((HBr.out).alloc HBr.out.size _))
              · have d9 : decide (9999 < l) = false := decide_eq_false h9
                have HA2 : Hid (∀ j (hj : j < Q.length), j < k + 1 → Q[j].2.1 ≤ 9999) := Lib.hid (fun j hj h => by
                  by_cases e : j = k
                  · subst e; have := fun x => h9 (hbig.2 x); omega
                  · exact HA.out j hj (by omega))
                clear hbig
                go_wp2
                go_roundw
                case rel => exact ⟨k + 1, by go_num, by omega, HA2, Lib.hid ((HBr.out).alloc HBr.out.size _)⟩
                case measure => simp [intOf]; omega
            · obtain rfl : k = Q.length := by omega
              have HL9 : Hid (∀ y, y ∈ Q → y.2.1 ≤ 9999) := Lib.hid (fun y hy => by
                obtain ⟨j, hj, rfl⟩ := List.mem_iff_getElem.1 hy
                exact HA.out j hj hj)
              have HE : Hid (E = if 500 < sumP Q then 3 else 0) := Lib.hid (HRS2.out (fun x hx => by have := HL9.out x hx; omega))
              have HBC := Lib.hid (below_tr HBA.out HBr.out)
              have HQC := Lib.hid (HQ.out.below HBr.out)
              clear HA HBr HBA HQ HRG2 HRS2 hk hlt
              go_wp2
              obtain ⟨W3, hW3⟩ : ∃ V, wr = V := ⟨_, rfl⟩
              rw [hW3] at HQC HBC ⊢
              clear hW3
              go_loopw [9, 56] (fun m i wr => ∃ (k : Nat), i = .int .i64 (k : Int) ∧ k ≤ Q.length ∧ m = .int .i64 ((sumP (Q.take k) : Nat) : Int) ∧ sumP (Q.take k) ≤ 500 ∧ Hid (Below W3.heap.size W3 wr)) (fun _ i _ => Q.length - (intOf i).toNat)
              case atStart => exact ⟨0, rfl, Nat.zero_le _, rfl, Nat.zero_le _, Lib.hid (Below.refl _ _)⟩
              case round =>
                obtain ⟨k, rfl, hk, rfl, hm, HBr⟩ := hrel
                by_cases hlt : k < Q.length
                · obtain ⟨b, o, rfl, g0, g1, g2⟩ := (HQC.out.below HBr.out) k hlt
                  have hmu := many_up hlt
                  have hml := many_le (Y := Q) (k + 1)
                  have hbl := World.block_lt_of_cell? _ _ g0
                  dsimp only at hbl
                  have hle := HL9.out _ (List.getElem_mem hlt)
                  obtain ⟨p1, p2, _⟩ := HPO.out _ (List.getElem_mem hlt)
                  rw [capN_le hle] at g1
                  rw [capN_le (by omega)] at g0
                  have hmin : ∃ z : Nat, min (capN Q[k].2.2) 501 = (z : Int) ∧ z = min Q[k].2.2 501 := ⟨min Q[k].2.2 501, capN_min _, rfl⟩
                  obtain ⟨z, hz, hzm⟩ := hmin
                  have hpr : ∃ q : Nat, (z : Int) * ((Q[k].2.1 : Int) - (Q[k].1 : Int) + 1) = (q : Int) ∧ q ≤ 5010000 ∧ (500 < sumP (Q.take k) + q ↔ 500 < sumP (Q.take (k + 1))) ∧ (¬ 500 < sumP (Q.take (k + 1)) → sumP (Q.take (k + 1)) = sumP (Q.take k) + q) := by
                    refine ⟨z * (Q[k].2.1 + 1 - Q[k].1), ?_, ?_, ?_, ?_⟩
                    · rw [show (Q[k].2.1 : Int) - (Q[k].1 : Int) + 1 = ((Q[k].2.1 + 1 - Q[k].1 : Nat) : Int) by omega]
                      push_cast; rfl
                    · exact Nat.mul_le_mul (show z ≤ 501 by omega) (show Q[k].2.1 + 1 - Q[k].1 ≤ 10000 by omega)
                    · rw [hmu]
                      unfold prtN
                      rcases Nat.lt_or_ge 501 Q[k].2.2 with h | h
                      · have e1 : z = 501 := by omega
                        have e2 := Nat.mul_le_mul (show 501 ≤ Q[k].2.2 by omega) (show 1 ≤ Q[k].2.1 + 1 - Q[k].1 by omega)
                        have e3 := Nat.mul_le_mul (show 501 ≤ z by omega) (show 1 ≤ Q[k].2.1 + 1 - Q[k].1 by omega)
                        constructor <;> intro _ <;> omega
                      · rw [show z = Q[k].2.2 by omega]
                    · rw [hmu]
                      unfold prtN
                      intro hn
                      rcases Nat.lt_or_ge 501 Q[k].2.2 with h | h
                      · have e2 := Nat.mul_le_mul (show 501 ≤ Q[k].2.2 by omega) (show 1 ≤ Q[k].2.1 + 1 - Q[k].1 by omega)
                        omega
                      · rw [show z = Q[k].2.2 by omega]
                  obtain ⟨q, hq, hq1, hq2, hq3⟩ := hpr
                  obtain ⟨M, hM⟩ : ∃ M, sumP (Q.take k) = M := ⟨_, rfl⟩
                  obtain ⟨M', hM'⟩ : ∃ M, sumP (Q.take (k + 1)) = M := ⟨_, rfl⟩
                  rw [hM] at hm hq2 hq3 ⊢
                  rw [hM'] at hq2 hq3 hml
                  obtain ⟨l, hl⟩ : ∃ l, Q[k].2.1 = l := ⟨_, rfl⟩
                  obtain ⟨f, hf⟩ : ∃ l, Q[k].1 = l := ⟨_, rfl⟩
                  obtain ⟨c, hc⟩ : ∃ l, capN Q[k].2.2 = l := ⟨_, rfl⟩
                  rw [hl] at g1 hq p1 hle
                  rw [hf] at g0 hq p1
                  rw [hc] at g2 hz
                  have HMM := Lib.hid hM'
                  have hwq : wrap64 (min c 501 * ((l : Int) - (f : Int) + 1)) = (q : Int) := by rw [hz, hq]; exact IntWalk.wrap64_in _ (by omega)
                  clear hf hc hl hmu p2 hzm hM hM'
                  by_cases h5 : 500 < M'
                  · have d5 : decide ((500 : Int) < (M : Int) + (q : Int)) = true := decide_eq_true (by have := hq2.2 h5; omega)
                    have hE := HE.out
                    rw [if_pos (by omega)] at hE
                    subst hE
                    have hR := HBD.out (by decide)
                    subst hR
                    clear HE HBD HOK hq2 hq3 h5
                    go_wp2
                    go_ret2
                    exact PlC.none (below_tr HBC.out ((HBr.out).alloc HBr.out.size _))
                  · have d5 : decide ((500 : Int) < (M : Int) + (q : Int)) = false := decide_eq_false (by have := fun h => h5 (hq2.1 h); omega)
                    have h6 := hq3 h5
                    have HX : Hid (((sumP (Q.take (k + 1)) : Nat) : Int) = (M : Int) + (q : Int)) := Lib.hid (by rw [HMM.out, h6]; omega)
                    have HX5 : Hid (sumP (Q.take (k + 1)) ≤ 500) := Lib.hid (by rw [HMM.out]; omega)
                    clear hq2 hq3 h5 h6
                    go_wp2
                    go_roundw
                    case rel => exact ⟨k + 1, by go_num, by omega, by rw [HX.out], HX5.out, Lib.hid ((HBr.out).alloc HBr.out.size _)⟩
                    case measure => simp [intOf]; omega
                · obtain rfl : k = Q.length := by omega
                  rw [List.take_length] at hm
                  have hE := HE.out
                  rw [if_neg (by omega)] at hE
                  have HR := Lib.hid (HOK.out hE)
                  subst hE
                  have HBD2 := Lib.hid (below_tr HBC.out HBr.out)
                  have HQD := Lib.hid (HQC.out.below HBr.out)
                  have HSM := Lib.hid hm
                  obtain ⟨M0, hM0⟩ : ∃ M, sumP (Q.take Q.length) = M := ⟨_, rfl⟩
                  rw [hM0]
                  clear HE HBD HOK HBC HQC HBr hk hlt hm hM0
                  go_wp2
                  obtain ⟨i1, hi1, hy0, hy1, hy2⟩ := info_parts info_int
                  obtain ⟨W4, hW4⟩ : ∃ V, wr = V := ⟨_, rfl⟩
                  rw [hW4] at HQD HBD2 ⊢
                  clear hW4
                  go_loopw [14, 77] (fun o i wr => ∃ (k : Nat) (va : Option Addr) (vc : Nat) (I : List Nat), i = .int .i64 (k : Int) ∧ k ≤ Q.length ∧ o = .slice va I.length vc ∧ Hid (I = (Q.take k).flatMap prtL) ∧ Hid (wr.ownsRow W4.heap.size 3 1 (.slice va I.length vc) I.length ((ints I).map (Value.int .i64))) ∧ Hid (Below W4.heap.size W4 wr)) (fun _ i _ => Q.length - (intOf i).toNat)
                  case atStart => exact ⟨0, none, 0, [], rfl, Nat.zero_le _, rfl, Lib.hid rfl, Lib.hid (World.ownsRow_nil _ _ _ _), Lib.hid (Below.refl _ _)⟩
                  case round =>
                    obtain ⟨k, va, vc, I, rfl, hk, rfl, HI, HO, HBr⟩ := hrel
                    by_cases hlt : k < Q.length
                    · obtain ⟨b, o, rfl, g0, g1, g2⟩ := (HQD.out.below HBr.out) k hlt
                      have hmu := many_up hlt
                      have hml := many_le (Y := Q) (k + 1)
                      have hbl := World.block_lt_of_cell? _ _ g0
                      dsimp only at hbl
                      have hle := HL9.out _ (List.getElem_mem hlt)
                      obtain ⟨p1, p2, _⟩ := HPO.out _ (List.getElem_mem hlt)
                      have hsz := HSM.out
                      have hpn : prtN Q[k] = Q[k].2.2 * (Q[k].2.1 + 1 - Q[k].1) := rfl
                      have hcl : Q[k].2.2 ≤ prtN Q[k] := by
                        rw [hpn]
                        have := Nat.mul_le_mul (Nat.le_refl Q[k].2.2) (show 1 ≤ Q[k].2.1 + 1 - Q[k].1 by omega)
                        omega
                      rw [capN_le hle] at g1
                      rw [capN_le (by omega)] at g0
                      rw [capN_le (by omega)] at g2
                      have hIl : I.length = sumP (Q.take k) := by rw [HI.out, sumP_len]
                      have hnx : (Q.take (k + 1)).flatMap prtL = I ++ prtL Q[k] := by
                        rw [take_snoc (List.getElem?_eq_getElem hlt), List.flatMap_append, ← HI.out]; simp
                      have hpl : prtL Q[k] = (List.replicate Q[k].2.2 (List.range' Q[k].1 (Q[k].2.1 + 1 - Q[k].1))).flatten := rfl
                      rw [hpl] at hnx
                      rw [hpn] at hmu hcl
                      obtain ⟨l, hl⟩ : ∃ l, Q[k].2.1 = l := ⟨_, rfl⟩
                      obtain ⟨f, hf⟩ : ∃ l, Q[k].1 = l := ⟨_, rfl⟩
                      obtain ⟨c, hc⟩ : ∃ l, Q[k].2.2 = l := ⟨_, rfl⟩
                      rw [hl] at g1 p1 hle hmu hnx hcl
                      rw [hf] at g0 p1 hmu hnx hcl
                      rw [hc] at g2 p2 hmu hnx hcl
                      have HNX := Lib.hid hnx
                      have HLN : Hid (I.length + c * (l + 1 - f) ≤ 500) := Lib.hid (by omega)
                      have hc5 : c ≤ 500 := by omega
                      have HX := Lib.hid (heap_alloc_new wr (.cells #[.int .i64 (f : Int), .int .i64 (l : Int), .int .i64 (c : Int)] 74))
                      have HOa := Lib.hid (HO.out.alloc (.cells #[.int .i64 (f : Int), .int .i64 (l : Int), .int .i64 (c : Int)] 74))
                      have HBa := Lib.hid ((HBr.out).alloc HBr.out.size (.cells #[.int .i64 (f : Int), .int .i64 (l : Int), .int .i64 (c : Int)] 74))
                      have hgx := HBr.out.size
                      clear hf hc hl hmu hml hnx hpl hpn hsz hcl hIl HO HBr HI
                      go_wp2
                      obtain ⟨W5, hW5⟩ : ∃ V, wr.alloc (.cells #[.int .i64 (f : Int), .int .i64 (l : Int), .int .i64 (c : Int)] 74) = V := ⟨_, rfl⟩
                      obtain ⟨gx, hgd⟩ : ∃ g, wr.heap.size = g := ⟨_, rfl⟩
                      rw [hW5, hgd] at HX
                      rw [hW5] at HOa HBa ⊢
                      rw [hgd] at hgx ⊢
                      clear hW5 hgd g0 g1 g2 hbl
                      go_loopw [14, 83] (fun o i wr => ∃ (r : Nat) (va : Option Addr) (vc : Nat) (J : List Nat), i = .int .i64 (r : Int) ∧ r ≤ c ∧ o = .slice va J.length vc ∧ Hid (J = I ++ (List.replicate r (List.range' f (l + 1 - f))).flatten) ∧ Hid (wr.ownsRow W4.heap.size 3 1 (.slice va J.length vc) J.length ((ints J).map (Value.int .i64))) ∧ Hid (Below W4.heap.size W4 wr) ∧ Hid (wr.heap[gx]? = some (.cells #[.int .i64 (f : Int), .int .i64 (l : Int), .int .i64 (c : Int)] 74 (0, 0)))) (fun _ i _ => c - (intOf i).toNat)
                      case atStart => exact ⟨0, va, vc, I, rfl, Nat.zero_le _, rfl, Lib.hid (by simp), HOa, HBa, HX⟩
                      case round =>
                        obtain ⟨r, va, vc, J, rfl, hr, rfl, HJ, HO, HBr, HXr⟩ := hrel
                        by_cases hlr : r < c
                        · have x0 : wr.cell? ⟨gx, 0, none⟩ = some (.int .i64 (f : Int)) := by rw [cell_of_block HXr.out]; rfl
                          have HJL : Hid (J.length + (l + 1 - f) ≤ 500) := Lib.hid (by
                            have h1 := HLN.out
                            have h2 := Nat.mul_le_mul (show r + 1 ≤ c by omega) (Nat.le_refl (l + 1 - f))
                            rw [Nat.add_mul] at h2
                            rw [HJ.out]
                            simp
                            omega)
                          have HJN : Hid (J ++ List.range' f (l + 1 - f) = I ++ (List.replicate (r + 1) (List.range' f (l + 1 - f))).flatten) := Lib.hid (by rw [rep_more, HJ.out, List.append_assoc])
                          clear HJ
                          go_wp2
                          go_loopw [14, 17] (fun o i wr => ∃ (n : Nat) (va : Option Addr) (vc : Nat) (K : List Nat), i = .int .i64 (n : Int) ∧ f ≤ n ∧ n ≤ l + 1 ∧ o = .slice va K.length vc ∧ Hid (K = J ++ List.range' f (n - f)) ∧ Hid (wr.ownsRow W4.heap.size 3 1 (.slice va K.length vc) K.length ((ints K).map (Value.int .i64))) ∧ Hid (Below W4.heap.size W4 wr) ∧ Hid (wr.heap[gx]? = some (.cells #[.int .i64 (f : Int), .int .i64 (l : Int), .int .i64 (c : Int)] 74 (0, 0)))) (fun _ i _ => l + 1 - (intOf i).toNat)
                          case atStart => exact ⟨f, va, vc, J, rfl, Nat.le_refl _, by omega, rfl, Lib.hid (by simp), HO, HBr, HXr⟩
                          case round =>
                            obtain ⟨n, va, vc, K, rfl, hfn, hnl, rfl, HK, HO, HBr, HXr⟩ := hrel
                            have x1 : wr.cell? ⟨gx, 1, none⟩ = some (.int .i64 (l : Int)) := by rw [cell_of_block HXr.out]; rfl
                            by_cases hln : n ≤ l
                            · have d1 : decide ((n : Int) ≤ (l : Int)) = true := decide_eq_true (by omega)
                              have hKl : K.length + 1 ≤ 500 := by
                                have h1 := HJL.out
                                rw [HK.out]
                                simp
                                omega
                              have HKN : Hid (K ++ [n] = J ++ List.range' f (n + 1 - f)) := Lib.hid (by rw [rg_more f n hfn, HK.out, List.append_assoc])
                              have hsz := HBr.out.size
                              clear HK
                              go_wp2_with (at_builtin; refine wpList_append_own _ rfl (.tmp 93) (.tmp 95) 39 rfl W4.heap.size 3 i1 (.int .i64 0) 1 8 Tryd.underlying39 hi1 hy0 hy1 hy2 rfl (by decide) _ _ _ rfl (HO.out.alloc _) ⟨wr.heap.size, 0, none⟩ 1 1 [.int .i64 (n : Int)] rfl rfl ?c1 ?c2 ?c3 ?c4 ?c5 ?_)
                              case c1 => intro j q hq; match j with | 0 => (simp at hq; subst hq; simp [go_sem]) | j + 1 => simp at hq
                              case c2 => intro q hq; simp at hq; subst hq; rfl
                              case c3 => unfold maxLen; omega
                              case c4 => omega
                              case c5 => simp; omega
                              intro v' w6 hown hg _
                              obtain ⟨va', vc', rfl⟩ := own_slice hown
                              have HB6 := Lib.hid ((HBr.out.alloc hsz (.cells #[.int .i64 (n : Int)] 3)).grown hg (by simp; omega) (by intro r hr; exact (HO.out.lt r hr).1))
                              have hxa := (Below.heap_alloc wr (.cells #[.int .i64 (n : Int)] 3) _ (blk_lt HXr.out)).trans HXr.out
                              have HX6 := Lib.hid ((hg.block _ (blk_lt hxa) (fun e => own_neT (HO.out.alloc _) hxa (by decide) e.symm)).trans hxa)
                              have HW : Hid (w6.ownsRow W4.heap.size 3 1 (.slice va' (K ++ [n]).length vc') (K ++ [n]).length ((ints (K ++ [n])).map (Value.int .i64))) := Lib.hid (by rw [ints_snoc, List.length_append, List.length_singleton]; exact hown)
                              clear hown hg hxa
                              go_wp2
                              go_roundw
                              case rel => exact ⟨n + 1, va', vc', K ++ [n], by go_num, by omega, by omega, by rw [List.length_append, List.length_singleton], HKN, HW, HB6, HX6⟩
                              case measure => simp [intOf]; omega
                            · obtain rfl : n = l + 1 := by omega
                              have d1 : decide (((l + 1 : Nat) : Int) ≤ (l : Int)) = false := decide_eq_false (by omega)
                              have HJK : Hid (K = I ++ (List.replicate (r + 1) (List.range' f (l + 1 - f))).flatten) := Lib.hid (HK.out.trans HJN.out)
                              clear HK
                              go_wp2
                              go_roundw
                              case rel => exact ⟨r + 1, va, vc, K, by go_num, by omega, rfl, HJK, HO, HBr, HXr⟩
                              case measure => simp [intOf]; omega
                        · obtain rfl : r = c := by omega
                          have HIN : Hid (J = (Q.take (k + 1)).flatMap prtL) := Lib.hid (HJ.out.trans HNX.out.symm)
                          clear HJ
                          go_wp2
                          go_roundw
                          case rel => exact ⟨k + 1, va, vc, J, by go_num, by omega, rfl, HIN, HO, HBr⟩
                          case measure => simp [intOf]; omega
                    · obtain rfl : k = Q.length := by omega
                      have hIR : I = R := by rw [HI.out, List.take_length, HR.out]
                      subst hIR
                      clear HI HR
                      go_wp2
                      go_ret2
                      exact ⟨va, vc, rfl, ints_own HO.out, below_tr HBD2.out HBr.out, own_capL HO.out⟩
end Go.Proofs.YtkklmljannclmaaDoor

namespace Go.Proofs.YtkklmljannclmaaDoor
open Go.RowKit Go.Sort Go.Joins Go.Shelf
attribute [local go_sem] cell_grow frozen_grow size_grow

/-- what holds of a text that is read -/
theorem pl_facts {s : List UInt8} (h : plE s = 0) : (∀ x, x ∈ plL s → x ≤ 9999) ∧ (plL s).length ≤ 500 := by
  by_cases h0 : s = []
  · subst h0
    have e : plL [] = [] := by unfold plL; rw [if_neg (fun k => k.2 rfl)]
    rw [e]; exact ⟨by simp, by simp⟩
  · obtain ⟨_, h2, h3, h4⟩ := pl_good h h0
    rw [plL_ok h h0]
    refine ⟨fun x hx => ?_, by rw [sumP_len]; omega⟩
    obtain ⟨y, hy, hx⟩ := List.mem_flatMap.1 hx
    have h5 := h3 y hy
    unfold prtL at hx
    obtain ⟨l, hl, hx⟩ := List.mem_flatten.1 hx
    rw [List.eq_of_mem_replicate hl, List.mem_range'] at hx
    obtain ⟨i, hi, rfl⟩ := hx
    omega
theorem nats_ints (N : List Nat) : nats (ints N) = N := by
  unfold nats ints
  rw [List.map_map]
  conv => rhs; rw [← List.map_id N]
  exact List.map_congr_left fun x _ => by simp
theorem lst_pl {s : List UInt8} (h : plE s = 0) : lstE (ints (plL s)) = 0 ∧ lstL (ints (plL s)) = bestS (plL s) ∧ plE (bestS (plL s)) = 0 ∧ plL (bestS (plL s)) = plL s ∧ ltS s (bestS (plL s)) = false := by
  obtain ⟨h1, h2⟩ := pl_facts h
  have ha : (ints (plL s)).any lsBad = false := by
    rw [List.any_eq_false]
    intro x hx
    unfold ints at hx
    obtain ⟨y, hy, rfl⟩ := List.mem_map.1 hx
    have := h1 y hy
    unfold lsBad
    rw [decide_eq_false (by omega), decide_eq_false (by omega)]; simp
  have hE : lstE (ints (plL s)) = 0 := by unfold lstE; rw [if_neg (by rw [ints_len]; omega), ha]; rfl
  obtain ⟨p1, p2⟩ := pl_best h1 h2
  refine ⟨hE, by unfold lstL; rw [if_pos hE, nats_ints], p1, p2, ?_⟩
  by_cases h0 : s = []
  · subst h0
    have e : plL [] = [] := by unfold plL; rw [if_neg (fun k => k.2 rfl)]
    rw [e]; exact ltS_irr []
  · have hb := best_least (pl_tc h h0)
    by_cases hN : plL s = []
    · exfalso
      have ht := pl_tc h h0
      rw [hN] at ht
      generalize hg : s ++ [44] = t at ht
      cases ht with
      | nil => simp at hg
      | cons h k => cases h
    · rw [bestC_S hN, ltS_last] at hb
      exact hb
theorem pl_err (s : List UInt8) : plE s = 0 ∨ plE s ≠ 0 ∧ plL s = [] := by
  by_cases h : plE s = 0
  · exact .inl h
  · exact .inr ⟨h, plL_bad h⟩
theorem bestS_len {N : List Nat} (h : ∀ x, x ∈ N → x ≤ 9999) (hn : N.length ≤ 500) : (bestS N).length ≤ 2500 := by
  have := best_len N h
  unfold bestS
  rw [List.length_dropLast]; omega
set_option maxRecDepth 100000 in
set_option maxHeartbeats 1600000 in
theorem law_least (s : ByteArray) (w : World) (hT : T1 w) : Calls Tryd.prog 5 #[.string s] w fun e w' => e = .returned (.bool true) ∧ Below w.heap.size w w' := by
  have HT := Lib.hid hT
  clear hT
  by_cases hs : 3000 < s.size
  · have d1 : decide ((3000 : Int) < (s.size : Int)) = true := decide_eq_true (by omega)
    go_enter Tryd.func5, Tryd.ntmps5
    go_wp2_with fail
    refine (shown_ok _ HT.out).mono ?_
    rintro e w1 ⟨rfl, b1⟩
    have HB := Lib.hid b1
    clear b1
    go_wp2
    go_ret
    exact ⟨rfl, HB.out⟩
  · have d1 : decide ((3000 : Int) < (s.size : Int)) = false := decide_eq_false (by omega)
    have HSZ : Hid (s.size ≤ 3000) := Lib.hid (by omega)
    have hway := pl_err s.data.toList
    have HF := Lib.hid (fun h => lst_pl (s := s.data.toList) h)
    have HG := Lib.hid (fun h => pl_facts (s := s.data.toList) h)
    clear hs
    go_enter Tryd.func5, Tryd.ntmps5
    go_wp2_with fail
    refine (wparse_c s _ rfl (by have := HSZ.out; omega) _ HT.out.ml HT.out.tw).mono ?_
    rintro e w1 ⟨a1, c1, rfl, s1, b1, hc1⟩
    have HB1 := Lib.hid b1
    have HS1 := Lib.hid s1
    clear b1 s1
    obtain ⟨L, hL⟩ : ∃ L, s.data.toList = L := ⟨_, rfl⟩
    rw [hL] at hway HF HG HS1 hc1 ⊢
    have HL := Lib.hid hL
    obtain ⟨E, hE⟩ : ∃ E, plE L = E := ⟨_, rfl⟩
    rw [hE] at hway HF HG ⊢
    obtain ⟨N, hN⟩ : ∃ N, plL L = N := ⟨_, rfl⟩
    rw [hN] at hway HF HG HS1 hc1 ⊢
    clear hL hE hN
    rcases hway with rfl | ⟨h0, rfl⟩
    · obtain ⟨f1, f2, f3, f4, f5⟩ := HF.out rfl
      obtain ⟨g1, g2⟩ := HG.out rfl
      have HLI := Lib.hid (fun W (h : SlN W a1 (ints N)) hT => wlist_ok (ints N) a1 c1 W h (by rw [ints_len]; exact hc1) hT (by rw [ints_len]; omega))
      have HII := Lib.hid (fun W a c (h : SlN W a (ints N)) (h1 : SlN W a1 (ints N)) => ints_okL a1 a c1 c (ints N) (ints N) W h1 h (by rw [ints_len]; omega))
      rw [f1, f2, ints_len] at HLI
      rw [decide_eq_true rfl, ints_len] at HII
      have hbl := bestS_len g1 g2
      obtain ⟨n, hn⟩ : ∃ n, N.length = n := ⟨_, rfl⟩
      have HN := Lib.hid hn
      rw [hn] at HLI HII ⊢
      obtain ⟨B, hB⟩ : ∃ B, bestS N = B := ⟨_, rfl⟩
      rw [hB] at HLI f3 f4 f5 hbl
      have HP := Lib.hid (fun (S : ByteArray) (h : S.data.toList = B) W hM hT => wparse_c S B h (by have := len_of h; omega) W hM hT)
      rw [f3, f4] at HP
      have H5 := Lib.hid f5
      clear HF HG f1 f2 f3 f4 f5 g1 g2 hc1 hn hB
      go_wp2_with fail
      refine (HLI.out _ HS1.out (HT.out.below HB1.out)).mono ?_
      rintro e w2 ⟨S2, rfl, h2, b2⟩
      have HB2 := Lib.hid (HB1.out.trans (b2.mono HB1.out.size))
      have HS2 := Lib.hid (HS1.out.below b2)
      have H2 := Lib.hid h2
      clear b2 h2 HB1 HS1
      go_wp2_with fail
      refine (HP.out S2 H2.out _ (HT.out.below HB2.out).ml (HT.out.below HB2.out).tw).mono ?_
      rintro e w3 ⟨a3, c3, rfl, s3, b3, -⟩
      rw [HN.out]
      have HB3 := Lib.hid (HB2.out.trans (b3.mono HB2.out.size))
      have HS3 := Lib.hid (HS2.out.below b3)
      have HT3 := Lib.hid s3
      clear b3 s3 HB2 HS2
      go_wp2_with fail
      refine (HII.out _ _ _ HT3.out HS3.out).mono ?_
      rintro e w4 ⟨rfl, b4⟩
      have HB4 := Lib.hid (HB3.out.trans (b4.mono HB3.out.size))
      clear b4 HB3 HS3 HT3
      have hl2 := len_of H2.out
      have hls := len_of HL.out
      have HLT : Hid ((decide (S2.size < s.size) || (Op.bytesLess S2.toList s.toList || S2.toList == s.toList)) = true) := Lib.hid (by
        have h5 := H5.out
        by_cases k1 : S2.size < s.size
        · rw [decide_eq_true k1, Bool.true_or]
        · have k2 : S2.size = s.size := by
            rcases Nat.lt_or_ge s.size S2.size with k | k
            · rw [ltS_yes.2 (.inl (by omega))] at h5; cases h5
            · omega
          by_cases k3 : B = L
          · have e : S2.toList = s.toList := by rw [Lib.toList_data, Lib.toList_data, HL.out, H2.out, k3]
            rw [e]; simp
          · have h6 := ltS_tri h5 (fun e => k3 e.symm)
            rcases ltS_yes.1 h6 with k | ⟨_, k⟩
            · omega
            · have e : Op.bytesLess S2.toList s.toList = true := by
                rw [bless_eq, Lib.toList_data, Lib.toList_data, HL.out, H2.out]
                exact decide_eq_true k
              rw [e]; simp)
      have hways : S2.size < s.size ∨ (¬ S2.size < s.size ∧ S2.size = s.size) := by
        have h5 := H5.out
        rcases Nat.lt_or_ge S2.size s.size with k | k
        · exact .inl k
        · right
          refine ⟨by omega, ?_⟩
          rcases Nat.lt_or_ge s.size S2.size with k2 | k2
          · rw [ltS_yes.2 (.inl (by omega))] at h5; cases h5
          · omega
      clear hl2 hls
      rcases hways with k1 | ⟨k1, k2⟩
      · have d2 : decide ((S2.size : Int) < (s.size : Int)) = true := decide_eq_true (by omega)
        have d6 : decide (S2.size < s.size) = true := decide_eq_true k1
        have d7 : (s.size ≤ S2.size) = False := eq_false (by omega)
        go_wp2_with fail
        refine (shown_ok _ (HT.out.below HB4.out)).mono ?_
        rintro e w7 ⟨rfl, b7⟩
        have HB7 := Lib.hid (HB4.out.trans (b7.mono HB4.out.size))
        clear b7
        go_wp2
        go_ret
        exact ⟨rfl, HB7.out⟩
      · have d2 : decide ((S2.size : Int) < (s.size : Int)) = false := decide_eq_false (by omega)
        have d3 : ((S2.size : Int) = (s.size : Int)) = True := eq_true (by omega)
        have d6 : decide (S2.size < s.size) = false := decide_eq_false k1
        have d8 : (Op.bytesLess S2.toList s.toList = true ∨ S2.toList = s.toList) = True := eq_true (by
          have h := HLT.out
          rw [d6, Bool.false_or, Bool.or_eq_true, beq_iff_eq] at h
          exact h)
        have HV : Hid (((S2.size : Int) == (s.size : Int) && (Op.bytesLess S2.toList s.toList || S2.toList == s.toList)) = true) := Lib.hid (by
          have h := HLT.out
          rw [d6, Bool.false_or] at h
          rw [beq_iff_eq.2 (show (S2.size : Int) = (s.size : Int) by omega), h]; rfl)
        clear k2
        go_wp2_with fail
        refine (shown_ok _ (HT.out.below HB4.out)).mono ?_
        rintro e w7 ⟨rfl, b7⟩
        have HB7 := Lib.hid (HB4.out.trans (b7.mono HB4.out.size))
        clear b7
        go_wp2
        go_ret
        exact ⟨ret_bool HV.out, HB7.out⟩
    · have q1 : (E != 0) = true := by simpa using h0
      clear HF HG h0
      go_wp2_with fail
      refine (shown_ok _ (HT.out.below HB1.out)).mono ?_
      rintro e w7 ⟨rfl, b7⟩
      have HB7 := Lib.hid (HB1.out.trans (b7.mono HB1.out.size))
      clear b7
      go_wp2
      go_ret
      exact ⟨rfl, HB7.out⟩
end Go.Proofs.YtkklmljannclmaaDoor
