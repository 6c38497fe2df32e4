/- Words: a list of numbers is read, by the program. | Words: texts of the reference: the item of just these numbers. | Words: the items that may begin at a list's first number, one by one, by the program. -/
import Derived.Test.YthmknaoelmeniaaGreatDoorWYZ5
import Derived.Test.YthmknaoelmeniaaGreatDoorWYZ7
import Derived.Test.YthmknaoelmeniaaGreatDoorWYZ2
import Derived.Test.YthmknaoelmeniaaGreatDoorWYZ3
import Derived.Test.YthmknaoelmeniaaGreatDoorWYZ1
import Derived.Lib.ItoaMem
import Derived.Sort.QuietIn
namespace Go.Proofs.YthmknaoelmeniaaGreatDoor
open Go.RowKit Go.Sort Go.Joins Go.Shelf
attribute [local go_sem] cell_grow frozen_grow size_grow

def ints (N : List Nat) : List Int := N.map fun n : Nat => (n : Int)
/-- what ParseList hands back -/
def PlPost (w : World) (N : List Nat) (E : Int) (x : Ending) (w' : World) : Prop :=
  ∃ a c, x = .returned (.tuple #[.slice a N.length c, .int .i64 E]) ∧ SlN w' a (ints N) ∧ Below w.heap.size w w'
theorem PlPost.none {w w' : World} {E : Int} (h : Below w.heap.size w w') : PlPost w [] E (.returned (.tuple #[.slice none 0 0, .int .i64 E])) w' := ⟨_, _, rfl, .inl rfl, h⟩
theorem spl_size (c : UInt8) : ∀ {l p : List UInt8}, p ∈ spl c l → p.length ≤ l.length
  | [], p, h => by rw [spl_nil, List.mem_singleton] at h; rw [h]; exact Nat.le_refl _
  | x :: r, p, h => by
    by_cases hx : x = c
    · subst hx
      rw [spl_hit] at h
      rcases List.mem_cons.1 h with rfl | h
      · exact Nat.zero_le _
      · have := spl_size _ h; rw [List.length_cons]; omega
    · rw [spl_miss hx] at h
      rcases List.mem_cons.1 h with rfl | h
      · rw [List.length_cons, List.length_cons]
        have hne := spl_ne c r
        cases hs : spl c r with
        | nil => exact absurd hs hne
        | cons a t =>
          have := spl_size c (show a ∈ spl c r by rw [hs]; simp)
          show a.length + 1 ≤ _
          omega
      · have := spl_size c (List.mem_of_mem_tail h); rw [List.length_cons]; omega
theorem filt_some : ∀ {P : List (List UInt8)} {Y : List Prt}, P.map itmP = Y.map some → P.filterMap itmP = Y
  | [], [], _ => rfl
  | [], y :: Y, h => by cases h
  | p :: P, [], h => by cases h
  | p :: P, y :: Y, h => by
    rw [List.map_cons, List.map_cons] at h
    injection h with h1 h2
    rw [List.filterMap_cons, h1, filt_some h2]
theorem all_some {P : List (List UInt8)} {Y : List Prt} (h : P.map itmP = Y.map some) : ∀ p, p ∈ P → itmP p ≠ none := by
  intro p hp hn
  have : itmP p ∈ P.map itmP := List.mem_map_of_mem hp
  rw [h, hn] at this
  simp at this
theorem ints_len (N : List Nat) : (ints N).length = N.length := by unfold ints; exact List.length_map _
theorem ints_snoc (N : List Nat) (x : Nat) : (ints (N ++ [x])).map (Value.int .i64) = (ints N).map (Value.int .i64) ++ [.int .i64 (x : Int)] := by simp [ints]
theorem ints_own {w : World} {base len cap : Nat} {e : TypeId} {a : Option Addr} {N : List Nat} (h : w.ownsRow base e 1 (.slice a len cap) N.length ((ints N).map (Value.int .i64))) : SlN w a (ints N) := by
  refine SlN.of_own (len := len) (cap := cap) (base := base) (e := e) ?_
  rw [ints_len]; exact h
theorem rep_more (r : Nat) (l : List Nat) : (List.replicate (r + 1) l).flatten = (List.replicate r l).flatten ++ l := by
  rw [List.replicate_succ', List.flatten_append]; simp
theorem rg_more (f n : Nat) (h : f ≤ n) : List.range' f (n + 1 - f) = List.range' f (n - f) ++ [n] := by
  rw [show n + 1 - f = (n - f) + 1 by omega, List.range'_1_concat, show f + (n - f) = n by omega]
set_option maxRecDepth 100000 in
set_option maxHeartbeats 6400000 in
theorem wparse_ok (s : ByteArray) (L : List UInt8) (hL : s.data.toList = L) (hs : s.size ≤ 4611686018427387904) (w : World) (hM : ML w) (hT : TW w) :
    Calls Tryz.prog 7 #[.string s] w (PlPost w (plL L) (plE L)) := by
  have hlen := len_of hL
  by_cases h1 : 2500 < s.size
  · have d1 : decide ((2500 : Int) < (s.size : Int)) = true := decide_eq_true (by omega)
    have hE := plE_long (s := L) (by omega)
    rw [plL_bad (by rw [hE]; decide), hE]
    clear hL hM hT hE
    go_enter Tryz.func7, Tryz.ntmps7
    go_wp2_with fail
    go_ret2
    exact PlPost.none (Below.refl _ _)
  · have d1 : decide ((2500 : Int) < (s.size : Int)) = false := decide_eq_false (by omega)
    have hem := empty_nil hL
    by_cases h0 : L = []
    · rw [decide_eq_true h0] at hem
      have hE : plE L = 0 := by rw [h0]; rfl
      have hN : plL L = [] := by rw [h0]; rfl
      rw [hN, hE]
      clear hL hM hT hE hN
      go_enter Tryz.func7, Tryz.ntmps7
      go_wp2_with fail
      go_ret2
      exact PlPost.none (Below.refl _ _)
    · rw [decide_eq_false h0] at hem
      obtain ⟨i0, hi0, hz0, hz1, hz2⟩ := info_parts info_part
      have HSP := Lib.hid (split_ok s L hL 44 (by omega) w hM)
      have hpl := spl_len 44 L
      have hct : L.count 44 ≤ L.length := List.count_le_length
      have HML := Lib.hid (fun p => @spl_size 44 L p)
      have HFM := Lib.hid (fun p => @plE_form L (by omega) h0 p)
      have HRG := Lib.hid (fun h x => @plE_range L (by omega) h0 h x)
      have HRS := Lib.hid (plE_rest (s := L) (by omega) h0)
      have HOK := Lib.hid (fun h => @plL_ok L h h0)
      have HBD := Lib.hid (@plL_bad L)
      have HPP : Hid (plP L = (spl 44 L).filterMap itmP) := Lib.hid rfl
      obtain ⟨E, hE⟩ : ∃ E, plE L = E := ⟨_, rfl⟩
      obtain ⟨R, hR⟩ : ∃ R, plL L = R := ⟨_, rfl⟩
      obtain ⟨P, hP⟩ : ∃ P, spl 44 L = P := ⟨_, rfl⟩
      obtain ⟨Q, hQ⟩ : ∃ Q, plP L = Q := ⟨_, rfl⟩
      rw [hP] at HSP HML HFM HRG HRS HPP hpl
      rw [hQ] at HRG HRS HOK HPP
      rw [hE] at HFM HRG HRS HOK HBD ⊢
      rw [hR] at HOK HBD ⊢
      obtain ⟨n, hn⟩ : ∃ n, P.length = n := ⟨_, rfl⟩
      rw [hn] at hpl
      have HN := Lib.hid hn
      have HT := Lib.hid hT
      have hnb : n ≤ 2501 := by omega
      clear hE hR hP hQ hL hM hT hn hpl hct h0
      go_enter Tryz.func7, Tryz.ntmps7
      go_wp2_with fail
      refine HSP.out.mono ?_
      rintro e w1 ⟨b, rfl, hS, hb1⟩
      have HS := Lib.hid hS
      have HB1 := Lib.hid hb1
      clear hS hb1 HSP
      rw [HN.out]
      go_wp2
      go_loopw [4, 28] (fun o i wr => ∃ (k : Nat) (va : Option Addr) (vc : Nat) (Y : List Prt), i = .int .i64 (k : Int) ∧ k ≤ n ∧ o = .slice va Y.length vc ∧ Hid (Y.length = k) ∧ Hid ((P.take k).map itmP = Y.map some) ∧ Hid (wr.ownsRow w1.heap.size 61 3 (.slice va Y.length vc) Y.length (pc3 Y)) ∧ Hid (Below w1.heap.size w1 wr)) (fun _ i _ => n - (intOf i).toNat)
      case atStart => exact ⟨0, none, 0, [], rfl, Nat.zero_le _, rfl, Lib.hid rfl, Lib.hid rfl, Lib.hid (World.ownsRow_nil _ _ _ _), Lib.hid (Below.refl _ _)⟩
      case round =>
        obtain ⟨k, va, vc, Y, rfl, hk, rfl, HYk, HY, HO, HBr⟩ := hrel
        by_cases hlt : k < n
        · obtain ⟨b', o', S, e, g0, gS⟩ := (HS.out.below HBr.out).at_ (j := k) (by rw [HN.out]; exact hlt)
          cases e
          rw [Nat.zero_add] at g0
          have hkP : P[k]? = some (P.getD k []) := by rw [List.getD_eq_getElem?_getD, List.getElem?_eq_getElem (by rw [HN.out]; exact hlt)]; rfl
          rw [← gS] at hkP
          have hmem := List.mem_of_getElem? hkP
          have hsz := HML.out _ hmem
          have hsl := len_of (rfl : S.data.toList = S.data.toList)
          obtain ⟨D, hD⟩ : ∃ D, S.data.toList = D := ⟨_, rfl⟩
          rw [hD] at hkP hmem hsz hsl
          have hlt0 := HBr.out.size
          have HRD := Lib.hid (fun W h => read_ok S D hD (by omega) W h)
          have HKP := Lib.hid hkP
          have HME := Lib.hid hmem
          clear hkP hmem gS hD
          go_wp2_with fail
          refine (HRD.out wr (HT.out.below (below_tr HB1.out HBr.out))).mono ?_
          rintro e w3 ⟨f, l, c, rfl, hv, b3⟩
          have HV := Lib.hid hv
          have HB3 := Lib.hid b3
          have HO3 := Lib.hid (own_below HO.out b3)
          clear hv b3
          cases hi : itmP D with
          | none =>
            have hE := HFM.out D HME.out hi
            subst hE
            have hR := HBD.out (by decide)
            subst hR
            simp only [Option.isSome_none]
            clear hi HFM HRG HRS HOK HBD
            go_wp2
            go_ret2
            exact PlPost.none (below_tr HB1.out (below_tr HBr.out ((HB3.out).alloc HB3.out.size _)))
          | some y =>
            obtain ⟨hf, hl, hc⟩ := HV.out y hi
            have HYY : Hid ((P.take (k + 1)).map itmP = (Y ++ [y]).map some) := Lib.hid (by rw [take_snoc HKP.out, List.map_append, HY.out, List.map_append]; simp [hi])
            have HNW : Hid ([Value.int .i64 f, .int .i64 l, .int .i64 c] = [.int .i64 (capN y.1), .int .i64 (capN y.2.1), .int .i64 (capN y.2.2)]) := Lib.hid (by rw [hf, hl, hc])
            simp only [Option.isSome_some]
            clear hi hf hl hc HFM HRG HRS HOK HBD HV HY HKP HME
            go_wp2_with (at_builtin; refine wpList_append_own _ rfl (.tmp 39) (.tmp 41) 58 rfl w1.heap.size 61 i0 (.agg #[.int .i64 0, .int .i64 0, .int .i64 0]) 3 24 Tryz.underlying58 hi0 hz0 hz1 hz2 rfl (by decide) _ _ _ rfl ((HO3.out.alloc _).alloc _) ⟨w3.heap.size + 1, 0, none⟩ 1 1 [.int .i64 f, .int .i64 l, .int .i64 c] rfl rfl ?c1 ?c2 ?c3 ?c4 ?c5 ?_)
            case c1 => intro j q hq; match j with | 0 => (simp at hq; subst hq; simp [go_sem]) | 1 => (simp at hq; subst hq; simp [go_sem]) | 2 => (simp at hq; subst hq; simp [go_sem]) | j + 3 => simp at hq
            case c2 => intro q hq; simp at hq; rcases hq with rfl | rfl | rfl <;> rfl
            case c3 => have := HYk.out; unfold maxLen; omega
            case c4 => have := HYk.out; omega
            case c5 => have := HB3.out.size; simp; omega
            intro v' w4 hown hg _
            obtain ⟨va', vc', rfl⟩ := own_slice hown
            have hs3 := HB3.out.size
            have HB4 := Lib.hid (((below_tr HBr.out HB3.out).alloc (by omega) (.cells #[.int .i64 f, .int .i64 l, .int .i64 c] 61)).alloc (by simp; omega) (.cells #[.int .i64 f, .int .i64 l, .int .i64 c] 61) |>.grown hg (by simp; omega) (by intro r hr; exact (HO.out.lt r hr).1))
            have HW : Hid (w4.ownsRow w1.heap.size 61 3 (.slice va' (Y ++ [y]).length vc') (Y ++ [y]).length (pc3 (Y ++ [y]))) := Lib.hid (by rw [pc3_snoc, ← HNW.out, List.length_append, List.length_singleton]; exact hown)
            clear hown hg
            go_wp2
            go_roundw
            case rel => exact ⟨k + 1, va', vc', Y ++ [y], by go_num, by omega, by rw [List.length_append, List.length_singleton], Lib.hid (by rw [List.length_append, List.length_singleton, HYk.out]), HYY, HW, HB4⟩
            case measure => simp [intOf]; omega
        · obtain rfl : k = n := by omega
          have hPY : P.map itmP = Y.map some := by have := HY.out; rwa [List.take_of_length_le (by rw [HN.out]; exact Nat.le_refl _)] at this
          have hQY : Q = Y := by rw [HPP.out]; exact filt_some hPY
          subst hQY
          have hall := all_some hPY
          have HRG2 := Lib.hid (HRG.out hall)
          have HRS2 := Lib.hid (HRS.out hall)
          have HPO : Hid (∀ y, y ∈ Q → PrtOk y) := Lib.hid (fun y hy => by
            have : some y ∈ Q.map some := List.mem_map_of_mem hy
            rw [← hPY] at this
            obtain ⟨p, _, hp⟩ := List.mem_map.1 this
            exact itm_ok hp)
          have HQ := Lib.hid (SlP.of_own HO.out)
          have HBA := Lib.hid (below_tr HB1.out HBr.out)
          have hYk := HYk.out
          subst hYk
          clear HY hPY hall HRG HRS HFM HML HPP HS HO HBr HB1 HYk HN hk hlt HT
          go_wp2
          clear hem d1
          obtain ⟨W2, hW2⟩ : ∃ V, wr = V := ⟨_, rfl⟩
          rw [hW2] at HQ HBA ⊢
          clear hW2
          go_loopw [46] (fun i wr => ∃ (k : Nat), i = .int .i64 (k : Int) ∧ k ≤ Q.length ∧ Hid (∀ j (hj : j < Q.length), j < k → Q[j].2.1 ≤ 9999) ∧ Hid (Below W2.heap.size W2 wr)) (fun i _ => Q.length - (intOf i).toNat)
          case atStart => exact ⟨0, rfl, Nat.zero_le _, Lib.hid (fun j _ hj => absurd hj (Nat.not_lt_zero _)), Lib.hid (Below.refl _ _)⟩
          case round =>
            obtain ⟨k, rfl, hk, HA, HBr⟩ := hrel
            by_cases hlt : k < Q.length
            · obtain ⟨b, o, rfl, g0, g1, g2⟩ := (HQ.out.below HBr.out) k hlt
              have hbig := @capN_big Q[k].2.1
              have hbl := World.block_lt_of_cell? _ _ g0
              dsimp only at hbl
              obtain ⟨l, hl⟩ : ∃ l, capN Q[k].2.1 = l := ⟨_, rfl⟩
              obtain ⟨f, hf⟩ : ∃ l, capN Q[k].1 = l := ⟨_, rfl⟩
              obtain ⟨c, hc⟩ : ∃ l, capN Q[k].2.2 = l := ⟨_, rfl⟩
              rw [hl] at g1 hbig
              rw [hf] at g0
              rw [hc] at g2
              clear hf hc hl
              by_cases h9 : 9999 < l
              · have d9 : decide (9999 < l) = true := decide_eq_true h9
                have hE := HRG2.out Q[k] (List.getElem_mem hlt) (hbig.1 h9)
                subst hE
                have hR := HBD.out (by decide)
                subst hR
                clear hbig HRG2 HRS2 HBD HOK
                go_wp2
                go_ret2
                exact PlPost.none (below_tr HBA.out ((HBr.out).alloc HBr.out.size _))
              · have d9 : decide (9999 < l) = false := decide_eq_false h9
                have HA2 : Hid (∀ j (hj : j < Q.length), j < k + 1 → Q[j].2.1 ≤ 9999) := Lib.hid (fun j hj h => by
                  by_cases e : j = k
                  · subst e; have := fun x => h9 (hbig.2 x); omega
                  · exact HA.out j hj (by omega))
                clear hbig
                go_wp2
                go_roundw
                case rel => exact ⟨k + 1, by go_num, by omega, HA2, Lib.hid ((HBr.out).alloc HBr.out.size _)⟩
                case measure => simp [intOf]; omega
            · obtain rfl : k = Q.length := by omega
              have HL9 : Hid (∀ y, y ∈ Q → y.2.1 ≤ 9999) := Lib.hid (fun y hy => by
                obtain ⟨j, hj, rfl⟩ := List.mem_iff_getElem.1 hy
                exact HA.out j hj hj)
              have HE : Hid (E = if 500 < sumP Q then 3 else 0) := Lib.hid (HRS2.out (fun x hx => by have := HL9.out x hx; omega))
              have HBC := Lib.hid (below_tr HBA.out HBr.out)
              have HQC := Lib.hid (HQ.out.below HBr.out)
              clear HA HBr HBA HQ HRG2 HRS2 hk hlt
              go_wp2
              obtain ⟨W3, hW3⟩ : ∃ V, wr = V := ⟨_, rfl⟩
              rw [hW3] at HQC HBC ⊢
              clear hW3
              go_loopw [9, 56] (fun m i wr => ∃ (k : Nat), i = .int .i64 (k : Int) ∧ k ≤ Q.length ∧ m = .int .i64 ((sumP (Q.take k) : Nat) : Int) ∧ sumP (Q.take k) ≤ 500 ∧ Hid (Below W3.heap.size W3 wr)) (fun _ i _ => Q.length - (intOf i).toNat)
              case atStart => exact ⟨0, rfl, Nat.zero_le _, rfl, Nat.zero_le _, Lib.hid (Below.refl _ _)⟩
              case round =>
                obtain ⟨k, rfl, hk, rfl, hm, HBr⟩ := hrel
                by_cases hlt : k < Q.length
                · obtain ⟨b, o, rfl, g0, g1, g2⟩ := (HQC.out.below HBr.out) k hlt
                  have hmu := many_up hlt
                  have hml := many_le (Y := Q) (k + 1)
                  have hbl := World.block_lt_of_cell? _ _ g0
                  dsimp only at hbl
                  have hle := HL9.out _ (List.getElem_mem hlt)
                  obtain ⟨p1, p2, _⟩ := HPO.out _ (List.getElem_mem hlt)
                  rw [capN_le hle] at g1
                  rw [capN_le (by omega)] at g0
                  have hmin : ∃ z : Nat, min (capN Q[k].2.2) 501 = (z : Int) ∧ z = min Q[k].2.2 501 := ⟨min Q[k].2.2 501, capN_min _, rfl⟩
                  obtain ⟨z, hz, hzm⟩ := hmin
                  have hpr : ∃ q : Nat, (z : Int) * ((Q[k].2.1 : Int) - (Q[k].1 : Int) + 1) = (q : Int) ∧ q ≤ 5010000 ∧ (500 < sumP (Q.take k) + q ↔ 500 < sumP (Q.take (k + 1))) ∧ (¬ 500 < sumP (Q.take (k + 1)) → sumP (Q.take (k + 1)) = sumP (Q.take k) + q) := by
                    refine ⟨z * (Q[k].2.1 + 1 - Q[k].1), ?_, ?_, ?_, ?_⟩
                    · rw [show (Q[k].2.1 : Int) - (Q[k].1 : Int) + 1 = ((Q[k].2.1 + 1 - Q[k].1 : Nat) : Int) by omega]
                      push_cast; rfl
                    · exact Nat.mul_le_mul (show z ≤ 501 by omega) (show Q[k].2.1 + 1 - Q[k].1 ≤ 10000 by omega)
                    · rw [hmu]
                      unfold prtN
                      rcases Nat.lt_or_ge 501 Q[k].2.2 with h | h
                      · have e1 : z = 501 := by omega
                        have e2 := Nat.mul_le_mul (show 501 ≤ Q[k].2.2 by omega) (show 1 ≤ Q[k].2.1 + 1 - Q[k].1 by omega)
                        have e3 := Nat.mul_le_mul (show 501 ≤ z by omega) (show 1 ≤ Q[k].2.1 + 1 - Q[k].1 by omega)
                        constructor <;> intro _ <;> omega
                      · rw [show z = Q[k].2.2 by omega]
                    · rw [hmu]
                      unfold prtN
                      intro hn
                      rcases Nat.lt_or_ge 501 Q[k].2.2 with h | h
                      · have e2 := Nat.mul_le_mul (show 501 ≤ Q[k].2.2 by omega) (show 1 ≤ Q[k].2.1 + 1 - Q[k].1 by omega)
                        omega
                      · rw [show z = Q[k].2.2 by omega]
                  obtain ⟨q, hq, hq1, hq2, hq3⟩ := hpr
                  obtain ⟨M, hM⟩ : ∃ M, sumP (Q.take k) = M := ⟨_, rfl⟩
                  obtain ⟨M', hM'⟩ : ∃ M, sumP (Q.take (k + 1)) = M := ⟨_, rfl⟩
                  rw [hM] at hm hq2 hq3 ⊢
                  rw [hM'] at hq2 hq3 hml
                  obtain ⟨l, hl⟩ : ∃ l, Q[k].2.1 = l := ⟨_, rfl⟩
                  obtain ⟨f, hf⟩ : ∃ l, Q[k].1 = l := ⟨_, rfl⟩
                  obtain ⟨c, hc⟩ : ∃ l, capN Q[k].2.2 = l := ⟨_, rfl⟩
                  rw [hl] at g1 hq p1 hle
                  rw [hf] at g0 hq p1
                  rw [hc] at g2 hz
                  have HMM := Lib.hid hM'
                  have hwq : wrap64 (min c 501 * ((l : Int) - (f : Int) + 1)) = (q : Int) := by rw [hz, hq]; exact IntWalk.wrap64_in _ (by omega)
                  clear hf hc hl hmu p2 hzm hM hM'
                  by_cases h5 : 500 < M'
                  · have d5 : decide ((500 : Int) < (M : Int) + (q : Int)) = true := decide_eq_true (by have := hq2.2 h5; omega)
                    have hE := HE.out
                    rw [if_pos (by omega)] at hE
                    subst hE
                    have hR := HBD.out (by decide)
                    subst hR
                    clear HE HBD HOK hq2 hq3 h5
                    go_wp2
                    go_ret2
                    exact PlPost.none (below_tr HBC.out ((HBr.out).alloc HBr.out.size _))
                  · have d5 : decide ((500 : Int) < (M : Int) + (q : Int)) = false := decide_eq_false (by have := fun h => h5 (hq2.1 h); omega)
                    have h6 := hq3 h5
                    have HX : Hid (((sumP (Q.take (k + 1)) : Nat) : Int) = (M : Int) + (q : Int)) := Lib.hid (by rw [HMM.out, h6]; omega)
                    have HX5 : Hid (sumP (Q.take (k + 1)) ≤ 500) := Lib.hid (by rw [HMM.out]; omega)
                    clear hq2 hq3 h5 h6
                    go_wp2
                    go_roundw
                    case rel => exact ⟨k + 1, by go_num, by omega, by rw [HX.out], HX5.out, Lib.hid ((HBr.out).alloc HBr.out.size _)⟩
                    case measure => simp [intOf]; omega
                · obtain rfl : k = Q.length := by omega
                  rw [List.take_length] at hm
                  have hE := HE.out
                  rw [if_neg (by omega)] at hE
                  have HR := Lib.hid (HOK.out hE)
                  subst hE
                  have HBD2 := Lib.hid (below_tr HBC.out HBr.out)
                  have HQD := Lib.hid (HQC.out.below HBr.out)
                  have HSM := Lib.hid hm
                  obtain ⟨M0, hM0⟩ : ∃ M, sumP (Q.take Q.length) = M := ⟨_, rfl⟩
                  rw [hM0]
                  clear HE HBD HOK HBC HQC HBr hk hlt hm hM0
                  go_wp2
                  obtain ⟨i1, hi1, hy0, hy1, hy2⟩ := info_parts info_int
                  obtain ⟨W4, hW4⟩ : ∃ V, wr = V := ⟨_, rfl⟩
                  rw [hW4] at HQD HBD2 ⊢
                  clear hW4
                  go_loopw [14, 77] (fun o i wr => ∃ (k : Nat) (va : Option Addr) (vc : Nat) (I : List Nat), i = .int .i64 (k : Int) ∧ k ≤ Q.length ∧ o = .slice va I.length vc ∧ Hid (I = (Q.take k).flatMap prtL) ∧ Hid (wr.ownsRow W4.heap.size 3 1 (.slice va I.length vc) I.length ((ints I).map (Value.int .i64))) ∧ Hid (Below W4.heap.size W4 wr)) (fun _ i _ => Q.length - (intOf i).toNat)
                  case atStart => exact ⟨0, none, 0, [], rfl, Nat.zero_le _, rfl, Lib.hid rfl, Lib.hid (World.ownsRow_nil _ _ _ _), Lib.hid (Below.refl _ _)⟩
                  case round =>
                    obtain ⟨k, va, vc, I, rfl, hk, rfl, HI, HO, HBr⟩ := hrel
                    by_cases hlt : k < Q.length
                    · obtain ⟨b, o, rfl, g0, g1, g2⟩ := (HQD.out.below HBr.out) k hlt
                      have hmu := many_up hlt
                      have hml := many_le (Y := Q) (k + 1)
                      have hbl := World.block_lt_of_cell? _ _ g0
                      dsimp only at hbl
                      have hle := HL9.out _ (List.getElem_mem hlt)
                      obtain ⟨p1, p2, _⟩ := HPO.out _ (List.getElem_mem hlt)
                      have hsz := HSM.out
                      have hpn : prtN Q[k] = Q[k].2.2 * (Q[k].2.1 + 1 - Q[k].1) := rfl
                      have hcl : Q[k].2.2 ≤ prtN Q[k] := by
                        rw [hpn]
                        have := Nat.mul_le_mul (Nat.le_refl Q[k].2.2) (show 1 ≤ Q[k].2.1 + 1 - Q[k].1 by omega)
                        omega
                      rw [capN_le hle] at g1
                      rw [capN_le (by omega)] at g0
                      rw [capN_le (by omega)] at g2
                      have hIl : I.length = sumP (Q.take k) := by rw [HI.out, sumP_len]
                      have hnx : (Q.take (k + 1)).flatMap prtL = I ++ prtL Q[k] := by
                        rw [take_snoc (List.getElem?_eq_getElem hlt), List.flatMap_append, ← HI.out]; simp
                      have hpl : prtL Q[k] = (List.replicate Q[k].2.2 (List.range' Q[k].1 (Q[k].2.1 + 1 - Q[k].1))).flatten := rfl
                      rw [hpl] at hnx
                      rw [hpn] at hmu hcl
                      obtain ⟨l, hl⟩ : ∃ l, Q[k].2.1 = l := ⟨_, rfl⟩
                      obtain ⟨f, hf⟩ : ∃ l, Q[k].1 = l := ⟨_, rfl⟩
                      obtain ⟨c, hc⟩ : ∃ l, Q[k].2.2 = l := ⟨_, rfl⟩
                      rw [hl] at g1 p1 hle hmu hnx hcl
                      rw [hf] at g0 p1 hmu hnx hcl
                      rw [hc] at g2 p2 hmu hnx hcl
                      have HNX := Lib.hid hnx
                      have HLN : Hid (I.length + c * (l + 1 - f) ≤ 500) := Lib.hid (by omega)
                      have hc5 : c ≤ 500 := by omega
                      have HX := Lib.hid (heap_alloc_new wr (.cells #[.int .i64 (f : Int), .int .i64 (l : Int), .int .i64 (c : Int)] 61))
                      have HOa := Lib.hid (HO.out.alloc (.cells #[.int .i64 (f : Int), .int .i64 (l : Int), .int .i64 (c : Int)] 61))
                      have HBa := Lib.hid ((HBr.out).alloc HBr.out.size (.cells #[.int .i64 (f : Int), .int .i64 (l : Int), .int .i64 (c : Int)] 61))
                      have hgx := HBr.out.size
                      clear hf hc hl hmu hml hnx hpl hpn hsz hcl hIl HO HBr HI
                      go_wp2
                      obtain ⟨W5, hW5⟩ : ∃ V, wr.alloc (.cells #[.int .i64 (f : Int), .int .i64 (l : Int), .int .i64 (c : Int)] 61) = V := ⟨_, rfl⟩
                      obtain ⟨gx, hgd⟩ : ∃ g, wr.heap.size = g := ⟨_, rfl⟩
                      rw [hW5, hgd] at HX
                      rw [hW5] at HOa HBa ⊢
                      rw [hgd] at hgx ⊢
                      clear hW5 hgd g0 g1 g2 hbl
                      go_loopw [14, 83] (fun o i wr => ∃ (r : Nat) (va : Option Addr) (vc : Nat) (J : List Nat), i = .int .i64 (r : Int) ∧ r ≤ c ∧ o = .slice va J.length vc ∧ Hid (J = I ++ (List.replicate r (List.range' f (l + 1 - f))).flatten) ∧ Hid (wr.ownsRow W4.heap.size 3 1 (.slice va J.length vc) J.length ((ints J).map (Value.int .i64))) ∧ Hid (Below W4.heap.size W4 wr) ∧ Hid (wr.heap[gx]? = some (.cells #[.int .i64 (f : Int), .int .i64 (l : Int), .int .i64 (c : Int)] 61 (0, 0)))) (fun _ i _ => c - (intOf i).toNat)
                      case atStart => exact ⟨0, va, vc, I, rfl, Nat.zero_le _, rfl, Lib.hid (by simp), HOa, HBa, HX⟩
                      case round =>
                        obtain ⟨r, va, vc, J, rfl, hr, rfl, HJ, HO, HBr, HXr⟩ := hrel
                        by_cases hlr : r < c
                        · have x0 : wr.cell? ⟨gx, 0, none⟩ = some (.int .i64 (f : Int)) := by rw [cell_of_block HXr.out]; rfl
                          have HJL : Hid (J.length + (l + 1 - f) ≤ 500) := Lib.hid (by
                            have h1 := HLN.out
                            have h2 := Nat.mul_le_mul (show r + 1 ≤ c by omega) (Nat.le_refl (l + 1 - f))
                            rw [Nat.add_mul] at h2
                            rw [HJ.out]
                            simp
                            omega)
                          have HJN : Hid (J ++ List.range' f (l + 1 - f) = I ++ (List.replicate (r + 1) (List.range' f (l + 1 - f))).flatten) := Lib.hid (by rw [rep_more, HJ.out, List.append_assoc])
                          clear HJ
                          go_wp2
                          go_loopw [14, 17] (fun o i wr => ∃ (n : Nat) (va : Option Addr) (vc : Nat) (K : List Nat), i = .int .i64 (n : Int) ∧ f ≤ n ∧ n ≤ l + 1 ∧ o = .slice va K.length vc ∧ Hid (K = J ++ List.range' f (n - f)) ∧ Hid (wr.ownsRow W4.heap.size 3 1 (.slice va K.length vc) K.length ((ints K).map (Value.int .i64))) ∧ Hid (Below W4.heap.size W4 wr) ∧ Hid (wr.heap[gx]? = some (.cells #[.int .i64 (f : Int), .int .i64 (l : Int), .int .i64 (c : Int)] 61 (0, 0)))) (fun _ i _ => l + 1 - (intOf i).toNat)
                          case atStart => exact ⟨f, va, vc, J, rfl, Nat.le_refl _, by omega, rfl, Lib.hid (by simp), HO, HBr, HXr⟩
                          case round =>
                            obtain ⟨n, va, vc, K, rfl, hfn, hnl, rfl, HK, HO, HBr, HXr⟩ := hrel
                            have x1 : wr.cell? ⟨gx, 1, none⟩ = some (.int .i64 (l : Int)) := by rw [cell_of_block HXr.out]; rfl
                            by_cases hln : n ≤ l
                            · have d1 : decide ((n : Int) ≤ (l : Int)) = true := decide_eq_true (by omega)
                              have hKl : K.length + 1 ≤ 500 := by
                                have h1 := HJL.out
                                rw [HK.out]
                                simp
                                omega
                              have HKN : Hid (K ++ [n] = J ++ List.range' f (n + 1 - f)) := Lib.hid (by rw [rg_more f n hfn, HK.out, List.append_assoc])
                              have hsz := HBr.out.size
                              clear HK
                              go_wp2_with (at_builtin; refine wpList_append_own _ rfl (.tmp 93) (.tmp 95) 22 rfl W4.heap.size 3 i1 (.int .i64 0) 1 8 Tryz.underlying22 hi1 hy0 hy1 hy2 rfl (by decide) _ _ _ rfl (HO.out.alloc _) ⟨wr.heap.size, 0, none⟩ 1 1 [.int .i64 (n : Int)] rfl rfl ?c1 ?c2 ?c3 ?c4 ?c5 ?_)
                              case c1 => intro j q hq; match j with | 0 => (simp at hq; subst hq; simp [go_sem]) | j + 1 => simp at hq
                              case c2 => intro q hq; simp at hq; subst hq; rfl
                              case c3 => unfold maxLen; omega
                              case c4 => omega
                              case c5 => simp; omega
                              intro v' w6 hown hg _
                              obtain ⟨va', vc', rfl⟩ := own_slice hown
                              have HB6 := Lib.hid ((HBr.out.alloc hsz (.cells #[.int .i64 (n : Int)] 3)).grown hg (by simp; omega) (by intro r hr; exact (HO.out.lt r hr).1))
                              have hxa := (Below.heap_alloc wr (.cells #[.int .i64 (n : Int)] 3) _ (blk_lt HXr.out)).trans HXr.out
                              have HX6 := Lib.hid ((hg.block _ (blk_lt hxa) (fun e => own_neT (HO.out.alloc _) hxa (by decide) e.symm)).trans hxa)
                              have HW : Hid (w6.ownsRow W4.heap.size 3 1 (.slice va' (K ++ [n]).length vc') (K ++ [n]).length ((ints (K ++ [n])).map (Value.int .i64))) := Lib.hid (by rw [ints_snoc, List.length_append, List.length_singleton]; exact hown)
                              clear hown hg hxa
                              go_wp2
                              go_roundw
                              case rel => exact ⟨n + 1, va', vc', K ++ [n], by go_num, by omega, by omega, by rw [List.length_append, List.length_singleton], HKN, HW, HB6, HX6⟩
                              case measure => simp [intOf]; omega
                            · obtain rfl : n = l + 1 := by omega
                              have d1 : decide (((l + 1 : Nat) : Int) ≤ (l : Int)) = false := decide_eq_false (by omega)
                              have HJK : Hid (K = I ++ (List.replicate (r + 1) (List.range' f (l + 1 - f))).flatten) := Lib.hid (HK.out.trans HJN.out)
                              clear HK
                              go_wp2
                              go_roundw
                              case rel => exact ⟨r + 1, va, vc, K, by go_num, by omega, rfl, HJK, HO, HBr, HXr⟩
                              case measure => simp [intOf]; omega
                        · obtain rfl : r = c := by omega
                          have HIN : Hid (J = (Q.take (k + 1)).flatMap prtL) := Lib.hid (HJ.out.trans HNX.out.symm)
                          clear HJ
                          go_wp2
                          go_roundw
                          case rel => exact ⟨k + 1, va, vc, J, by go_num, by omega, rfl, HIN, HO, HBr⟩
                          case measure => simp [intOf]; omega
                    · obtain rfl : k = Q.length := by omega
                      have hIR : I = R := by rw [HI.out, List.take_length, HR.out]
                      subst hIR
                      clear HI HR
                      go_wp2
                      go_ret2
                      exact ⟨va, vc, rfl, ints_own HO.out, below_tr HBD2.out HBr.out⟩
end Go.Proofs.YthmknaoelmeniaaGreatDoor

namespace Go.Proofs.YthmknaoelmeniaaGreatDoor
open Go.RowKit Go.Sort Go.Joins Go.Shelf
attribute [local go_sem] cell_grow frozen_grow size_grow

/-- the item of just these numbers -/
def txt (L : List Nat) : Option (List UInt8) :=
  if L.length = 1 then some (Lib.decDigits (L.getD 0 0)) else if L.length ≤ runU (L.getD 0 0) L then some (upI (L.getD 0 0) (L.length - 2)).1 else if L.length ≤ runA (L.getD 0 0) L then some (alI (L.getD 0 0) (L.length - 2)).1 else none
theorem txt_of {M : List Nat} {m : Nat} (h1 : 1 ≤ m) (h2 : m ≤ M.length) : ofLen M m = (txt (M.take m)).map fun s => (s, m) := by
  cases M with
  | nil => simp at h2; omega
  | cons a r =>
    have hl : ((a :: r).take m).length = m := by rw [List.length_take]; omega
    have h0 : ((a :: r).take m).getD 0 0 = a := by
      cases m with
      | zero => omega
      | succ k => rfl
    have hu : m ≤ runU a ((a :: r).take m) ↔ m ≤ runU a (a :: r) := by
      rw [runU_iff, runU_iff]
      exact ⟨fun h j hj => by rw [← h j hj, List.getElem?_take_of_lt hj], fun h j hj => by rw [List.getElem?_take_of_lt hj]; exact h j hj⟩
    have ha : m ≤ runA a ((a :: r).take m) ↔ m ≤ runA a (a :: r) := by
      rw [runA_iff, runA_iff]
      exact ⟨fun h j hj => by rw [← h j hj, List.getElem?_take_of_lt hj], fun h j hj => by rw [List.getElem?_take_of_lt hj]; exact h j hj⟩
    unfold ofLen txt
    dsimp only
    rw [hl, h0]
    by_cases e1 : m = 1
    · rw [if_pos e1, if_pos e1, e1]; rfl
    · rw [if_neg e1, if_neg e1]
      by_cases e2 : m ≤ runU a (a :: r)
      · rw [if_pos ⟨by omega, e2⟩, if_pos (hu.2 e2)]
        show some (upI a (m - 2)) = some ((upI a (m - 2)).1, m)
        have : (upI a (m - 2)).2 = m := by unfold upI; dsimp only; omega
        exact congrArg some (Prod.ext rfl this)
      · rw [if_neg (fun h => e2 h.2), if_neg (fun h => e2 (hu.1 h))]
        by_cases e3 : m ≤ runA a (a :: r)
        · rw [if_pos ⟨by omega, e3⟩, if_pos (ha.2 e3)]
          show some (alI a (m - 2)) = some ((alI a (m - 2)).1, m)
          have : (alI a (m - 2)).2 = m := by unfold alI; dsimp only; omega
          exact congrArg some (Prod.ext rfl this)
        · rw [if_neg (fun h => e3 h.2), if_neg (fun h => e3 (ha.1 h))]; rfl
theorem runU_next {L : List Nat} {a k : Nat} (hk : k < L.length) : decide (k + 1 ≤ runU a L) = (decide (k ≤ runU a L) && ((L.getD k 0 : Int) == (a : Int) + (k : Int))) := by
  have hg : L[k]? = some (L.getD k 0) := by rw [List.getD_eq_getElem?_getD, List.getElem?_eq_getElem hk]; rfl
  rw [Bool.eq_iff_iff, Bool.and_eq_true, decide_eq_true_eq, decide_eq_true_eq, beq_iff_eq, runU_iff, runU_iff]
  constructor
  · intro h
    refine ⟨fun j hj => h j (by omega), ?_⟩
    have := h k (by omega)
    rw [hg] at this
    have := Option.some.inj this
    omega
  · rintro ⟨h, e⟩ j hj
    by_cases ej : j = k
    · rw [ej, hg]; exact congrArg some (by omega)
    · exact h j (by omega)
theorem runA_next {L : List Nat} {a k : Nat} (hk : k < L.length) : decide (k + 1 ≤ runA a L) = (decide (k ≤ runA a L) && ((L.getD k 0 : Int) == (a : Int))) := by
  have hg : L[k]? = some (L.getD k 0) := by rw [List.getD_eq_getElem?_getD, List.getElem?_eq_getElem hk]; rfl
  rw [Bool.eq_iff_iff, Bool.and_eq_true, decide_eq_true_eq, decide_eq_true_eq, beq_iff_eq, runA_iff, runA_iff]
  constructor
  · intro h
    refine ⟨fun j hj => h j (by omega), ?_⟩
    have := h k (by omega)
    rw [hg] at this
    have := Option.some.inj this
    omega
  · rintro ⟨h, e⟩ j hj
    by_cases ej : j = k
    · rw [ej, hg]; exact congrArg some (by omega)
    · exact h j (by omega)
theorem run_one {L : List Nat} (h : 1 ≤ L.length) : decide (1 ≤ runU (L.getD 0 0) L) = true ∧ decide (1 ≤ runA (L.getD 0 0) L) = true := by
  cases L with
  | nil => simp at h
  | cons a r =>
    refine ⟨decide_eq_true ((runU_iff _ _ _).2 fun j hj => ?_), decide_eq_true ((runA_iff _ _ _).2 fun j hj => ?_)⟩
    · rw [show j = 0 by omega]; rfl
    · rw [show j = 0 by omega]; rfl
/-- what texts hands back -/
def TxPost (w : World) (L : List Nat) (x : Ending) (w' : World) : Prop :=
  Below w.heap.size w w' ∧ ((txt L = none ∧ x = .returned (.slice none 0 0)) ∨ (∃ (S : ByteArray) (g : Nat), txt L = some S.data.toList ∧ x = .returned (.slice (some ⟨g, 0, none⟩) 1 1) ∧ w'.cell? ⟨g, 0, none⟩ = some (.string S)))
end Go.Proofs.YthmknaoelmeniaaGreatDoor

namespace Go.Proofs.YthmknaoelmeniaaGreatDoor
open Go.RowKit Go.Sort Go.Joins Go.Shelf
attribute [local go_sem] cell_grow frozen_grow size_grow Oper.semAt_some

theorem yform {R S : World → Prop} {e : Ending} {W : World} (h : (e = .returned (.bool true) ∧ R W) ∨ (e = .returned (.bool false) ∧ S W)) : ∃ b, e = .returned (.bool b) ∧ Hid ((b = true → R W) ∧ (b = false → S W)) := by
  rcases h with ⟨h1, h2⟩ | ⟨h1, h2⟩
  · exact ⟨true, h1, Lib.hid ⟨(fun _ => h2), (fun h => by cases h)⟩⟩
  · exact ⟨false, h1, Lib.hid ⟨(fun h => by cases h), (fun _ => h2)⟩⟩
theorem items_ok (a : Option Addr) (n c : Nat) (w : World) : Calls Tryz.prog 15 #[.slice a n c] w fun e w' => e = .returned (.func (.func 32) #[] #[.pointer (some ⟨w.heap.size, 0, none⟩)]) ∧ w.alloc (.cells #[.slice a n c] 22) = w' := by
  go_enter Tryz.func15, Tryz.ntmps15
  go_wp2
  go_ret
  exact ⟨rfl, rfl⟩
theorem itoa_ok (n : Nat) (h : n ≤ 10000) (w : World) (hT : TW w) :
    Calls Tryz.prog 33 #[.int .i64 (n : Int)] w fun e w' => e = .returned (.string ⟨(Lib.decDigits n).toArray⟩) ∧ Below w.heap.size w w' := by
  refine (Tryz.strconv_Itoa (n : Int) (by omega) (by omega) w hT.pow).mono ?_
  rintro e w' ⟨rfl, k, os, rfl⟩
  rw [Lib.itoa_nonneg]
  exact ⟨rfl, below_regrown w _ os⟩
abbrev ItB := ByteArray × Nat
abbrev encI (x : ItB) : Array Value := #[.agg #[.string x.1, .int .i64 (x.2 : Int)]]
def toB (x : Itm) : ItB := (⟨x.1.toArray⟩, x.2)
def itB (N : List Nat) : List ItB := (itemsL N).map toB
def GIt (N : List Nat) (pre : List ItB) (x : ItB) : Prop := ∃ k, pre = (itB N).take k ∧ (itB N)[k]? = some x
def SIt (N : List Nat) (xs : List ItB) : Prop := xs = itB N
/-- what the loop keeps for the iterator -/
def KeepI (B : Nat) (a : Option Addr) (c : Nat) (N : List Nat) (W : World) : Prop := W.cell? ⟨B, 0, none⟩ = some (.slice a N.length c) ∧ SlN W a (ints N) ∧ TW W
theorem ints_at {N : List Nat} {j : Nat} (h : j < N.length) : (ints N).getD j 0 = (N.getD j 0 : Int) := by
  unfold ints
  rw [List.getD_eq_getElem?_getD, List.getD_eq_getElem?_getD, List.getElem?_map, List.getElem?_eq_getElem h]; rfl
theorem ba_app (x y : List UInt8) : (⟨x.toArray⟩ : ByteArray) ++ ⟨y.toArray⟩ = ⟨(x ++ y).toArray⟩ := by
  apply ByteArray.ext
  rw [ByteArray.data_append]
  simp
theorem dec_size {n : Nat} (h : n ≤ 99999) : (⟨(Lib.decDigits n).toArray⟩ : ByteArray).size ≤ 5 := by
  have := itoa_len (n := (n : Int)) (k := 4) (by omega) (by omega)
  rw [Lib.itoa_nonneg] at this
  exact this
theorem up_enc {f j : Nat} {S T : ByteArray} (h1 : 1 ≤ j) (hS : (⟨(Lib.decDigits f).toArray⟩ : ByteArray) = S) (hT : (⟨(Lib.decDigits (f + j)).toArray⟩ : ByteArray) = T) : encI (toB (upI f (j - 1))) = #[.agg #[.string (S ++ ⟨#[45]⟩ ++ T), .int .i64 ((j : Int) + 1)]] := by
  subst hS hT
  unfold toB upI encI
  dsimp only
  rw [show f + (j - 1) + 1 = f + j by omega, show ((j - 1 + 2 : Nat) : Int) = (j : Int) + 1 by omega, show (⟨#[45]⟩ : ByteArray) = ⟨([45] : List UInt8).toArray⟩ from rfl, ba_app, ba_app, List.append_assoc]
  rfl
theorem al_enc {f j : Nat} {S T : ByteArray} (h1 : 1 ≤ j) (hS : (⟨(Lib.decDigits f).toArray⟩ : ByteArray) = S) (hT : (⟨(Lib.decDigits (j + 1)).toArray⟩ : ByteArray) = T) : encI (toB (alI f (j - 1))) = #[.agg #[.string (T ++ ⟨#[120]⟩ ++ S), .int .i64 ((j : Int) + 1)]] := by
  subst hS hT
  unfold toB alI encI
  dsimp only
  rw [show j - 1 + 2 = j + 1 by omega, show ((j + 1 : Nat) : Int) = (j : Int) + 1 by omega, show (⟨#[120]⟩ : ByteArray) = ⟨([120] : List UInt8).toArray⟩ from rfl, ba_app, ba_app, List.append_assoc]
  rfl
section
variable {f : Nat} {r : List Nat}
theorem itB_0 : (itB (f :: r))[0]? = some (toB (Lib.decDigits f, 1)) := rfl
theorem itB_up {j : Nat} (h : j + 2 ≤ runU f (f :: r)) : (itB (f :: r))[1 + j]? = some (toB (upI f j)) := by
  unfold itB itemsL
  rw [List.getElem?_map, Nat.add_comm, List.getElem?_cons_succ, List.getElem?_append_left (by simp; omega), List.getElem?_map, List.getElem?_range (by omega)]
  rfl
theorem itB_al {j : Nat} (h : j + 2 ≤ runA f (f :: r)) : (itB (f :: r))[1 + (runU f (f :: r) - 1) + j]? = some (toB (alI f j)) := by
  unfold itB itemsL
  rw [List.getElem?_map, show 1 + (runU f (f :: r) - 1) + j = ((runU f (f :: r) - 1) + j) + 1 by omega, List.getElem?_cons_succ, List.getElem?_append_right (by simp), List.getElem?_map]
  simp only [List.length_map, List.length_range, Nat.add_sub_cancel_left]
  rw [List.getElem?_range (by omega)]
  rfl
theorem itB_len : (itB (f :: r)).length = 1 + (runU f (f :: r) - 1) + (runA f (f :: r) - 1) := by
  unfold itB itemsL
  simp; omega
end
set_option maxRecDepth 100000 in
set_option maxHeartbeats 6400000 in
theorem items_seq (d : Nat) (f : Nat) (r : List Nat) (h9 : ∀ x, x ∈ f :: r → x ≤ 9999) (hl : (f :: r).length ≤ 500) (B : Nat) (a : Option Addr) (c : Nat) (I : List ItB → World → Prop) (hI : ∀ pre W, I pre W → KeepI B a c (f :: r) W) (w : World) :
    SeqI Fence.wide d Tryz.prog 32 #[.pointer (some ⟨B, 0, none⟩)] encI I (GIt (f :: r)) (SIt (f :: r)) w := by
  intro l J Jx W _ hJ _ hJI hY h0
  have hKJ : ∀ pre W, J pre W → KeepI B a c (f :: r) W := fun pre W h => hI _ _ (hJI _ _ h)
  obtain ⟨z1, z2, z3⟩ := hKJ _ _ h0
  obtain ⟨b, o, rfl, c0⟩ := z2.at_ (j := 0) (by rw [ints_len]; simp)
  rw [ints_at (by simp), Nat.add_zero] at c0
  have HN9 := Lib.hid h9
  have hf9 := h9 f (by simp)
  obtain ⟨N, hN⟩ : ∃ N, f :: r = N := ⟨_, rfl⟩
  have hn0 : 0 < N.length := by rw [← hN]; simp
  have hNf : N.getD 0 0 = f := by rw [← hN]; rfl
  have HU := Lib.hid (fun n => runU_iff N f n)
  have HA := Lib.hid (fun n => runA_iff f N n)
  have HI0 : Hid ((itB N)[0]? = some (toB (Lib.decDigits f, 1))) := Lib.hid (by rw [← hN]; rfl)
  have HIU : Hid (∀ j, j + 2 ≤ runU f N → (itB N)[1 + j]? = some (toB (upI f j))) := Lib.hid (by rw [← hN]; exact fun j h => itB_up h)
  have HIA : Hid (∀ j, j + 2 ≤ runA f N → (itB N)[1 + (runU f N - 1) + j]? = some (toB (alI f j))) := Lib.hid (by rw [← hN]; exact fun j h => itB_al h)
  have HIL : Hid ((itB N).length = 1 + (runU f N - 1) + (runA f N - 1)) := Lib.hid (by rw [← hN]; exact itB_len)
  rw [hN] at hl HN9 z1 z2 hKJ c0 hY ⊢
  rw [hNf] at c0
  obtain ⟨S, hS⟩ : ∃ S : ByteArray, (⟨(Lib.decDigits f).toArray⟩ : ByteArray) = S := ⟨_, rfl⟩
  have HT0 := Lib.hid (itoa_ok f (by omega) W z3)
  rw [hS] at HT0
  have HSS := Lib.hid hS
  have hsz : S.size ≤ 5 := by rw [← hS]; exact dec_size (by omega)
  have HU1 : Hid (1 ≤ runU f N) := Lib.hid ((HU.out 1).2 (fun j hj => by
    obtain rfl : j = 0 := by omega
    rw [← hN]; rfl))
  have HA1 : Hid (1 ≤ runA f N) := Lib.hid ((HA.out 1).2 (fun j hj => by
    obtain rfl : j = 0 := by omega
    rw [← hN]; rfl))
  have hUl := runU_le N f
  have hAl := runA_le f N
  have HJ0 := Lib.hid h0
  obtain ⟨n, hn⟩ : ∃ n, N.length = n := ⟨_, rfl⟩
  have hn1 : 1 ≤ n := by omega
  rw [hn] at z1 hl
  clear z2 z3 h0 h9 hN hn0
  refine callsIn_of_wp Tryz.func32 rfl trivial ?_ rfl
  simp only [Tryz.ntmps32, List.size_toArray, List.length_cons, List.length_nil, Nat.reduceAdd, Nat.reduceSub, Array.replicate_succ, Array.replicate_zero, List.push_toArray, List.append_toArray, List.nil_append, List.cons_append]
  gi_wp2_with fail
  refine ⟨trivial, wide_any' _, (callsIn_wide.2 HT0.out).mono ?_⟩
  rintro e w2 ⟨rfl, b2⟩
  have HJ2 := hJ _ _ _ none HJ0.out (grown_of_below b2) (fun r e => by cases e)
  obtain ⟨fn, tmps, assign, body, hy, hR⟩ := hY [] (toB (Lib.decDigits f, 1)) w2 HJ2 ⟨0, rfl, HI0.out⟩
  have hy' : encI (toB (Lib.decDigits f, 1)) = #[.agg #[.string S, .int .i64 1]] := by rw [← hS]; rfl
  rw [hy'] at hy
  rw [hn] at hUl hAl
  obtain ⟨U, hUd⟩ : ∃ U, runU f N = U := ⟨_, rfl⟩
  obtain ⟨A, hAd⟩ : ∃ A, runA f N = A := ⟨_, rfl⟩
  rw [hUd] at HU HU1 HIU HIA HIL hUl
  rw [hAd] at HA HA1 HIA HIL hAl
  have HNN := Lib.hid hn
  have HF0 : Hid (N.getD 0 0 = f) := Lib.hid hNf
  clear hy' b2 HT0 HJ0 c0 z1 HJ2 hS hUd hAd hn hNf
  gi_wp2_with fail
  refine ⟨wide_any' _, hR.mono ?_⟩
  intro e W3 hW3
  obtain ⟨q, rfl, HBB⟩ := yform hW3
  clear hW3 hR hy
  cases q with
  | false =>
    have HX2 := Lib.hid (HBB.out.2 rfl)
    clear HBB
    gi_wp2
    refine bodyPost_ret (results_none rfl _ _ _) rfl ?_
    exact ⟨⟨_, rfl⟩, .inr ⟨_, HX2.out⟩⟩
  | true =>
    have hx1 := HBB.out.1 rfl
    have HX2 : Hid (J ((itB N).take 1) W3) := Lib.hid (by rw [take_snoc HI0.out]; exact hx1)
    clear HBB hx1
    gi_wp2
    gi_loopw [4] (fun v wr => ∃ j : Nat, v = .int .i64 ((j : Int) + 1) ∧ 1 ≤ j ∧ Hid (j ≤ U) ∧ j ≤ n ∧ Hid (J ((itB N).take j) wr)) (fun v _ => n + 1 - (intOf v).toNat)
    case atStart => exact ⟨1, rfl, Nat.le_refl _, Lib.hid HU1.out, hn1, HX2⟩
    case round =>
      obtain ⟨j, rfl, hj1, HJU, hjn, HJJ⟩ := hrel
      obtain ⟨z1, z2, z3⟩ := hKJ _ _ HJJ.out
      rw [HNN.out] at z1
      by_cases hgo : j < n ∧ N.getD j 0 = f + j
      · obtain ⟨hlt, hyf⟩ := hgo
        obtain ⟨b', o', e, g0⟩ := z2.at_ (j := j) (by rw [ints_len, HNN.out]; exact hlt)
        cases e
        obtain ⟨b', o', e, c0⟩ := z2.at_ (j := 0) (by rw [ints_len, HNN.out]; omega)
        cases e
        rw [ints_at (by rw [HNN.out]; exact hlt)] at g0
        rw [ints_at (by rw [HNN.out]; omega), HF0.out, Nat.add_zero] at c0
        have hjN : N[j]? = some (N.getD j 0) := by rw [List.getD_eq_getElem?_getD, List.getElem?_eq_getElem (by rw [HNN.out]; exact hlt)]; rfl
        have hy9 := HN9.out _ (List.mem_of_getElem? hjN)
        obtain ⟨y, hy⟩ : ∃ y, N.getD j 0 = y := ⟨_, rfl⟩
        rw [hy] at g0 hjN hy9 hyf
        have HJN := Lib.hid hjN
        clear hy hjN
        have d1 : decide ((j : Int) + 1 ≤ (n : Int)) = true := decide_eq_true (by omega)
        subst hyf
        have HJU2 : Hid (j + 1 ≤ U) := Lib.hid ((HU.out _).2 (fun i hi => by
          by_cases e : i = j
          · subst e; exact HJN.out
          · exact (HU.out _).1 HJU.out i (by omega)))
        have hin : ((f + j : Nat) : Int) = (f : Int) + (j : Int) := by omega
        have d2 : ((f : Int) + (j : Int) == (f : Int) + ((j : Int) + 1) - 1) = true := by simp; omega
        rw [hin] at g0
        clear z3
        gi_wp2_with fail
        gi_quiet (fail)
        have HJ1 := hJ _ _ _ none HJJ.out (grown_of_below (below_draw wr nq)) (fun r e => by cases e)
        obtain ⟨wq, hwq⟩ : ∃ V, wr.drewN nq = V := ⟨_, rfl⟩
        rw [hwq] at HJ1 ⊢
        have HJ1 := Lib.hid HJ1
        obtain ⟨z1, z2, z3⟩ := hKJ _ _ HJ1.out
        rw [HNN.out] at z1
        obtain ⟨b', o', e, g0⟩ := z2.at_ (j := j) (by rw [ints_len, HNN.out]; exact hlt)
        cases e
        rw [ints_at (by rw [HNN.out]; exact hlt), (List.getD_eq_getElem?_getD .. |>.trans (by rw [HJN.out]; rfl) : N.getD j 0 = f + j), hin] at g0
        have hit := itoa_ok (f + j) (by omega) wq z3
        rw [hin] at hit
        obtain ⟨T, hT⟩ : ∃ T : ByteArray, (⟨(Lib.decDigits (f + j)).toArray⟩ : ByteArray) = T := ⟨_, rfl⟩
        rw [hT] at hit
        have HTT := Lib.hid hT
        have htz : T.size ≤ 5 := by rw [← hT]; exact dec_size (by omega)
        have HIT := Lib.hid hit
        clear z2 z3 c0 hT hit hin
        gi_wp2_with fail
        refine ⟨trivial, wide_any' _, (callsIn_wide.2 HIT.out).mono ?_⟩
        rintro e w3 ⟨rfl, b3⟩
        have HJ3 := hJ _ _ _ none HJ1.out (grown_of_below b3) (fun r e => by cases e)
        obtain ⟨fn, tmps, assign, body, hy, hR⟩ := hY ((itB N).take j) (toB (upI f (j - 1))) w3 HJ3 ⟨j, rfl, by have := HIU.out (j - 1) (by have := HJU2.out; omega); rwa [show 1 + (j - 1) = j by omega] at this⟩
        have HTK : Hid ((itB N).take (j + 1) = (itB N).take j ++ [toB (upI f (j - 1))]) := Lib.hid (take_snoc (by have := HIU.out (j - 1) (by have := HJU2.out; omega); rwa [show 1 + (j - 1) = j by omega] at this))
        rw [up_enc hj1 HSS.out HTT.out] at hy
        clear b3 HIT HJ1 HJ3 g0 z1 HJN hy9
        gi_wp2_with fail
        refine ⟨wide_any' _, hR.mono ?_⟩
        intro e W3 hW3
        obtain ⟨q, rfl, HBB⟩ := yform hW3
        clear hW3 hR hy
        cases q with
        | false =>
          have HX2 := Lib.hid (HBB.out.2 rfl)
          clear HBB
          gi_wp2
          refine bodyPost_ret (results_none rfl _ _ _) rfl ?_
          exact ⟨⟨_, rfl⟩, .inr ⟨_, HX2.out⟩⟩
        | true =>
          have hx1 := HBB.out.1 rfl
          have HX2 : Hid (J ((itB N).take (j + 1)) W3) := Lib.hid (by rw [HTK.out]; exact hx1)
          clear HBB hx1
          gi_wp2
          go_roundw
          case rel => exact ⟨j + 1, by go_num, by omega, HJU2, by omega, HX2⟩
          case measure => simp [intOf]; omega
      · have HUJ : Hid (U = j) := Lib.hid (by
          have h1 := HJU.out
          rcases Nat.lt_or_ge j U with h | h
          · exfalso
            have h2 := (HU.out (j + 1)).1 (by omega) j (by omega)
            have h3 : j < n := by
              have := (List.getElem?_eq_some_iff.1 h2).1
              rw [HNN.out] at this; exact this
            exact hgo ⟨h3, by rw [List.getD_eq_getElem?_getD, h2]; rfl⟩
          · omega)
        have hno : decide ((j : Int) + 1 ≤ (n : Int)) = false ∨ (decide ((j : Int) + 1 ≤ (n : Int)) = true ∧ (j : Int) < (n : Int) ∧ ∃ (y : Nat), wr.cell? ⟨b, o + j, none⟩ = some (.int .i64 (y : Int)) ∧ wr.cell? ⟨b, o, none⟩ = some (.int .i64 (f : Int)) ∧ ((y : Int) == (f : Int) + ((j : Int) + 1) - 1) = false) := by
          by_cases hlt : j < n
          · right
            refine ⟨decide_eq_true (by omega), by omega, ?_⟩
            obtain ⟨b', o', e, g0⟩ := z2.at_ (j := j) (by rw [ints_len, HNN.out]; exact hlt)
            obtain ⟨b2, o2, e2, c0⟩ := z2.at_ (j := 0) (by rw [ints_len, HNN.out]; omega)
            cases e
            cases e2
            rw [ints_at (by rw [HNN.out]; exact hlt)] at g0
            rw [ints_at (by rw [HNN.out]; omega), HF0.out, Nat.add_zero] at c0
            refine ⟨N.getD j 0, g0, c0, beq_eq_false_iff_ne.2 ?_⟩
            intro e
            exact hgo ⟨hlt, by omega⟩
          · left; exact decide_eq_false (by omega)
        clear hgo z3
        rcases hno with d1 | ⟨d1, hji, y, g0, c0, d2⟩
        all_goals
          gi_wp2_with fail
          gi_quiet (fail)
          have HJ1 := hJ _ _ _ none HJJ.out (grown_of_below (below_draw wr nq)) (fun r e => by cases e)
          obtain ⟨wq, hwq⟩ : ∃ V, wr.drewN nq = V := ⟨_, rfl⟩
          rw [hwq] at HJ1 ⊢
          have HJ1 : Hid (J ((itB N).take (U + 1 - 1)) wq) := Lib.hid (by rw [Nat.add_sub_cancel, HUJ.out]; exact HJ1)
          clear hwq z1 z2 HJU HJJ
          gi_wp2
          gi_loopw [5] (fun v wr => ∃ j : Nat, v = .int .i64 ((j : Int) + 1) ∧ 1 ≤ j ∧ Hid (j ≤ A) ∧ j ≤ n ∧ Hid (J ((itB N).take (U + j - 1)) wr)) (fun v _ => n + 1 - (intOf v).toNat)
          case atStart => exact ⟨1, rfl, Nat.le_refl _, Lib.hid HA1.out, hn1, HJ1⟩
          case round =>
            obtain ⟨j, rfl, hj1, HJA, hjn, HJJ⟩ := hrel
            obtain ⟨z1, z2, z3⟩ := hKJ _ _ HJJ.out
            rw [HNN.out] at z1
            by_cases hgo : j < n ∧ N.getD j 0 = f
            · obtain ⟨hlt, hyf⟩ := hgo
              obtain ⟨b', o', e, g0⟩ := z2.at_ (j := j) (by rw [ints_len, HNN.out]; exact hlt)
              cases e
              obtain ⟨b', o', e, c0⟩ := z2.at_ (j := 0) (by rw [ints_len, HNN.out]; omega)
              cases e
              rw [ints_at (by rw [HNN.out]; exact hlt), hyf] at g0
              rw [ints_at (by rw [HNN.out]; omega), HF0.out, Nat.add_zero] at c0
              have hjN : N[j]? = some f := by rw [← hyf, List.getD_eq_getElem?_getD, List.getElem?_eq_getElem (by rw [HNN.out]; exact hlt)]; rfl
              have HJN := Lib.hid hjN
              have HJA2 : Hid (j + 1 ≤ A) := Lib.hid ((HA.out _).2 (fun i hi => by
                by_cases e : i = j
                · subst e; exact HJN.out
                · exact (HA.out _).1 HJA.out i (by omega)))
              have d1 : decide ((j : Int) + 1 ≤ (n : Int)) = true := decide_eq_true (by omega)
              clear z3 hyf hjN
              gi_wp2_with fail
              gi_quiet (fail)
              have HJ1 := hJ _ _ _ none HJJ.out (grown_of_below (below_draw wr nq)) (fun r e => by cases e)
              obtain ⟨wq, hwq⟩ : ∃ V, wr.drewN nq = V := ⟨_, rfl⟩
              rw [hwq] at HJ1 ⊢
              have HJ1 := Lib.hid HJ1
              obtain ⟨z1, z2, z3⟩ := hKJ _ _ HJ1.out
              have hit := itoa_ok (j + 1) (by omega) wq z3
              rw [show ((j + 1 : Nat) : Int) = (j : Int) + 1 by omega] at hit
              obtain ⟨T, hT⟩ : ∃ T : ByteArray, (⟨(Lib.decDigits (j + 1)).toArray⟩ : ByteArray) = T := ⟨_, rfl⟩
              rw [hT] at hit
              have HTT := Lib.hid hT
              have htz : T.size ≤ 5 := by rw [← hT]; exact dec_size (by omega)
              have HIT := Lib.hid hit
              clear z1 z2 z3 c0 g0 hT hit
              gi_wp2_with fail
              refine ⟨trivial, wide_any' _, (callsIn_wide.2 HIT.out).mono ?_⟩
              rintro e w3 ⟨rfl, b3⟩
              have HJ3 := hJ _ _ _ none HJ1.out (grown_of_below b3) (fun r e => by cases e)
              have hix : (itB N)[U + j - 1]? = some (toB (alI f (j - 1))) := by
                have := HIA.out (j - 1) (by have := HJA2.out; omega)
                rwa [show 1 + (U - 1) + (j - 1) = U + j - 1 by have := HU1.out; omega] at this
              obtain ⟨fn, tmps, assign, body, hy, hR⟩ := hY ((itB N).take (U + j - 1)) (toB (alI f (j - 1))) w3 HJ3 ⟨U + j - 1, rfl, hix⟩
              have HTK : Hid ((itB N).take (U + (j + 1) - 1) = (itB N).take (U + j - 1) ++ [toB (alI f (j - 1))]) := Lib.hid (by rw [show U + (j + 1) - 1 = U + j - 1 + 1 by omega]; exact take_snoc hix)
              rw [al_enc hj1 HSS.out HTT.out] at hy
              clear b3 HIT HJ1 HJ3 HJN hix
              gi_wp2_with fail
              refine ⟨wide_any' _, hR.mono ?_⟩
              intro e W3 hW3
              obtain ⟨q, rfl, HBB⟩ := yform hW3
              clear hW3 hR hy
              cases q with
              | false =>
                have HX2 := Lib.hid (HBB.out.2 rfl)
                clear HBB
                gi_wp2
                refine bodyPost_ret (results_none rfl _ _ _) rfl ?_
                exact ⟨⟨_, rfl⟩, .inr ⟨_, HX2.out⟩⟩
              | true =>
                have hx1 := HBB.out.1 rfl
                have HX2 : Hid (J ((itB N).take (U + (j + 1) - 1)) W3) := Lib.hid (by rw [HTK.out]; exact hx1)
                clear HBB hx1
                gi_wp2
                go_roundw
                case rel => exact ⟨j + 1, by go_num, by omega, HJA2, by omega, HX2⟩
                case measure => simp [intOf]; omega
            · have HAJ : Hid (A = j) := Lib.hid (by
                have h1 := HJA.out
                rcases Nat.lt_or_ge j A with h | h
                · exfalso
                  have h2 := (HA.out (j + 1)).1 (by omega) j (by omega)
                  have h3 : j < n := by
                    have := (List.getElem?_eq_some_iff.1 h2).1
                    rw [HNN.out] at this; exact this
                  exact hgo ⟨h3, by rw [List.getD_eq_getElem?_getD, h2]; rfl⟩
                · omega)
              have hno : decide ((j : Int) + 1 ≤ (n : Int)) = false ∨ (decide ((j : Int) + 1 ≤ (n : Int)) = true ∧ (j : Int) < (n : Int) ∧ ∃ (y : Nat), wr.cell? ⟨b, o + j, none⟩ = some (.int .i64 (y : Int)) ∧ wr.cell? ⟨b, o, none⟩ = some (.int .i64 (f : Int)) ∧ ((y : Int) == (f : Int)) = false) := by
                by_cases hlt : j < n
                · right
                  refine ⟨decide_eq_true (by omega), by omega, ?_⟩
                  obtain ⟨b', o', e, g0⟩ := z2.at_ (j := j) (by rw [ints_len, HNN.out]; exact hlt)
                  obtain ⟨b2, o2, e2, c0⟩ := z2.at_ (j := 0) (by rw [ints_len, HNN.out]; omega)
                  cases e
                  cases e2
                  rw [ints_at (by rw [HNN.out]; exact hlt)] at g0
                  rw [ints_at (by rw [HNN.out]; omega), HF0.out, Nat.add_zero] at c0
                  refine ⟨N.getD j 0, g0, c0, beq_eq_false_iff_ne.2 ?_⟩
                  intro e
                  exact hgo ⟨hlt, by omega⟩
                · left; exact decide_eq_false (by omega)
              clear hgo z3
              rcases hno with d1 | ⟨d1, hji, y, g0, c0, d2⟩
              all_goals
                gi_wp2_with fail
                gi_quiet (fail)
                have HJ1 := hJ _ _ _ none HJJ.out (grown_of_below (below_draw wr nq)) (fun r e => by cases e)
                obtain ⟨wq, hwq⟩ : ∃ V, wr.drewN nq = V := ⟨_, rfl⟩
                rw [hwq] at HJ1 ⊢
                have HJ1 : Hid (J (itB N) wq) := Lib.hid (by
                  rw [List.take_of_length_le (by rw [HIL.out]; have := HAJ.out; have := HU1.out; omega)] at HJ1
                  exact HJ1)
                clear hwq z1 z2 HJA HJJ
                gi_wp2
                go_end0
                exact ⟨⟨_, rfl⟩, .inl ⟨_, rfl, HJ1.out⟩⟩
end Go.Proofs.YthmknaoelmeniaaGreatDoor
