/- Words: a list of numbers is read, by the program. | Words: the items that may begin at a list's first number, one by one, by the program. | Words: how long a number is, by the program. | Words: the least text of a list, item by item; what the program keeps while it picks. No program. | Rows of bools of the call's own, without bits. | Words: rows of numbers of the call's own. | Words: where the two great loops of List stand. -/
import Derived.Test.YtkklmljannclmaaDoorWZ5
import Derived.Test.YtkklmljannclmaaDoorWZ6
import Derived.Test.YtkklmljannclmaaDoorWZ3
import Derived.Lib.ItoaMem
import Derived.Sort.QuietIn
import Derived.Test.YtkklmljannclmaaDoorWZ1
import Derived.Deep.OwnRows
import Derived.Laws.OwnMore
namespace Go.Proofs.YtkklmljannclmaaDoor
open Go.RowKit Go.Sort Go.Joins Go.Shelf
attribute [local go_sem] cell_grow frozen_grow size_grow

def ints (N : List Nat) : List Int := N.map fun n : Nat => (n : Int)
/-- what ParseList hands back -/
def PlPost (w : World) (N : List Nat) (E : Int) (x : Ending) (w' : World) : Prop :=
  ∃ a c, x = .returned (.tuple #[.slice a N.length c, .int .i64 E]) ∧ SlN w' a (ints N) ∧ Below w.heap.size w w'
theorem PlPost.none {w w' : World} {E : Int} (h : Below w.heap.size w w') : PlPost w [] E (.returned (.tuple #[.slice none 0 0, .int .i64 E])) w' := ⟨_, _, rfl, .inl rfl, h⟩
theorem spl_size (c : UInt8) : ∀ {l p : List UInt8}, p ∈ spl c l → p.length ≤ l.length
  | [], p, h => by rw [spl_nil, List.mem_singleton] at h; rw [h]; exact Nat.le_refl _
  | x :: r, p, h => by
    by_cases hx : x = c
    · subst hx
      rw [spl_hit] at h
      rcases List.mem_cons.1 h with rfl | h
      · exact Nat.zero_le _
      · have := spl_size _ h; rw [List.length_cons]; omega
    · rw [spl_miss hx] at h
      rcases List.mem_cons.1 h with rfl | h
      · rw [List.length_cons, List.length_cons]
        have hne := spl_ne c r
        cases hs : spl c r with
        | nil => exact absurd hs hne
        | cons a t =>
          have := spl_size c (show a ∈ spl c r by rw [hs]; simp)
          show a.length + 1 ≤ _
          omega
      · have := spl_size c (List.mem_of_mem_tail h); rw [List.length_cons]; omega
theorem filt_some : ∀ {P : List (List UInt8)} {Y : List Prt}, P.map itmP = Y.map some → P.filterMap itmP = Y
  | [], [], _ => rfl
  | [], y :: Y, h => by cases h
  | p :: P, [], h => by cases h
  | p :: P, y :: Y, h => by
    rw [List.map_cons, List.map_cons] at h
    injection h with h1 h2
    rw [List.filterMap_cons, h1, filt_some h2]
theorem all_some {P : List (List UInt8)} {Y : List Prt} (h : P.map itmP = Y.map some) : ∀ p, p ∈ P → itmP p ≠ none := by
  intro p hp hn
  have : itmP p ∈ P.map itmP := List.mem_map_of_mem hp
  rw [h, hn] at this
  simp at this
theorem ints_len (N : List Nat) : (ints N).length = N.length := by unfold ints; exact List.length_map _
theorem ints_snoc (N : List Nat) (x : Nat) : (ints (N ++ [x])).map (Value.int .i64) = (ints N).map (Value.int .i64) ++ [.int .i64 (x : Int)] := by simp [ints]
theorem ints_own {w : World} {base len cap : Nat} {e : TypeId} {a : Option Addr} {N : List Nat} (h : w.ownsRow base e 1 (.slice a len cap) N.length ((ints N).map (Value.int .i64))) : SlN w a (ints N) := by
  refine SlN.of_own (len := len) (cap := cap) (base := base) (e := e) ?_
  rw [ints_len]; exact h
theorem rep_more (r : Nat) (l : List Nat) : (List.replicate (r + 1) l).flatten = (List.replicate r l).flatten ++ l := by
  rw [List.replicate_succ', List.flatten_append]; simp
theorem rg_more (f n : Nat) (h : f ≤ n) : List.range' f (n + 1 - f) = List.range' f (n - f) ++ [n] := by
  rw [show n + 1 - f = (n - f) + 1 by omega, List.range'_1_concat, show f + (n - f) = n by omega]
set_option maxRecDepth 100000 in
set_option maxHeartbeats 6400000 in
theorem wparse_ok (s : ByteArray) (L : List UInt8) (hL : s.data.toList = L) (hs : s.size ≤ 4611686018427387904) (w : World) (hM : ML w) (hT : TW w) :
    Calls Tryd.prog 20 #[.string s] w (PlPost w (plL L) (plE L)) := by
  have hlen := len_of hL
  by_cases h1 : 2500 < s.size
  · have d1 : decide ((2500 : Int) < (s.size : Int)) = true := decide_eq_true (by omega)
    have hE := plE_long (s := L) (by omega)
    rw [plL_bad (by rw [hE]; decide), hE]
    clear hL hM hT hE
    go_enter Tryd.func20, Tryd.ntmps20
    go_wp2_with fail
    go_ret2
    exact PlPost.none (Below.refl _ _)
  · have d1 : decide ((2500 : Int) < (s.size : Int)) = false := decide_eq_false (by omega)
    have hem := empty_nil hL
    by_cases h0 : L = []
    · rw [decide_eq_true h0] at hem
      have hE : plE L = 0 := by rw [h0]; rfl
      have hN : plL L = [] := by rw [h0]; rfl
      rw [hN, hE]
      clear hL hM hT hE hN
      go_enter Tryd.func20, Tryd.ntmps20
      go_wp2_with fail
      go_ret2
      exact PlPost.none (Below.refl _ _)
    · rw [decide_eq_false h0] at hem
      obtain ⟨i0, hi0, hz0, hz1, hz2⟩ := info_parts info_part
      have HSP := Lib.hid (split_ok s L hL 44 (by omega) w hM)
      have hpl := spl_len 44 L
      have hct : L.count 44 ≤ L.length := List.count_le_length
      have HML := Lib.hid (fun p => @spl_size 44 L p)
      have HFM := Lib.hid (fun p => @plE_form L (by omega) h0 p)
      have HRG := Lib.hid (fun h x => @plE_range L (by omega) h0 h x)
      have HRS := Lib.hid (plE_rest (s := L) (by omega) h0)
      have HOK := Lib.hid (fun h => @plL_ok L h h0)
      have HBD := Lib.hid (@plL_bad L)
      have HPP : Hid (plP L = (spl 44 L).filterMap itmP) := Lib.hid rfl
      obtain ⟨E, hE⟩ : ∃ E, plE L = E := ⟨_, rfl⟩
      obtain ⟨R, hR⟩ : ∃ R, plL L = R := ⟨_, rfl⟩
      obtain ⟨P, hP⟩ : ∃ P, spl 44 L = P := ⟨_, rfl⟩
      obtain ⟨Q, hQ⟩ : ∃ Q, plP L = Q := ⟨_, rfl⟩
      rw [hP] at HSP HML HFM HRG HRS HPP hpl
      rw [hQ] at HRG HRS HOK HPP
      rw [hE] at HFM HRG HRS HOK HBD ⊢
      rw [hR] at HOK HBD ⊢
      obtain ⟨n, hn⟩ : ∃ n, P.length = n := ⟨_, rfl⟩
      rw [hn] at hpl
      have HN := Lib.hid hn
      have HT := Lib.hid hT
      have hnb : n ≤ 2501 := by omega
      clear hE hR hP hQ hL hM hT hn hpl hct h0
      go_enter Tryd.func20, Tryd.ntmps20
      go_wp2_with fail
      refine HSP.out.mono ?_
      rintro e w1 ⟨b, rfl, hS, hb1⟩
      have HS := Lib.hid hS
      have HB1 := Lib.hid hb1
      clear hS hb1 HSP
      rw [HN.out]
      go_wp2
      go_loopw [4, 28] (fun o i wr => ∃ (k : Nat) (va : Option Addr) (vc : Nat) (Y : List Prt), i = .int .i64 (k : Int) ∧ k ≤ n ∧ o = .slice va Y.length vc ∧ Hid (Y.length = k) ∧ Hid ((P.take k).map itmP = Y.map some) ∧ Hid (wr.ownsRow w1.heap.size 74 3 (.slice va Y.length vc) Y.length (pc3 Y)) ∧ Hid (Below w1.heap.size w1 wr)) (fun _ i _ => n - (intOf i).toNat)
      case atStart => exact ⟨0, none, 0, [], rfl, Nat.zero_le _, rfl, Lib.hid rfl, Lib.hid rfl, Lib.hid (World.ownsRow_nil _ _ _ _), Lib.hid (Below.refl _ _)⟩
      case round =>
        obtain ⟨k, va, vc, Y, rfl, hk, rfl, HYk, HY, HO, HBr⟩ := hrel
        by_cases hlt : k < n
        · obtain ⟨b', o', S, e, g0, gS⟩ := (HS.out.below HBr.out).at_ (j := k) (by rw [HN.out]; exact hlt)
          cases e
          rw [Nat.zero_add] at g0
          have hkP : P[k]? = some (P.getD k []) := by rw [List.getD_eq_getElem?_getD, List.getElem?_eq_getElem (by rw [HN.out]; exact hlt)]; rfl
          rw [← gS] at hkP
          have hmem := List.mem_of_getElem? hkP
          have hsz := HML.out _ hmem
          have hsl := len_of (rfl : S.data.toList = S.data.toList)
          obtain ⟨D, hD⟩ : ∃ D, S.data.toList = D := ⟨_, rfl⟩
          rw [hD] at hkP hmem hsz hsl
          have hlt0 := HBr.out.size
          have HRD := Lib.hid (fun W h => read_ok S D hD (by omega) W h)
          have HKP := Lib.hid hkP
          have HME := Lib.hid hmem
          clear hkP hmem gS hD
          go_wp2_with fail
          refine (HRD.out wr (HT.out.below (below_tr HB1.out HBr.out))).mono ?_
          rintro e w3 ⟨f, l, c, rfl, hv, b3⟩
          have HV := Lib.hid hv
          have HB3 := Lib.hid b3
          have HO3 := Lib.hid (own_below HO.out b3)
          clear hv b3
          cases hi : itmP D with
          | none =>
            have hE := HFM.out D HME.out hi
            subst hE
            have hR := HBD.out (by decide)
            subst hR
            simp only [Option.isSome_none]
            clear hi HFM HRG HRS HOK HBD
            go_wp2
            go_ret2
            exact PlPost.none (below_tr HB1.out (below_tr HBr.out ((HB3.out).alloc HB3.out.size _)))
          | some y =>
            obtain ⟨hf, hl, hc⟩ := HV.out y hi
            have HYY : Hid ((P.take (k + 1)).map itmP = (Y ++ [y]).map some) := Lib.hid (by rw [take_snoc HKP.out, List.map_append, HY.out, List.map_append]; simp [hi])
            have HNW : Hid ([Value.int .i64 f, .int .i64 l, .int .i64 c] = [.int .i64 (capN y.1), .int .i64 (capN y.2.1), .int .i64 (capN y.2.2)]) := Lib.hid (by rw [hf, hl, hc])
            simp only [Option.isSome_some]
            clear hi hf hl hc HFM HRG HRS HOK HBD HV HY HKP HME
            go_wp2_with (at_builtin; refine wpList_append_own _ rfl (.tmp 39) (.tmp 41) 71 rfl w1.heap.size 74 i0 (.agg #[.int .i64 0, .int .i64 0, .int .i64 0]) 3 24 Tryd.underlying71 hi0 hz0 hz1 hz2 rfl (by decide) _ _ _ rfl ((HO3.out.alloc _).alloc _) ⟨w3.heap.size + 1, 0, none⟩ 1 1 [.int .i64 f, .int .i64 l, .int .i64 c] rfl rfl ?c1 ?c2 ?c3 ?c4 ?c5 ?_)
            case c1 => intro j q hq; match j with | 0 => (simp at hq; subst hq; simp [go_sem]) | 1 => (simp at hq; subst hq; simp [go_sem]) | 2 => (simp at hq; subst hq; simp [go_sem]) | j + 3 => simp at hq
            case c2 => intro q hq; simp at hq; rcases hq with rfl | rfl | rfl <;> rfl
            case c3 => have := HYk.out; unfold maxLen; omega
            case c4 => have := HYk.out; omega
            case c5 => have := HB3.out.size; simp; omega
            intro v' w4 hown hg _
            obtain ⟨va', vc', rfl⟩ := own_slice hown
            have hs3 := HB3.out.size
            have HB4 := Lib.hid (((below_tr HBr.out HB3.out).alloc (by omega) (.cells #[.int .i64 f, .int .i64 l, .int .i64 c] 74)).alloc (by simp; omega) (.cells #[.int .i64 f, .int .i64 l, .int .i64 c] 74) |>.grown hg (by simp; omega) (by intro r hr; exact (HO.out.lt r hr).1))
            have HW : Hid (w4.ownsRow w1.heap.size 74 3 (.slice va' (Y ++ [y]).length vc') (Y ++ [y]).length (pc3 (Y ++ [y]))) := Lib.hid (by rw [pc3_snoc, ← HNW.out, List.length_append, List.length_singleton]; exact hown)
            clear hown hg
            go_wp2
            go_roundw
            case rel => exact ⟨k + 1, va', vc', Y ++ [y], by go_num, by omega, by rw [List.length_append, List.length_singleton], Lib.hid (by rw [List.length_append, List.length_singleton, HYk.out]), HYY, HW, HB4⟩
            case measure => simp [intOf]; omega
        · obtain rfl : k = n := by omega
          have hPY : P.map itmP = Y.map some := by have := HY.out; rwa [List.take_of_length_le (by rw [HN.out]; exact Nat.le_refl _)] at this
          have hQY : Q = Y := by rw [HPP.out]; exact filt_some hPY
          subst hQY
          have hall := all_some hPY
          have HRG2 := Lib.hid (HRG.out hall)
          have HRS2 := Lib.hid (HRS.out hall)
          have HPO : Hid (∀ y, y ∈ Q → PrtOk y) := Lib.hid (fun y hy => by
            have : some y ∈ Q.map some := List.mem_map_of_mem hy
            rw [← hPY] at this
            obtain ⟨p, _, hp⟩ := List.mem_map.1 this
            exact itm_ok hp)
          have HQ := Lib.hid (SlP.of_own HO.out)
          have HBA := Lib.hid (below_tr HB1.out HBr.out)
          have hYk := HYk.out
          subst hYk
          clear HY hPY hall HRG HRS HFM HML HPP HS HO HBr HB1 HYk HN hk hlt HT
          go_wp2
          clear hem d1
          obtain ⟨W2, hW2⟩ : ∃ V, wr = V := ⟨_, rfl⟩
          rw [hW2] at HQ HBA ⊢
          clear hW2
          go_loopw [46] (fun i wr => ∃ (k : Nat), i = .int .i64 (k : Int) ∧ k ≤ Q.length ∧ Hid (∀ j (hj : j < Q.length), j < k → Q[j].2.1 ≤ 9999) ∧ Hid (Below W2.heap.size W2 wr)) (fun i _ => Q.length - (intOf i).toNat)
          case atStart => exact ⟨0, rfl, Nat.zero_le _, Lib.hid (fun j _ hj => absurd hj (Nat.not_lt_zero _)), Lib.hid (Below.refl _ _)⟩
          case round =>
            obtain ⟨k, rfl, hk, HA, HBr⟩ := hrel
            by_cases hlt : k < Q.length
            · obtain ⟨b, o, rfl, g0, g1, g2⟩ := (HQ.out.below HBr.out) k hlt
              have hbig := @capN_big Q[k].2.1
              have hbl := World.block_lt_of_cell? _ _ g0
              dsimp only at hbl
              obtain ⟨l, hl⟩ : ∃ l, capN Q[k].2.1 = l := ⟨_, rfl⟩
              obtain ⟨f, hf⟩ : ∃ l, capN Q[k].1 = l := ⟨_, rfl⟩
              obtain ⟨c, hc⟩ : ∃ l, capN Q[k].2.2 = l := ⟨_, rfl⟩
              rw [hl] at g1 hbig
              rw [hf] at g0
              rw [hc] at g2
              clear hf hc hl
              by_cases h9 : 9999 < l
              · have d9 : decide (9999 < l) = true := decide_eq_true h9
                have hE := HRG2.out Q[k] (List.getElem_mem hlt) (hbig.1 h9)
                subst hE
                have hR := HBD.out (by decide)
                subst hR
                clear hbig HRG2 HRS2 HBD HOK
                go_wp2
                go_ret2
                exact PlPost.none (below_tr HBA.out ((HBr.out).alloc HBr.out.size _))
              · have d9 : decide (9999 < l) = false := decide_eq_false h9
                have HA2 : Hid (∀ j (hj : j < Q.length), j < k + 1 → Q[j].2.1 ≤ 9999) := Lib.hid (fun j hj h => by
                  by_cases e : j = k
                  · subst e; have := fun x => h9 (hbig.2 x); omega
                  · exact HA.out j hj (by omega))
                clear hbig
                go_wp2
                go_roundw
                case rel => exact ⟨k + 1, by go_num, by omega, HA2, Lib.hid ((HBr.out).alloc HBr.out.size _)⟩
                case measure => simp [intOf]; omega
            · obtain rfl : k = Q.length := by omega
              have HL9 : Hid (∀ y, y ∈ Q → y.2.1 ≤ 9999) := Lib.hid (fun y hy => by
                obtain ⟨j, hj, rfl⟩ := List.mem_iff_getElem.1 hy
                exact HA.out j hj hj)
              have HE : Hid (E = if 500 < sumP Q then 3 else 0) := Lib.hid (HRS2.out (fun x hx => by have := HL9.out x hx; omega))
              have HBC := Lib.hid (below_tr HBA.out HBr.out)
              have HQC := Lib.hid (HQ.out.below HBr.out)
              clear HA HBr HBA HQ HRG2 HRS2 hk hlt
              go_wp2
              obtain ⟨W3, hW3⟩ : ∃ V, wr = V := ⟨_, rfl⟩
              rw [hW3] at HQC HBC ⊢
              clear hW3
              go_loopw [9, 56] (fun m i wr => ∃ (k : Nat), i = .int .i64 (k : Int) ∧ k ≤ Q.length ∧ m = .int .i64 ((sumP (Q.take k) : Nat) : Int) ∧ sumP (Q.take k) ≤ 500 ∧ Hid (Below W3.heap.size W3 wr)) (fun _ i _ => Q.length - (intOf i).toNat)
              case atStart => exact ⟨0, rfl, Nat.zero_le _, rfl, Nat.zero_le _, Lib.hid (Below.refl _ _)⟩
              case round =>
                obtain ⟨k, rfl, hk, rfl, hm, HBr⟩ := hrel
                by_cases hlt : k < Q.length
                · obtain ⟨b, o, rfl, g0, g1, g2⟩ := (HQC.out.below HBr.out) k hlt
                  have hmu := many_up hlt
                  have hml := many_le (Y := Q) (k + 1)
                  have hbl := World.block_lt_of_cell? _ _ g0
                  dsimp only at hbl
                  have hle := HL9.out _ (List.getElem_mem hlt)
                  obtain ⟨p1, p2, _⟩ := HPO.out _ (List.getElem_mem hlt)
                  rw [capN_le hle] at g1
                  rw [capN_le (by omega)] at g0
                  have hmin : ∃ z : Nat, min (capN Q[k].2.2) 501 = (z : Int) ∧ z = min Q[k].2.2 501 := ⟨min Q[k].2.2 501, capN_min _, rfl⟩
                  obtain ⟨z, hz, hzm⟩ := hmin
                  have hpr : ∃ q : Nat, (z : Int) * ((Q[k].2.1 : Int) - (Q[k].1 : Int) + 1) = (q : Int) ∧ q ≤ 5010000 ∧ (500 < sumP (Q.take k) + q ↔ 500 < sumP (Q.take (k + 1))) ∧ (¬ 500 < sumP (Q.take (k + 1)) → sumP (Q.take (k + 1)) = sumP (Q.take k) + q) := by
                    refine ⟨z * (Q[k].2.1 + 1 - Q[k].1), ?_, ?_, ?_, ?_⟩
                    · rw [show (Q[k].2.1 : Int) - (Q[k].1 : Int) + 1 = ((Q[k].2.1 + 1 - Q[k].1 : Nat) : Int) by omega]
                      push_cast; rfl
                    · exact Nat.mul_le_mul (show z ≤ 501 by omega) (show Q[k].2.1 + 1 - Q[k].1 ≤ 10000 by omega)
                    · rw [hmu]
                      unfold prtN
                      rcases Nat.lt_or_ge 501 Q[k].2.2 with h | h
                      · have e1 : z = 501 := by omega
                        have e2 := Nat.mul_le_mul (show 501 ≤ Q[k].2.2 by omega) (show 1 ≤ Q[k].2.1 + 1 - Q[k].1 by omega)
                        have e3 := Nat.mul_le_mul (show 501 ≤ z by omega) (show 1 ≤ Q[k].2.1 + 1 - Q[k].1 by omega)
                        constructor <;> intro _ <;> omega
                      · rw [show z = Q[k].2.2 by omega]
                    · rw [hmu]
                      unfold prtN
                      intro hn
                      rcases Nat.lt_or_ge 501 Q[k].2.2 with h | h
                      · have e2 := Nat.mul_le_mul (show 501 ≤ Q[k].2.2 by omega) (show 1 ≤ Q[k].2.1 + 1 - Q[k].1 by omega)
                        omega
                      · rw [show z = Q[k].2.2 by omega]
                  obtain ⟨q, hq, hq1, hq2, hq3⟩ := hpr
                  obtain ⟨M, hM⟩ : ∃ M, sumP (Q.take k) = M := ⟨_, rfl⟩
                  obtain ⟨M', hM'⟩ : ∃ M, sumP (Q.take (k + 1)) = M := ⟨_, rfl⟩
                  rw [hM] at hm hq2 hq3 ⊢
                  rw [hM'] at hq2 hq3 hml
                  obtain ⟨l, hl⟩ : ∃ l, Q[k].2.1 = l := ⟨_, rfl⟩
                  obtain ⟨f, hf⟩ : ∃ l, Q[k].1 = l := ⟨_, rfl⟩
                  obtain ⟨c, hc⟩ : ∃ l, capN Q[k].2.2 = l := ⟨_, rfl⟩
                  rw [hl] at g1 hq p1 hle
                  rw [hf] at g0 hq p1
                  rw [hc] at g2 hz
                  have HMM := Lib.hid hM'
                  have hwq : wrap64 (min c 501 * ((l : Int) - (f : Int) + 1)) = (q : Int) := by rw [hz, hq]; exact IntWalk.wrap64_in _ (by omega)
                  clear hf hc hl hmu p2 hzm hM hM'
                  by_cases h5 : 500 < M'
                  · have d5 : decide ((500 : Int) < (M : Int) + (q : Int)) = true := decide_eq_true (by have := hq2.2 h5; omega)
                    have hE := HE.out
                    rw [if_pos (by omega)] at hE
                    subst hE
                    have hR := HBD.out (by decide)
                    subst hR
                    clear HE HBD HOK hq2 hq3 h5
                    go_wp2
                    go_ret2
                    exact PlPost.none (below_tr HBC.out ((HBr.out).alloc HBr.out.size _))
                  · have d5 : decide ((500 : Int) < (M : Int) + (q : Int)) = false := decide_eq_false (by have := fun h => h5 (hq2.1 h); omega)
                    have h6 := hq3 h5
                    have HX : Hid (((sumP (Q.take (k + 1)) : Nat) : Int) = (M : Int) + (q : Int)) := Lib.hid (by rw [HMM.out, h6]; omega)
                    have HX5 : Hid (sumP (Q.take (k + 1)) ≤ 500) := Lib.hid (by rw [HMM.out]; omega)
                    clear hq2 hq3 h5 h6
                    go_wp2
                    go_roundw
                    case rel => exact ⟨k + 1, by go_num, by omega, by rw [HX.out], HX5.out, Lib.hid ((HBr.out).alloc HBr.out.size _)⟩
                    case measure => simp [intOf]; omega
                · obtain rfl : k = Q.length := by omega
                  rw [List.take_length] at hm
                  have hE := HE.out
                  rw [if_neg (by omega)] at hE
                  have HR := Lib.hid (HOK.out hE)
                  subst hE
                  have HBD2 := Lib.hid (below_tr HBC.out HBr.out)
                  have HQD := Lib.hid (HQC.out.below HBr.out)
                  have HSM := Lib.hid hm
                  obtain ⟨M0, hM0⟩ : ∃ M, sumP (Q.take Q.length) = M := ⟨_, rfl⟩
                  rw [hM0]
                  clear HE HBD HOK HBC HQC HBr hk hlt hm hM0
                  go_wp2
                  obtain ⟨i1, hi1, hy0, hy1, hy2⟩ := info_parts info_int
                  obtain ⟨W4, hW4⟩ : ∃ V, wr = V := ⟨_, rfl⟩
                  rw [hW4] at HQD HBD2 ⊢
                  clear hW4
                  go_loopw [14, 77] (fun o i wr => ∃ (k : Nat) (va : Option Addr) (vc : Nat) (I : List Nat), i = .int .i64 (k : Int) ∧ k ≤ Q.length ∧ o = .slice va I.length vc ∧ Hid (I = (Q.take k).flatMap prtL) ∧ Hid (wr.ownsRow W4.heap.size 3 1 (.slice va I.length vc) I.length ((ints I).map (Value.int .i64))) ∧ Hid (Below W4.heap.size W4 wr)) (fun _ i _ => Q.length - (intOf i).toNat)
                  case atStart => exact ⟨0, none, 0, [], rfl, Nat.zero_le _, rfl, Lib.hid rfl, Lib.hid (World.ownsRow_nil _ _ _ _), Lib.hid (Below.refl _ _)⟩
                  case round =>
                    obtain ⟨k, va, vc, I, rfl, hk, rfl, HI, HO, HBr⟩ := hrel
                    by_cases hlt : k < Q.length
                    · obtain ⟨b, o, rfl, g0, g1, g2⟩ := (HQD.out.below HBr.out) k hlt
                      have hmu := many_up hlt
                      have hml := many_le (Y := Q) (k + 1)
                      have hbl := World.block_lt_of_cell? _ _ g0
                      dsimp only at hbl
                      have hle := HL9.out _ (List.getElem_mem hlt)
                      obtain ⟨p1, p2, _⟩ := HPO.out _ (List.getElem_mem hlt)
                      have hsz := HSM.out
                      have hpn : prtN Q[k] = Q[k].2.2 * (Q[k].2.1 + 1 - Q[k].1) := rfl
                      have hcl : Q[k].2.2 ≤ prtN Q[k] := by
                        rw [hpn]
                        have := Nat.mul_le_mul (Nat.le_refl Q[k].2.2) (show 1 ≤ Q[k].2.1 + 1 - Q[k].1 by omega)
                        omega
                      rw [capN_le hle] at g1
                      rw [capN_le (by omega)] at g0
                      rw [capN_le (by omega)] at g2
                      have hIl : I.length = sumP (Q.take k) := by rw [HI.out, sumP_len]
                      have hnx : (Q.take (k + 1)).flatMap prtL = I ++ prtL Q[k] := by
                        rw [take_snoc (List.getElem?_eq_getElem hlt), List.flatMap_append, ← HI.out]; simp
                      have hpl : prtL Q[k] = (List.replicate Q[k].2.2 (List.range' Q[k].1 (Q[k].2.1 + 1 - Q[k].1))).flatten := rfl
                      rw [hpl] at hnx
                      rw [hpn] at hmu hcl
                      obtain ⟨l, hl⟩ : ∃ l, Q[k].2.1 = l := ⟨_, rfl⟩
                      obtain ⟨f, hf⟩ : ∃ l, Q[k].1 = l := ⟨_, rfl⟩
                      obtain ⟨c, hc⟩ : ∃ l, Q[k].2.2 = l := ⟨_, rfl⟩
                      rw [hl] at g1 p1 hle hmu hnx hcl
                      rw [hf] at g0 p1 hmu hnx hcl
                      rw [hc] at g2 p2 hmu hnx hcl
                      have HNX := Lib.hid hnx
                      have HLN : Hid (I.length + c * (l + 1 - f) ≤ 500) := Lib.hid (by omega)
                      have hc5 : c ≤ 500 := by omega
                      have HX := Lib.hid (heap_alloc_new wr (.cells #[.int .i64 (f : Int), .int .i64 (l : Int), .int .i64 (c : Int)] 74))
                      have HOa := Lib.hid (HO.out.alloc (.cells #[.int .i64 (f : Int), .int .i64 (l : Int), .int .i64 (c : Int)] 74))
                      have HBa := Lib.hid ((HBr.out).alloc HBr.out.size (.cells #[.int .i64 (f : Int), .int .i64 (l : Int), .int .i64 (c : Int)] 74))
                      have hgx := HBr.out.size
                      clear hf hc hl hmu hml hnx hpl hpn hsz hcl hIl HO HBr HI
                      go_wp2
                      obtain ⟨W5, hW5⟩ : ∃ V, wr.alloc (.cells #[.int .i64 (f : Int), .int .i64 (l : Int), .int .i64 (c : Int)] 74) = V := ⟨_, rfl⟩
                      obtain ⟨gx, hgd⟩ : ∃ g, wr.heap.size = g := ⟨_, rfl⟩
                      rw [hW5, hgd] at HX
                      rw [hW5] at HOa HBa ⊢
                      rw [hgd] at hgx ⊢
                      clear hW5 hgd g0 g1 g2 hbl
                      go_loopw [14, 83] (fun o i wr => ∃ (r : Nat) (va : Option Addr) (vc : Nat) (J : List Nat), i = .int .i64 (r : Int) ∧ r ≤ c ∧ o = .slice va J.length vc ∧ Hid (J = I ++ (List.replicate r (List.range' f (l + 1 - f))).flatten) ∧ Hid (wr.ownsRow W4.heap.size 3 1 (.slice va J.length vc) J.length ((ints J).map (Value.int .i64))) ∧ Hid (Below W4.heap.size W4 wr) ∧ Hid (wr.heap[gx]? = some (.cells #[.int .i64 (f : Int), .int .i64 (l : Int), .int .i64 (c : Int)] 74 (0, 0)))) (fun _ i _ => c - (intOf i).toNat)
                      case atStart => exact ⟨0, va, vc, I, rfl, Nat.zero_le _, rfl, Lib.hid (by simp), HOa, HBa, HX⟩
                      case round =>
                        obtain ⟨r, va, vc, J, rfl, hr, rfl, HJ, HO, HBr, HXr⟩ := hrel
                        by_cases hlr : r < c
                        · have x0 : wr.cell? ⟨gx, 0, none⟩ = some (.int .i64 (f : Int)) := by rw [cell_of_block HXr.out]; rfl
                          have HJL : Hid (J.length + (l + 1 - f) ≤ 500) := Lib.hid (by
                            have h1 := HLN.out
                            have h2 := Nat.mul_le_mul (show r + 1 ≤ c by omega) (Nat.le_refl (l + 1 - f))
                            rw [Nat.add_mul] at h2
                            rw [HJ.out]
                            simp
                            omega)
                          have HJN : Hid (J ++ List.range' f (l + 1 - f) = I ++ (List.replicate (r + 1) (List.range' f (l + 1 - f))).flatten) := Lib.hid (by rw [rep_more, HJ.out, List.append_assoc])
                          clear HJ
                          go_wp2
                          go_loopw [14, 17] (fun o i wr => ∃ (n : Nat) (va : Option Addr) (vc : Nat) (K : List Nat), i = .int .i64 (n : Int) ∧ f ≤ n ∧ n ≤ l + 1 ∧ o = .slice va K.length vc ∧ Hid (K = J ++ List.range' f (n - f)) ∧ Hid (wr.ownsRow W4.heap.size 3 1 (.slice va K.length vc) K.length ((ints K).map (Value.int .i64))) ∧ Hid (Below W4.heap.size W4 wr) ∧ Hid (wr.heap[gx]? = some (.cells #[.int .i64 (f : Int), .int .i64 (l : Int), .int .i64 (c : Int)] 74 (0, 0)))) (fun _ i _ => l + 1 - (intOf i).toNat)
                          case atStart => exact ⟨f, va, vc, J, rfl, Nat.le_refl _, by omega, rfl, Lib.hid (by simp), HO, HBr, HXr⟩
                          case round =>
                            obtain ⟨n, va, vc, K, rfl, hfn, hnl, rfl, HK, HO, HBr, HXr⟩ := hrel
                            have x1 : wr.cell? ⟨gx, 1, none⟩ = some (.int .i64 (l : Int)) := by rw [cell_of_block HXr.out]; rfl
                            by_cases hln : n ≤ l
                            · have d1 : decide ((n : Int) ≤ (l : Int)) = true := decide_eq_true (by omega)
                              have hKl : K.length + 1 ≤ 500 := by
                                have h1 := HJL.out
                                rw [HK.out]
                                simp
                                omega
                              have HKN : Hid (K ++ [n] = J ++ List.range' f (n + 1 - f)) := Lib.hid (by rw [rg_more f n hfn, HK.out, List.append_assoc])
                              have hsz := HBr.out.size
                              clear HK
                              go_wp2_with (at_builtin; refine wpList_append_own _ rfl (.tmp 93) (.tmp 95) 39 rfl W4.heap.size 3 i1 (.int .i64 0) 1 8 Tryd.underlying39 hi1 hy0 hy1 hy2 rfl (by decide) _ _ _ rfl (HO.out.alloc _) ⟨wr.heap.size, 0, none⟩ 1 1 [.int .i64 (n : Int)] rfl rfl ?c1 ?c2 ?c3 ?c4 ?c5 ?_)
                              case c1 => intro j q hq; match j with | 0 => (simp at hq; subst hq; simp [go_sem]) | j + 1 => simp at hq
                              case c2 => intro q hq; simp at hq; subst hq; rfl
                              case c3 => unfold maxLen; omega
                              case c4 => omega
                              case c5 => simp; omega
                              intro v' w6 hown hg _
                              obtain ⟨va', vc', rfl⟩ := own_slice hown
                              have HB6 := Lib.hid ((HBr.out.alloc hsz (.cells #[.int .i64 (n : Int)] 3)).grown hg (by simp; omega) (by intro r hr; exact (HO.out.lt r hr).1))
                              have hxa := (Below.heap_alloc wr (.cells #[.int .i64 (n : Int)] 3) _ (blk_lt HXr.out)).trans HXr.out
                              have HX6 := Lib.hid ((hg.block _ (blk_lt hxa) (fun e => own_neT (HO.out.alloc _) hxa (by decide) e.symm)).trans hxa)
                              have HW : Hid (w6.ownsRow W4.heap.size 3 1 (.slice va' (K ++ [n]).length vc') (K ++ [n]).length ((ints (K ++ [n])).map (Value.int .i64))) := Lib.hid (by rw [ints_snoc, List.length_append, List.length_singleton]; exact hown)
                              clear hown hg hxa
                              go_wp2
                              go_roundw
                              case rel => exact ⟨n + 1, va', vc', K ++ [n], by go_num, by omega, by omega, by rw [List.length_append, List.length_singleton], HKN, HW, HB6, HX6⟩
                              case measure => simp [intOf]; omega
                            · obtain rfl : n = l + 1 := by omega
                              have d1 : decide (((l + 1 : Nat) : Int) ≤ (l : Int)) = false := decide_eq_false (by omega)
                              have HJK : Hid (K = I ++ (List.replicate (r + 1) (List.range' f (l + 1 - f))).flatten) := Lib.hid (HK.out.trans HJN.out)
                              clear HK
                              go_wp2
                              go_roundw
                              case rel => exact ⟨r + 1, va, vc, K, by go_num, by omega, rfl, HJK, HO, HBr, HXr⟩
                              case measure => simp [intOf]; omega
                        · obtain rfl : r = c := by omega
                          have HIN : Hid (J = (Q.take (k + 1)).flatMap prtL) := Lib.hid (HJ.out.trans HNX.out.symm)
                          clear HJ
                          go_wp2
                          go_roundw
                          case rel => exact ⟨k + 1, va, vc, J, by go_num, by omega, rfl, HIN, HO, HBr⟩
                          case measure => simp [intOf]; omega
                    · obtain rfl : k = Q.length := by omega
                      have hIR : I = R := by rw [HI.out, List.take_length, HR.out]
                      subst hIR
                      clear HI HR
                      go_wp2
                      go_ret2
                      exact ⟨va, vc, rfl, ints_own HO.out, below_tr HBD2.out HBr.out⟩
end Go.Proofs.YtkklmljannclmaaDoor

namespace Go.Proofs.YtkklmljannclmaaDoor
open Go.RowKit Go.Sort Go.Joins Go.Shelf
attribute [local go_sem] cell_grow frozen_grow size_grow Oper.semAt_some

theorem yform {R S : World → Prop} {e : Ending} {W : World} (h : (e = .returned (.bool true) ∧ R W) ∨ (e = .returned (.bool false) ∧ S W)) : ∃ b, e = .returned (.bool b) ∧ Hid ((b = true → R W) ∧ (b = false → S W)) := by
  rcases h with ⟨h1, h2⟩ | ⟨h1, h2⟩
  · exact ⟨true, h1, Lib.hid ⟨(fun _ => h2), (fun h => by cases h)⟩⟩
  · exact ⟨false, h1, Lib.hid ⟨(fun h => by cases h), (fun _ => h2)⟩⟩
theorem items_ok (a : Option Addr) (n c : Nat) (w : World) : Calls Tryd.prog 50 #[.slice a n c] w fun e w' => e = .returned (.func (.func 77) #[] #[.pointer (some ⟨w.heap.size, 0, none⟩)]) ∧ w.alloc (.cells #[.slice a n c] 39) = w' := by
  go_enter Tryd.func50, Tryd.ntmps50
  go_wp2
  go_ret
  exact ⟨rfl, rfl⟩
theorem itoa_ok (n : Nat) (h : n ≤ 10000) (w : World) (hT : TW w) :
    Calls Tryd.prog 78 #[.int .i64 (n : Int)] w fun e w' => e = .returned (.string ⟨(Lib.decDigits n).toArray⟩) ∧ Below w.heap.size w w' := by
  refine (Tryd.strconv_Itoa (n : Int) (by omega) (by omega) w hT.pow).mono ?_
  rintro e w' ⟨rfl, k, os, rfl⟩
  rw [Lib.itoa_nonneg]
  exact ⟨rfl, below_regrown w _ os⟩
abbrev ItB := ByteArray × Nat
abbrev encI (x : ItB) : Array Value := #[.agg #[.string x.1, .int .i64 (x.2 : Int)]]
def toB (x : Itm) : ItB := (⟨x.1.toArray⟩, x.2)
def itB (N : List Nat) : List ItB := (itemsL N).map toB
def GIt (N : List Nat) (pre : List ItB) (x : ItB) : Prop := ∃ k, pre = (itB N).take k ∧ (itB N)[k]? = some x
def SIt (N : List Nat) (xs : List ItB) : Prop := xs = itB N
/-- what the loop keeps for the iterator -/
def KeepI (B : Nat) (a : Option Addr) (c : Nat) (N : List Nat) (W : World) : Prop := W.cell? ⟨B, 0, none⟩ = some (.slice a N.length c) ∧ SlN W a (ints N) ∧ TW W
theorem ints_at {N : List Nat} {j : Nat} (h : j < N.length) : (ints N).getD j 0 = (N.getD j 0 : Int) := by
  unfold ints
  rw [List.getD_eq_getElem?_getD, List.getD_eq_getElem?_getD, List.getElem?_map, List.getElem?_eq_getElem h]; rfl
theorem ba_app (x y : List UInt8) : (⟨x.toArray⟩ : ByteArray) ++ ⟨y.toArray⟩ = ⟨(x ++ y).toArray⟩ := by
  apply ByteArray.ext
  rw [ByteArray.data_append]
  simp
theorem dec_size {n : Nat} (h : n ≤ 99999) : (⟨(Lib.decDigits n).toArray⟩ : ByteArray).size ≤ 5 := by
  have := itoa_len (n := (n : Int)) (k := 4) (by omega) (by omega)
  rw [Lib.itoa_nonneg] at this
  exact this
theorem up_enc {f j : Nat} {S T : ByteArray} (h1 : 1 ≤ j) (hS : (⟨(Lib.decDigits f).toArray⟩ : ByteArray) = S) (hT : (⟨(Lib.decDigits (f + j)).toArray⟩ : ByteArray) = T) : encI (toB (upI f (j - 1))) = #[.agg #[.string (S ++ ⟨#[45]⟩ ++ T), .int .i64 ((j : Int) + 1)]] := by
  subst hS hT
  unfold toB upI encI
  dsimp only
  rw [show f + (j - 1) + 1 = f + j by omega, show ((j - 1 + 2 : Nat) : Int) = (j : Int) + 1 by omega, show (⟨#[45]⟩ : ByteArray) = ⟨([45] : List UInt8).toArray⟩ from rfl, ba_app, ba_app, List.append_assoc]
  rfl
theorem al_enc {f j : Nat} {S T : ByteArray} (h1 : 1 ≤ j) (hS : (⟨(Lib.decDigits f).toArray⟩ : ByteArray) = S) (hT : (⟨(Lib.decDigits (j + 1)).toArray⟩ : ByteArray) = T) : encI (toB (alI f (j - 1))) = #[.agg #[.string (T ++ ⟨#[120]⟩ ++ S), .int .i64 ((j : Int) + 1)]] := by
  subst hS hT
  unfold toB alI encI
  dsimp only
  rw [show j - 1 + 2 = j + 1 by omega, show ((j + 1 : Nat) : Int) = (j : Int) + 1 by omega, show (⟨#[120]⟩ : ByteArray) = ⟨([120] : List UInt8).toArray⟩ from rfl, ba_app, ba_app, List.append_assoc]
  rfl
section
variable {f : Nat} {r : List Nat}
theorem itB_0 : (itB (f :: r))[0]? = some (toB (Lib.decDigits f, 1)) := rfl
theorem itB_up {j : Nat} (h : j + 2 ≤ runU f (f :: r)) : (itB (f :: r))[1 + j]? = some (toB (upI f j)) := by
  unfold itB itemsL
  rw [List.getElem?_map, Nat.add_comm, List.getElem?_cons_succ, List.getElem?_append_left (by simp; omega), List.getElem?_map, List.getElem?_range (by omega)]
  rfl
theorem itB_al {j : Nat} (h : j + 2 ≤ runA f (f :: r)) : (itB (f :: r))[1 + (runU f (f :: r) - 1) + j]? = some (toB (alI f j)) := by
  unfold itB itemsL
  rw [List.getElem?_map, show 1 + (runU f (f :: r) - 1) + j = ((runU f (f :: r) - 1) + j) + 1 by omega, List.getElem?_cons_succ, List.getElem?_append_right (by simp), List.getElem?_map]
  simp only [List.length_map, List.length_range, Nat.add_sub_cancel_left]
  rw [List.getElem?_range (by omega)]
  rfl
theorem itB_len : (itB (f :: r)).length = 1 + (runU f (f :: r) - 1) + (runA f (f :: r) - 1) := by
  unfold itB itemsL
  simp; omega
end
set_option maxRecDepth 100000 in
set_option maxHeartbeats 6400000 in
theorem items_seq (d : Nat) (f : Nat) (r : List Nat) (h9 : ∀ x, x ∈ f :: r → x ≤ 9999) (hl : (f :: r).length ≤ 500) (B : Nat) (a : Option Addr) (c : Nat) (I : List ItB → World → Prop) (hI : ∀ pre W, I pre W → KeepI B a c (f :: r) W) (w : World) :
    SeqI Fence.wide d Tryd.prog 77 #[.pointer (some ⟨B, 0, none⟩)] encI I (GIt (f :: r)) (SIt (f :: r)) w := by
  intro l J Jx W _ hJ _ hJI hY h0
  have hKJ : ∀ pre W, J pre W → KeepI B a c (f :: r) W := fun pre W h => hI _ _ (hJI _ _ h)
  obtain ⟨z1, z2, z3⟩ := hKJ _ _ h0
  obtain ⟨b, o, rfl, c0⟩ := z2.at_ (j := 0) (by rw [ints_len]; simp)
  rw [ints_at (by simp), Nat.add_zero] at c0
  have HN9 := Lib.hid h9
  have hf9 := h9 f (by simp)
  obtain ⟨N, hN⟩ : ∃ N, f :: r = N := ⟨_, rfl⟩
  have hn0 : 0 < N.length := by rw [← hN]; simp
  have hNf : N.getD 0 0 = f := by rw [← hN]; rfl
  have HU := Lib.hid (fun n => runU_iff N f n)
  have HA := Lib.hid (fun n => runA_iff f N n)
  have HI0 : Hid ((itB N)[0]? = some (toB (Lib.decDigits f, 1))) := Lib.hid (by rw [← hN]; rfl)
  have HIU : Hid (∀ j, j + 2 ≤ runU f N → (itB N)[1 + j]? = some (toB (upI f j))) := Lib.hid (by rw [← hN]; exact fun j h => itB_up h)
  have HIA : Hid (∀ j, j + 2 ≤ runA f N → (itB N)[1 + (runU f N - 1) + j]? = some (toB (alI f j))) := Lib.hid (by rw [← hN]; exact fun j h => itB_al h)
  have HIL : Hid ((itB N).length = 1 + (runU f N - 1) + (runA f N - 1)) := Lib.hid (by rw [← hN]; exact itB_len)
  rw [hN] at hl HN9 z1 z2 hKJ c0 hY ⊢
  rw [hNf] at c0
  obtain ⟨S, hS⟩ : ∃ S : ByteArray, (⟨(Lib.decDigits f).toArray⟩ : ByteArray) = S := ⟨_, rfl⟩
  have HT0 := Lib.hid (itoa_ok f (by omega) W z3)
  rw [hS] at HT0
  have HSS := Lib.hid hS
  have hsz : S.size ≤ 5 := by rw [← hS]; exact dec_size (by omega)
  have HU1 : Hid (1 ≤ runU f N) := Lib.hid ((HU.out 1).2 (fun j hj => by
    obtain rfl : j = 0 := by omega
    rw [← hN]; rfl))
  have HA1 : Hid (1 ≤ runA f N) := Lib.hid ((HA.out 1).2 (fun j hj => by
    obtain rfl : j = 0 := by omega
    rw [← hN]; rfl))
  have hUl := runU_le N f
  have hAl := runA_le f N
  have HJ0 := Lib.hid h0
  obtain ⟨n, hn⟩ : ∃ n, N.length = n := ⟨_, rfl⟩
  have hn1 : 1 ≤ n := by omega
  rw [hn] at z1 hl
  clear z2 z3 h0 h9 hN hn0
  refine callsIn_of_wp Tryd.func77 rfl trivial ?_ rfl
  simp only [Tryd.ntmps77, List.size_toArray, List.length_cons, List.length_nil, Nat.reduceAdd, Nat.reduceSub, Array.replicate_succ, Array.replicate_zero, List.push_toArray, List.append_toArray, List.nil_append, List.cons_append]
  gi_wp2_with fail
  refine ⟨trivial, wide_any' _, (callsIn_wide.2 HT0.out).mono ?_⟩
  rintro e w2 ⟨rfl, b2⟩
  have HJ2 := hJ _ _ _ none HJ0.out (grown_of_below b2) (fun r e => by cases e)
  obtain ⟨fn, tmps, assign, body, hy, hR⟩ := hY [] (toB (Lib.decDigits f, 1)) w2 HJ2 ⟨0, rfl, HI0.out⟩
  have hy' : encI (toB (Lib.decDigits f, 1)) = #[.agg #[.string S, .int .i64 1]] := by rw [← hS]; rfl
  rw [hy'] at hy
  rw [hn] at hUl hAl
  obtain ⟨U, hUd⟩ : ∃ U, runU f N = U := ⟨_, rfl⟩
  obtain ⟨A, hAd⟩ : ∃ A, runA f N = A := ⟨_, rfl⟩
  rw [hUd] at HU HU1 HIU HIA HIL hUl
  rw [hAd] at HA HA1 HIA HIL hAl
  have HNN := Lib.hid hn
  have HF0 : Hid (N.getD 0 0 = f) := Lib.hid hNf
  clear hy' b2 HT0 HJ0 c0 z1 HJ2 hS hUd hAd hn hNf
  gi_wp2_with fail
  refine ⟨wide_any' _, hR.mono ?_⟩
  intro e W3 hW3
  obtain ⟨q, rfl, HBB⟩ := yform hW3
  clear hW3 hR hy
  cases q with
  | false =>
    have HX2 := Lib.hid (HBB.out.2 rfl)
    clear HBB
    gi_wp2
    refine bodyPost_ret (results_none rfl _ _ _) rfl ?_
    exact ⟨⟨_, rfl⟩, .inr ⟨_, HX2.out⟩⟩
  | true =>
    have hx1 := HBB.out.1 rfl
    have HX2 : Hid (J ((itB N).take 1) W3) := Lib.hid (by rw [take_snoc HI0.out]; exact hx1)
    clear HBB hx1
    gi_wp2
    gi_loopw [4] (fun v wr => ∃ j : Nat, v = .int .i64 ((j : Int) + 1) ∧ 1 ≤ j ∧ Hid (j ≤ U) ∧ j ≤ n ∧ Hid (J ((itB N).take j) wr)) (fun v _ => n + 1 - (intOf v).toNat)
    case atStart => exact ⟨1, rfl, Nat.le_refl _, Lib.hid HU1.out, hn1, HX2⟩
    case round =>
      obtain ⟨j, rfl, hj1, HJU, hjn, HJJ⟩ := hrel
      obtain ⟨z1, z2, z3⟩ := hKJ _ _ HJJ.out
      rw [HNN.out] at z1
      by_cases hgo : j < n ∧ N.getD j 0 = f + j
      · obtain ⟨hlt, hyf⟩ := hgo
        obtain ⟨b', o', e, g0⟩ := z2.at_ (j := j) (by rw [ints_len, HNN.out]; exact hlt)
        cases e
        obtain ⟨b', o', e, c0⟩ := z2.at_ (j := 0) (by rw [ints_len, HNN.out]; omega)
        cases e
        rw [ints_at (by rw [HNN.out]; exact hlt)] at g0
        rw [ints_at (by rw [HNN.out]; omega), HF0.out, Nat.add_zero] at c0
        have hjN : N[j]? = some (N.getD j 0) := by rw [List.getD_eq_getElem?_getD, List.getElem?_eq_getElem (by rw [HNN.out]; exact hlt)]; rfl
        have hy9 := HN9.out _ (List.mem_of_getElem? hjN)
        obtain ⟨y, hy⟩ : ∃ y, N.getD j 0 = y := ⟨_, rfl⟩
        rw [hy] at g0 hjN hy9 hyf
        have HJN := Lib.hid hjN
        clear hy hjN
        have d1 : decide ((j : Int) + 1 ≤ (n : Int)) = true := decide_eq_true (by omega)
        subst hyf
        have HJU2 : Hid (j + 1 ≤ U) := Lib.hid ((HU.out _).2 (fun i hi => by
          by_cases e : i = j
          · subst e; exact HJN.out
          · exact (HU.out _).1 HJU.out i (by omega)))
        have hin : ((f + j : Nat) : Int) = (f : Int) + (j : Int) := by omega
        have d2 : ((f : Int) + (j : Int) == (f : Int) + ((j : Int) + 1) - 1) = true := by simp; omega
        rw [hin] at g0
        clear z3
        gi_wp2_with fail
        gi_quiet (fail)
        have HJ1 := hJ _ _ _ none HJJ.out (grown_of_below (below_draw wr nq)) (fun r e => by cases e)
        obtain ⟨wq, hwq⟩ : ∃ V, wr.drewN nq = V := ⟨_, rfl⟩
        rw [hwq] at HJ1 ⊢
        have HJ1 := Lib.hid HJ1
        obtain ⟨z1, z2, z3⟩ := hKJ _ _ HJ1.out
        rw [HNN.out] at z1
        obtain ⟨b', o', e, g0⟩ := z2.at_ (j := j) (by rw [ints_len, HNN.out]; exact hlt)
        cases e
        rw [ints_at (by rw [HNN.out]; exact hlt), (List.getD_eq_getElem?_getD .. |>.trans (by rw [HJN.out]; rfl) : N.getD j 0 = f + j), hin] at g0
        have hit := itoa_ok (f + j) (by omega) wq z3
        rw [hin] at hit
        obtain ⟨T, hT⟩ : ∃ T : ByteArray, (⟨(Lib.decDigits (f + j)).toArray⟩ : ByteArray) = T := ⟨_, rfl⟩
        rw [hT] at hit
        have HTT := Lib.hid hT
        have htz : T.size ≤ 5 := by rw [← hT]; exact dec_size (by omega)
        have HIT := Lib.hid hit
        clear z2 z3 c0 hT hit hin
        gi_wp2_with fail
        refine ⟨trivial, wide_any' _, (callsIn_wide.2 HIT.out).mono ?_⟩
        rintro e w3 ⟨rfl, b3⟩
        have HJ3 := hJ _ _ _ none HJ1.out (grown_of_below b3) (fun r e => by cases e)
        obtain ⟨fn, tmps, assign, body, hy, hR⟩ := hY ((itB N).take j) (toB (upI f (j - 1))) w3 HJ3 ⟨j, rfl, by have := HIU.out (j - 1) (by have := HJU2.out; omega); rwa [show 1 + (j - 1) = j by omega] at this⟩
        have HTK : Hid ((itB N).take (j + 1) = (itB N).take j ++ [toB (upI f (j - 1))]) := Lib.hid (take_snoc (by have := HIU.out (j - 1) (by have := HJU2.out; omega); rwa [show 1 + (j - 1) = j by omega] at this))
        rw [up_enc hj1 HSS.out HTT.out] at hy
        clear b3 HIT HJ1 HJ3 g0 z1 HJN hy9
        gi_wp2_with fail
        refine ⟨wide_any' _, hR.mono ?_⟩
        intro e W3 hW3
        obtain ⟨q, rfl, HBB⟩ := yform hW3
        clear hW3 hR hy
        cases q with
        | false =>
          have HX2 := Lib.hid (HBB.out.2 rfl)
          clear HBB
          gi_wp2
          refine bodyPost_ret (results_none rfl _ _ _) rfl ?_
          exact ⟨⟨_, rfl⟩, .inr ⟨_, HX2.out⟩⟩
        | true =>
          have hx1 := HBB.out.1 rfl
          have HX2 : Hid (J ((itB N).take (j + 1)) W3) := Lib.hid (by rw [HTK.out]; exact hx1)
          clear HBB hx1
          gi_wp2
          go_roundw
          case rel => exact ⟨j + 1, by go_num, by omega, HJU2, by omega, HX2⟩
          case measure => simp [intOf]; omega
      · have HUJ : Hid (U = j) := Lib.hid (by
          have h1 := HJU.out
          rcases Nat.lt_or_ge j U with h | h
          · exfalso
            have h2 := (HU.out (j + 1)).1 (by omega) j (by omega)
            have h3 : j < n := by
              have := (List.getElem?_eq_some_iff.1 h2).1
              rw [HNN.out] at this; exact this
            exact hgo ⟨h3, by rw [List.getD_eq_getElem?_getD, h2]; rfl⟩
          · omega)
        have hno : decide ((j : Int) + 1 ≤ (n : Int)) = false ∨ (decide ((j : Int) + 1 ≤ (n : Int)) = true ∧ (j : Int) < (n : Int) ∧ ∃ (y : Nat), wr.cell? ⟨b, o + j, none⟩ = some (.int .i64 (y : Int)) ∧ wr.cell? ⟨b, o, none⟩ = some (.int .i64 (f : Int)) ∧ ((y : Int) == (f : Int) + ((j : Int) + 1) - 1) = false) := by
          by_cases hlt : j < n
          · right
            refine ⟨decide_eq_true (by omega), by omega, ?_⟩
            obtain ⟨b', o', e, g0⟩ := z2.at_ (j := j) (by rw [ints_len, HNN.out]; exact hlt)
            obtain ⟨b2, o2, e2, c0⟩ := z2.at_ (j := 0) (by rw [ints_len, HNN.out]; omega)
            cases e
            cases e2
            rw [ints_at (by rw [HNN.out]; exact hlt)] at g0
            rw [ints_at (by rw [HNN.out]; omega), HF0.out, Nat.add_zero] at c0
            refine ⟨N.getD j 0, g0, c0, beq_eq_false_iff_ne.2 ?_⟩
            intro e
            exact hgo ⟨hlt, by omega⟩
          · left; exact decide_eq_false (by omega)
        clear hgo z3
        rcases hno with d1 | ⟨d1, hji, y, g0, c0, d2⟩
        all_goals
          gi_wp2_with fail
          gi_quiet (fail)
          have HJ1 := hJ _ _ _ none HJJ.out (grown_of_below (below_draw wr nq)) (fun r e => by cases e)
          obtain ⟨wq, hwq⟩ : ∃ V, wr.drewN nq = V := ⟨_, rfl⟩
          rw [hwq] at HJ1 ⊢
          have HJ1 : Hid (J ((itB N).take (U + 1 - 1)) wq) := Lib.hid (by rw [Nat.add_sub_cancel, HUJ.out]; exact HJ1)
          clear hwq z1 z2 HJU HJJ
          gi_wp2
          gi_loopw [5] (fun v wr => ∃ j : Nat, v = .int .i64 ((j : Int) + 1) ∧ 1 ≤ j ∧ Hid (j ≤ A) ∧ j ≤ n ∧ Hid (J ((itB N).take (U + j - 1)) wr)) (fun v _ => n + 1 - (intOf v).toNat)
          case atStart => exact ⟨1, rfl, Nat.le_refl _, Lib.hid HA1.out, hn1, HJ1⟩
          case round =>
            obtain ⟨j, rfl, hj1, HJA, hjn, HJJ⟩ := hrel
            obtain ⟨z1, z2, z3⟩ := hKJ _ _ HJJ.out
            rw [HNN.out] at z1
            by_cases hgo : j < n ∧ N.getD j 0 = f
            · obtain ⟨hlt, hyf⟩ := hgo
              obtain ⟨b', o', e, g0⟩ := z2.at_ (j := j) (by rw [ints_len, HNN.out]; exact hlt)
              cases e
              obtain ⟨b', o', e, c0⟩ := z2.at_ (j := 0) (by rw [ints_len, HNN.out]; omega)
              cases e
              rw [ints_at (by rw [HNN.out]; exact hlt), hyf] at g0
              rw [ints_at (by rw [HNN.out]; omega), HF0.out, Nat.add_zero] at c0
              have hjN : N[j]? = some f := by rw [← hyf, List.getD_eq_getElem?_getD, List.getElem?_eq_getElem (by rw [HNN.out]; exact hlt)]; rfl
              have HJN := Lib.hid hjN
              have HJA2 : Hid (j + 1 ≤ A) := Lib.hid ((HA.out _).2 (fun i hi => by
                by_cases e : i = j
                · subst e; exact HJN.out
                · exact (HA.out _).1 HJA.out i (by omega)))
              have d1 : decide ((j : Int) + 1 ≤ (n : Int)) = true := decide_eq_true (by omega)
              clear z3 hyf hjN
              gi_wp2_with fail
              gi_quiet (fail)
              have HJ1 := hJ _ _ _ none HJJ.out (grown_of_below (below_draw wr nq)) (fun r e => by cases e)
              obtain ⟨wq, hwq⟩ : ∃ V, wr.drewN nq = V := ⟨_, rfl⟩
              rw [hwq] at HJ1 ⊢
              have HJ1 := Lib.hid HJ1
              obtain ⟨z1, z2, z3⟩ := hKJ _ _ HJ1.out
              have hit := itoa_ok (j + 1) (by omega) wq z3
              rw [show ((j + 1 : Nat) : Int) = (j : Int) + 1 by omega] at hit
              obtain ⟨T, hT⟩ : ∃ T : ByteArray, (⟨(Lib.decDigits (j + 1)).toArray⟩ : ByteArray) = T := ⟨_, rfl⟩
              rw [hT] at hit
              have HTT := Lib.hid hT
              have htz : T.size ≤ 5 := by rw [← hT]; exact dec_size (by omega)
              have HIT := Lib.hid hit
              clear z1 z2 z3 c0 g0 hT hit
              gi_wp2_with fail
              refine ⟨trivial, wide_any' _, (callsIn_wide.2 HIT.out).mono ?_⟩
              rintro e w3 ⟨rfl, b3⟩
              have HJ3 := hJ _ _ _ none HJ1.out (grown_of_below b3) (fun r e => by cases e)
              have hix : (itB N)[U + j - 1]? = some (toB (alI f (j - 1))) := by
                have := HIA.out (j - 1) (by have := HJA2.out; omega)
                rwa [show 1 + (U - 1) + (j - 1) = U + j - 1 by have := HU1.out; omega] at this
              obtain ⟨fn, tmps, assign, body, hy, hR⟩ := hY ((itB N).take (U + j - 1)) (toB (alI f (j - 1))) w3 HJ3 ⟨U + j - 1, rfl, hix⟩
              have HTK : Hid ((itB N).take (U + (j + 1) - 1) = (itB N).take (U + j - 1) ++ [toB (alI f (j - 1))]) := Lib.hid (by rw [show U + (j + 1) - 1 = U + j - 1 + 1 by omega]; exact take_snoc hix)
              rw [al_enc hj1 HSS.out HTT.out] at hy
              clear b3 HIT HJ1 HJ3 HJN hix
              gi_wp2_with fail
              refine ⟨wide_any' _, hR.mono ?_⟩
              intro e W3 hW3
              obtain ⟨q, rfl, HBB⟩ := yform hW3
              clear hW3 hR hy
              cases q with
              | false =>
                have HX2 := Lib.hid (HBB.out.2 rfl)
                clear HBB
                gi_wp2
                refine bodyPost_ret (results_none rfl _ _ _) rfl ?_
                exact ⟨⟨_, rfl⟩, .inr ⟨_, HX2.out⟩⟩
              | true =>
                have hx1 := HBB.out.1 rfl
                have HX2 : Hid (J ((itB N).take (U + (j + 1) - 1)) W3) := Lib.hid (by rw [HTK.out]; exact hx1)
                clear HBB hx1
                gi_wp2
                go_roundw
                case rel => exact ⟨j + 1, by go_num, by omega, HJA2, by omega, HX2⟩
                case measure => simp [intOf]; omega
            · have HAJ : Hid (A = j) := Lib.hid (by
                have h1 := HJA.out
                rcases Nat.lt_or_ge j A with h | h
                · exfalso
                  have h2 := (HA.out (j + 1)).1 (by omega) j (by omega)
                  have h3 : j < n := by
                    have := (List.getElem?_eq_some_iff.1 h2).1
                    rw [HNN.out] at this; exact this
                  exact hgo ⟨h3, by rw [List.getD_eq_getElem?_getD, h2]; rfl⟩
                · omega)
              have hno : decide ((j : Int) + 1 ≤ (n : Int)) = false ∨ (decide ((j : Int) + 1 ≤ (n : Int)) = true ∧ (j : Int) < (n : Int) ∧ ∃ (y : Nat), wr.cell? ⟨b, o + j, none⟩ = some (.int .i64 (y : Int)) ∧ wr.cell? ⟨b, o, none⟩ = some (.int .i64 (f : Int)) ∧ ((y : Int) == (f : Int)) = false) := by
                by_cases hlt : j < n
                · right
                  refine ⟨decide_eq_true (by omega), by omega, ?_⟩
                  obtain ⟨b', o', e, g0⟩ := z2.at_ (j := j) (by rw [ints_len, HNN.out]; exact hlt)
                  obtain ⟨b2, o2, e2, c0⟩ := z2.at_ (j := 0) (by rw [ints_len, HNN.out]; omega)
                  cases e
                  cases e2
                  rw [ints_at (by rw [HNN.out]; exact hlt)] at g0
                  rw [ints_at (by rw [HNN.out]; omega), HF0.out, Nat.add_zero] at c0
                  refine ⟨N.getD j 0, g0, c0, beq_eq_false_iff_ne.2 ?_⟩
                  intro e
                  exact hgo ⟨hlt, by omega⟩
                · left; exact decide_eq_false (by omega)
              clear hgo z3
              rcases hno with d1 | ⟨d1, hji, y, g0, c0, d2⟩
              all_goals
                gi_wp2_with fail
                gi_quiet (fail)
                have HJ1 := hJ _ _ _ none HJJ.out (grown_of_below (below_draw wr nq)) (fun r e => by cases e)
                obtain ⟨wq, hwq⟩ : ∃ V, wr.drewN nq = V := ⟨_, rfl⟩
                rw [hwq] at HJ1 ⊢
                have HJ1 : Hid (J (itB N) wq) := Lib.hid (by
                  rw [List.take_of_length_le (by rw [HIL.out]; have := HAJ.out; have := HU1.out; omega)] at HJ1
                  exact HJ1)
                clear hwq z1 z2 HJA HJJ
                gi_wp2
                go_end0
                exact ⟨⟨_, rfl⟩, .inl ⟨_, rfl, HJ1.out⟩⟩
end Go.Proofs.YtkklmljannclmaaDoor

namespace Go.Proofs.YtkklmljannclmaaDoor
open Go.RowKit Go.Sort Go.Joins Go.Shelf
attribute [local go_sem] cell_grow frozen_grow size_grow

/-- the tables of this part -/
structure T1 (w : World) : Prop where
  tw : TW w
  ml : ML w
  tens : ∀ i, i < 3 → w.cell? ⟨0, i, none⟩ = some (.int .i64 ((10 ^ (i + 1) : Nat) : Int))
theorem T1.below {w w' : World} (h : T1 w) (hb : Below w.heap.size w w') : T1 w' := ⟨h.tw.below hb, h.ml.below hb, fun i hi => cell_later hb (h.tens i hi)⟩
def szK (n i : Nat) : Nat := 1 + (if 1 ≤ i ∧ 10 ≤ n then 1 else 0) + (if 2 ≤ i ∧ 100 ≤ n then 1 else 0) + (if 3 ≤ i ∧ 1000 ≤ n then 1 else 0)
theorem idx0 (w : World) : (Instr.index 110 (.agg #[.int .i64 10, .int .i64 100, .int .i64 1000]) (.int .i64 0)).run Tryd.prog w = .ok (.int .i64 10) w := by kernel_rfl
theorem idx1 (w : World) : (Instr.index 110 (.agg #[.int .i64 10, .int .i64 100, .int .i64 1000]) (.int .i64 1)).run Tryd.prog w = .ok (.int .i64 100) w := by kernel_rfl
theorem idx2 (w : World) : (Instr.index 110 (.agg #[.int .i64 10, .int .i64 100, .int .i64 1000]) (.int .i64 2)).run Tryd.prog w = .ok (.int .i64 1000) w := by kernel_rfl
attribute [local go_sem high] idx0 idx1 idx2
theorem dec_len10 {n : Nat} (h : 10 ≤ n) : (Lib.decDigits n).length = (Lib.decDigits (n / 10)).length + 1 := by
  rw [dec_two h, List.length_append, Lib.decDigits_one (show n % 10 < 10 by omega)]; rfl
theorem dec_len1 {n : Nat} (h : n < 10) : (Lib.decDigits n).length = 1 := by rw [Lib.decDigits_one h]; rfl
theorem sz_len {n : Nat} (h : n ≤ 9999) : szK n 3 = (Lib.decDigits n).length := by
  unfold szK
  rcases Nat.lt_or_ge n 10 with h1 | h1
  · rw [dec_len1 h1, if_neg (by omega), if_neg (by omega), if_neg (by omega)]
  · rw [dec_len10 h1]
    rcases Nat.lt_or_ge n 100 with h2 | h2
    · rw [dec_len1 (by omega), if_pos (by omega), if_neg (by omega), if_neg (by omega)]
    · rw [dec_len10 (by omega)]
      rcases Nat.lt_or_ge n 1000 with h3 | h3
      · rw [dec_len1 (by omega), if_pos (by omega), if_pos (by omega), if_neg (by omega)]
      · rw [dec_len10 (by omega), dec_len1 (by omega), if_pos (by omega), if_pos (by omega), if_pos (by omega)]
set_option maxRecDepth 100000 in
set_option maxHeartbeats 3200000 in
theorem size_ok (n : Nat) (h9 : n ≤ 9999) (w : World) (hT : T1 w) :
    Calls Tryd.prog 49 #[.int .i64 (n : Int)] w fun e w' => e = .returned (.int .i64 ((Lib.decDigits n).length : Nat)) ∧ w' = w := by
  have t0 := hT.tens 0 (by decide)
  have t1 := hT.tens 1 (by decide)
  have t2 := hT.tens 2 (by decide)
  simp only [Nat.zero_add, Nat.reduceAdd, Nat.reducePow] at t0 t1 t2
  rw [← sz_len h9]
  clear hT
  go_enter Tryd.func49, Tryd.ntmps49
  go_wp2
  go_loopw [3, 7] (fun k i wr => ∃ j : Nat, i = .int .i64 (j : Int) ∧ j ≤ 3 ∧ k = .int .i64 ((szK n j : Nat) : Int) ∧ wr = w) (fun _ i _ => 3 - (intOf i).toNat)
  case atStart => exact ⟨0, rfl, by decide, by rfl, rfl⟩
  case round =>
    obtain ⟨j, rfl, hj, rfl, rfl⟩ := hrel
    have hb : szK n j ≤ 4 := by unfold szK; split <;> split <;> split <;> omega
    match j, hj with
    | 0, _ =>
      simp only [Int.cast_ofNat_Int]
      by_cases h : 10 ≤ n
      · have d : decide ((10 : Int) ≤ (n : Int)) = true := decide_eq_true (by omega)
        have e : szK n 1 = szK n 0 + 1 := by unfold szK; simp [h]
        go_wp2
        go_roundw
        case rel => exact ⟨1, rfl, by decide, by rw [e]; go_num, trivial⟩
        case measure => simp [intOf]
      · have d : decide ((10 : Int) ≤ (n : Int)) = false := decide_eq_false (by omega)
        have e : szK n 1 = szK n 0 := by unfold szK; simp [h]
        go_wp2
        go_roundw
        case rel => exact ⟨1, rfl, by decide, by rw [e], trivial⟩
        case measure => simp [intOf]
    | 1, _ =>
      simp only [Int.cast_ofNat_Int]
      by_cases h : 100 ≤ n
      · have d : decide ((100 : Int) ≤ (n : Int)) = true := decide_eq_true (by omega)
        have e : szK n 2 = szK n 1 + 1 := by unfold szK; simp [h]
        go_wp2
        go_roundw
        case rel => exact ⟨2, rfl, by decide, by rw [e]; go_num, trivial⟩
        case measure => simp [intOf]
      · have d : decide ((100 : Int) ≤ (n : Int)) = false := decide_eq_false (by omega)
        have e : szK n 2 = szK n 1 := by unfold szK; simp [h]
        go_wp2
        go_roundw
        case rel => exact ⟨2, rfl, by decide, by rw [e], trivial⟩
        case measure => simp [intOf]
    | 2, _ =>
      simp only [Int.cast_ofNat_Int]
      by_cases h : 1000 ≤ n
      · have d : decide ((1000 : Int) ≤ (n : Int)) = true := decide_eq_true (by omega)
        have e : szK n 3 = szK n 2 + 1 := by unfold szK; simp [h]
        go_wp2
        go_roundw
        case rel => exact ⟨3, rfl, by decide, by rw [e]; go_num, trivial⟩
        case measure => simp [intOf]
      · have d : decide ((1000 : Int) ≤ (n : Int)) = false := decide_eq_false (by omega)
        have e : szK n 3 = szK n 2 := by unfold szK; simp [h]
        go_wp2
        go_roundw
        case rel => exact ⟨3, rfl, by decide, by rw [e], trivial⟩
        case measure => simp [intOf]
    | 3, _ =>
      simp only [Int.cast_ofNat_Int]
      go_wp2
      go_ret
      exact ⟨rfl, rfl⟩
end Go.Proofs.YtkklmljannclmaaDoor

namespace Go.Proofs.YtkklmljannclmaaDoor

/-- how long the rest's least text is -/
def lenB (N : List Nat) (i : Nat) : Nat := (bestC (N.drop i)).length
/-- what an item costs there -/
def valB (N : List Nat) (i : Nat) (x : Itm) : Nat := x.1.length + 1 + lenB N (i + x.2)
theorem val_drop (N : List Nat) (i : Nat) (x : Itm) : valB N i x = x.1.length + 1 + (bestC ((N.drop i).drop x.2)).length := by
  unfold valB lenB
  rw [List.drop_drop]
theorem len_le {N : List Nat} {i : Nat} {x : Itm} (hx : x ∈ itemsL (N.drop i)) : lenB N i ≤ valB N i x := by
  have hb := best_least (Tc.cons hx (best_text ((N.drop i).drop x.2)))
  rw [val_drop]
  unfold lenB
  rcases Nat.lt_or_ge (x.1.length + 1 + (bestC ((N.drop i).drop x.2)).length) (bestC (N.drop i)).length with h | h
  · rw [ltS_yes.2 (.inl (by rw [List.length_append, List.length_cons]; omega))] at hb; cases hb
  · exact h
theorem len_at {N : List Nat} {i : Nat} (h : i < N.length) : ∃ x, x ∈ itemsL (N.drop i) ∧ valB N i x = lenB N i := by
  have hne : N.drop i ≠ [] := by
    intro e
    have := congrArg List.length e
    rw [List.length_drop, List.length_nil] at this; omega
  have hm := (pick_mem (cand_ne hne)).1
  rw [← bestC_eq hne] at hm
  obtain ⟨x, hx, e⟩ := List.mem_map.1 hm
  refine ⟨x, hx, ?_⟩
  rw [val_drop]
  unfold lenB
  rw [← e, List.length_append, List.length_cons]; omega
def minV (N : List Nat) (i : Nat) (pre : List Itm) (m : Nat) : Nat := pre.foldl (fun m x => min m (valB N i x)) m
theorem minV_snoc (N : List Nat) (i : Nat) (pre : List Itm) (x : Itm) (m : Nat) : minV N i (pre ++ [x]) m = min (minV N i pre m) (valB N i x) := by unfold minV; rw [List.foldl_append]; rfl
theorem minV_le (N : List Nat) (i : Nat) : ∀ (pre : List Itm) (m : Nat), minV N i pre m ≤ m ∧ (∀ x, x ∈ pre → minV N i pre m ≤ valB N i x) ∧ (minV N i pre m = m ∨ ∃ x, x ∈ pre ∧ minV N i pre m = valB N i x)
  | [], m => ⟨Nat.le_refl _, by simp, .inl rfl⟩
  | y :: r, m => by
    obtain ⟨h1, h2, h3⟩ := minV_le N i r (min m (valB N i y))
    have e : minV N i (y :: r) m = minV N i r (min m (valB N i y)) := rfl
    rw [e]
    refine ⟨by omega, ?_, ?_⟩
    · intro x hx
      rcases List.mem_cons.1 hx with rfl | hx
      · omega
      · exact h2 x hx
    · rcases h3 with h3 | ⟨x, hx, h3⟩
      · rcases Nat.le_total m (valB N i y) with h | h
        · left; omega
        · right; exact ⟨y, List.mem_cons_self .., by omega⟩
      · exact .inr ⟨x, List.mem_cons_of_mem _ hx, h3⟩
theorem drop_at {N : List Nat} {i : Nat} (h : i < N.length) : N.drop i = N.getD i 0 :: N.drop (i + 1) := by
  rw [List.getD_eq_getElem?_getD, List.getElem?_eq_getElem h]
  exact List.drop_eq_getElem_cons h
theorem first_item {N : List Nat} {i : Nat} (h : i < N.length) : (Lib.decDigits (N.getD i 0), 1) ∈ itemsL (N.drop i) := by
  rw [drop_at h]; exact mem_items.2 (.inl rfl)
/-- the cost of one number alone, where the program begins -/
def oneB (N : List Nat) (i : Nat) : Nat := (Lib.decDigits (N.getD i 0)).length + 1 + lenB N (i + 1)
theorem minV_all {N : List Nat} {i : Nat} (h : i < N.length) : minV N i (itemsL (N.drop i)) (oneB N i) = lenB N i := by
  obtain ⟨h1, h2, h3⟩ := minV_le N i (itemsL (N.drop i)) (oneB N i)
  obtain ⟨x, hx, he⟩ := len_at h
  have h4 := h2 x hx
  have h5 : oneB N i = valB N i (Lib.decDigits (N.getD i 0), 1) := rfl
  rcases h3 with h3 | ⟨y, hy, h3⟩
  · have := len_le (first_item h); omega
  · have := len_le hy; omega
/-- what is kept while it picks -/
def PickI (N : List Nat) (i : Nat) (pre : List Itm) (b : Itm) : Prop :=
  (b = ([], 0) ∧ ∀ y, y ∈ pre → valB N i y ≠ lenB N i) ∨ (1 ≤ b.2 ∧ b ∈ itemsL (N.drop i) ∧ valB N i b = lenB N i ∧ ∀ y, y ∈ pre → valB N i y = lenB N i → ¬ (y.1 ++ [44] < b.1 ++ [44]))
theorem pick_start (N : List Nat) (i : Nat) : PickI N i [] ([], 0) := .inl ⟨rfl, by simp⟩
theorem pick_take {N : List Nat} {i : Nat} {pre : List Itm} {b x : Itm} (h : PickI N i pre b) (hx : x ∈ itemsL (N.drop i)) (hv : valB N i x = lenB N i) (hc : b.2 = 0 ∨ x.1 ++ [44] < b.1 ++ [44]) : PickI N i (pre ++ [x]) x := by
  refine .inr ⟨(items_many hx).1, hx, hv, ?_⟩
  intro y hy hyv
  rcases List.mem_append.1 hy with hy | hy
  · rcases h with ⟨_, h⟩ | ⟨h1, _, _, h⟩
    · exact absurd hyv (h y hy)
    · rcases hc with hc | hc
      · omega
      · exact fun hk => h y hy hyv (List.lt_trans hk hc)
  · rw [List.mem_singleton] at hy
    subst hy; exact lt_irr _
theorem pick_keep {N : List Nat} {i : Nat} {pre : List Itm} {b x : Itm} (h : PickI N i pre b) (hc : valB N i x = lenB N i → ¬ (b.2 = 0) ∧ ¬ (x.1 ++ [44] < b.1 ++ [44])) : PickI N i (pre ++ [x]) b := by
  rcases h with ⟨h1, h⟩ | ⟨h1, h2, h3, h⟩
  · refine .inl ⟨h1, fun y hy => ?_⟩
    rcases List.mem_append.1 hy with hy | hy
    · exact h y hy
    · rw [List.mem_singleton] at hy
      subst hy
      exact fun e => (hc e).1 (by rw [h1])
  · refine .inr ⟨h1, h2, h3, fun y hy hyv => ?_⟩
    rcases List.mem_append.1 hy with hy | hy
    · exact h y hy hyv
    · rw [List.mem_singleton] at hy
      subst hy
      exact (hc hyv).2
theorem pick_end {N : List Nat} {i : Nat} {b : Itm} (hi : i < N.length) (h : PickI N i (itemsL (N.drop i)) b) : 1 ≤ b.2 ∧ i + b.2 ≤ N.length ∧ bestC (N.drop i) = b.1 ++ 44 :: bestC (N.drop (i + b.2)) := by
  rcases h with ⟨_, h⟩ | ⟨h1, h2, h3, h⟩
  · obtain ⟨x, hx, he⟩ := len_at hi
    exact absurd he (h x hx)
  · have h4 := (items_many h2).2
    rw [List.length_drop] at h4
    refine ⟨h1, by omega, ?_⟩
    have := pick_item h2 (by rw [← val_drop]; exact h3) (fun y hy hv => h y hy (by rw [val_drop]; exact hv))
    rw [← this, List.drop_drop]
theorem lenB_bound {N : List Nat} (h : ∀ x, x ∈ N → x ≤ 9999) (i : Nat) : lenB N i ≤ 5 * (N.length - i) := by
  have := best_len (N.drop i) (fun x hx => h x (List.mem_of_mem_drop hx))
  rw [List.length_drop] at this
  exact this
theorem lenB_end (N : List Nat) : lenB N N.length = 0 := by unfold lenB; rw [List.drop_length]; rfl
/-- what has been written so far -/
def Wrt (N : List Nat) (i : Nat) (u : List UInt8) : Prop := (i = 0 ∧ u = []) ∨ (0 < i ∧ bestC N = u ++ 44 :: bestC (N.drop i))
theorem wrt_step {N : List Nat} {i : Nat} {u : List UInt8} {b : Itm} (h : Wrt N i u) (hb : 1 ≤ b.2) (he : bestC (N.drop i) = b.1 ++ 44 :: bestC (N.drop (i + b.2))) : Wrt N (i + b.2) ((if 0 < i then u ++ [44] else u) ++ b.1) := by
  refine .inr ⟨by omega, ?_⟩
  rcases h with ⟨h1, h2⟩ | ⟨h1, h2⟩
  · subst h1 h2
    rw [if_neg (by omega)]
    rw [List.drop_zero] at he
    rw [he]; rfl
  · rw [if_pos h1, h2, he]; simp
theorem wrt_end {N : List Nat} {u : List UInt8} (h : Wrt N N.length u) : u = bestS N := by
  unfold bestS
  rcases h with ⟨h1, h2⟩ | ⟨h1, h2⟩
  · have : N = [] := List.length_eq_zero_iff.1 h1
    subst this; rw [h2]; rfl
  · rw [h2, List.drop_length, bestC_nil]; simp
end Go.Proofs.YtkklmljannclmaaDoor

namespace Go.Proofs.YtkklmljannclmaaDoor
open Go.RowKit Go.Sort Go.Joins

theorem info_b : (Tryd.prog.info? 4).map (fun i => (i.zero, i.size, i.bytes)) = some (some (.bool false), 1, 1) := by kernel_rfl
/-- the first n answers, as values -/
def bl (p : Nat → Bool) (n : Nat) : List Value := (List.range n).map fun i => Value.bool (p i)
theorem bl_length (p : Nat → Bool) (n : Nat) : (bl p n).length = n := by simp [bl]
theorem bl_get (p : Nat → Bool) (n k : Nat) (h : k < n) : (bl p n)[k]? = some (.bool (p k)) := by simp [bl, h]
theorem bl_congr {p q : Nat → Bool} {n : Nat} (h : ∀ i, i < n → p i = q i) : bl p n = bl q n := by
  unfold bl
  exact List.map_congr_left fun i hi => by rw [h i (by simpa using hi)]
theorem bl_set (p : Nat → Bool) (n k : Nat) (v : Bool) : (bl p n).set k (.bool v) = bl (fun i => if i = k then v else p i) n := by
  apply List.ext_getElem?
  intro i
  rw [List.getElem?_set]
  by_cases hi : i < n
  · rw [bl_get _ _ _ hi, bl_get _ _ _ hi, bl_length]
    by_cases hk : k = i
    · subst hk; rw [if_pos rfl, if_pos hi, if_pos rfl]
    · rw [if_neg hk, if_neg (fun h => hk h.symm)]
  · have e : ∀ q, (bl q n)[i]? = none := fun q => List.getElem?_eq_none (by rw [bl_length]; omega)
    rw [e, e, bl_length]
    by_cases hk : k = i
    · subst hk; rw [if_pos rfl, if_neg hi]
    · rw [if_neg hk]
/-- an owned row of bools reads so -/
theorem own_bl {w : World} {base n : Nat} {e : TypeId} {g cap : Nat} {p : Nat → Bool} (h : w.ownsRow base e 1 (.slice (some ⟨g, 0, none⟩) n cap) n (bl p n)) (k : Nat) (hk : k < n) : w.cell? ⟨g, k, none⟩ = some (.bool (p k)) := by
  have := h.cellAt k (by omega)
  rw [bl_get _ _ _ hk] at this
  exact this
theorem bl_false (n : Nat) : (List.replicate n (Value.bool false)) = bl (fun _ => false) n := by
  apply List.ext_getElem?
  intro i
  by_cases h : i < n
  · rw [bl_get _ _ _ h, List.getElem?_replicate, if_pos h]
  · rw [List.getElem?_eq_none (by simpa using h), List.getElem?_eq_none (by rw [bl_length]; omega)]
theorem zeros_bl (w : World) (len : Nat) (h : len ≤ 10000000) : (w.alloc (.cells (madeCells #[.bool false] len) 4)).ownsRow w.heap.size 4 1 (.slice (some ⟨w.heap.size, 0, none⟩) len len) len (bl (fun _ => false) len) := by
  have h1 := World.ownsRow_lit (base := w.heap.size) (e := 4) (size := 1) w (madeCells #[.bool false] len) len (Nat.le_refl _) (by unfold maxLen; omega) (by simp [madeCells])
  rw [toList_madeCells_one, bl_false] at h1
  exact h1
/-- a store into a row of bools -/
theorem bl_stored {wr : World} {base g cap n k : Nat} {e : TypeId} {p r : Nat → Bool} {v : Bool} (ho : wr.ownsRow base e 1 (.slice (some ⟨g, 0, none⟩) n cap) n (bl p n)) (h : ∀ i, i < n → r i = if i = k then v else p i) :
    (wr.setCell ⟨g, k, none⟩ (.bool v)).ownsRow base e 1 (.slice (some ⟨g, 0, none⟩) n cap) n (bl r n) := by
  have hs := (ho.stored k (.bool v)).1
  rw [bl_set] at hs
  rw [bl_congr h]
  exact hs
end Go.Proofs.YtkklmljannclmaaDoor

namespace Go.Proofs.YtkklmljannclmaaDoor
open Go.RowKit Go.Sort Go.Joins

/-- the first n numbers, as values -/
def il (p : Nat → Nat) (n : Nat) : List Value := (List.range n).map fun i => Value.int .i64 (p i : Int)
theorem il_length (p : Nat → Nat) (n : Nat) : (il p n).length = n := by simp [il]
theorem il_get (p : Nat → Nat) (n k : Nat) (h : k < n) : (il p n)[k]? = some (.int .i64 (p k : Int)) := by simp [il, h]
theorem il_congr {p q : Nat → Nat} {n : Nat} (h : ∀ i, i < n → p i = q i) : il p n = il q n := by
  unfold il
  exact List.map_congr_left fun i hi => by rw [h i (by simpa using hi)]
theorem il_set (p : Nat → Nat) (n k v : Nat) : (il p n).set k (.int .i64 (v : Int)) = il (fun i => if i = k then v else p i) n := by
  apply List.ext_getElem?
  intro i
  rw [List.getElem?_set]
  by_cases hi : i < n
  · rw [il_get _ _ _ hi, il_get _ _ _ hi, il_length]
    by_cases hk : k = i
    · subst hk; rw [if_pos rfl, if_pos hi, if_pos rfl]
    · rw [if_neg hk, if_neg (fun h => hk h.symm)]
  · have e : ∀ q, (il q n)[i]? = none := fun q => List.getElem?_eq_none (by rw [il_length]; omega)
    rw [e, e, il_length]
    by_cases hk : k = i
    · subst hk; rw [if_pos rfl, if_neg hi]
    · rw [if_neg hk]
theorem own_il {w : World} {base n : Nat} {e : TypeId} {g cap : Nat} {p : Nat → Nat} (h : w.ownsRow base e 1 (.slice (some ⟨g, 0, none⟩) n cap) n (il p n)) (k : Nat) (hk : k < n) : w.cell? ⟨g, k, none⟩ = some (.int .i64 (p k : Int)) := by
  have := h.cellAt k (by omega)
  rw [il_get _ _ _ hk] at this
  exact this
theorem il_zero (n : Nat) : (List.replicate n (Value.int .i64 0)) = il (fun _ => 0) n := by
  apply List.ext_getElem?
  intro i
  by_cases h : i < n
  · rw [il_get _ _ _ h, List.getElem?_replicate, if_pos h]; rfl
  · rw [List.getElem?_eq_none (by simpa using h), List.getElem?_eq_none (by rw [il_length]; omega)]
theorem zeros_il (w : World) (len : Nat) (h : len ≤ 10000000) : (w.alloc (.cells (madeCells #[.int .i64 0] len) 3)).ownsRow w.heap.size 3 1 (.slice (some ⟨w.heap.size, 0, none⟩) len len) len (il (fun _ => 0) len) := by
  have h1 := World.ownsRow_lit (base := w.heap.size) (e := 3) (size := 1) w (madeCells #[.int .i64 0] len) len (Nat.le_refl _) (by unfold maxLen; omega) (by simp [madeCells])
  rw [toList_madeCells_one, il_zero] at h1
  exact h1
/-- a store into a row of numbers -/
theorem il_stored {wr : World} {base g cap n k v : Nat} {e : TypeId} {p r : Nat → Nat} (ho : wr.ownsRow base e 1 (.slice (some ⟨g, 0, none⟩) n cap) n (il p n)) (h : ∀ i, i < n → r i = if i = k then v else p i) :
    (wr.setCell ⟨g, k, none⟩ (.int .i64 (v : Int))).ownsRow base e 1 (.slice (some ⟨g, 0, none⟩) n cap) n (il r n) := by
  have hs := (ho.stored k (.int .i64 (v : Int))).1
  rw [il_set] at hs
  rw [il_congr h]
  exact hs
theorem own_stays' {W W' : World} {base : Nat} {e : TypeId} {size : Nat} {v : Value} {n : Nat} {xs : List Value} {row : Option Nat} (h : W.ownsRow base e size v n xs) (hg : W.grownBy W' row) (hr : ∀ r, row = some r → ∃ o : Obj, W.heap[r]? = some o ∧ o.isCells = false) : W'.ownsRow base e size v n xs := own_stays h hg hr
/-- what List keeps in memory: the row of lengths, its box, the marks; z is where the call began -/
structure LM (w : World) (n : Nat) (P : Nat → Nat) (ds : List Nat) (W : World) : Prop where
  own : W.ownsRow w.heap.size 3 1 (.slice (some ⟨w.heap.size, 0, none⟩) (n + 1) (n + 1)) (n + 1) (il P (n + 1))
  box : W.heap[w.heap.size + 1]? = some (.cells #[.slice (some ⟨w.heap.size, 0, none⟩) (n + 1) (n + 1)] 39 (0, 0))
  k : Below w.heap.size w W
  dm : MksAt (w.heap.size + 3) ds W
section
variable {w W W' : World} {n : Nat} {P P' : Nat → Nat} {ds : List Nat}
theorem LM.below (h : LM w n P ds W) (hb : Below W.heap.size W W') : LM w n P ds W' :=
  ⟨own_below h.own hb, (hb.block _ (blk_lt h.box)).trans h.box, h.k.trans (hb.mono h.k.size), h.dm.below hb⟩
theorem LM.congr (h : LM w n P ds W) (hM : ∀ j, j < n + 1 → P j = P' j) : LM w n P' ds W :=
  ⟨by rw [← il_congr hM]; exact h.own, h.box, h.k, h.dm⟩
theorem LM.grown {Z : Nat} {row : Option Nat} (h : LM w n P ds W) (hZ : w.heap.size ≤ Z) (hds : ∀ D ∈ ds, D < Z) (hg : W.grownBy W' row) (hr : ∀ r, row = some r → Z ≤ r ∧ ∃ o : Obj, W.heap[r]? = some o ∧ o.isCells = false) : LM w n P ds W' :=
  ⟨own_stays h.own hg (fun r e => (hr r e).2), blk_kept h.box hg (fun r e => (hr r e).2), h.k.grown hg h.k.size (fun r e => by have := (hr r e).1; omega),
    h.dm.keep fun D hD hk => (hg.block D (Array.getElem?_eq_some_iff.1 hk).1 (fun e => by have := (hr D e.symm).1; have := hds D hD; omega)).trans hk⟩
theorem LM.store {m v : Nat} (h : LM w n P ds W) (hM : ∀ i, i < n + 1 → P' i = if i = m then v else P i) : LM w n P' ds (W.setCell ⟨w.heap.size, m, none⟩ (.int .i64 (v : Int))) := by
  refine ⟨il_stored h.own hM, (Below.heap_setCell _ _ _ _ (show w.heap.size + 1 ≠ w.heap.size by omega)).trans h.box, h.k.setCell (p := ⟨w.heap.size, m, none⟩) (Nat.le_refl _) _, h.dm.keep fun D hD hk => (Below.heap_setCell _ _ _ _ (show D ≠ w.heap.size from fun e => by have := (h.dm.2 D hD).1; omega)).trans hk⟩
/-- a store into a box beside -/
theorem LM.other {p : Addr} (h : LM w n P ds W) (hp : w.heap.size + 2 ≤ p.block) (hd : ∀ D ∈ ds, D ≠ p.block) (v : Value) : LM w n P ds (W.setCell p v) := by
  refine ⟨ownsRow_setCell_other h.own (by simp [Value.ownBlock]; omega) v, (Below.heap_setCell _ _ _ _ (by omega)).trans h.box, h.k.setCell (p := p) (by omega) _, h.dm.keep fun D hD hk => (Below.heap_setCell _ _ _ _ (hd D hD)).trans hk⟩
theorem LM.cell (h : LM w n P ds W) : W.cell? ⟨w.heap.size + 1, 0, none⟩ = some (.slice (some ⟨w.heap.size, 0, none⟩) (n + 1) (n + 1)) := by
  rw [cell_of_block h.box]; rfl
theorem LM.at_ (h : LM w n P ds W) {j : Nat} (hj : j ≤ n) : W.cell? ⟨w.heap.size, j, none⟩ = some (.int .i64 (P j : Int)) := own_il h.own j (by omega)
end
end Go.Proofs.YtkklmljannclmaaDoor

namespace Go.Proofs.YtkklmljannclmaaDoor
open Go.RowKit Go.Sort Go.Joins

theorem heap_alloc_is (w : World) (cs : Array Value) (t : TypeId) (k : Nat) (hk : k = w.heap.size) : (w.alloc (.cells cs t)).heap[k]? = some (.cells cs t (0, 0)) := by
  subst hk
  exact heap_alloc_new w _
/-- the lengths from k on -/
def bst (N : List Nat) (k j : Nat) : Nat := if k ≤ j then lenB N j else 0
/-- a box with a number -/
abbrev BoxI (W : World) (q : Nat) (i : Int) : Prop := W.heap[q]? = some (.cells #[.int .i64 i] 3 (0, 0))
/-- the first loop: k numbers are still to come -/
def L2 (w : World) (a : Option Addr) (n c : Nat) (N : List Nat) (A : Act) (W : World) : Prop :=
  ∃ (k q : Nat) (u2 u3 u5 u20 u21 u22 u23 u24 u25 u26 u27 u28 u8 u36 u37 u38 u39 u40 u41 u42 u43 u44 u45 u46 u47 u48 u49 u50 u51 u52 u53 u54 u55 u56 u57 u58 u59 u60 u61 u62 u63 u64 u65 u66 u67 u68 u69 u70 u71 u72 u73 u74 u75 u76 u77 u78 u79 u80 : Value) (ds : List Nat), A = { tmps := #[.slice a n c, undef, u2, u3, undef, u5, .pointer (some ⟨w.heap.size + 1, 0, none⟩), .pointer (some ⟨q, 0, none⟩), u8, undef, undef, undef, undef, .slice a n c, .int .i64 (n : Int), .bool false, .slice a n c, .int .i64 (n : Int), .int .i64 (n : Int), .bool false, u20, u21, u22, u23, u24, u25, u26, u27, u28, .slice a n c, .int .i64 (n : Int), .int .i64 ((n : Int) + 1), .slice (some ⟨w.heap.size, 0, none⟩) (n + 1) (n + 1), .slice a n c, .int .i64 (n : Int), .int .i64 ((n : Int) - 1), u36, u37, u38, u39, u40, u41, u42, u43, u44, u45, u46, u47, u48, u49, u50, u51, u52, u53, u54, u55, u56, u57, u58, u59, u60, u61, u62, u63, u64, u65, u66, u67, u68, u69, u70, u71, u72, u73, u74, u75, u76, u77, u78, u79, u80, undef, undef, undef, undef, undef, undef, undef, undef, undef, undef, undef, undef, undef, undef, undef, undef, undef, undef, undef, undef, undef, undef, undef, undef, undef, undef, undef, undef, undef, undef, undef, undef, undef, undef, undef, undef, undef, undef, undef, undef, undef, undef, undef, undef, undef, undef, undef, undef, undef, undef, undef, undef, undef, undef], defers := mks ds } ∧ k ≤ n ∧ w.heap.size + 2 ≤ q ∧ BoxI W q ((k : Int) - 1) ∧ LM w n (bst N k) ds W
def mu2 (A : Act) (W : World) : Nat := match A.tmps.getD 7 undef with
  | .pointer (some p) => (match W.cell? p with | some (.int _ i) => (i + 1).toNat | _ => 0)
  | _ => 0
/-- behind the first loop -/
def L2e (w : World) (a : Option Addr) (n c : Nat) (N : List Nat) (A : Act) (W : World) : Prop :=
  ∃ (q : Nat) (u2 u3 u5 u20 u21 u22 u23 u24 u25 u26 u27 u28 u8 u38 u39 u40 u41 u42 u43 u44 u45 u46 u47 u48 u49 u50 u51 u52 u53 u54 u55 u56 u57 u58 u59 u60 u61 u62 u63 u64 u65 u66 u67 u68 u69 u70 u71 u72 u73 u74 u75 u76 u77 u78 u79 u80 : Value) (ds : List Nat), A = { tmps := #[.slice a n c, undef, u2, u3, undef, u5, .pointer (some ⟨w.heap.size + 1, 0, none⟩), .pointer (some ⟨q, 0, none⟩), u8, undef, undef, undef, undef, .slice a n c, .int .i64 (n : Int), .bool false, .slice a n c, .int .i64 (n : Int), .int .i64 (n : Int), .bool false, u20, u21, u22, u23, u24, u25, u26, u27, u28, .slice a n c, .int .i64 (n : Int), .int .i64 ((n : Int) + 1), .slice (some ⟨w.heap.size, 0, none⟩) (n + 1) (n + 1), .slice a n c, .int .i64 (n : Int), .int .i64 ((n : Int) - 1), .int .i64 (-1), .bool false, u38, u39, u40, u41, u42, u43, u44, u45, u46, u47, u48, u49, u50, u51, u52, u53, u54, u55, u56, u57, u58, u59, u60, u61, u62, u63, u64, u65, u66, u67, u68, u69, u70, u71, u72, u73, u74, u75, u76, u77, u78, u79, u80, undef, undef, undef, undef, undef, undef, undef, undef, undef, undef, undef, undef, undef, undef, undef, undef, undef, undef, undef, undef, undef, undef, undef, undef, undef, undef, undef, undef, undef, undef, undef, undef, undef, undef, undef, undef, undef, undef, undef, undef, undef, undef, undef, undef, undef, undef, undef, undef, undef, undef, undef, undef, undef, undef], defers := mks ds } ∧ w.heap.size + 2 ≤ q ∧ BoxI W q (-1) ∧ LM w n (bst N 0) ds W
end Go.Proofs.YtkklmljannclmaaDoor
