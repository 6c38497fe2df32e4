/- Words: the least text of a list, by the program. | Words: the least text of a list, by the reference: its row of best texts, plain. | Words: texts of the reference, walked. -/
import Derived.Test.YthmknaoelmeniaaGreatDoorWYZ9
import Derived.Test.YthmknaoelmeniaaGreatDoorWYZ5
import Derived.Deep.OwnRows
import Derived.Deep.RegionHeld3
import Derived.Deep.Cut
import Derived.Test.YthmknaoelmeniaaGreatDoorWYZ8
import Derived.Test.YthmknaoelmeniaaGreatDoorWYZ3
namespace Go.Proofs.YthmknaoelmeniaaGreatDoor
open Go.RowKit Go.Sort Go.Joins Go.Shelf
attribute [local go_sem] cell_grow frozen_grow size_grow Oper.semAt_some

def lsBad (x : Int) : Bool := decide (x < 0) || decide (9999 < x)
def lstE (I : List Int) : Int := if 500 < I.length then 3 else if I.any lsBad then 7 else 0
def nats (I : List Int) : List Nat := I.map Int.toNat
def lstL (I : List Int) : List UInt8 := if lstE I = 0 then bestS (nats I) else []
/-- what List hands back -/
def LsPost (w : World) (L : List UInt8) (E : Int) (x : Ending) (w' : World) : Prop :=
  ∃ S : ByteArray, x = .returned (.tuple #[.string S, .int .i64 E]) ∧ S.data.toList = L ∧ Below w.heap.size w w'
theorem ints_nats {I : List Int} (h : I.any lsBad = false) : ints (nats I) = I := by
  unfold ints nats
  rw [List.map_map]
  conv => rhs; rw [← List.map_id I]
  apply List.map_congr_left
  intro x hx
  have := List.any_eq_false.1 h x hx
  unfold lsBad at this
  simp at this
  simp; omega
theorem nats_le {I : List Int} (h : I.any lsBad = false) : ∀ x, x ∈ nats I → x ≤ 9999 := by
  intro x hx
  obtain ⟨y, hy, rfl⟩ := List.mem_map.1 hx
  have := List.any_eq_false.1 h y hy
  unfold lsBad at this
  simp at this
  omega
set_option maxRecDepth 100000 in
set_option maxHeartbeats 6400000 in
theorem wlist_bad (I : List Int) (a : Option Addr) (c : Nat) (w : World) (hS : SlN w a I) (_hc : I.length ≤ c) (hT : T1 w) (hlen : I.length ≤ 4611686018427387904) (hbad : lstE I ≠ 0) :
    Calls Tryz.prog 5 #[.slice a I.length c] w (LsPost w (lstL I) (lstE I)) := by
  by_cases h1 : 500 < I.length
  · have d1 : decide ((500 : Int) < (I.length : Int)) = true := decide_eq_true (by omega)
    have hE : lstE I = 3 := by unfold lstE; rw [if_pos h1]
    have hL : lstL I = [] := by unfold lstL; rw [hE, if_neg (by decide)]
    rw [hE, hL]
    clear hS hT
    go_enter Tryz.func5, Tryz.ntmps5
    go_wp2
    go_ret2
    exact ⟨_, rfl, rfl, Below.refl _ _⟩
  · have d1 : decide ((500 : Int) < (I.length : Int)) = false := decide_eq_false (by omega)
    have hE : lstE I = if I.any lsBad then 7 else 0 := by unfold lstE; rw [if_neg h1]
    have HS := Lib.hid hS
    have HT := Lib.hid hT
    obtain ⟨n, hn⟩ : ∃ n, I.length = n := ⟨_, rfl⟩
    have HN := Lib.hid hn
    cases hany : I.any lsBad with
    | true =>
      rw [hany] at hE
      have hL : lstL I = [] := by unfold lstL; rw [hE]; rfl
      have HA := Lib.hid hany
      rw [hE, hL]
      rw [hn] at d1 h1 ⊢
      clear hS hT hE hn hlen hany hL
      go_enter Tryz.func5, Tryz.ntmps5
      go_wp2
      go_loopw [18] (fun i wr => ∃ k : Nat, i = .int .i64 (k : Int) ∧ k ≤ n ∧ wr = w ∧ Hid (∀ j, j < k → lsBad (I.getD j 0) = false)) (fun i _ => n - (intOf i).toNat)
      case atStart => exact ⟨0, rfl, Nat.zero_le _, rfl, Lib.hid (fun j hj => absurd hj (Nat.not_lt_zero _))⟩
      case round =>
        obtain ⟨k, rfl, hk, rfl, HG⟩ := hrel
        by_cases hlt : k < n
        · obtain ⟨b, o, rfl, g0⟩ := HS.out.at_ (j := k) (by rw [HN.out]; exact hlt)
          obtain ⟨x, hx⟩ : ∃ x, I.getD k 0 = x := ⟨_, rfl⟩
          rw [hx] at g0
          cases hb : lsBad x with
          | true =>
            have hb' := hb
            unfold lsBad at hb'
            clear hb hx
            have hor : decide (x < 0) = true ∨ (decide (x < 0) = false ∧ decide (9999 < x) = true) := by
              cases h : decide (x < 0)
              · right; rw [h] at hb'; exact ⟨rfl, by simpa using hb'⟩
              · exact .inl rfl
            clear hb'
            rcases hor with d2 | ⟨d2, d3⟩
            all_goals
              go_wp2
              go_ret2
              exact ⟨_, rfl, rfl, Below.refl _ _⟩
          | false =>
            have hb' := hb
            unfold lsBad at hb'
            simp only [Bool.or_eq_false_iff] at hb'
            obtain ⟨d2, d3⟩ := hb'
            have HG2 : Hid (∀ j, j < k + 1 → lsBad (I.getD j 0) = false) := Lib.hid (fun j hj => by
              by_cases e : j = k
              · rw [e, hx]; exact hb
              · exact HG.out j (by omega))
            clear hb hx
            go_wp2
            go_roundw
            case rel => exact ⟨k + 1, by go_num, by omega, trivial, HG2⟩
            case measure => simp [intOf]; omega
        · exfalso
          obtain ⟨x, hx, hxb⟩ := List.any_eq_true.1 HA.out
          obtain ⟨j, hj, rfl⟩ := List.mem_iff_getElem.1 hx
          have := HG.out j (by rw [HN.out] at hj; omega)
          rw [List.getD_eq_getElem?_getD, List.getElem?_eq_getElem hj] at this
          have : lsBad I[j] = false := this
          rw [hxb] at this; cases this
    | false => exact absurd (by rw [hE, hany]; rfl) hbad
set_option maxRecDepth 100000 in
set_option maxHeartbeats 6400000 in
theorem wlA (N : List Nat) (a : Option Addr) (n c : Nat) (w : World)
    (hG : ∀ A W, L2e w a n c N A W → (codeAt Tryz.f5 19).wpIn Fence.wide 8 Tryz.prog (bodyPostM Fence.wide 8 Tryz.prog Tryz.f5 (LsPost w (bestS N) 0)) A W)
    (hS : SlN w a (ints N)) (h9 : ∀ x, x ∈ N → x ≤ 9999) (hNl : N.length = n) (h1 : n ≤ 500) (hc : n ≤ c) (hT : T1 w) :
    Calls Tryz.prog 5 #[.slice a n c] w (LsPost w (bestS N) 0) := by
      have HGG := Lib.hid hG
      have HS := Lib.hid hS
      have HT := Lib.hid hT
      have HNL := Lib.hid hNl
      have H9 := Lib.hid h9
      have HA : Hid (∀ x, x ∈ ints N → lsBad x = false) := Lib.hid (fun x hx => by
        unfold ints at hx
        obtain ⟨y, hy, rfl⟩ := List.mem_map.1 hx
        have := H9.out y hy
        unfold lsBad
        rw [decide_eq_false (by omega), decide_eq_false (by omega)]; rfl)
      have d1 : decide ((500 : Int) < (n : Int)) = false := decide_eq_false (by omega)
      clear hG hS hT hNl h9
      have hmk := fun W => run_make_row' (P := Tryz.prog) 22 3 (.int .i64 0) 8 Tryz.underlying22 info_int rfl .i64 .i64 (n + 1) (by omega) (by omega) W
      rw [show ((n + 1 : Nat) : Int) = (n : Int) + 1 by omega] at hmk
      refine (callsIn_wide (n := 8)).1 ?_
      refine callsIn_of_wp_marks Tryz.func5 rfl trivial ?_ rfl
      simp only [Tryz.ntmps5, List.size_toArray, List.length_cons, List.length_nil, Nat.reduceAdd, Nat.reduceSub, Array.replicate_succ, Array.replicate_zero, List.push_toArray, List.append_toArray, List.nil_append, List.cons_append]
      gi_wp2
      gi_loopw [18] (fun i wr => ∃ k : Nat, i = .int .i64 (k : Int) ∧ k ≤ n ∧ w = wr) (fun i _ => n - (intOf i).toNat)
      case atStart => exact ⟨0, rfl, Nat.zero_le _, rfl⟩
      case round =>
        obtain ⟨k, rfl, hk, rfl⟩ := hrel
        by_cases hlt : k < n
        · obtain ⟨b, o, rfl, g0⟩ := HS.out.at_ (j := k) (by rw [ints_len, HNL.out]; exact hlt)
          have hmem : (ints N).getD k 0 ∈ ints N := by
            rw [List.getD_eq_getElem?_getD, List.getElem?_eq_getElem (by rw [ints_len, HNL.out]; exact hlt)]
            exact List.getElem_mem _
          have hb := HA.out _ hmem
          obtain ⟨x, hx⟩ : ∃ x, (ints N).getD k 0 = x := ⟨_, rfl⟩
          rw [hx] at g0 hb
          unfold lsBad at hb
          simp only [Bool.or_eq_false_iff] at hb
          obtain ⟨d2, d3⟩ := hb
          clear hx hmem hmk
          gi_wp2
          go_roundw
          case rel => exact ⟨k + 1, by go_num, by omega, trivial⟩
          case measure => simp [intOf]; omega
        · obtain rfl : n = k := by omega
          clear HA
          gi_wp2
          refine wpIn_loop (L2 w a n c N) mu2 ?_ ?_
          · refine ⟨n, _, _, _, _, _, _, _, _, _, _, _, _, _, _, _, _, _, _, _, _, _, _, _, _, _, _, _, _, _, _, _, _, _, _, _, _, _, _, _, _, _, _, _, _, _, _, _, _, _, _, _, _, _, _, _, _, _, _, _, [], rfl, Nat.le_refl _, ?_, ?_, ?_⟩
            rotate_left
            · exact heap_alloc_is _ _ _ _ (by simp)
            · have h0 := zeros_il w (n + 1) (by omega)
              have h1 := own_below h0 (below_box0 _ (.cells #[.slice (some ⟨w.heap.size, 0, none⟩) (n + 1) (n + 1)] 22))
              have h2 := own_below h1 (below_box0 _ (.cells #[.int .i64 ((n : Int) - 1)] 3))
              refine ⟨?_, ?_, ?_, MksAt.nil _ _⟩
              · rw [il_congr (q := fun _ => 0) (fun i hi => by
                  unfold bst
                  split
                  · rw [show i = N.length by rw [HNL.out]; omega, lenB_end]
                  · rfl)]
                exact h2
              · exact (Below.heap_alloc _ _ _ (by simp)).trans (heap_alloc_is _ _ _ _ (by simp))
              · exact (((Below.refl _ _).alloc (Nat.le_refl _) _).alloc (by simp) _).alloc (by simp; omega) _
            · omega
          · rintro A W ⟨j1, q, u2, u3, u5, u20, u21, u22, u23, u24, u25, u26, u27, u28, u8, u36, u37, u38, u39, u40, u41, u42, u43, u44, u45, u46, u47, u48, u49, u50, u51, u52, u53, u54, u55, u56, u57, u58, u59, u60, u61, u62, u63, u64, u65, u66, u67, u68, u69, u70, u71, u72, u73, u74, u75, u76, u77, u78, u79, u80, ds, rfl, hj, hq, hB, hM⟩
            by_cases h0 : j1 = 0
            · subst h0
              have x7 : W.cell? ⟨q, 0, none⟩ = some (.int .i64 (-1)) := by rw [cell_of_block hB]; rfl
              have HMM := Lib.hid hM
              have HBB := Lib.hid hB
              clear hM hB
              refine wpIn_wide.2 ?_
              go_upto_region 19 with fail
              try dsimp +zetaDelta only
              obtain ⟨A, hA⟩ : ∃ A : Act, A = { tmps := #[.slice a n c, undef, u2, u3, undef, u5, .pointer (some ⟨w.heap.size + 1, 0, none⟩), .pointer (some ⟨q, 0, none⟩), u8, undef, undef, undef, undef, .slice a n c, .int .i64 (n : Int), .bool false, .slice a n c, .int .i64 (n : Int), .int .i64 (n : Int), .bool false, u20, u21, u22, u23, u24, u25, u26, u27, u28, .slice a n c, .int .i64 (n : Int), .int .i64 ((n : Int) + 1), .slice (some ⟨w.heap.size, 0, none⟩) (n + 1) (n + 1), .slice a n c, .int .i64 (n : Int), .int .i64 ((n : Int) - 1), .int .i64 (-1), .bool false, u38, u39, u40, u41, u42, u43, u44, u45, u46, u47, u48, u49, u50, u51, u52, u53, u54, u55, u56, u57, u58, u59, u60, u61, u62, u63, u64, u65, u66, u67, u68, u69, u70, u71, u72, u73, u74, u75, u76, u77, u78, u79, u80, undef, undef, undef, undef, undef, undef, undef, undef, undef, undef, undef, undef, undef, undef, undef, undef, undef, undef, undef, undef, undef, undef, undef, undef, undef, undef, undef, undef, undef, undef, undef, undef, undef, undef, undef, undef, undef, undef, undef, undef, undef, undef, undef, undef, undef, undef, undef, undef, undef, undef, undef, undef, undef, undef], defers := mks ds } := ⟨_, rfl⟩
              rw [← hA]
              refine use_code (d := codeAt Tryz.f5 19) (by kernel_rfl) ?_
              exact HGG.out A W ⟨q, u2, u3, u5, u20, u21, u22, u23, u24, u25, u26, u27, u28, u8, u38, u39, u40, u41, u42, u43, u44, u45, u46, u47, u48, u49, u50, u51, u52, u53, u54, u55, u56, u57, u58, u59, u60, u61, u62, u63, u64, u65, u66, u67, u68, u69, u70, u71, u72, u73, u74, u75, u76, u77, u78, u79, u80, ds, hA, hq, HBB.out, HMM.out⟩
            · obtain ⟨j, rfl⟩ : ∃ j, j1 = j + 1 := ⟨j1 - 1, by omega⟩
              rw [show ((j + 1 : Nat) : Int) - 1 = (j : Int) by omega] at hB
              have x7 : W.cell? ⟨q, 0, none⟩ = some (.int .i64 (j : Int)) := by rw [cell_of_block hB]; rfl
              have k6 := hM.cell
              have kb := hM.at_ (j := j + 1) hj
              have kf := hM.own.frozenAt j
              have kj := hM.at_ (j := j) (by omega)
              have kl := World.block_lt_of_cell? _ _ kj
              dsimp only at kl
              obtain ⟨b, o, rfl, g0w⟩ := HS.out.at_ (j := j) (by rw [ints_len, HNL.out]; omega)
              rw [ints_at (by rw [HNL.out]; omega)] at g0w
              have hbz := World.block_lt_of_cell? _ _ g0w
              dsimp only at hbz
              have g0 := cell_later hM.k g0w
              have hx9 : N.getD j 0 ≤ 9999 := H9.out _ (by rw [List.getD_eq_getElem?_getD, List.getElem?_eq_getElem (by rw [HNL.out]; omega)]; exact List.getElem_mem _)
              obtain ⟨x, hx⟩ : ∃ x, N.getD j 0 = x := ⟨_, rfl⟩
              rw [hx] at g0 hx9
              have hx' := hx
              clear g0w
              have HSZ := Lib.hid (size_ok x hx9 W.drew ((HT.out.below hM.k).below (Below.refl _ W).drew))
              have HM := Lib.hid hM
              have HB := Lib.hid hB
              have hjn : j < n := by omega
              have HX7 := Lib.hid x7
              have i0 : (0 : Int) ≤ (j : Int) := by omega
              have i1 : (j : Int) < (n : Int) := by omega
              have i2 : (j : Int) < (n : Int) + 1 := by omega
              have i3 : (0 : Int) ≤ (j : Int) + 1 := by omega
              have i4 : (j : Int) + 1 < (n : Int) + 1 := by omega
              obtain ⟨v, hv⟩ : ∃ v, bst N (j + 1) (j + 1) = v := ⟨_, rfl⟩
              have hvb : v ≤ 2500 := by
                rw [← hv]
                unfold bst
                have := lenB_bound H9.out (j + 1)
                rw [HNL.out] at this
                split <;> omega
              rw [hv] at kb
              obtain ⟨e, he⟩ : ∃ e, (Lib.decDigits x).length = e := ⟨_, rfl⟩
              have heb : e ≤ 5 := by
                have := dec_size (n := x) (by omega)
                rw [← he]; exact this
              rw [he] at HSZ
              have hw1 : IntKind.i64.wrap ((j : Int) + 1) = (j : Int) + 1 := IntWalk.i64_in _ (by omega)
              have hw2 : IntKind.i64.wrap ((e : Int) + 1) = (e : Int) + 1 := IntWalk.i64_in _ (by omega)
              have hw3 : IntKind.i64.wrap ((e : Int) + 1 + (v : Int)) = (e : Int) + 1 + (v : Int) := IntWalk.i64_in _ (by omega)
              have n0 : ∀ u, (W.setCell ⟨w.heap.size, j, none⟩ u).cell? ⟨w.heap.size + 1, 0, none⟩ = some (.slice (some ⟨w.heap.size, 0, none⟩) (n + 1) (n + 1)) := fun u => (World.cell?_setCell_other _ _ _ _ (fun e => by injection e with e1 e2; omega)).trans k6
              have n1 : ∀ u, (W.setCell ⟨w.heap.size, j, none⟩ u).cell? ⟨q, 0, none⟩ = some (.int .i64 (j : Int)) := fun u => (World.cell?_setCell_other _ _ _ _ (fun e => by injection e with e1 e2; omega)).trans x7
              have n2 : ∀ u, (W.setCell ⟨w.heap.size, j, none⟩ u).cell? ⟨b, o + j, none⟩ = some (.int .i64 (x : Int)) := fun u => (World.cell?_setCell_other _ _ _ _ (fun e => by injection e with e1 e2; omega)).trans g0
              have n3 : ∀ u, (W.setCell ⟨w.heap.size, j, none⟩ u).cell? ⟨w.heap.size, j + 1, none⟩ = some (.int .i64 (v : Int)) := fun u => (World.cell?_setCell_other _ _ _ _ (fun e => by injection e with e1 e2; omega)).trans kb
              gi_wp2_with fail
              refine wpIn_wide.2 ?_
              go_region_held3 (fun w' => w'.cell? ⟨w.heap.size + 1, 0, none⟩ = some (.slice (some ⟨w.heap.size, 0, none⟩) (n + 1) (n + 1)) ∧ w'.cell? ⟨q, 0, none⟩ = some (.int .i64 (j : Int)) ∧ w'.cell? ⟨b, o + j, none⟩ = some (.int .i64 (x : Int)) ∧ w'.cell? ⟨w.heap.size, j + 1, none⟩ = some (.int .i64 (v : Int)))
                (first | (refine ⟨n0 _, n1 _, n2 _, n3 _⟩; done) | go_keep)
                (first | (go_at_call 14; refine HSZ.out.mono ?_; rintro e w' ⟨rfl, rfl⟩))
              rename_i hHeld
              simp only [Exit.then]
              refine use_k (by assumption) ?_
              have HM1 : Hid (LM w n (minP N j []) ds ((W.setCell ⟨w.heap.size, j, none⟩ (.int .i64 ((e : Int) + 1 + (v : Int)))).drew)) := Lib.hid (by
                have e1 : minV N j [] (oneB N j) = e + 1 + v := by
                  show oneB N j = _
                  unfold oneB
                  rw [hx', he, ← hv]
                  unfold bst
                  rw [if_pos (Nat.le_refl _)]
                have e2 : ((e + 1 + v : Nat) : Int) = (e : Int) + 1 + (v : Int) := by omega
                rw [← e2]
                exact (HM.out.store (m := j) (v := e + 1 + v) (fun i _ => by unfold minP; rw [← e1]; rfl)).below (Below.refl _ _).drew)
              have HB1 : Hid (BoxI ((W.setCell ⟨w.heap.size, j, none⟩ (.int .i64 ((e : Int) + 1 + (v : Int)))).drew) q (j : Int)) := Lib.hid ((Below.heap_setCell _ _ _ _ (show q ≠ w.heap.size by omega)).trans HB.out)
              have hk1 := HM1.out.cell
              obtain ⟨W1, hW1⟩ : ∃ V, (W.setCell ⟨w.heap.size, j, none⟩ (.int .i64 ((e : Int) + 1 + (v : Int)))).drew = V := ⟨_, rfl⟩
              rw [hW1] at HM1 HB1 hk1 ⊢
              clear hW1 n0 n1 n2 n3 hw1 hw2 hw3 hHeld HM HB kf kj kl k6 kb x7 g0 HSZ he heb hv hvb
              have x7 : W1.cell? ⟨q, 0, none⟩ = some (.int .i64 (j : Int)) := by rw [cell_of_block HB1.out]; rfl
              gi_wp2_with fail
              refine ⟨trivial, (callsIn_wide.2 (items_ok _ _ _ _)).mono ?_⟩
              rintro e w2 ⟨rfl, hw2⟩
              have b2 : Below W1.heap.size W1 w2 := by rw [← hw2]; exact below_box0 _ _
              have hz2 : w2.heap.size = W1.heap.size + 1 := by rw [← hw2]; simp
              have hzb : w2.heap[W1.heap.size]? = some (.cells #[.slice (some ⟨b, o + j, none⟩) (n - j) (c - j)] 22 (0, 0)) := by rw [← hw2]; exact heap_alloc_new W1 _
              have HIV : Hid (IV w n (minP N j []) ds W1.heap.size (.slice (some ⟨b, o + j, none⟩) (n - j) (c - j)) q j w2) := Lib.hid ⟨HM1.out.below b2, hzb, (b2.block _ (blk_lt HB1.out)).trans HB1.out⟩
              have hqW := blk_lt HB1.out
              have hzz : w.heap.size ≠ W1.heap.size := by have := blk_lt HM1.out.box; omega
              have HDs : Hid (∀ D ∈ ds, D < w2.heap.size) := Lib.hid (fun D hD => HIV.out.lm.dm.lt hD)
              have hnj : j < N.length := by rw [HNL.out]; exact hjn
              have hdr := drop_at hnj
              rw [hx'] at hdr
              have hdl : (N.drop j).length = n - j := by rw [List.length_drop, HNL.out]
              have h9d : ∀ y, y ∈ x :: N.drop (j + 1) → y ≤ 9999 := fun y hy => H9.out y (List.mem_of_mem_drop (by rw [hdr]; exact hy))
              have HKI : Hid (∀ pre W, IV w n (minP N j pre) ds W1.heap.size (.slice (some ⟨b, o + j, none⟩) (n - j) (c - j)) q j W → KeepI W1.heap.size (some ⟨b, o + j, none⟩) (c - j) (N.drop j) W) := Lib.hid (fun pre W h => ⟨by rw [cell_of_block h.zb, hdl]; rfl, by
                have := ((HS.out.below h.lm.k).drop j)
                rw [ints_drop] at this
                exact this, (HT.out.below h.lm.k).tw⟩)
              have hseq := items_seq 7 x (N.drop (j + 1)) h9d (by rw [← hdr, hdl]; omega) W1.heap.size (some ⟨b, o + j, none⟩) (c - j) (fun pre W => IV w n (minP N j pre) ds W1.heap.size (.slice (some ⟨b, o + j, none⟩) (n - j) (c - j)) q j W) (fun pre W h => by rw [← hdr]; exact HKI.out pre W h) w2
              rw [← hdr] at hseq
              have HSQ := Lib.hid hseq
              have HDR := Lib.hid hdl
              clear hw2 hseq hdr hdl h9d b2 hzb HM1 HB1 hk1 x7 hx hx'
              gi_wp2
              refine wpIn_iter_ax rfl (by omega) (gf := 32) (lb := #[.pointer (some ⟨W1.heap.size, 0, none⟩)]) rfl trivial (enters_of Tryz.func32 (by kernel_rfl) rfl)
                (fun pre W => IV w n (minP N j pre) ds W1.heap.size (.slice (some ⟨b, o + j, none⟩) (n - j) (c - j)) q j W) HSQ.out (fun _ => rfl) (fun _ _ _ => False) ?own (fun _ _ _ _ _ hs _ _ => hs) HIV.out
                (fun a x a' W' => ∃ g : Nat, a' = { tmps := (a.tmps.setIfInBounds 59 (.agg #[.string x.1, .int .i64 (x.2 : Int)])).setIfInBounds 8 (.pointer (some ⟨g, 0, none⟩)), defers := [] } ∧ W'.heap[g]? = some (.cells #[.string x.1, .int .i64 (x.2 : Int)] 45 (0, 0))) ?hax
                ?assign ?body ?done (fun _ _ _ _ _ h _ => h.elim)
              case own =>
                rintro pre A B row h hg hr
                exact h.grown (by have := HIV.out.lm.k.size; exact this) HDs.out hg hr
              case hax =>
                rintro x a' _ A B row ⟨g, h2, h3⟩ hg hr
                exact ⟨g, h2, blk_kept h3 hg (fun r e => (hr r e).2)⟩
              case assign =>
                intro l pre x W K hI hG hK
                simp only [List.setIfInBounds_toArray, List.set_cons_zero, List.set_cons_succ] at hK
                gi_wp2
                exact hK _ _ ((KeepsOthers.alloc _ _).from _) (hI.below (below_box0 _ _)) ⟨W.heap.size, rfl, heap_alloc_new _ _⟩
              case body =>
                rintro l pre y a' W hl hI ⟨g, rfl, hg⟩ hG
                simp only [List.setIfInBounds_toArray, List.set_cons_zero, List.set_cons_succ]
                obtain ⟨yi, hyi, hy⟩ := git_mem hG
                have hm := items_many hyi
                have hsz := items_size (fun x hx => H9.out x (List.mem_of_mem_drop hx)) (by rw [HDR.out]; omega) hyi
                rw [HDR.out] at hm
                obtain ⟨T, s⟩ := y
                have hTd : T.data.toList = yi.1 := by have := congrArg (fun p : ItB => p.1.data.toList) hy; exact this
                have hsy : s = yi.2 := congrArg (fun p : ItB => p.2) hy
                have hTl := len_of hTd
                have hfr : frB (T, s) = yi := by unfold frB; rw [hTd, hsy]
                rw [hTl] at hsz
                rw [← hsy] at hm
                obtain ⟨hm1, hm2⟩ := hm
                have hvx : bst N (j + 1) (j + s) = lenB N (j + s) := by unfold bst; rw [if_pos (by omega)]
                have hmv : minP N j pre (j + s) = bst N (j + 1) (j + s) := by unfold minP; rw [if_neg (by omega)]
                have hval : valB N j yi = T.size + 1 + lenB N (j + s) := by unfold valB; rw [hTl, hsy]
                have kv := hI.lm.at_ (j := j + s) (by omega)
                rw [hmv, hvx] at kv
                have kj := hI.lm.at_ (j := j) (by omega)
                have hmj : minP N j pre j = minV N j (pre.map frB) (oneB N j) := by unfold minP; rw [if_pos rfl]
                rw [hmj] at kj
                have hvb : lenB N (j + s) ≤ 2500 := by have := lenB_bound H9.out (j + s); rw [HNL.out] at this; omega
                have hmb : minV N j (pre.map frB) (oneB N j) ≤ 3000 := by
                  have h1 := (minV_le N j (pre.map frB) (oneB N j)).1
                  have h2 := lenB_bound H9.out (j + 1)
                  rw [HNL.out] at h2
                  have h3 : (Lib.decDigits (N.getD j 0)).length ≤ 5 := dec_size (by have := H9.out (N.getD j 0) (by rw [List.getD_eq_getElem?_getD, List.getElem?_eq_getElem hnj]; exact List.getElem_mem _); omega)
                  unfold oneB at h1 ⊢
                  omega
                have hsn : ∀ i, i < n + 1 → minP N j (pre ++ [(T, s)]) i = if i = j then min (minV N j (pre.map frB) (oneB N j)) (T.size + 1 + lenB N (j + s)) else minP N j pre i := fun i _ => by rw [minP_snoc, hfr, hval]
                obtain ⟨m, hmd⟩ : ∃ m, minV N j (pre.map frB) (oneB N j) = m := ⟨_, rfl⟩
                obtain ⟨v, hvd⟩ : ∃ v, lenB N (j + s) = v := ⟨_, rfl⟩
                rw [hmd] at kj hmb hsn
                rw [hvd] at kv hvb hsn
                have HSN := Lib.hid hsn
                have hgz : g ≠ w.heap.size := fun e => by have h1 := hg; rw [e] at h1; have h2 := own_ne hI.lm.own h1 (by decide); simp [Value.ownBlock] at h2
                have hqz := hI.lm.k.size
                have HI := Lib.hid hI
                have HG := Lib.hid hg
                have k6 := hI.lm.cell
                have kf := hI.lm.own.frozenAt j
                have kl := World.block_lt_of_cell? _ _ kj
                dsimp only at kl
                have x7 : W.cell? ⟨q, 0, none⟩ = some (.int .i64 (j : Int)) := by rw [cell_of_block hI.qb]; rfl
                have g0 : W.cell? ⟨g, 0, none⟩ = some (.string T) := by rw [cell_of_block hg]; rfl
                have g1 : W.cell? ⟨g, 1, none⟩ = some (.int .i64 (s : Int)) := by rw [cell_of_block hg]; rfl
                have i0 : (0 : Int) ≤ (j : Int) := by omega
                have i1 : (j : Int) < (n : Int) + 1 := by omega
                have i2 : (0 : Int) ≤ (j : Int) + (s : Int) := by omega
                have i3 : (j : Int) + (s : Int) < (n : Int) + 1 := by omega
                have ht : ((j : Int) + (s : Int)).toNat = j + s := by omega
                have hw1 : IntKind.i64.wrap ((j : Int) + (s : Int)) = (j : Int) + (s : Int) := IntWalk.i64_in _ (by omega)
                have hw2 : IntKind.i64.wrap ((T.size : Int) + 1) = (T.size : Int) + 1 := IntWalk.i64_in _ (by omega)
                have hw3 : IntKind.i64.wrap ((T.size : Int) + 1 + (v : Int)) = (T.size : Int) + 1 + (v : Int) := IntWalk.i64_in _ (by omega)
                clear hI hg hG hyi hy hTd hsy hTl hfr hvx hmv hval hmj hsn hmd hvd HIV HSQ
                have n0 : ∀ u, (W.setCell ⟨w.heap.size, j, none⟩ u).cell? ⟨w.heap.size + 1, 0, none⟩ = some (.slice (some ⟨w.heap.size, 0, none⟩) (n + 1) (n + 1)) := fun u => (World.cell?_setCell_other _ _ _ _ (fun e => by injection e with e1 e2; omega)).trans k6
                have n1 : ∀ u, (W.setCell ⟨w.heap.size, j, none⟩ u).cell? ⟨q, 0, none⟩ = some (.int .i64 (j : Int)) := fun u => (World.cell?_setCell_other _ _ _ _ (fun e => by injection e with e1 e2; omega)).trans x7
                have n2 : ∀ u, (W.setCell ⟨w.heap.size, j, none⟩ u).cell? ⟨g, 0, none⟩ = some (.string T) := fun u => (World.cell?_setCell_other _ _ _ _ (fun e => by injection e with e1 e2; omega)).trans g0
                have n3 : ∀ u, (W.setCell ⟨w.heap.size, j, none⟩ u).cell? ⟨g, 1, none⟩ = some (.int .i64 (s : Int)) := fun u => (World.cell?_setCell_other _ _ _ _ (fun e => by injection e with e1 e2; omega)).trans g1
                have n4 : ∀ u, (W.setCell ⟨w.heap.size, j, none⟩ u).cell? ⟨w.heap.size, j + s, none⟩ = some (.int .i64 (v : Int)) := fun u => (World.cell?_setCell_other _ _ _ _ (fun e => by injection e with e1 e2; omega)).trans kv
                gi_wp2_with fail
                refine wpIn_heldR (fun w' => w'.cell? ⟨w.heap.size + 1, 0, none⟩ = some (.slice (some ⟨w.heap.size, 0, none⟩) (n + 1) (n + 1)) ∧ w'.cell? ⟨q, 0, none⟩ = some (.int .i64 (j : Int)) ∧ w'.cell? ⟨g, 0, none⟩ = some (.string T) ∧ w'.cell? ⟨g, 1, none⟩ = some (.int .i64 (s : Int)) ∧ w'.cell? ⟨w.heap.size, j + s, none⟩ = some (.int .i64 (v : Int))) (by rfl) (by kernel_rfl) (by rintro ⟨_, _, h⟩; exact h) ⟨k6, x7, g0, g1, kv⟩ (fun hHeld => ?_)
                refine wpAnyH_take (i := 0) (v := ?_) rfl (by kernel_rfl) (by kernel_rfl) (by kernel_rfl) (fun _ _ _ h => h) (Or.inl ⟨by rfl, ?_⟩) (by assumption) ?_
                rotate_left
                · (intro w hSw; (try dsimp only at hSw); go_simp; (try with_reducible rfl))
                (try simp only [Act.put, List.setIfInBounds_toArray])
                refine wpAnyH_take (i := 1) (v := ?_) rfl (by kernel_rfl) (by kernel_rfl) (by kernel_rfl) (fun _ _ _ h => h) (Or.inl ⟨by rfl, ?_⟩) (by assumption) ?_
                rotate_left
                · (intro w hSw; (try dsimp only at hSw); go_simp; (try with_reducible rfl))
                (try simp only [Act.put])
                refine wpAnyH_take (i := 2) (v := ?_) rfl (by kernel_rfl) (by kernel_rfl) (by kernel_rfl) (fun _ _ _ h => h) (Or.inl ⟨by rfl, ?_⟩) (by assumption) ?_
                rotate_left
                · (intro w hSw; (try dsimp only at hSw); go_simp; (try with_reducible rfl))
                (try simp only [Act.put])
                refine wpAnyH_take (i := 3) (v := ?_) rfl (by kernel_rfl) (by kernel_rfl) (by kernel_rfl) (fun _ _ _ h => h) (Or.inl ⟨by rfl, ?_⟩) (by assumption) ?_
                rotate_left
                · (intro w hSw; (try dsimp only at hSw); go_simp; (try with_reducible rfl))
                (try simp only [Act.put])
                refine wpAnyH_take (i := 4) (v := ?_) rfl (by kernel_rfl) (by kernel_rfl) (by kernel_rfl) (fun _ _ _ h => h) (Or.inl ⟨by rfl, ?_⟩) (by assumption) ?_
                rotate_left
                · (intro w hSw; (try dsimp only at hSw); go_simp; (try with_reducible rfl))
                (try simp only [Act.put])
                refine wpAnyH_take (i := 6) (v := ?_) rfl (by kernel_rfl) (by kernel_rfl) (by kernel_rfl) (fun _ _ _ h => h) (Or.inl ⟨by rfl, ?_⟩) (by assumption) ?_
                rotate_left
                · (intro w hSw; (try dsimp only at hSw); go_simp; (try with_reducible rfl))
                (try simp only [Act.put])
                refine wpAnyH_take (i := 7) (v := ?_) rfl (by kernel_rfl) (by kernel_rfl) (by kernel_rfl) (fun _ _ _ h => h) (Or.inl ⟨by rfl, ?_⟩) (by assumption) ?_
                rotate_left
                · (intro w hSw; (try dsimp only at hSw); go_simp; (try with_reducible rfl))
                (try simp only [Act.put])
                refine wpAnyH_take (i := 8) (v := ?_) rfl (by kernel_rfl) (by kernel_rfl) (by kernel_rfl) (fun _ _ _ h => h) (Or.inl ⟨by rfl, ?_⟩) (by assumption) ?_
                rotate_left
                · (intro w hSw; (try dsimp only at hSw); go_simp; (try with_reducible rfl))
                (try simp only [Act.put])
                refine wpAnyH_take (i := 9) (v := ?_) rfl (by kernel_rfl) (by kernel_rfl) (by kernel_rfl) (fun _ _ _ h => h) (Or.inl ⟨by rfl, ?_⟩) (by assumption) ?_
                rotate_left
                · (intro w hSw; (try dsimp only at hSw); go_simp; (try with_reducible rfl))
                (try simp only [Act.put])
                refine wpAnyH_take (i := 10) (v := ?_) rfl (by kernel_rfl) (by kernel_rfl) (by kernel_rfl) (fun _ _ _ h => h) (Or.inl ⟨by rfl, ?_⟩) (by assumption) ?_
                rotate_left
                · (intro w hSw; (try dsimp only at hSw); go_simp; (try with_reducible rfl))
                (try simp only [Act.put])
                refine wpAnyH_take (i := 11) (v := ?_) rfl (by kernel_rfl) (by kernel_rfl) (by kernel_rfl) (fun _ _ _ h => h) (Or.inl ⟨by rfl, ?_⟩) (by assumption) ?_
                rotate_left
                · (intro w hSw; (try dsimp only at hSw); go_simp; (try with_reducible rfl))
                (try simp only [Act.put])
                refine wpAnyH_take (i := 12) (v := ?_) rfl (by kernel_rfl) (by kernel_rfl) (by kernel_rfl) (fun _ _ _ h => h) (Or.inl ⟨by rfl, ?_⟩) (by assumption) ?_
                rotate_left
                · (intro w hSw; (try dsimp only at hSw); go_simp; (try with_reducible rfl))
                (try simp only [Act.put])
                refine wpAnyH_take (i := 13) (v := ?_) rfl (by kernel_rfl) (by kernel_rfl) (by kernel_rfl) (fun _ _ _ h => h) (Or.inl ⟨by rfl, ?_⟩) (by assumption) ?_
                rotate_left
                · (intro w hSw; (try dsimp only at hSw); go_simp; (try with_reducible rfl))
                (try simp only [Act.put])
                refine wpAnyH_take (i := 14) (v := ?_) rfl (by kernel_rfl) (by kernel_rfl) (by kernel_rfl) (fun _ _ _ h => h) (Or.inl ⟨by rfl, ?_⟩) (by assumption) ?_
                rotate_left
                · (intro w hSw; (try dsimp only at hSw); go_simp; (try with_reducible rfl))
                (try simp only [Act.put])
                refine wpAnyH_take (i := 15) (v := ?_) rfl (by kernel_rfl) (by kernel_rfl) (by kernel_rfl) (fun _ _ _ h => h) (Or.inl ⟨by rfl, ?_⟩) (by assumption) ?_
                rotate_left
                · (intro w hSw; (try dsimp only at hSw); go_simp; (try with_reducible rfl))
                (try simp only [Act.put])
                refine wpAnyH_take (i := 16) (v := ?_) rfl (by kernel_rfl) (by kernel_rfl) (by kernel_rfl) (fun _ _ _ h => h) (Or.inl ⟨by rfl, ?_⟩) (by assumption) ?_
                rotate_left
                · (intro w hSw; (try dsimp only at hSw); go_simp; (try with_reducible rfl))
                (try simp only [Act.put])
                refine wpAnyH_take (i := 17) (v := ?_) rfl (by kernel_rfl) (by kernel_rfl) (by kernel_rfl) (fun _ _ _ h => h) (Or.inl ⟨by rfl, ?_⟩) (by assumption) ?_
                rotate_left
                · (intro w hSw; (try dsimp only at hSw); go_simp; (try with_reducible rfl))
                (try simp only [Act.put])
                refine wpAnyH_ready (rs := [5]) (by kernel_rfl) (by simp) ?_
                refine AllReadyH.cons (i := 5) rfl (fun K hK => ?_) AllReadyH.nil
                go_simp
                refine hK.out _ _ (by first | (refine ⟨n0 _, n1 _, n2 _, n3 _, n4 _⟩; done) | go_keep) (fun hHeld => ?_)
                clear hK K
                (try simp only [Act.put, List.setIfInBounds_toArray, List.set_cons_zero, List.set_cons_succ])
                refine wpAnyH_take (i := 18) (v := ?_) rfl (by kernel_rfl) (by kernel_rfl) (by kernel_rfl) (fun _ _ _ h => h) (Or.inl ⟨by rfl, ?_⟩) (by assumption) ?_
                rotate_left
                · (intro w hSw; (try dsimp only at hSw); go_simp; (try with_reducible rfl))
                (try simp only [Act.put, List.setIfInBounds_toArray])
                refine wpAnyH_take (i := 19) (v := ?_) rfl (by kernel_rfl) (by kernel_rfl) (by kernel_rfl) (fun _ _ _ h => h) (Or.inl ⟨by rfl, ?_⟩) (by assumption) ?_
                rotate_left
                · (intro w hSw; (try dsimp only at hSw); go_simp; (try with_reducible rfl))
                (try simp only [Act.put])
                refine wpAnyH_ready (rs := [20]) (by kernel_rfl) (by simp) ?_
                refine AllReadyH.cons (i := 20) rfl (fun K hK => ?_) AllReadyH.nil
                go_simp
                refine hK.out _ _ (by first | (refine ⟨n0 _, n1 _, n2 _, n3 _, n4 _⟩; done) | go_keep) (fun hHeld => ?_)
                clear hK K
                (try simp only [Act.put, List.setIfInBounds_toArray, List.set_cons_zero, List.set_cons_succ])
                refine wpAnyH_done (by kernel_rfl) ?_ _
                have em : ((min m (T.size + 1 + v) : Nat) : Int) = min (m : Int) ((T.size : Int) + 1 + (v : Int)) := by omega
                rw [← em]
                refine ⟨((KeepsOthers.setCell _ _ _).from _).trans (keeps_below (Below.refl _ _).drew _), trivial, ?_⟩
                exact (HI.out.store (m := j) (v := min m (T.size + 1 + v)) hzz (by omega) HSN.out).below (Below.refl _ _).drew
              case done =>
                rintro D xs V hD hS2 hI hK
                have hlm : LM w n (bst N j) ds V := hI.lm.congr fun i hi => by
                  have e : xs = itB (N.drop j) := hS2
                  rw [e, minP_all hnj]
                have hvz := blk_lt hlm.box
                have hlm2 := hlm.below (below_box0 V (.cells #[.int .i64 ((j : Int) - 1)] 3))
                have hk2 := ((below_box0 V (.cells #[.int .i64 ((j : Int) - 1)] 3)).block _ (blk_lt hK)).trans hK
                have HLM := Lib.hid (⟨hlm2.own, hlm2.box, hlm2.k, hlm2.dm.cons (by omega) (fun h => by have := HDs.out D h; omega) hk2⟩ : LM w n (bst N j) (D :: ds) _)
                have x7 : V.cell? ⟨q, 0, none⟩ = some (.int .i64 (j : Int)) := by rw [cell_of_block hI.qb]; rfl
                have hw4 : IntKind.i64.wrap ((j : Int) - 1) = (j : Int) - 1 := IntWalk.i64_in _ (by omega)
                have HY7 : Hid ((V.alloc (.cells #[.int .i64 ((j : Int) - 1)] 3)).cell? ⟨V.heap.size, 0, none⟩ = some (.int .i64 ((j : Int) - 1))) := Lib.hid (by rw [cell_of_block (heap_alloc_new _ _)]; rfl)
                clear hlm hlm2 hk2 hI hK hS2
                gi_wp2
                refine ⟨⟨j, _, _, _, _, _, _, _, _, _, _, _, _, _, _, _, _, _, _, _, _, _, _, _, _, _, _, _, _, _, _, _, _, _, _, _, _, _, _, _, _, _, _, _, _, _, _, _, _, _, _, _, _, _, _, _, _, _, _, _, D :: ds, rfl, by omega, by omega, heap_alloc_new _ _, HLM.out⟩, ?_⟩
                unfold mu2
                simp [HY7.out, HX7.out]
end Go.Proofs.YthmknaoelmeniaaGreatDoor

namespace Go.Proofs.YthmknaoelmeniaaGreatDoor

/-- the row of best texts while the items at i are tried, m of them have been -/
structure BInv (N : List Nat) (i m : Nat) (B : Nat → ByteArray) : Prop where
  hi : ∀ j, i < j → j ≤ N.length → (B j).data.toList = bestS (N.drop j)
  here : (B i).data.toList = foldS (N.drop i) m
  lo : ∀ j, j < i → B j = ⟨#[]⟩
/-- the row of best texts from k on -/
structure BOut (N : List Nat) (k : Nat) (B : Nat → ByteArray) : Prop where
  hi : ∀ j, k ≤ j → j ≤ N.length → (B j).data.toList = bestS (N.drop j)
  lo : ∀ j, j < k → B j = ⟨#[]⟩
theorem BOut.zero (N : List Nat) : BOut N N.length (fun _ => ⟨#[]⟩) :=
  ⟨fun j h1 h2 => by rw [show j = N.length by omega, List.drop_length]; rfl, fun _ _ => rfl⟩
theorem BOut.next {N : List Nat} {i : Nat} {B : Nat → ByteArray} (h : BOut N (i + 1) B) : BInv N i 0 B :=
  ⟨fun j h1 h2 => h.hi j h1 h2, by rw [h.lo i (by omega)]; rfl, fun j hj => h.lo j (by omega)⟩
theorem drop_some {N : List Nat} {i : Nat} (hi : i < N.length) : N.drop i ≠ [] := fun e => by
  have := congrArg List.length e
  rw [List.length_drop, List.length_nil] at this; omega
theorem BInv.full {N : List Nat} {i m : Nat} {B : Nat → ByteArray} (h : BInv N i m B) (hb : foldS (N.drop i) m = bestS (N.drop i)) : BOut N i B :=
  ⟨fun j h1 h2 => by
    by_cases e : j = i
    · rw [e, h.here, hb]
    · exact h.hi j (by omega) h2, h.lo⟩
theorem BInv.last {N : List Nat} {i : Nat} {B : Nat → ByteArray} (hi : i < N.length) (h : BInv N i (N.length - i) B) : BOut N i B := h.full (by
  have := foldS_end (M := N.drop i) (drop_some hi)
  rwa [List.length_drop] at this)
theorem BInv.stop {N : List Nat} {i m : Nat} {B : Nat → ByteArray} (hi : i < N.length) (h : BInv N i m B) (hm : m + 1 ≤ (N.drop i).length) (ht : txt ((N.drop i).take (m + 1)) = none) : BOut N i B := by
  have ho : ofLen (N.drop i) (m + 1) = none := by rw [txt_of (by omega) hm, ht]; rfl
  refine h.full (foldS_stop (drop_some hi) ?_ ho)
  cases m with
  | zero =>
    exfalso
    obtain ⟨a, r, e⟩ := List.exists_cons_of_ne_nil (drop_some hi)
    rw [e] at ho
    unfold ofLen at ho
    dsimp only at ho
    rw [if_pos rfl] at ho
    cases ho
  | succ k => omega
/-- a text of the items at i, with what follows it -/
theorem cand_is {N : List Nat} {i m : Nat} {B : Nat → ByteArray} {S : ByteArray} (h : BInv N i m B) (hm : i + m < N.length) :
    candS (N.drop i) (S.data.toList, m + 1) = if i + m + 1 < N.length then (S ++ ⟨#[44]⟩ ++ B (i + m + 1)).data.toList else S.data.toList := by
  unfold candS
  dsimp only
  rw [List.length_drop]
  by_cases hl : i + m + 1 < N.length
  · rw [if_pos (by omega), if_pos hl, app_list, app_list, h.hi (i + m + 1) (by omega) (by omega), List.drop_drop, show i + (m + 1) = i + m + 1 by omega]
    simp
  · rw [if_neg (by omega), if_neg hl]
theorem txt_len {N : List Nat} {i m : Nat} {s : List UInt8} (h9 : ∀ x, x ∈ N → x ≤ 9999) (hn : N.length ≤ 500) (hm : m + 1 ≤ (N.drop i).length) (ht : txt ((N.drop i).take (m + 1)) = some s) : ofLen (N.drop i) (m + 1) = some (s, m + 1) ∧ s.length ≤ 11 := by
  have ho : ofLen (N.drop i) (m + 1) = some (s, m + 1) := by rw [txt_of (by omega) hm, ht]; rfl
  refine ⟨ho, ?_⟩
  have := items_size (M := N.drop i) (fun x hx => h9 x (List.mem_of_mem_drop hx)) (by rw [List.length_drop]; omega) (ofLen_mem ho).1
  exact this
theorem BInv.take {N : List Nat} {i m : Nat} {B : Nat → ByteArray} {X S : ByteArray} (h : BInv N i m B) (ho : ofLen (N.drop i) (m + 1) = some (S.data.toList, m + 1)) (hX : X.data.toList = candS (N.drop i) (S.data.toList, m + 1))
    (ht : (B i).data.toList = [] ∨ ltS X.data.toList (B i).data.toList = true) : BInv N i (m + 1) (fun j => if j = i then X else B j) := by
  refine ⟨fun j h1 h2 => ?_, ?_, fun j hj => ?_⟩
  · show (if j = i then X else B j).data.toList = _
    rw [if_neg (by omega)]; exact h.hi j h1 h2
  · show (if i = i then X else B i).data.toList = _
    rw [if_pos rfl, foldS_some ho, ← hX, ← h.here]
    unfold takeS
    rw [if_pos ht]
  · show (if j = i then X else B j) = _
    rw [if_neg (by omega)]; exact h.lo j hj
theorem BInv.keep {N : List Nat} {i m : Nat} {B : Nat → ByteArray} {X S : ByteArray} (h : BInv N i m B) (ho : ofLen (N.drop i) (m + 1) = some (S.data.toList, m + 1)) (hX : X.data.toList = candS (N.drop i) (S.data.toList, m + 1))
    (ht : ¬ ((B i).data.toList = [] ∨ ltS X.data.toList (B i).data.toList = true)) : BInv N i (m + 1) B := by
  refine ⟨h.hi, ?_, h.lo⟩
  rw [foldS_some ho, ← hX, ← h.here]
  unfold takeS
  rw [if_neg ht]
theorem best_size {N : List Nat} (h9 : ∀ x, x ∈ N → x ≤ 9999) (hn : N.length ≤ 500) (j : Nat) : (bestS (N.drop j)).length ≤ 2500 := by
  have := best_len (N.drop j) (fun x hx => h9 x (List.mem_of_mem_drop hx))
  rw [List.length_drop] at this
  unfold bestS
  rw [List.length_dropLast]; omega
end Go.Proofs.YthmknaoelmeniaaGreatDoor

namespace Go.Proofs.YthmknaoelmeniaaGreatDoor
open Go.RowKit Go.Sort Go.Joins Go.Shelf
attribute [local go_sem] cell_grow frozen_grow size_grow

theorem dec_len4 {n : Nat} (h : n ≤ 9999) : (Lib.decDigits n).length ≤ 4 := by
  rw [Lib.decDigits_length]; exact nDig_le 3 n (by omega)
set_option maxRecDepth 100000 in
set_option maxHeartbeats 3200000 in
theorem rtexts_ok (a : Option Addr) (c : Nat) (L : List Nat) (w : World) (hS : SlN w a (ints L)) (h1 : 1 ≤ L.length) (h2 : L.length ≤ 500) (hb : ∀ x, x ∈ L → x ≤ 9999) :
    Calls Tryz.prog 19 #[.slice a L.length c] w (TxPost w L) := by
  have HS := Lib.hid hS
  have hgd : ∀ j, j < L.length → L.getD j 0 ≤ 9999 := fun j hj => hb _ (by rw [List.getD_eq_getElem?_getD, List.getElem?_eq_getElem hj]; exact List.getElem_mem hj)
  obtain ⟨b, o, rfl, g0⟩ := hS.at_ (j := 0) (by rw [ints_len]; omega)
  obtain ⟨b', o', e, g1⟩ := hS.at_ (j := L.length - 1) (by rw [ints_len]; omega)
  cases e
  rw [ints_at (by omega)] at g0 g1
  have hx := hgd 0 (by omega)
  have hy := hgd (L.length - 1) (by omega)
  have hrun := run_one h1
  have HGD := Lib.hid hgd
  have HUN := Lib.hid (fun (k : Nat) (hk : k < L.length) => runU_next (L := L) (a := L.getD 0 0) hk)
  have HAN := Lib.hid (fun (k : Nat) (hk : k < L.length) => runA_next (L := L) (a := L.getD 0 0) hk)
  have HG := Lib.hid (fun (W : World) (h : Below w.heap.size w W) (k : Nat) (hk : k < L.length) => (show W.cell? ⟨b, o + k, none⟩ = some (.int .i64 (L.getD k 0 : Int)) by
    obtain ⟨b', o', e, g⟩ := (HS.out.below h).at_ (j := k) (by rw [ints_len]; exact hk)
    cases e
    rw [ints_at hk] at g
    exact g))
  have HT : Hid (txt L = if L.length = 1 then some (Lib.decDigits (L.getD 0 0)) else if L.length ≤ runU (L.getD 0 0) L then some (upI (L.getD 0 0) (L.length - 2)).1 else if L.length ≤ runA (L.getD 0 0) L then some (alI (L.getD 0 0) (L.length - 2)).1 else none) := Lib.hid rfl
  have HLAST : Hid (L.length ≤ runU (L.getD 0 0) L → L.getD (L.length - 1) 0 = L.getD 0 0 + (L.length - 1)) := Lib.hid (fun h => by
    have := (runU_iff _ _ _).1 h (L.length - 1) (by omega)
    rw [List.getD_eq_getElem?_getD, this]; rfl)
  obtain ⟨n, hn⟩ : ∃ n, L.length = n := ⟨_, rfl⟩
  obtain ⟨x, hxx⟩ : ∃ x, L.getD 0 0 = x := ⟨_, rfl⟩
  have HXX := Lib.hid hxx
  rw [hxx] at g0 hx hrun HUN HAN HT HLAST
  rw [hn] at h1 h2 g1 hy HG HUN HAN HT HGD HLAST ⊢
  obtain ⟨y, hyy⟩ : ∃ x, L.getD (n - 1) 0 = x := ⟨_, rfl⟩
  rw [hyy] at g1 hy HLAST
  have HDX := Lib.hid (fun W => rdig_ok (x : Int) W (by omega) (by omega))
  have HDY := Lib.hid (fun W => rdig_ok (y : Int) W (by omega) (by omega))
  have HDN := Lib.hid (fun W => rdig_ok (n : Int) W (by omega) (by omega))
  rw [Lib.itoa_nonneg] at HDX HDY HDN
  have lx := dec_len4 hx
  have ly := dec_len4 hy
  have ln := dec_len4 (n := n) (by omega)
  obtain ⟨X, hX⟩ : ∃ X : ByteArray, (⟨(Lib.decDigits x).toArray⟩ : ByteArray) = X := ⟨_, rfl⟩
  obtain ⟨Y, hY⟩ : ∃ X : ByteArray, (⟨(Lib.decDigits y).toArray⟩ : ByteArray) = X := ⟨_, rfl⟩
  obtain ⟨Z, hZ⟩ : ∃ X : ByteArray, (⟨(Lib.decDigits n).toArray⟩ : ByteArray) = X := ⟨_, rfl⟩
  have HX : Hid (X.data.toList = Lib.decDigits x) := Lib.hid (by rw [← hX])
  have HY : Hid (Y.data.toList = Lib.decDigits y) := Lib.hid (by rw [← hY])
  have HZ : Hid (Z.data.toList = Lib.decDigits n) := Lib.hid (by rw [← hZ])
  have sX : X.size ≤ 4 := by have := len_of HX.out; omega
  have sY : Y.size ≤ 4 := by have := len_of HY.out; omega
  have sZ : Z.size ≤ 4 := by have := len_of HZ.out; omega
  rw [hX] at HDX
  rw [hY] at HDY
  rw [hZ] at HDN
  have hli : (0 : Int) < (n : Int) := by omega
  have hln : 0 < n := h1
  have hl1 : (n : Int) - 1 < (n : Int) := by omega
  have hl0 : (0 : Int) ≤ (n : Int) - 1 := by omega
  have hl2 : (1 : Int) ≤ (n : Int) := by omega
  have hw1 : IntKind.i64.wrap ((n : Int) - 1) = (n : Int) - 1 := IntWalk.i64_in _ (by omega)
  have hto : ((n : Int) - 1).toNat = n - 1 := by omega
  have hC1 : (9223372036854775807 < X.size + 1) = False := by simp; omega
  have hC2 : (9223372036854775807 < X.size + 1 + Y.size) = False := by simp; omega
  have hC3 : (9223372036854775807 < Z.size + 1) = False := by simp; omega
  have hC4 : (9223372036854775807 < Z.size + 1 + X.size) = False := by simp; omega
  have HC : Hid (∀ w', Below w.heap.size w w' → w'.cell? ⟨b, o, none⟩ = some (.int .i64 (x : Int)) ∧ w'.cell? ⟨b, o + (n - 1), none⟩ = some (.int .i64 (y : Int))) := Lib.hid fun w' h => ⟨(h.cell (World.block_lt_of_cell? _ _ g0)).trans g0, (h.cell (World.block_lt_of_cell? _ _ g1)).trans g1⟩
  clear hS hgd hb hX hY hZ lx ly ln hxx hyy
  go_enter Tryz.func19, Tryz.ntmps19
  go_wp2_with fail
  go_region_held3 (fun w' => Below w.heap.size w w' ∧ w'.cell? ⟨b, o, none⟩ = some (.int .i64 (x : Int)) ∧ w'.cell? ⟨b, o + (n - 1), none⟩ = some (.int .i64 (y : Int)))
    ((refine keepN HC ?_; first | exact (Below.refl _ _).drew | exact And.left (by assumption) | exact bel_call (by assumption) (by assumption)))
    (first
      | (go_at_call 24; (with_reducible refine (HDX.out _).mono ?_); rintro e w1 ⟨rfl, b1⟩)
      | (go_at_call 24; (with_reducible refine (HDY.out _).mono ?_); rintro e w2 ⟨rfl, b2⟩))
  have HB := Lib.hid (below_tr (below_tr ((Below.refl w.heap.size w).drew) b1) b2)
  clear b1 b2 HC g0 g1 hli hl1 hl0 hw1 hto
  by_cases hone : n = 1
  · have d0 : ((n : Int) == 1) = true := beq_iff_eq.2 (by omega)
    have hT : txt L = some X.data.toList := by rw [HT.out, if_pos hone, HX.out]
    have HTT := Lib.hid hT
    clear hone hT HT
    go_wp2_with fail
    go_ret
    exact ⟨HB.out.alloc HB.out.size _, .inr ⟨X, _, HTT.out, rfl, by rw [cell_of_block (heap_alloc_new w2 _)]; rfl⟩⟩
  · have d0 : ((n : Int) == 1) = false := beq_eq_false_iff_ne.2 (by omega)
    have HONE := Lib.hid hone
    clear hone
    go_wp2_with fail
    go_loopw [5, 6, 7] (fun U V i wr => ∃ (k : Nat), i = .int .i64 (k : Int) ∧ 1 ≤ k ∧ k ≤ n ∧ U = .bool (decide (k ≤ runU x L)) ∧ V = .bool (decide (k ≤ runA x L)) ∧ Hid (Below w.heap.size w wr)) (fun _ _ i _ => n - (intOf i).toNat)
    case atStart => exact ⟨1, rfl, Nat.le_refl _, h1, by rw [hrun.1], by rw [hrun.2], HB⟩
    case round =>
      clear HB hrun
      obtain ⟨k, rfl, hk1, hk, rfl, rfl, HB⟩ := hrel
      by_cases hlt : k < n
      · have g0 := HG.out _ HB.out 0 hln
        have g1 := HG.out _ HB.out k hlt
        have hz := HGD.out k hlt
        have hu := HUN.out k hlt
        have hv := HAN.out k hlt
        obtain ⟨z, hzz⟩ : ∃ z, L.getD k 0 = z := ⟨_, rfl⟩
        rw [hzz] at g1 hz hu hv
        have hx0 : L.getD 0 0 = x := HXX.out
        rw [hx0, Nat.add_zero] at g0
        obtain ⟨U, hU⟩ : ∃ u, decide (k ≤ runU x L) = u := ⟨_, rfl⟩
        obtain ⟨V, hV⟩ : ∃ u, decide (k ≤ runA x L) = u := ⟨_, rfl⟩
        obtain ⟨p, hp⟩ : ∃ u, ((z : Int) == (x : Int) + (k : Int)) = u := ⟨_, rfl⟩
        obtain ⟨q, hq⟩ : ∃ u, ((z : Int) == (x : Int)) = u := ⟨_, rfl⟩
        rw [hU, hp] at hu
        rw [hV, hq] at hv
        rw [hU, hV]
        have HU := Lib.hid hu
        have HV := Lib.hid hv
        have hli : (k : Int) < (n : Int) := by omega
        have hk0 : (0 : Int) ≤ (k : Int) := by omega
        have hwa : IntKind.i64.wrap ((x : Int) + (k : Int)) = (x : Int) + (k : Int) := IntWalk.i64_in _ (by omega)
        clear hu hv hU hV hzz hx0
        cases U <;> cases V
        all_goals
          go_wp2_with fail
          go_quiet (fail)
          go_wp2_with fail
          go_quiet (fail)
          go_wp2
          go_roundw
          case rel => exact ⟨k + 1, by go_num, by omega, by omega, by rw [HU.out]; rfl, by rw [HV.out]; rfl, Lib.hid (HB.out.trans ((below_draw _ _).mono HB.out.size))⟩
          case measure => simp [intOf]; omega
      · obtain rfl : k = n := by omega
        by_cases hU : k ≤ runU x L
        · have hT : txt L = some (X ++ ⟨#[45]⟩ ++ Y).data.toList := by
            rw [HT.out, if_neg HONE.out, if_pos hU, app_list, app_list, HX.out, HY.out, HLAST.out hU]
            unfold upI
            rw [show x + (k - 2) + 1 = x + (k - 1) by have := HONE.out; omega]
            simp
          have d5 : decide (k ≤ runU x L) = true := decide_eq_true hU
          have HTT := Lib.hid hT
          rw [d5]
          clear hT HT hU d5
          go_wp2
          go_ret
          exact ⟨HB.out.alloc HB.out.size _, .inr ⟨_, _, HTT.out, rfl, by rw [cell_of_block (heap_alloc_new wr _)]; rfl⟩⟩
        · by_cases hA : k ≤ runA x L
          · have hT : txt L = some (Z ++ ⟨#[120]⟩ ++ X).data.toList := by
              rw [HT.out, if_neg HONE.out, if_neg hU, if_pos hA, app_list, app_list, HX.out, HZ.out]
              unfold alI
              rw [show k - 2 + 2 = k by have := HONE.out; omega]
              simp
            have HTT := Lib.hid hT
            rw [decide_eq_false hU, decide_eq_true hA]
            clear hT HT hU hA
            go_wp2_with fail
            refine (HDN.out _).mono ?_
            rintro e w3 ⟨rfl, b3⟩
            have HB3 := Lib.hid (below_tr HB.out b3)
            clear b3
            go_wp2_with fail
            go_ret
            exact ⟨HB3.out.alloc HB3.out.size _, .inr ⟨_, _, HTT.out, rfl, by rw [cell_of_block (heap_alloc_new w3 _)]; rfl⟩⟩
          · have hT : txt L = none := by rw [HT.out, if_neg HONE.out, if_neg hU, if_neg hA]
            have HTT := Lib.hid hT
            rw [decide_eq_false hU, decide_eq_false hA]
            clear hT HT hU hA
            go_wp2
            go_ret
            exact ⟨HB.out, .inl ⟨HTT.out, rfl⟩⟩
end Go.Proofs.YthmknaoelmeniaaGreatDoor
