/- Words: the least text of a list, by the reference: the walk. | Words: number and less of the reference. | Words: an item is read, by the reference. | Words: the builder of List, and what it leaves. -/
import Derived.Test.YthmknaoelmeniaaGreatDoorWYZ10
import Derived.Deep.OwnRows
import Derived.Deep.Cut
import Derived.Test.YthmknaoelmeniaaGreatDoorWYZ5
import Derived.Test.YthmknaoelmeniaaGreatDoorWYZ9
namespace Go.Proofs.YthmknaoelmeniaaGreatDoor
open Go.RowKit Go.Sort Go.Joins Go.Shelf
attribute [local go_sem] cell_grow frozen_grow size_grow

theorem info_strL : (Tryz.prog.info? 9).map (fun i => (i.zero, i.size, i.bytes)) = some (some (.string ⟨#[]⟩), 1, 16) := by kernel_rfl
theorem SlN.take {w : World} {a : Option Addr} {I : List Int} (h : SlN w a I) (m : Nat) : SlN w a (I.take m) := by
  by_cases h0 : I.take m = []
  · exact .inl h0
  · rcases h with h | ⟨b, o, ha, hc⟩
    · exact .inl (by rw [h, List.take_nil])
    · refine .inr ⟨b, o, ha, fun j hj => ?_⟩
      rw [List.length_take] at hj
      rw [List.getD_eq_getElem?_getD, List.getElem?_take_of_lt (by omega), ← List.getD_eq_getElem?_getD]
      exact hc j (by omega)
theorem ints_take (N : List Nat) (j : Nat) : (ints N).take j = ints (N.take j) := by unfold ints; rw [List.map_take]
theorem ba_one : (⟨#[44]⟩ : ByteArray).size = 1 := rfl
theorem str_if (p : Prop) [Decidable p] (a b : ByteArray) : (if p then Value.string a else Value.string b) = Value.string (if p then a else b) := by split <;> rfl
/-- when a text is taken, by the walk's tests -/
theorem tk_iff (X U : ByteArray) : (U.data.toList = [] ∨ ltS X.data.toList U.data.toList = true) ↔ (U.toList = [] ∨ (X.size : Int) < (U.size : Int) ∨ ((X.size : Int) = (U.size : Int) ∧ Op.bytesLess X.toList U.toList = true)) := by
  have h1 := len_of (rfl : X.data.toList = X.data.toList)
  have h2 := len_of (rfl : U.data.toList = U.data.toList)
  rw [ltS_yes, bless_eq, Lib.toList_data, Lib.toList_data, decide_eq_true_eq]
  constructor
  · rintro (h | h | ⟨h, k⟩)
    · exact .inl h
    · exact .inr (.inl (by omega))
    · exact .inr (.inr ⟨by omega, k⟩)
  · rintro (h | h | ⟨h, k⟩)
    · exact .inl h
    · exact .inr (.inl (by omega))
    · exact .inr (.inr ⟨by omega, k⟩)
set_option maxRecDepth 100000 in
set_option maxHeartbeats 6400000 in
theorem rlist_good (N : List Nat) (a : Option Addr) (n c : Nat) (w : World) (hS : SlN w a (ints N)) (h9 : ∀ x, x ∈ N → x ≤ 9999) (hNl : N.length = n) (h1 : n ≤ 500) (hc : n ≤ c) :
    Calls Tryz.prog 6 #[.slice a n c] w (LsPost w (bestS N) 0) := by
  have HS := Lib.hid hS
  have HN := Lib.hid hNl
  have H9 := Lib.hid h9
  have d1 : decide ((500 : Int) < (n : Int)) = false := decide_eq_false (by omega)
  have HMK := Lib.hid (fun W => run_make_row' (P := Tryz.prog) 56 9 (.string ⟨#[]⟩) 16 Tryz.underlying56 info_strL rfl .i64 .i64 (n + 1) (by omega) (by omega) W)
  clear hS hNl h9
  go_enter Tryz.func6, Tryz.ntmps6
  go_wp2
  go_loopw [4] (fun i wr => ∃ k : Nat, i = .int .i64 (k : Int) ∧ k ≤ n ∧ w = wr) (fun i _ => n - (intOf i).toNat)
  case atStart => exact ⟨0, rfl, Nat.zero_le _, rfl⟩
  case round =>
    obtain ⟨k, rfl, hk, hwr⟩ := hrel
    subst hwr
    by_cases hlt : k < n
    · obtain ⟨b, o, rfl, g0⟩ := HS.out.at_ (j := k) (by rw [ints_len, HN.out]; exact hlt)
      rw [ints_at (by rw [HN.out]; exact hlt)] at g0
      have hx9 : N.getD k 0 ≤ 9999 := H9.out _ (by rw [List.getD_eq_getElem?_getD, List.getElem?_eq_getElem (by rw [HN.out]; exact hlt)]; exact List.getElem_mem _)
      obtain ⟨x, hx⟩ : ∃ x, N.getD k 0 = x := ⟨_, rfl⟩
      rw [hx] at g0 hx9
      have d2 : decide ((x : Int) < 0) = false := decide_eq_false (by omega)
      have d3 : decide ((9999 : Int) < (x : Int)) = false := decide_eq_false (by omega)
      clear hx
      go_wp2
      go_roundw
      case rel => exact ⟨k + 1, by go_num, by omega, trivial⟩
      case measure => simp [intOf]; omega
    · obtain rfl : k = n := by omega
      have hmk := HMK.out w
      have HROW := Lib.hid (World.rowIs_made w (.string ⟨#[]⟩) (k + 1) 9)
      have hkc : (((k + 1 : Nat) : Int)) = (k : Int) + 1 := by omega
      rw [hkc] at hmk
      have HB1 := Lib.hid ((Below.refl w.heap.size w).alloc (Nat.le_refl _) (.cells (madeCells #[.string ⟨#[]⟩] (k + 1)) 9))
      obtain ⟨n, rfl⟩ : ∃ n, n = k := ⟨_, rfl⟩
      obtain ⟨g, hg⟩ : ∃ g, w.heap.size = g := ⟨_, rfl⟩
      have HG := Lib.hid hg
      clear hlt hk HMK hkc
      go_wp2_with fail
      obtain ⟨W1, hW1⟩ : ∃ V, w.alloc (.cells (madeCells #[.string ⟨#[]⟩] (n + 1)) 9) = V := ⟨_, rfl⟩
      rw [hW1] at HROW HB1 ⊢
      rw [hg] at HROW
      clear hW1 hg hmk
      go_loopw [6] (fun i wr => ∃ (k : Nat) (B : Nat → ByteArray), i = .int .i64 ((k : Int) - 1) ∧ k ≤ n ∧ Hid (BOut N k B) ∧ Hid (wr.rowIs g 9 (n + 1) (fun j => .string (B j))) ∧ Hid (Below w.heap.size w wr)) (fun i _ => (intOf i + 1).toNat)
      case atStart => exact ⟨n, fun _ => ⟨#[]⟩, rfl, Nat.le_refl _, Lib.hid (by rw [← HN.out]; exact BOut.zero N), HROW, HB1⟩
      case round =>
        clear HROW HB1
        obtain ⟨k, B, rfl, hk, HBO, HR, HB⟩ := hrel
        cases k with
        | zero =>
          rw [show ((0 : Nat) : Int) - 1 = -1 from rfl]
          have h0 := HR.out.cell (i := 0) (by omega)
          have hlt := HR.out.lt
          have hE : Hid ((B 0).data.toList = bestS N) := Lib.hid (by have := HBO.out.hi 0 (Nat.le_refl _) (Nat.zero_le _); rwa [List.drop_zero] at this)
          obtain ⟨X, hX⟩ : ∃ X, B 0 = X := ⟨_, rfl⟩
          rw [hX] at h0 hE
          clear hX
          go_wp2
          go_ret2
          exact ⟨X, rfl, hE.out, HB.out⟩
        | succ i =>
          rw [show ((i + 1 : Nat) : Int) - 1 = (i : Int) by omega]
          have HI := Lib.hid HBO.out.next
          have hin : i < n := by omega
          have hin0 : (0 : Int) ≤ (i : Int) := by omega
          clear HBO hk
          go_wp2_with fail
          obtain ⟨W2, hW2⟩ : ∃ V, V = wr := ⟨_, rfl⟩
          subst hW2
          go_loopw [7] (fun t wr => ∃ (q : Nat) (B : Nat → ByteArray), t = .int .i64 (q : Int) ∧ i ≤ q ∧ q ≤ n ∧ Hid (BInv N i (q - i) B) ∧ Hid (wr.rowIs g 9 (n + 1) (fun j => .string (B j))) ∧ Hid (Below w.heap.size w wr)) (fun t _ => n - (intOf t).toNat)
          case atStart => exact ⟨i, B, rfl, Nat.le_refl _, by omega, Lib.hid (by rw [Nat.sub_self]; exact HI.out), HR, HB⟩
          case round =>
            clear HI HR HB
            obtain ⟨q, B, rfl, hiq, hqn, HI, HR, HB⟩ := hrel
            by_cases hlt : q < n
            · obtain ⟨b, o, rfl, g0⟩ := HS.out.at_ (j := q) (by rw [ints_len, HN.out]; exact hlt)
              obtain ⟨m, hm⟩ : ∃ m, q - i = m := ⟨_, rfl⟩
              have hqm : q = i + m := by omega
              have hdl : (N.drop i).length = n - i := by rw [List.length_drop, HN.out]
              have hml : m + 1 ≤ (N.drop i).length := by omega
              have hl : ((N.drop i).take (m + 1)).length = q + 1 - i := by rw [List.length_take]; omega
              have HTX := Lib.hid (fun W (h : SlN W (some ⟨b, o, none⟩) (ints N)) => rtexts_ok (some ⟨b, o + i, none⟩) (c - i) ((N.drop i).take (m + 1)) W (by rw [← ints_take, ← ints_drop]; exact (h.drop i).take _) (by omega) (by omega) (fun x hx => H9.out x (List.mem_of_mem_drop (List.mem_of_mem_take hx))))
              rw [hl] at HTX
              rw [hm] at HI
              have HML := Lib.hid hml
              have HQM := Lib.hid hqm
              clear g0 hl hml hdl hm hqm
              go_wp2_with fail
              refine (HTX.out _ (HS.out.below HB.out)).mono ?_
              rintro e w3 ⟨b3, hx⟩
              have HR3 := Lib.hid (HR.out.of_block (b3.block _ HR.out.lt))
              have HB3 := Lib.hid (below_tr HB.out b3)
              clear b3 HR HB HTX
              rcases hx with ⟨ht, rfl⟩ | ⟨S, g', ht, rfl, hcS⟩
              · have HBO := Lib.hid (BInv.stop (by rw [HN.out]; exact hin) HI.out HML.out ht)
                clear ht
                go_wp2_with fail
                go_loopw [9] (fun k wy => k = .int .i64 0 ∧ w3 = wy) (fun _ _ => 0)
                case atStart => exact ⟨rfl, rfl⟩
                case round =>
                  obtain ⟨rfl, hw⟩ := hrel
                  subst hw
                  go_wp2
                  go_roundw
                  case rel => exact ⟨i, B, by go_num, by omega, HBO, HR3, HB3⟩
                  case measure => simp [intOf]
              · obtain ⟨ho, hsl⟩ := txt_len H9.out (by rw [HN.out]; exact h1) HML.out ht
                have HO := Lib.hid ho
                have hss : S.size ≤ 11 := by have := len_of (rfl : S.data.toList = S.data.toList); omega
                have HCA := Lib.hid (cand_is (S := S) HI.out (by rw [HN.out, ← HQM.out]; exact hlt))
                clear ht ho hsl
                go_wp2_with fail
                go_loopw [9] (fun k wy => (k = .int .i64 0 ∧ w3 = wy) ∨ (k = .int .i64 1 ∧ ∃ B, Hid (BInv N i (m + 1) B) ∧ Hid (wy.rowIs g 9 (n + 1) (fun j => .string (B j))) ∧ Hid (Below w.heap.size w wy))) (fun k _ => 1 - (intOf k).toNat)
                case atStart => exact .inl ⟨rfl, rfl⟩
                case round =>
                  rcases hrel with ⟨rfl, hw⟩ | ⟨rfl, B2, HI2, HR2, HB2⟩
                  · subst hw
                    have hgl := World.block_lt_of_cell? _ _ hcS
                    dsimp only at hgl
                    have hglt := HR3.out.lt
                    have c6 := HR3.out.cell (i := i) (by omega)
                    have hfz := HR3.out.frozen i
                    have hs2 : ∀ j, i < j → j ≤ n → (B j).size ≤ 2500 := fun j h2 h3 => by
                      have := len_of (HI.out.hi j h2 (by rw [HN.out]; exact h3))
                      have := best_size H9.out (by rw [HN.out]; exact h1) j
                      omega
                    have HWY : Hid ((q + 1 < n ∧ ∃ T, w3.cell? ⟨g, q + 1, none⟩ = some (.string T) ∧ T.size ≤ 2500 ∧ (S ++ ⟨#[44]⟩ ++ T).data.toList = candS (N.drop i) (S.data.toList, m + 1)) ∨ (¬ q + 1 < n ∧ S.data.toList = candS (N.drop i) (S.data.toList, m + 1))) := Lib.hid (by
                      have h := HCA.out
                      rw [HN.out, ← HQM.out] at h
                      by_cases hl : q + 1 < n
                      · rw [if_pos hl] at h
                        exact .inl ⟨hl, B (q + 1), HR3.out.cell (i := q + 1) (by omega), hs2 _ (by omega) (by omega), h.symm⟩
                      · rw [if_neg hl] at h
                        exact .inr ⟨hl, h.symm⟩)
                    obtain ⟨U, hU⟩ : ∃ U, B i = U := ⟨_, rfl⟩
                    rw [hU] at c6
                    have HU := Lib.hid hU
                    have HGg := Lib.hid (show w.heap.size ≤ g by rw [HG.out]; exact Nat.le_refl _)
                    have hwq : IntKind.i64.wrap ((q : Int) + 1) = (q : Int) + 1 := IntWalk.i64_in _ (by omega)
                    clear hU hs2 HCA
                    rcases HWY.out with ⟨hl, T, c5, hT, hXC⟩ | ⟨hl, hXC⟩
                    · have HXC := Lib.hid hXC
                      have HXS := Lib.hid (show ((S ++ ⟨#[44]⟩ ++ T).size : Int) = (S.size : Int) + 1 + (T.size : Int) by simp [ByteArray.size_append, ba_one])
                      have HK := Lib.hid (tk_iff (S ++ ⟨#[44]⟩ ++ T) U)
                      have d4 : decide ((q : Int) + 1 < (n : Int)) = true := decide_eq_true (by omega)
                      have e1 : (9223372036854775807 < S.size + 1) = False := by simp; omega
                      have e2 : (9223372036854775807 < S.size + 1 + T.size) = False := by simp; omega
                      clear hXC HWY
                      go_wp2_with fail
                      all_goals
                        first
                          | (refine ⟨.inr ⟨rfl, _, Lib.hid (HI.out.take HO.out HXC.out ?_), Lib.hid ((HR3.out.set i _).congr (fun j _ => str_if _ _ _)), Lib.hid (HB3.out.setCell (p := ⟨g, i, none⟩) HGg.out _)⟩, (by simp [intOf])⟩
                             have h7 := HXS.out
                             rw [HU.out]
                             refine HK.out.2 ?_
                             first
                               | exact .inl ‹U.toList = []›
                               | exact .inr (.inl (by omega))
                               | exact .inr (.inr ⟨by omega, (‹U.toList.isEmpty = true ∨ Op.bytesLess _ U.toList = true›).elim (fun h => absurd (List.isEmpty_iff.1 h) ‹_›) id⟩)
                               | exact .inr (.inr ⟨by omega, (‹(U.toList.isEmpty = true ∨ S.size < U.size) ∨ Op.bytesLess _ U.toList = true›).elim (fun h => h.elim (fun h => absurd (List.isEmpty_iff.1 h) ‹_›) (fun h => absurd h (by omega))) id⟩))
                          | (refine absurd (‹U.toList.isEmpty = true ∨ _ < (_ : Int)›) (fun h => h.elim (fun h => absurd (List.isEmpty_iff.1 h) ‹_›) (fun h => ?_))
                             omega)
                          | (refine absurd (‹U.toList.isEmpty = true ∨ _ < (_ : Nat)›) (fun h => h.elim (fun h => absurd (List.isEmpty_iff.1 h) ‹_›) (fun h => ?_))
                             omega)
                          | (refine ⟨.inr ⟨rfl, _, Lib.hid (HI.out.keep HO.out HXC.out ?_), HR3, HB3⟩, (by simp [intOf])⟩
                             have h7 := HXS.out
                             rw [HU.out]
                             intro h
                             rcases HK.out.1 h with h | h | ⟨h2, h3⟩
                             · exact absurd h ‹_›
                             · omega
                             · first
                                 | omega
                                 | (have h5 := (‹_ ∧ Op.bytesLess _ U.toList = false›).2; rw [h5] at h3; cases h3))
                    · have HXC := Lib.hid hXC
                      have HK := Lib.hid (tk_iff S U)
                      have d4 : decide ((q : Int) + 1 < (n : Int)) = false := decide_eq_false (by omega)
                      clear hXC HWY
                      go_wp2_with fail
                      all_goals
                        first
                          | (refine ⟨.inr ⟨rfl, _, Lib.hid (HI.out.take HO.out HXC.out ?_), Lib.hid ((HR3.out.set i _).congr (fun j _ => str_if _ _ _)), Lib.hid (HB3.out.setCell (p := ⟨g, i, none⟩) HGg.out _)⟩, (by simp [intOf])⟩
                             rw [HU.out]
                             refine HK.out.2 ?_
                             first
                               | exact .inl ‹U.toList = []›
                               | exact .inr (.inl (by omega))
                               | exact .inr (.inr ⟨by omega, (‹U.toList.isEmpty = true ∨ Op.bytesLess _ U.toList = true›).elim (fun h => absurd (List.isEmpty_iff.1 h) ‹_›) id⟩)
                               | exact .inr (.inr ⟨by omega, (‹(U.toList.isEmpty = true ∨ S.size < U.size) ∨ Op.bytesLess _ U.toList = true›).elim (fun h => h.elim (fun h => absurd (List.isEmpty_iff.1 h) ‹_›) (fun h => absurd h (by omega))) id⟩))
                          | (refine absurd (‹U.toList.isEmpty = true ∨ _ < (_ : Int)›) (fun h => h.elim (fun h => absurd (List.isEmpty_iff.1 h) ‹_›) (fun h => ?_))
                             omega)
                          | (refine absurd (‹U.toList.isEmpty = true ∨ _ < (_ : Nat)›) (fun h => h.elim (fun h => absurd (List.isEmpty_iff.1 h) ‹_›) (fun h => ?_))
                             omega)
                          | (refine ⟨.inr ⟨rfl, _, Lib.hid (HI.out.keep HO.out HXC.out ?_), HR3, HB3⟩, (by simp [intOf])⟩
                             rw [HU.out]
                             intro h
                             rcases HK.out.1 h with h | h | ⟨h2, h3⟩
                             · exact absurd h ‹_›
                             · omega
                             · first
                                 | omega
                                 | (have h5 := (‹_ ∧ Op.bytesLess _ U.toList = false›).2; rw [h5] at h3; cases h3))
                  · clear hcS HI HR3 HB3 HCA HO
                    go_wp2
                    go_roundw
                    case rel => exact ⟨q + 1, B2, by go_num, by omega, by omega, Lib.hid (by rw [show q + 1 - i = m + 1 by have := HQM.out; omega]; exact HI2.out), HR2, HB2⟩
                    case measure => simp [intOf]; omega
            · obtain rfl : q = n := by omega
              have HBO := Lib.hid (BInv.last (by rw [HN.out]; exact hin) (by rw [HN.out]; exact HI.out))
              clear HI
              go_wp2
              go_roundw
              case rel => exact ⟨i, B, by go_num, by omega, HBO, HR, HB⟩
              case measure => simp [intOf]
set_option maxRecDepth 100000 in
set_option maxHeartbeats 6400000 in
theorem rlist_bad (I : List Int) (a : Option Addr) (c : Nat) (w : World) (hS : SlN w a I) (hlen : I.length ≤ 4611686018427387904) (hbad : lstE I ≠ 0) :
    Calls Tryz.prog 6 #[.slice a I.length c] w (LsPost w (lstL I) (lstE I)) := by
  by_cases h1 : 500 < I.length
  · have d1 : decide ((500 : Int) < (I.length : Int)) = true := decide_eq_true (by omega)
    have hE : lstE I = 3 := by unfold lstE; rw [if_pos h1]
    have hL : lstL I = [] := by unfold lstL; rw [hE, if_neg (by decide)]
    rw [hE, hL]
    clear hS
    go_enter Tryz.func6, Tryz.ntmps6
    go_wp2
    go_ret2
    exact ⟨_, rfl, rfl, Below.refl _ _⟩
  · have d1 : decide ((500 : Int) < (I.length : Int)) = false := decide_eq_false (by omega)
    have hE : lstE I = if I.any lsBad then 7 else 0 := by unfold lstE; rw [if_neg h1]
    have HS := Lib.hid hS
    obtain ⟨n, hn⟩ : ∃ n, I.length = n := ⟨_, rfl⟩
    have HN := Lib.hid hn
    cases hany : I.any lsBad with
    | true =>
      rw [hany] at hE
      have hL : lstL I = [] := by unfold lstL; rw [hE]; rfl
      have HA := Lib.hid hany
      rw [hE, hL]
      rw [hn] at d1 h1 ⊢
      clear hS hE hn hlen hany hL
      go_enter Tryz.func6, Tryz.ntmps6
      go_wp2
      go_loopw [4] (fun i wr => ∃ k : Nat, i = .int .i64 (k : Int) ∧ k ≤ n ∧ wr = w ∧ Hid (∀ j, j < k → lsBad (I.getD j 0) = false)) (fun i _ => n - (intOf i).toNat)
      case atStart => exact ⟨0, rfl, Nat.zero_le _, rfl, Lib.hid (fun j hj => absurd hj (Nat.not_lt_zero _))⟩
      case round =>
        obtain ⟨k, rfl, hk, rfl, HG⟩ := hrel
        by_cases hlt : k < n
        · obtain ⟨b, o, rfl, g0⟩ := HS.out.at_ (j := k) (by rw [HN.out]; exact hlt)
          obtain ⟨x, hx⟩ : ∃ x, I.getD k 0 = x := ⟨_, rfl⟩
          rw [hx] at g0
          cases hb : lsBad x with
          | true =>
            have hb' := hb
            unfold lsBad at hb'
            clear hb hx
            have hor : decide (x < 0) = true ∨ (decide (x < 0) = false ∧ decide (9999 < x) = true) := by
              cases h : decide (x < 0)
              · right; rw [h] at hb'; exact ⟨rfl, by simpa using hb'⟩
              · exact .inl rfl
            clear hb'
            rcases hor with d2 | ⟨d2, d3⟩
            all_goals
              go_wp2
              go_ret2
              exact ⟨_, rfl, rfl, Below.refl _ _⟩
          | false =>
            have hb' := hb
            unfold lsBad at hb'
            simp only [Bool.or_eq_false_iff] at hb'
            obtain ⟨d2, d3⟩ := hb'
            have HG2 : Hid (∀ j, j < k + 1 → lsBad (I.getD j 0) = false) := Lib.hid (fun j hj => by
              by_cases e : j = k
              · rw [e, hx]; exact hb
              · exact HG.out j (by omega))
            clear hb hx
            go_wp2
            go_roundw
            case rel => exact ⟨k + 1, by go_num, by omega, trivial, HG2⟩
            case measure => simp [intOf]; omega
        · exfalso
          obtain ⟨x, hx, hxb⟩ := List.any_eq_true.1 HA.out
          obtain ⟨j, hj, rfl⟩ := List.mem_iff_getElem.1 hx
          have := HG.out j (by rw [HN.out] at hj; omega)
          rw [List.getD_eq_getElem?_getD, List.getElem?_eq_getElem hj] at this
          have : lsBad I[j] = false := this
          rw [hxb] at this; cases this
    | false => exact absurd (by rw [hE, hany]; rfl) hbad
/-- List of the reference -/
theorem rlist_ok (I : List Int) (a : Option Addr) (c : Nat) (w : World) (hS : SlN w a I) (hc : I.length ≤ c) (hlen : I.length ≤ 4611686018427387904) :
    Calls Tryz.prog 6 #[.slice a I.length c] w (LsPost w (lstL I) (lstE I)) := by
  by_cases hE : lstE I = 0
  · have h5 : ¬ 500 < I.length := fun h => by unfold lstE at hE; rw [if_pos h] at hE; cases hE
    have hany : I.any lsBad = false := by
      cases h : I.any lsBad
      · rfl
      · unfold lstE at hE; rw [if_neg h5, h] at hE; cases hE
    have hL : lstL I = bestS (nats I) := by unfold lstL; rw [if_pos hE]
    have hNl : (nats I).length = I.length := by unfold nats; rw [List.length_map]
    rw [hE, hL]
    exact rlist_good (nats I) a I.length c w (by rw [ints_nats hany]; exact hS) (nats_le hany) hNl (by omega) hc
  · exact rlist_bad I a c w hS hlen hE
end Go.Proofs.YthmknaoelmeniaaGreatDoor

namespace Go.Proofs.YthmknaoelmeniaaGreatDoor
open Go.RowKit Go.Sort Go.Joins Go.Shelf
attribute [local go_sem] cell_grow frozen_grow size_grow

theorem num_no {L : List UInt8} (h : wholeB L = false) : natB L = false := by
  cases hn : natB L with
  | false => rfl
  | true => rw [whole_nat hn] at h; cases h
theorem num_head {L : List UInt8} (h : wholeB L = true) : 0 < L.length ∧ (decide (bt L 0 = 45)) = !natB L := by
  cases hn : natB L with
  | false =>
    obtain ⟨h1, _⟩ := natB_neg h hn
    unfold ngB at h1
    have h1 := of_decide_eq_true h1
    cases L with
    | nil => cases h1
    | cons c r =>
      have hc : c = 45 := Option.some.inj h1
      subst hc
      exact ⟨Nat.zero_lt_succ _, rfl⟩
  | true =>
    have hne := natB_ne hn
    have hd := natB_dig hn
    cases L with
    | nil => exact absurd rfl hne
    | cons c r =>
      refine ⟨Nat.zero_lt_succ _, decide_eq_false fun (e : c = 45) => ?_⟩
      subst e
      rw [List.all_cons] at hd
      exact absurd hd (by simp [dgC])
set_option maxRecDepth 100000 in
theorem rnum_ok (s : ByteArray) (L : List UInt8) (hL : s.data.toList = L) (hs : s.size ≤ 9223372036854775806) (w : World) : Calls Tryz.prog 38 #[.string s] w fun e w' => e = .returned (.bool (natB L)) ∧ w = w' := by
  have hlen := len_of hL
  have HW := Lib.hid (rwhole_ok s L hL hs w)
  cases hw : wholeB L with
  | false =>
    rw [num_no hw]
    rw [hw] at HW
    clear hL hlen hw
    go_enter Tryz.func38, Tryz.ntmps38
    go_wp2_with fail
    refine HW.out.mono ?_
    rintro e w1 ⟨rfl, rfl⟩
    go_wp2
    go_ret
    exact ⟨rfl, rfl⟩
  | true =>
    obtain ⟨h1, h2⟩ := num_head hw
    rw [hw] at HW
    have hp : 0 < s.size := by omega
    have hb := bt_get hL hp
    have hc := d45 (bt L 0)
    rw [h2, Bool.not_not] at hc
    obtain ⟨z, hz⟩ : ∃ z, (bt L 0).toNat = z := ⟨_, rfl⟩
    rw [hz] at hb hc
    obtain ⟨r, hr⟩ : ∃ r, natB L = r := ⟨_, rfl⟩
    rw [hr] at hc ⊢
    clear hL hlen hw h1 h2 hz hr
    go_enter Tryz.func38, Tryz.ntmps38
    go_wp2_with fail
    refine HW.out.mono ?_
    rintro e w1 ⟨rfl, rfl⟩
    go_wp2
    go_ret
    exact ⟨rfl, rfl⟩
set_option maxRecDepth 100000 in
theorem rless_ok (s t : ByteArray) (A B : List UInt8) (hA : s.data.toList = A) (hB : t.data.toList = B) (w : World) : Calls Tryz.prog 23 #[.string s, .string t] w fun e w' => e = .returned (.bool (lessB A B)) ∧ w = w' := by
  have h1 := len_of hA
  have h2 := len_of hB
  have hstr : Op.bytesLess s.toList t.toList = decide (A < B) := by rw [bless_eq, Lib.toList_data, Lib.toList_data, hA, hB]
  obtain ⟨u, hu⟩ : ∃ u, decide (A < B) = u := ⟨_, rfl⟩
  have HL : Hid (lessB A B = (decide (s.size < t.size) || (decide (s.size = t.size) && u))) := Lib.hid (by unfold lessB; rw [h1, h2, hu])
  rw [hu] at hstr
  clear hA hB h1 h2 hu
  have hways : s.size < t.size ∨ (¬ s.size < t.size ∧ s.size = t.size) ∨ (¬ s.size < t.size ∧ s.size ≠ t.size) := by omega
  rcases hways with k | ⟨k, k'⟩ | ⟨k, k'⟩
  · have d1 : decide (s.size < t.size) = true := decide_eq_true k
    have hv := HL.out
    rw [decide_eq_true k, Bool.true_or] at hv
    rw [hv]
    clear HL hv k
    go_enter Tryz.func23, Tryz.ntmps23
    go_wp2
    go_ret
    exact ⟨rfl, rfl⟩
  · have hv := HL.out
    rw [decide_eq_false k, decide_eq_true k', Bool.false_or, Bool.true_and] at hv
    rw [hv]
    have d1 : decide (s.size < t.size) = false := decide_eq_false (by omega)
    have d2 : ((s.size : Int) == (t.size : Int)) = true := beq_iff_eq.2 (by omega)
    clear HL hv k k'
    go_enter Tryz.func23, Tryz.ntmps23
    go_wp2
    go_ret
    exact ⟨rfl, rfl⟩
  · have hv := HL.out
    rw [decide_eq_false k, decide_eq_false k', Bool.false_or, Bool.false_and] at hv
    rw [hv]
    have d1 : decide (s.size < t.size) = false := decide_eq_false (by omega)
    have d2 : ((s.size : Int) == (t.size : Int)) = false := beq_eq_false_iff_ne.2 (by omega)
    clear HL hv k k'
    go_enter Tryz.func23, Tryz.ntmps23
    go_wp2
    go_ret
    exact ⟨rfl, rfl⟩
end Go.Proofs.YthmknaoelmeniaaGreatDoor

namespace Go.Proofs.YthmknaoelmeniaaGreatDoor
open Go.RowKit Go.Sort Go.Joins Go.Shelf
attribute [local go_sem] cell_grow frozen_grow size_grow

/-- three texts of digits that are an item's numbers -/
def RrT (y : Prt) (N M T : List UInt8) : Prop := (natB N = true ∧ valN 0 N = y.1) ∧ (natB M = true ∧ valN 0 M = y.2.1) ∧ (natB T = true ∧ valN 0 T = y.2.2)
/-- what read hands back -/
def RrPost (w : World) (L : List UInt8) (x : Ending) (w' : World) : Prop :=
  ∃ N M T : ByteArray, x = .returned (.tuple #[.agg #[.string N, .string M, .string T], .bool (itmP L).isSome]) ∧ (∀ y, itmP L = some y → RrT y N.data.toList M.data.toList T.data.toList) ∧ N.size ≤ L.length ∧ M.size ≤ L.length ∧ T.size ≤ L.length + 1 ∧ Below w.heap.size w w'
theorem pcut_before {L : List UInt8} {k : Nat} (h : k < pcut L) : bt L k ≠ 45 ∧ bt L k ≠ 120 := by
  have hl := pcut_le L
  have := List.not_of_lt_findIdx (p := fun c => decide (c = 45) || decide (c = 120)) (xs := L) (show k < L.findIdx _ from h)
  have e : bt L k = L[k]'(by omega) := by unfold bt; rw [List.getD_eq_getElem?_getD, List.getElem?_eq_getElem (by omega)]; rfl
  rw [e]
  simp at this
  exact this
theorem pcut_at {L : List UInt8} (h : pcut L < L.length) : bt L (pcut L) = 45 ∨ bt L (pcut L) = 120 := by
  rcases pcut_ways L with k | ⟨a, c, b, h1, h2, h3⟩
  · omega
  · have e : bt L (pcut L) = c := by
      rw [h2]
      conv => lhs; rw [h1]
      unfold bt
      rw [List.getD_eq_getElem?_getD, List.getElem?_append_right (Nat.le_refl _), Nat.sub_self]; rfl
    rw [e]; exact h3
/-- the parted ways, by tests -/
theorem rr_45 {L A B : List UInt8} (hL : L = A ++ 45 :: B) (hp : pcut L = A.length) : (itmP L).isSome = (natB A && (natB B && lessB A B)) ∧ ∀ y, itmP L = some y → RrT y A B [49] := by
  obtain ⟨h1, h2, h3, _⟩ := itm_ways hL hp
  cases ha : natB A with
  | false => rw [h1 ha]; exact ⟨rfl, fun y h => by cases h⟩
  | true =>
    cases hb : natB B with
    | false => rw [h2 ha hb]; exact ⟨rfl, fun y h => by cases h⟩
    | true =>
      rw [h3 ha hb rfl]
      cases hl : lessB A B with
      | false => exact ⟨rfl, fun y h => by cases h⟩
      | true => exact ⟨rfl, fun y h => by cases h; exact ⟨⟨ha, rfl⟩, ⟨hb, rfl⟩, ⟨by decide, show valN 0 [49] = 1 by decide⟩⟩⟩
theorem rr_120 {L A B : List UInt8} (hL : L = A ++ 120 :: B) (hp : pcut L = A.length) : (itmP L).isSome = (natB A && (natB B && lessB [49] A)) ∧ ∀ y, itmP L = some y → RrT y B B A := by
  obtain ⟨h1, h2, _, h3⟩ := itm_ways hL hp
  cases ha : natB A with
  | false => rw [h1 ha]; exact ⟨rfl, fun y h => by cases h⟩
  | true =>
    cases hb : natB B with
    | false => rw [h2 ha hb]; exact ⟨rfl, fun y h => by cases h⟩
    | true =>
      rw [h3 ha hb (by decide), natB_less (by decide) ha]
      have e1 : valN 0 [49] = 1 := by decide
      rw [e1]
      simp only [natV_two ha]
      by_cases h2 : 2 ≤ valN 0 A
      · rw [if_pos h2, decide_eq_true (by omega)]
        exact ⟨rfl, fun y h => by cases h; exact ⟨⟨hb, rfl⟩, ⟨hb, rfl⟩, ⟨ha, rfl⟩⟩⟩
      · rw [if_neg h2, decide_eq_false (by omega)]
        exact ⟨rfl, fun y h => by cases h⟩
theorem rr_one {L : List UInt8} (hp : pcut L = L.length) : (itmP L).isSome = natB L ∧ ∀ y, itmP L = some y → RrT y L L [49] := by
  rw [itm_one hp]
  cases h : natB L with
  | false => exact ⟨rfl, fun y h => by cases h⟩
  | true => exact ⟨rfl, fun y hy => by cases hy; exact ⟨⟨h, rfl⟩, ⟨h, rfl⟩, ⟨by decide, show valN 0 [49] = 1 by decide⟩⟩⟩
end Go.Proofs.YthmknaoelmeniaaGreatDoor

namespace Go.Proofs.YthmknaoelmeniaaGreatDoor
open Go.RowKit Go.Sort Go.Joins Go.Shelf

/-- a builder that holds a text -/
abbrev Bld (w : World) (b : Nat) (l : List UInt8) (wr : World) : Prop := Lib.IsBuilderF 49 5 w.heap.size b (Lib.byteCells l) wr
theorem wrStr {w wr : World} {b : Nat} {l s : List UInt8} {S : ByteArray} (hS : S.data.toList = s) (h : Bld w b l wr) (hl : l.length + s.length ≤ 1000000) (hB : Below w.heap.size w wr) :
    Calls Tryz.prog 17 #[.pointer (some ⟨b, 0, none⟩), .string S] wr fun e w' => ∃ v, e = .returned v ∧ Bld w b (l ++ s) w' ∧ Below w.heap.size wr w' ∧ Lib.OthersKept 5 (some b) wr w' := by
  have hs : S.size = s.length := by rw [← hS, Array.length_toList]; rfl
  refine (bldString w.heap.size b _ S wr h (by rw [Lib.byteCells_length]; omega) hB.size).mono ?_
  rintro e w' ⟨rfl, h1, h2, h3⟩
  refine ⟨_, rfl, .inr ?_, h2, h3⟩
  rw [Lib.byteCells_append, ← hS, ← Lib.strCells_eq]
  exact h1
theorem wrByte {w wr : World} {b : Nat} {l : List UInt8} (c : UInt8) (h : Bld w b l wr) (hl : l.length + 1 ≤ 1000000) (hB : Below w.heap.size w wr) :
    Calls Tryz.prog 16 #[.pointer (some ⟨b, 0, none⟩), .int .u8 (c.toNat : Int)] wr fun e w' => ∃ v, e = .returned v ∧ Bld w b (l ++ [c]) w' ∧ Below w.heap.size wr w' ∧ Lib.OthersKept 5 (some b) wr w' := by
  refine (bldByte w.heap.size b _ (c.toNat : Int) wr h (by rw [Lib.byteCells_length]; omega) hB.size).mono ?_
  rintro e w' ⟨rfl, h1, h2, h3⟩
  refine ⟨_, rfl, .inr ?_, h2, h3⟩
  rw [Lib.byteCells_append]
  exact h1
theorem bldAt_kept {T e : TypeId} {B b : Nat} {p : Value} {bs : List Value} {w w' : World} (h : Lib.BuilderAtF T e B b p bs w) (hk : ∀ (k : Nat) (c : Array Value) (t : TypeId) (fz : Nat × Nat), w.heap[k]? = some (.cells c t fz) → t = T ∨ t = e → w'.heap[k]? = some (.cells c t fz)) : Lib.BuilderAtF T e B b p bs w' := by
  obtain ⟨h1, v, h2, h3, h4⟩ := h
  refine ⟨h1, v, hk _ _ _ _ h2 (.inl rfl), ⟨h3.1, ?_⟩, h4⟩
  rcases h3.2 with h5 | ⟨g, cap, cur, fz, hv, hB, hh, r⟩
  · exact .inl h5
  · exact .inr ⟨g, cap, cur, fz, hv, hB, hk _ _ _ _ hh (.inr rfl), r⟩
theorem bld_kept {T e : TypeId} {B b : Nat} {bs : List Value} {w w' : World} (h : Lib.IsBuilderF T e B b bs w) (hk : ∀ (k : Nat) (c : Array Value) (t : TypeId) (fz : Nat × Nat), w.heap[k]? = some (.cells c t fz) → t = T ∨ t = e → w'.heap[k]? = some (.cells c t fz)) : Lib.IsBuilderF T e B b bs w' :=
  h.elim (fun h => .inl (bldAt_kept h hk)) (fun h => .inr (bldAt_kept h hk))
theorem bld_grown {w W W' : World} {b : Nat} {l : List UInt8} {row : Option Nat} (h : Bld w b l W) (hg : W.grownBy W' row) (hr : ∀ r, row = some r → ∃ o : Obj, W.heap[r]? = some o ∧ o.isCells = false) : Bld w b l W' :=
  bld_kept h fun _ _ _ _ hk _ => (grownBy_keeps_cells hg hr hk rfl).trans hk
theorem bld_set {w W : World} {b q i : Nat} {l : List UInt8} {cs : Array Value} {t : TypeId} {fz : Nat × Nat} (h : Bld w b l W) (hq : W.heap[q]? = some (.cells cs t fz)) (ht : t ≠ 49) (hu : t ≠ 5) (v : Value) : Bld w b l (W.setCell ⟨q, i, none⟩ v) :=
  bld_kept h fun k c t' fz' hk ht' => (Below.heap_setCell _ _ _ _ (show k ≠ q from fun e => by
    rw [e, hq] at hk
    simp only [Option.some.injEq, Obj.cells.injEq] at hk
    rcases ht' with e' | e'
    · exact ht (hk.2.1.trans e')
    · exact hu (hk.2.1.trans e'))).trans hk
/-- the builder's own block -/
theorem bld_blk {w W : World} {b : Nat} {l : List UInt8} (h : Bld w b l W) : w.heap.size ≤ b ∧ ∃ c, W.heap[b]? = some (.cells c 49 (0, 0)) := by
  rcases h with ⟨h1, v, h2, _⟩ | ⟨h1, v, h2, _⟩
  · exact ⟨h1, _, h2⟩
  · exact ⟨h1, _, h2⟩
theorem own_str {W W' : World} {base b : Nat} {e u : TypeId} {size : Nat} {v : Value} {n : Nat} {xs : List Value} {c : Array Value} {t : TypeId} {fz : Nat × Nat} (h : W.ownsRow base e size v n xs) (ho : Lib.OthersKept u (some b) W W') (hb : W.heap[b]? = some (.cells c t fz)) (ht : e ≠ t) (hu : e ≠ u) : W'.ownsRow base e size v n xs := by
  obtain ⟨h1, h2⟩ := h
  refine ⟨h1, ?_⟩
  rcases h2 with h2 | ⟨g, cap, cur, hv, hg, hh, r⟩
  · exact Or.inl h2
  · refine Or.inr ⟨g, cap, cur, hv, hg, ?_, r⟩
    refine cell_kept_o ho hh ?_ hu
    intro e'
    rw [e', hb] at hh
    simp only [Option.some.injEq, Obj.cells.injEq] at hh
    exact ht hh.2.1.symm
theorem LM.str {w W W' : World} {n b : Nat} {P : Nat → Nat} {ds : List Nat} {c : Array Value} (h : LM w n P ds W) (hb : Below w.heap.size W W') (ho : Lib.OthersKept 5 (some b) W W') (hc : W.heap[b]? = some (.cells c 49 (0, 0))) : LM w n P ds W' :=
  ⟨own_str h.own ho hc (by decide) (by decide), cell_kept_o ho h.box (fun e => by have h1 := h.box; rw [e, hc] at h1; cases h1) (by decide), h.k.trans hb, h.dm.keep fun D hD hk => ho D _ hk (fun e => by
    have e := Option.some.inj e
    rw [e, hc] at hk; cases hk) (fun _ _ e => by cases e)⟩
/-- memory while the text is written -/
structure SW (w : World) (n : Nat) (N : List Nat) (bz q i : Nat) (ds : List Nat) (u : List UInt8) (W : World) : Prop where
  lm : LM w n (bst N 0) ds W
  bl : Bld w bz u W
  qb : BoxI W q (i : Int)
section
variable {w W W' : World} {n : Nat} {N : List Nat} {bz q i : Nat} {ds : List Nat} {u : List UInt8}
theorem SW.below (h : SW w n N bz q i ds u W) (hb : Below W.heap.size W W') : SW w n N bz q i ds u W' :=
  ⟨h.lm.below hb, bld_below h.bl hb, (hb.block _ (blk_lt h.qb)).trans h.qb⟩
theorem SW.grown {Z : Nat} {row : Option Nat} (h : SW w n N bz q i ds u W) (hZ : w.heap.size ≤ Z) (hds : ∀ D ∈ ds, D < Z) (hg : W.grownBy W' row) (hr : ∀ r, row = some r → Z ≤ r ∧ ∃ o : Obj, W.heap[r]? = some o ∧ o.isCells = false) : SW w n N bz q i ds u W' :=
  ⟨h.lm.grown hZ hds hg hr, bld_grown h.bl hg (fun r e => (hr r e).2), blk_kept h.qb hg (fun r e => (hr r e).2)⟩
theorem SW.str {v : List UInt8} (h : SW w n N bz q i ds u W) (hb : Below w.heap.size W W') (ho : Lib.OthersKept 5 (some bz) W W') (hl : Bld w bz v W') : SW w n N bz q i ds v W' := by
  obtain ⟨_, c, hc⟩ := bld_blk h.bl
  exact ⟨h.lm.str hb ho hc, hl, cell_kept_o ho h.qb (fun e => by
    have h1 : W.heap[q]? = some (.cells #[.int .i64 (i : Int)] 3 (0, 0)) := h.qb
    rw [e, hc] at h1; cases h1) (by decide)⟩
/-- a store into a box of another kind -/
theorem SW.set {g k : Nat} {cs : Array Value} {t : TypeId} (h : SW w n N bz q i ds u W) (hg : W.heap[g]? = some (.cells cs t (0, 0))) (ht : t ≠ 49) (hu : t ≠ 5) (hi : t ≠ 3) (_hs : t ≠ 22) (hw : w.heap.size + 2 ≤ g) (v : Value) : SW w n N bz q i ds u (W.setCell ⟨g, k, none⟩ v) :=
  ⟨h.lm.other (p := ⟨g, k, none⟩) hw (fun D hD e => by
    have h1 := (h.lm.dm.2 D hD).2
    rw [e, hg] at h1; cases h1) v, bld_set h.bl hg ht hu v, (Below.heap_setCell _ _ _ _ (show q ≠ g from fun e => by
    have h1 : W.heap[q]? = some (.cells #[.int .i64 (i : Int)] 3 (0, 0)) := h.qb
    rw [e, hg] at h1
    simp only [Option.some.injEq, Obj.cells.injEq] at h1
    exact hi h1.2.1)).trans h.qb⟩
end
/-- a box with an item -/
abbrev BoxT (W : World) (g : Nat) (T : ByteArray) (s : Nat) : Prop := W.heap[g]? = some (.cells #[.string T, .int .i64 (s : Int)] 45 (0, 0))
end Go.Proofs.YthmknaoelmeniaaGreatDoor
