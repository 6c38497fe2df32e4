/- Clocks: Run of a plan that is wrong; plans and lists of rings compared; the example. | strings.Builder: the writing methods at this program (their copy check ends in a refusal here, so the kit's contracts do not lie). | Package-level tables: what a row lists, read out; kept by growth. -/
import Derived.Test.YtjceahbikdncmaaDoorPZ7
import Derived.Laws.StructEq
import Derived.ChangeKeysEq
import Derived.Test.YtjceahbikdncmaaDoorPZ1
import Derived.Test.YtjceahbikdncmaaDoorShelf
import Derived.Shelf.Strings.BuilderK
import Derived.Lib.LaidTab
namespace Go.Proofs.YtjceahbikdncmaaDoor
open Go.RowKit Go.Sort Go.Joins Go.Shelf
attribute [local go_sem] cell_grow frozen_grow size_grow

theorem neq_alarm (x y : Al) (w : World) : Sem.run Tryd.prog (binOp .neq 47 (aV x) (aV y)) w = .ok (.bool (!decide (x = y))) w := by
  have u3 := Tryd.underlying2
  have u9 := Tryd.underlying9
  have hS : Tryd.prog.underlying 47 = some (.struct (Tryd.prog.fieldsOf 47)) := by kernel_rfl
  have hp : Tryd.prog.stoodInHeld 47 = false := by kernel_rfl
  rw [run_neq_struct, show (10000 : Nat) = 9999 + 1 from rfl, run_equalIn_agg w 9999 47 _ _ hS hp]
  simp only [Program.fieldsOf, Tryd.underlying47]
  obtain ⟨a, b, c⟩ := x
  obtain ⟨a', b', c'⟩ := y
  go_simp
  have hs := str_eq a a'
  by_cases h1 : a = a' <;> by_cases h2 : b = b' <;> by_cases h3 : c = c' <;> simp [h1, h2, h3] <;> simp_all
theorem neq_ring (x y : Rn) (w : World) : Sem.run Tryd.prog (binOp .neq 45 (gV x) (gV y)) w = .ok (.bool (!decide (x = y))) w := by
  have u3 := Tryd.underlying2
  have u9 := Tryd.underlying9
  have hS : Tryd.prog.underlying 45 = some (.struct (Tryd.prog.fieldsOf 45)) := by kernel_rfl
  have hp : Tryd.prog.stoodInHeld 45 = false := by kernel_rfl
  rw [run_neq_struct, show (10000 : Nat) = 9999 + 1 from rfl, run_equalIn_agg w 9999 45 _ _ hS hp]
  simp only [Program.fieldsOf, Tryd.underlying45]
  obtain ⟨a, b⟩ := x
  obtain ⟨a', b'⟩ := y
  go_simp
  have hs := str_eq a a'
  by_cases h1 : a = a' <;> by_cases h2 : b = b' <;> simp [h1, h2] <;> simp_all
/-- are two lists the same, one by one? -/
def sqB {α : Type} [DecidableEq α] (n : Nat) (R : Nat → α) (m : Nat) (Q : Nat → α) : Bool := decide (n = m) && (List.range n).all fun j => decide (R j = Q j)
section
variable {α : Type} [DecidableEq α]
theorem sqB_len {n m : Nat} {R Q : Nat → α} (h : n ≠ m) : sqB n R m Q = false := by unfold sqB; rw [decide_eq_false h, Bool.false_and]
theorem sqB_yes {n : Nat} {R Q : Nat → α} (h : ∀ j, j < n → R j = Q j) : sqB n R n Q = true := by
  unfold sqB
  rw [decide_eq_true rfl, Bool.true_and, List.all_eq_true]
  exact fun j hj => decide_eq_true (h j (List.mem_range.1 hj))
theorem sqB_no {n j : Nat} {R Q : Nat → α} (hj : j < n) (h : R j ≠ Q j) : sqB n R n Q = false := by
  unfold sqB
  rw [decide_eq_true rfl, Bool.true_and, List.all_eq_false]
  exact ⟨j, List.mem_range.2 hj, by simpa using h⟩
end
theorem guardA : Tryd.prog.eqGuardType Tryd.prog.depth 47 = false := by kernel_rfl
theorem guardG : Tryd.prog.eqGuardType Tryd.prog.depth 45 = false := by kernel_rfl
section
variable {w : World} {a b : Option Addr} {n c m d : Nat} {R Q : Nat → Al} {G H : Nat → Rn}
set_option maxRecDepth 100000 in
set_option maxHeartbeats 1600000 in
theorem samePlan_ok (hS : SlA w a n R) (hn : n ≤ 9223372036854775807) (hQ : SlA w b m Q) (hm : m ≤ 9223372036854775807) :
    Calls Tryd.prog 16 #[pV a n c, pV b m d] w fun e w' => e = .returned (.bool (sqB n R m Q)) ∧ Below w.heap.size w w' := by
  have b2 : Below w.heap.size w ((w.alloc (.cells #[.slice a n c] 24)).alloc (.cells #[.slice b m d] 24)) := ((Below.refl _ w).alloc (Nat.le_refl _) _).alloc (by simp) _
  have HB := Lib.hid b2
  by_cases hnm : n = m
  · subst hnm
    have hne : ((n : Int) != (n : Int)) = false := by simp
    have HS := Lib.hid hS
    have HQ := Lib.hid hQ
    clear b2 hS hQ
    go_enter Tryd.func16, Tryd.ntmps16
    go_wp2
    obtain ⟨W, hW⟩ : ∃ W, (w.alloc (.cells #[.slice a n c] 24)).alloc (.cells #[.slice b n d] 24) = W := ⟨_, rfl⟩
    have k0 : W.cell? ⟨w.heap.size, 0, none⟩ = some (.slice a n c) := by rw [← hW]; simp [go_sem]
    have k1 : W.cell? ⟨w.heap.size + 1, 0, none⟩ = some (.slice b n d) := by rw [← hW]; simp [go_sem]
    rw [hW] at HB ⊢
    clear hW
    go_loopw [5] (fun i wr => ∃ k : Nat, i = .int .i64 k ∧ k ≤ n ∧ Hid (∀ j, j < k → R j = Q j) ∧ Hid (Below W.heap.size W wr)) (fun i _ => n - (intOf i).toNat)
    case atStart => exact ⟨0, rfl, Nat.zero_le _, Lib.hid (fun j hj => by omega), Lib.hid (Below.refl _ _)⟩
    case round =>
      obtain ⟨k, rfl, hk, HA, HBr⟩ := hrel
      clear hne
      have e0 := cell_later HBr.out k0
      have e1 := cell_later HBr.out k1
      clear k0 k1
      have HBw := Lib.hid (HB.out.trans (HBr.out.mono HB.out.size))
      by_cases hlt : k < n
      · obtain ⟨ba, oa, rfl, g0, g1, g2⟩ := (HS.out.below HBw.out).at_ hlt
        obtain ⟨bb, ob, rfl, h0, h1, h2⟩ := (HQ.out.below HBw.out).at_ hlt
        have hli : (k : Int) < (n : Int) := by omega
        have hk0 : (0 : Int) ≤ (k : Int) := by omega
        have hneq := neq_alarm (R k) (Q k)
        have hgd := guardA
        obtain ⟨r, hr⟩ : ∃ r, decide (R k = Q k) = r := ⟨_, rfl⟩
        rw [hr] at hneq
        have HR := Lib.hid hr
        clear hr
        cases r
        · go_wp2_with fail
          go_quiet (fail)
          go_wp2
          go_ret
          exact ⟨ret_bool (sqB_no hlt (of_decide_eq_false HR.out)).symm, HBw.out.trans ((below_draw _ _).mono HBw.out.size)⟩
        · go_wp2_with fail
          go_quiet (fail)
          go_wp2
          go_roundw
          case rel => exact ⟨k + 1, by go_num, by omega, Lib.hid (fun j hj => by
            by_cases ej : j = k
            · rw [ej]; exact of_decide_eq_true HR.out
            · exact HA.out j (by omega)), Lib.hid (HBr.out.trans ((below_draw _ _).mono HBr.out.size))⟩
          case measure => simp [intOf]; omega
      · obtain rfl : k = n := by omega
        go_wp2
        go_ret
        exact ⟨ret_bool (sqB_yes HA.out).symm, HBw.out⟩
  · have hne : ((n : Int) != (m : Int)) = true := by simp; omega
    have HE := Lib.hid (sqB_len (R := R) (Q := Q) hnm)
    clear b2 hS hQ hnm
    go_enter Tryd.func16, Tryd.ntmps16
    go_wp2
    go_ret
    exact ⟨ret_bool HE.out.symm, HB.out⟩
set_option maxRecDepth 100000 in
set_option maxHeartbeats 1600000 in
theorem ringsEq_ok (hS : SlG w a n G) (hn : n ≤ 9223372036854775807) (hQ : SlG w b m H) (hm : m ≤ 9223372036854775807) :
    Calls Tryd.prog 15 #[.slice a n c, .slice b m d] w fun e w' => e = .returned (.bool (sqB n G m H)) ∧ Below w.heap.size w w' := by
  by_cases hnm : n = m
  · subst hnm
    have hne : ((n : Int) != (n : Int)) = false := by simp
    have HS := Lib.hid hS
    have HQ := Lib.hid hQ
    clear hS hQ
    go_enter Tryd.func15, Tryd.ntmps15
    go_wp2
    go_loopw [5] (fun i wr => ∃ k : Nat, i = .int .i64 k ∧ k ≤ n ∧ Hid (∀ j, j < k → G j = H j) ∧ Hid (Below w.heap.size w wr)) (fun i _ => n - (intOf i).toNat)
    case atStart => exact ⟨0, rfl, Nat.zero_le _, Lib.hid (fun j hj => by omega), Lib.hid (Below.refl _ _)⟩
    case round =>
      obtain ⟨k, rfl, hk, HA, HBr⟩ := hrel
      clear hne
      by_cases hlt : k < n
      · obtain ⟨ba, oa, rfl, g0, g1⟩ := (HS.out.below HBr.out).at_ hlt
        obtain ⟨bb, ob, rfl, h0, h1⟩ := (HQ.out.below HBr.out).at_ hlt
        have hli : (k : Int) < (n : Int) := by omega
        have hk0 : (0 : Int) ≤ (k : Int) := by omega
        have hneq := neq_ring (G k) (H k)
        have hgd := guardG
        obtain ⟨r, hr⟩ : ∃ r, decide (G k = H k) = r := ⟨_, rfl⟩
        rw [hr] at hneq
        have HR := Lib.hid hr
        clear hr
        cases r
        · go_wp2_with fail
          go_quiet (fail)
          go_wp2
          go_ret
          exact ⟨ret_bool (sqB_no hlt (of_decide_eq_false HR.out)).symm, HBr.out.trans ((below_draw _ _).mono HBr.out.size)⟩
        · go_wp2_with fail
          go_quiet (fail)
          go_wp2
          go_roundw
          case rel => exact ⟨k + 1, by go_num, by omega, Lib.hid (fun j hj => by
            by_cases ej : j = k
            · rw [ej]; exact of_decide_eq_true HR.out
            · exact HA.out j (by omega)), Lib.hid (HBr.out.trans ((below_draw _ _).mono HBr.out.size))⟩
          case measure => simp [intOf]; omega
      · obtain rfl : k = n := by omega
        go_wp2
        go_ret
        exact ⟨ret_bool (sqB_yes HA.out).symm, HBr.out⟩
  · have hne : ((n : Int) != (m : Int)) = true := by simp; omega
    have HE := Lib.hid (sqB_len (R := G) (Q := H) hnm)
    clear hS hQ hnm
    go_enter Tryd.func15, Tryd.ntmps15
    go_wp2
    go_ret
    exact ⟨ret_bool HE.out.symm, Below.refl _ _⟩
end
section
variable {w : World} {a : Option Addr} {n c : Nat} {R : Nat → Al} {u : Int}
set_option maxRecDepth 100000 in
set_option maxHeartbeats 1600000 in
theorem run_bad (hS : SlA w a n R) (hn : n ≤ 9223372036854775807) (hR : ∀ j, j < n → AlB (R j)) (hE : rnE n R u ≠ 0) :
    Calls Tryd.prog 11 #[pV a n c, .int .i64 u] w fun e w' => e = .returned (.tuple #[.slice none 0 0, .agg #[.slice none 0 0], .int .i64 (rnE n R u)]) ∧ Below w.heap.size w w' := by
  have b1 : Below w.heap.size w (((w.alloc (.cells #[.slice a n c] 24)).alloc (.cells #[.int .i64 u] 2)).alloc (.cells #[.slice none 0 0] 24)) := (((Below.refl _ w).alloc (Nat.le_refl _) _).alloc (by simp) _).alloc (by simp; omega) _
  have h5 : BoxA (((w.alloc (.cells #[.slice a n c] 24)).alloc (.cells #[.int .i64 u] 2)).alloc (.cells #[.slice none 0 0] 24)) (w.heap.size + 1 + 1) none 0 0 := by
    have := heap_alloc_new ((w.alloc (.cells #[.slice a n c] 24)).alloc (.cells #[.int .i64 u] 2)) (.cells #[.slice none 0 0] 24)
    rw [World.size_alloc, World.size_alloc] at this
    exact this
  have HC := Lib.hid (count_ok (c := c) (hS.below b1) hn hR u)
  have HB := Lib.hid b1
  have H5 := Lib.hid h5
  have hw : (ctE n R u ≠ 0 ∧ rnE n R u = ctE n R u) ∨ (ctE n R u = 0 ∧ rnE n R u = 3 ∧ 1000 < sumA R u n ∧ ctV n R u = sumA R u n) := by
    unfold rnE at hE ⊢
    by_cases h0 : ctE n R u = 0
    · right
      rw [if_neg (by simpa using h0)] at hE ⊢
      by_cases h1 : 1000 < sumA R u n
      · exact ⟨h0, if_pos h1, h1, if_pos h0⟩
      · rw [if_neg h1] at hE; exact absurd rfl hE
    · exact .inl ⟨h0, if_pos h0⟩
  clear hS hR hE b1 h5
  rcases hw with ⟨h0, he⟩ | ⟨h0, he, h1, hv⟩
  · rw [he]
    obtain ⟨e0, he0⟩ : ∃ e, ctE n R u = e := ⟨_, rfl⟩
    rw [he0] at HC h0 ⊢
    have d0 := bne0_true h0
    clear he he0 h0
    go_enter Tryd.func11, Tryd.ntmps11
    go_wp2_with fail
    refine HC.out.mono ?_
    rintro e w1 ⟨rfl, b1⟩
    have h51 := (b1.block _ (blk_lt H5.out)).trans H5.out
    have k5 : w1.cell? ⟨w.heap.size + 1 + 1, 0, none⟩ = some (.slice none 0 0) := by rw [cell_of_block h51]; rfl
    have f5 := unfrozen_of_block h51
    have HB1 := Lib.hid (below_tr HB.out b1)
    clear b1 h51
    go_wp2
    exact bodyPost_ret (v := .tuple #[.slice none 0 0, .agg #[.slice none 0 0], .int .i64 e0]) (by simp [results, Tryd.results11, go_sem, k5, f5]) rfl ⟨rfl, HB1.out.setCell (p := ⟨w.heap.size + 1 + 1, 0, none⟩) (by dsimp only; omega) _⟩
  · rw [he]
    rw [h0, hv] at HC
    obtain ⟨s, hs⟩ : ∃ s, sumA R u n = s := ⟨_, rfl⟩
    rw [hs] at HC h1
    have d1 : decide (1000 < s) = true := by simpa using h1
    clear he h0 h1 hv hs
    go_enter Tryd.func11, Tryd.ntmps11
    go_wp2_with fail
    refine HC.out.mono ?_
    rintro e w1 ⟨rfl, b1⟩
    have h51 := (b1.block _ (blk_lt H5.out)).trans H5.out
    have k5 : w1.cell? ⟨w.heap.size + 1 + 1, 0, none⟩ = some (.slice none 0 0) := by rw [cell_of_block h51]; rfl
    have f5 := unfrozen_of_block h51
    have HB1 := Lib.hid (below_tr HB.out b1)
    clear b1 h51
    go_wp2
    exact bodyPost_ret (v := .tuple #[.slice none 0 0, .agg #[.slice none 0 0], .int .i64 3]) (by simp [results, Tryd.results11, go_sem, k5, f5]) rfl ⟨rfl, HB1.out.setCell (p := ⟨w.heap.size + 1 + 1, 0, none⟩) (by dsimp only; omega) _⟩
end
/-- the plan of the examples -/
def exL : List Al := [(⟨#[97]⟩, 5, 10), (⟨#[98]⟩, 15, 0)]
def exR (j : Nat) : Al := exL.getD j al0
set_option maxRecDepth 100000 in
theorem example_ok (w : World) : Calls Tryd.prog 32 #[] w fun e w' => ∃ b, e = .returned (pV (some ⟨b, 0, none⟩) 2 2) ∧ SlA w' (some ⟨b, 0, none⟩) 2 exR ∧ Below w.heap.size w w' := by
  go_enter Tryd.func32, Tryd.ntmps32
  go_wp2
  refine bodyPost_ret (v := pV (some ⟨w.heap.size + 1, 0, none⟩) 2 2) (by simp [results, Tryd.results32, go_sem]) rfl ⟨_, rfl, .inr ⟨_, _, rfl, fun j hj => ?_⟩, ((Below.refl _ w).alloc (Nat.le_refl _) _).alloc (by simp) _⟩
  match j, hj with
  | 0, _ => refine ⟨?_, ?_, ?_⟩ <;> simp [go_sem, exR, exL]
  | 1, _ => refine ⟨?_, ?_, ?_⟩ <;> simp [go_sem, exR, exL]
end Go.Proofs.YtjceahbikdncmaaDoor

namespace Go.Proofs.YtjceahbikdncmaaDoor
open Go.RowKit Go.Sort Go.Joins Go.Shelf

theorem szBuilder : (Tryd.prog.info? 80).map (·.size) = some 2 := by kernel_rfl
theorem liesBuilder : liesAt Tryd.prog Tryd.prog.depth 80 (2 / Tryd.prog.cellsOf 80) 0 80 1 = true := by kernel_rfl
theorem infoByte : (Tryd.prog.info? 5).map (fun i => (i.zero, i.size, i.bytes)) = some (some (.int .u8 0), 1, 1) := by kernel_rfl
set_option maxHeartbeats 1000000 in
set_option maxRecDepth 100000 in
theorem bldUsed (b : Nat) (w : World) (h0 : w.cell? ⟨b, 0, none⟩ = some (.pointer (some ⟨b, 0, none⟩))) :
    Calls Tryd.prog 61 #[.pointer (some ⟨b, 0, none⟩)] w fun e w' => e = .returned (.tuple #[]) ∧ w' = w := by
  obtain ⟨j, hj, _⟩ := Option.map_eq_some_iff.1 szBuilder
  go_enter Tryd.func61, Tryd.ntmps61
  go_wp2
  rw [Lib.run_neq_ptr_same w _ Tryd.underlying77 hj]
  go_wp2
  go_end0
  exact ⟨rfl, rfl⟩
set_option maxHeartbeats 1000000 in
set_option maxRecDepth 100000 in
theorem bldFresh (b : Nat) (w : World) (h0 : w.cell? ⟨b, 0, none⟩ = some (.pointer none)) (hsh : w.shape? b = some (80, 2)) (hfz : w.frozen? ⟨b, 0, none⟩ = false) :
    Calls Tryd.prog 61 #[.pointer (some ⟨b, 0, none⟩)] w fun e w' => e = .returned (.tuple #[]) ∧ w' = w.setCell ⟨b, 0, none⟩ (.pointer (some ⟨b, 0, none⟩)) := by
  obtain ⟨j, hj, hjs⟩ := Option.map_eq_some_iff.1 szBuilder
  go_enter Tryd.func61, Tryd.ntmps61
  go_wp2
  rw [Lib.run_to_unsafe w ⟨b, 0, none⟩ Tryd.underlying77 Tryd.underlying102 hj (by rw [hjs]; decide) hsh (Nat.zero_lt_succ 1)]
  simp only [Result.andThen]
  rw [Oper.upon_value]
  go_wp2
  rw [run_callFunc_extern Tryd.func69 (by kernel_rfl) (by kernel_rfl) (by kernel_rfl) (e := Extern.AbiNoEscape.same) (by kernel_rfl)]
  rw [Lib.run_noEscape]
  simp only [Result.andThen]
  rw [Oper.upon_value]
  go_wp2
  rw [Lib.run_from_unsafe w ⟨b, 0, none⟩ Tryd.underlying102 Tryd.underlying77 hj hsh liesBuilder]
  simp only [Result.andThen]
  rw [Oper.upon_value]
  go_wp2
  go_end0
  exact ⟨rfl, rfl⟩
theorem bldCheck (B b : Nat) (bs : List Value) (w : World) (h : Lib.IsBuilderF 80 5 B b bs w) :
    Calls Tryd.prog 61 #[.pointer (some ⟨b, 0, none⟩)] w fun e w' => e = .returned (.tuple #[]) ∧ (Lib.BuilderAtF 80 5 B b (.pointer (some ⟨b, 0, none⟩)) bs w' ∧ Below B w w' ∧ Lib.OthersKept 5 (some b) w w') := by
  rcases h with h | h
  · refine (bldFresh b w h.cell0 h.shape h.frozen0).mono ?_
    rintro e w' ⟨rfl, rfl⟩
    exact ⟨rfl, h.used _, (Below.refl B w).setCell (p := ⟨b, 0, none⟩) h.1 _, (Lib.OthersKept.refl _ _ w).setCell ⟨b, 0, none⟩ rfl _⟩
  · refine (bldUsed b w h.cell0).mono ?_
    rintro e w' ⟨rfl, rfl⟩
    exact ⟨rfl, h, Below.refl B _, Lib.OthersKept.refl _ _ _⟩
set_option maxHeartbeats 2000000 in
set_option maxRecDepth 100000 in
theorem bldByte (B b : Nat) (bs : List Value) (c : Int) (w : World) (h : Lib.IsBuilderF 80 5 B b bs w) (hlen : bs.length + 1 ≤ 140737488355328) (hBw : B ≤ w.heap.size) :
    Calls Tryd.prog 49 #[.pointer (some ⟨b, 0, none⟩), .int .u8 c] w fun e w' => e = .returned .nilIface ∧ (Lib.BuilderAtF 80 5 B b (.pointer (some ⟨b, 0, none⟩)) (bs ++ [.int .u8 c]) w' ∧ Below B w w' ∧ Lib.OthersKept 5 (some b) w w') := by
  obtain ⟨i0, hi, hz0, hz1, hz2⟩ := info_parts infoByte
  go_enter Tryd.func49, Tryd.ntmps49
  go_wp2_with (go_at_call 61; refine (bldCheck B b bs _ h).mono ?_)
  rintro e w1 ⟨rfl, h1, hb1, hk1⟩
  obtain ⟨hB, v, hbk, hown, hne⟩ := h1
  have c0 : w1.cell? ⟨b, 0, none⟩ = some (.pointer (some ⟨b, 0, none⟩)) := by rw [Lib.cell_of_heap hbk]; rfl
  have c1 : w1.cell? ⟨b, 1, none⟩ = some v := by rw [Lib.cell_of_heap hbk]; rfl
  go_wp2_with (at_builtin; refine wpList_append_ownF _ rfl _ _ 78 rfl B 5 i0 (.int .u8 0) 1 1 Tryd.underlying78 hi hz0 hz1 hz2 rfl (by decide) _ _ _ rfl (hown.alloc _) ⟨w1.heap.size, 0, none⟩ 1 1 [.int .u8 c] rfl rfl ?c1 ?c2 ?c3 ?c4 ?c5 ?_)
  case c1 =>
    intro j u hj
    match j, hj with
    | 0, hj => simp at hj; subst hj; simp [Addr.add]
  case c2 => intro u hu; simp at hu; subst hu; rfl
  case c3 => unfold maxLen; omega
  case c4 => omega
  case c5 => have := hb1.size; simp; omega
  intro v' w2 hown' hgrow _
  have hlt : b < w1.heap.size := by
    rcases Nat.lt_or_ge b w1.heap.size with h' | h'
    · exact h'
    · simp [Array.getElem?_eq_none h'] at hbk
  have hb2 : w2.heap[b]? = some (.cells #[.pointer (some ⟨b, 0, none⟩), v] 80 (0, 0)) := by
    rw [hgrow.block b (by simp; omega) (fun e => hne e.symm), Lib.alloc_old w1 _ b hlt]
    exact hbk
  have d0 : w2.cell? ⟨b, 0, none⟩ = some (.pointer (some ⟨b, 0, none⟩)) := by rw [Lib.cell_of_heap hb2]; rfl
  have d1 : w2.cell? ⟨b, 1, none⟩ = some v := by rw [Lib.cell_of_heap hb2]; rfl
  have f1 : w2.frozen? ⟨b, 1, none⟩ = false := Lib.frozen_of_heap hb2 1
  obtain ⟨g, cap, rfl⟩ : ∃ g cap, v' = .slice (some ⟨g, 0, none⟩) (bs.length + 1) cap := by
    rcases hown'.2 with ⟨_, h0⟩ | ⟨g, cap, cur, fz, hv, _⟩
    · omega
    · exact ⟨g, cap, hv⟩
  go_wp2
  go_ret
  refine ⟨rfl, ?_, ?_, ((hk1.alloc _).grown hgrow (Lib.ownsRowF_kind (hown.alloc _))).setCell ⟨b, 1, none⟩ rfl _⟩
  · exact Lib.BuilderAtF.put (T := 80) (e := 5) hB hb2 (bs' := bs ++ [.int .u8 c]) (by simpa using hown') (by decide)
  · exact ((hb1.alloc (by have := hb1.size; omega) _).grown hgrow (by have := hb1.size; simp; omega) (fun k hk => (hown.lt k hk).1)).setCell (p := ⟨b, 1, none⟩) hB _
set_option maxHeartbeats 2000000 in
set_option maxRecDepth 100000 in
theorem bldString (B b : Nat) (bs : List Value) (s : ByteArray) (w : World) (h : Lib.IsBuilderF 80 5 B b bs w) (hlen : bs.length + s.size ≤ 140737488355328) (hBw : B ≤ w.heap.size) :
    Calls Tryd.prog 47 #[.pointer (some ⟨b, 0, none⟩), .string s] w fun e w' => e = .returned (.tuple #[.int .i64 s.size, .nilIface]) ∧ (Lib.BuilderAtF 80 5 B b (.pointer (some ⟨b, 0, none⟩)) (bs ++ Lib.strCells s) w' ∧ Below B w w' ∧ Lib.OthersKept 5 (some b) w w') := by
  obtain ⟨i0, hi, hz0, hz1, hz2⟩ := info_parts infoByte
  go_enter Tryd.func47, Tryd.ntmps47
  go_wp2_with (go_at_call 61; refine (bldCheck B b bs _ h).mono ?_)
  rintro e w1 ⟨rfl, h1, hb1, hk1⟩
  obtain ⟨hB, v, hbk, hown, hne⟩ := h1
  have c0 : w1.cell? ⟨b, 0, none⟩ = some (.pointer (some ⟨b, 0, none⟩)) := by rw [Lib.cell_of_heap hbk]; rfl
  have c1 : w1.cell? ⟨b, 1, none⟩ = some v := by rw [Lib.cell_of_heap hbk]; rfl
  go_wp2_with (at_builtin; refine Lib.wpList_append_own_stringF _ rfl _ _ 78 9 rfl B 5 i0 Tryd.underlying78 Tryd.underlying9 hi hz0 hz1 hz2 _ _ _ rfl hown s rfl ?c3 ?c4 ?c5 ?_)
  case c3 => unfold maxLen; omega
  case c4 => omega
  case c5 => have := hb1.size; omega
  intro v' w2 hown' hgrow _
  have hlt : b < w1.heap.size := by
    rcases Nat.lt_or_ge b w1.heap.size with h' | h'
    · exact h'
    · simp [Array.getElem?_eq_none h'] at hbk
  have hb2 : w2.heap[b]? = some (.cells #[.pointer (some ⟨b, 0, none⟩), v] 80 (0, 0)) := by
    rw [hgrow.block b hlt (fun e => hne e.symm)]
    exact hbk
  have d0 : w2.cell? ⟨b, 0, none⟩ = some (.pointer (some ⟨b, 0, none⟩)) := by rw [Lib.cell_of_heap hb2]; rfl
  have d1 : w2.cell? ⟨b, 1, none⟩ = some v := by rw [Lib.cell_of_heap hb2]; rfl
  have f1 : w2.frozen? ⟨b, 1, none⟩ = false := Lib.frozen_of_heap hb2 1
  obtain ⟨ao, n', cap, rfl⟩ : ∃ ao n' cap, v' = .slice ao n' cap := by
    rcases hown'.2 with ⟨hv, _⟩ | ⟨g, cap, cur, fz, hv, _⟩
    · exact ⟨_, _, _, hv⟩
    · exact ⟨_, _, _, hv⟩
  go_wp2
  go_ret2
  refine ⟨rfl, ?_, ?_, (hk1.grown hgrow (Lib.ownsRowF_kind hown)).setCell ⟨b, 1, none⟩ rfl _⟩
  · exact Lib.BuilderAtF.put (T := 80) (e := 5) hB hb2 (bs' := bs ++ Lib.strCells s) (by simpa [Lib.strCells_length] using hown') (by decide)
  · exact (hb1.grown hgrow (by have := hb1.size; omega) (fun k hk => (hown.lt k hk).1)).setCell (p := ⟨b, 1, none⟩) hB _
/-- a builder that is new -/
theorem bldNew (w : World) (B : Nat) (hB : B ≤ w.heap.size) : Lib.IsBuilderF 80 5 B w.heap.size [] (w.alloc (.cells #[.pointer none, .slice none 0 0] 80)) := by
  refine .inl ⟨hB, .slice none 0 0, heap_alloc_new w _, World.ownsRowF_of (World.ownsRow_nil _ _ _ _), by simp [Value.ownBlock]⟩
end Go.Proofs.YtjceahbikdncmaaDoor

namespace Go.Proofs.YtjceahbikdncmaaDoor
open Go.RowKit Go.Sort Go.Joins Go.Lib
theorem tabIs_below {P : Program} {w w' : World} {nm : String} {k : IntKind} {zs : List Int} (h : TabIs P w nm k zs) (hb : Below w.heap.size w w') : TabIs P w' nm k zs := by
  unfold TabIs World.var? at *
  cases hg : P.globalNamed nm with
  | none => rw [hg] at h; cases h
  | some g =>
    rw [hg] at h
    simp only [Option.bind_some] at h ⊢
    cases hh : w.heap[g]? with
    | none => rw [hh] at h; cases h
    | some o =>
      rw [hh] at h
      rw [hb.block g (blk_lt hh), hh]
      exact h
/-- an array of strings that reads as the table holds its strings, cell for cell -/
theorem cells_of_strs {H : Type} {enc : TypeId × Value → H} {P : Program} {w : World} {base : Nat} {sp : Nat → Bool} {held : Bool} {fuel : Nat} {t e : TypeId} {n : Nat} {cs : List Value} {ss : List (List UInt8)} {p : List MemPlace}
    (ht : P.underlying t = some (.array n e)) (he : P.underlying e = some .string) (hce : P.cellsOf e = 1) (hct : P.cellsOf t = n)
    (h : DataW.trod enc P w base sp held fuel t cs = some (.agg (ss.map fun s => .lit (.string s)), p)) : cs = ss.map fun s => Value.string ⟨s.toArray⟩ := by
  cases fuel with
  | zero => simp [DataW.trod] at h
  | succ fuel =>
    simp only [DataW.trod, ht, hce, hct, Nat.mul_one] at h
    split at h
    · rename_i hl
      obtain ⟨xs, hm, hx⟩ := Option.map_eq_some_iff.1 h
      have hxs : xs.map (·.1) = ss.map fun s => (DataW.lit (.string s) : DataW H) := by
        have := congrArg Prod.fst hx
        simpa using this
      have hxl : xs.length = n := by simpa using mapM_length hm
      have hzl : ss.length = n := by
        have := congrArg List.length hxs
        simp at this
        omega
      apply List.ext_getElem?
      intro i
      by_cases hi : i < n
      · obtain ⟨b, hb, hf⟩ := mapM_at hm i i (by simp [hi])
        obtain ⟨z, hc, rfl, _⟩ := DataW.trod_string he hf
        have h1 : cs[i]? = some (.string z) := by
          have := congrArg (·[0]?) hc
          simpa [List.getElem?_take, List.getElem?_drop] using this
        have h2 : (xs.map (·.1))[i]? = some (DataW.lit (.string z.data.toList) : DataW H) := by simp [hb]
        rw [hxs] at h2
        simp only [List.getElem?_map, Option.map_eq_some_iff, DataW.lit.injEq, Lit.string.injEq] at h2
        obtain ⟨z', hz', rfl⟩ := h2
        simp [h1, hz']
      · rw [List.getElem?_eq_none (by omega), List.getElem?_eq_none (by simp; omega)]
    · cases h
theorem nD_le : ∀ (k u : Nat), u < 10 ^ (k + 1) → Lib.nDigits u ≤ k + 1
  | 0, u, h => by rw [Lib.nDigits_small (by simpa using h)]; exact Nat.le_refl _
  | k + 1, u, h => by
    by_cases hu : u < 10
    · rw [Lib.nDigits_small hu]; omega
    · rw [Lib.nDigits_big hu]
      have := nD_le k (u / 10) (by rw [Nat.div_lt_iff_lt_mul (by decide)]; rw [Nat.pow_succ] at h; exact h)
      omega
theorem itoa_len {n : Int} {k : Nat} (h0 : 0 ≤ n) (h1 : n < (10 ^ (k + 1) : Nat)) : (Lib.itoa n).length ≤ k + 1 := by
  unfold Lib.itoa
  rw [if_neg (by omega), Lib.decDigits_length]
  exact nD_le k _ (by omega)
theorem bldAt_below {T e : TypeId} {B b : Nat} {p : Value} {bs : List Value} {w w' : World} (h : Lib.BuilderAtF T e B b p bs w) (hb : Below w.heap.size w w') : Lib.BuilderAtF T e B b p bs w' := by
  obtain ⟨h1, v, h2, h3, h4⟩ := h
  refine ⟨h1, v, (hb.block _ (blk_lt h2)).trans h2, ⟨h3.1, ?_⟩, h4⟩
  rcases h3.2 with h5 | ⟨g, cap, cur, fz, hv, hB, hh, r⟩
  · exact .inl h5
  · exact .inr ⟨g, cap, cur, fz, hv, hB, (hb.block _ (blk_lt hh)).trans hh, r⟩
theorem bld_below {T e : TypeId} {B b : Nat} {bs : List Value} {w w' : World} (h : Lib.IsBuilderF T e B b bs w) (hb : Below w.heap.size w w') : Lib.IsBuilderF T e B b bs w' :=
  h.elim (fun h => .inl (bldAt_below h hb)) (fun h => .inr (bldAt_below h hb))
/-- strings one behind the other, as lists -/
theorem cat2 (a b : List UInt8) : (⟨a.toArray⟩ ++ ⟨b.toArray⟩ : ByteArray).data.toList = a ++ b := by simp
theorem cat3 (a b c : List UInt8) : (⟨a.toArray⟩ ++ ⟨b.toArray⟩ ++ ⟨c.toArray⟩ : ByteArray).data.toList = a ++ b ++ c := by simp
theorem cell_kept_o {e : TypeId} {b : Nat} {w w' : World} {k : Nat} {cs : Array Value} {t : TypeId} {fz : Nat × Nat} (h : Lib.OthersKept e (some b) w w') (hk : w.heap[k]? = some (.cells cs t fz)) (hb : k ≠ b) (ht : t ≠ e) : w'.heap[k]? = some (.cells cs t fz) :=
  h k _ hk (fun e' => hb (by simpa using e')) (fun c fz' e' => by cases e'; exact ht rfl)
end Go.Proofs.YtjceahbikdncmaaDoor
