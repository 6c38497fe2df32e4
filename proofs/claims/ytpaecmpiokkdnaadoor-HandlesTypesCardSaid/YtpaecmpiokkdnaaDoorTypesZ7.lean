/- Handles of Things: New. | Handles of Things: note. | Handles of Things: slices of them; Load. | Handles of Things: Put. | Handles of Things: find. -/
import Derived.Test.YtpaecmpiokkdnaaDoorTypesZ6
import Derived.Deep.RegionWith
import Derived.BigRegion
import Derived.Test.YtpaecmpiokkdnaaDoorTypesZ4
namespace Go.Proofs.YtpaecmpiokkdnaaDoor.Thing
open Go.RowKit Go.Sort Go.Joins
attribute [local go_sem] cell_grow frozen_grow size_grow

theorem info_slot : (Tryd.prog.info? 129).map (fun i => (i.zero, i.size, i.bytes)) = some (some (.agg #[.int .i64 0, .bool false, .string ⟨#[]⟩, .int .i64 0]), 4, 40) := by kernel_rfl

theorem run_make_slots (n : Nat) (hn : n ≤ 1024) (w : World) :
    (Instr.makeSlice 122 (.int .i64 (n : Int)) (.int .i64 (n : Int))).run Tryd.prog w = .ok (.slice (some ⟨w.heap.size, 0, none⟩) n n) (w.alloc (.cells (slotCells (List.replicate n (0, false, (.agg #[.string ⟨#[]⟩, .int .i64 0])))).toArray 129)) := by
  obtain ⟨i0, hi, hz0, hz1, hz2⟩ := info_parts info_slot
  have h := run_make (P := Tryd.prog) w 122 129 i0 _ Tryd.underlying122 hi hz0 .i64 .i64 n n (by omega) (by omega) (by rw [hz2]; omega) (by omega)
  have e : madeCells #[.int .i64 0, .bool false, .string ⟨#[]⟩, .int .i64 0] (n * 4) = (slotCells (List.replicate n (0, false, (.agg #[.string ⟨#[]⟩, .int .i64 0])))).toArray := by rw [← made_slots]
  rw [h, Int.toNat_natCast, hz1]
  exact congrArg (fun c => Result.ok (Value.slice (some ⟨w.heap.size, 0, none⟩) n n) (w.alloc (.cells c 129))) e

set_option maxHeartbeats 1600000 in
theorem new_bad (N : Int) (w : World) (h : N < 1 ∨ 1024 < N) :
    Calls Tryd.prog 37 #[.int .i64 N] w fun e w' => e = .returned (.tuple #[.pointer none, .int .i64 7]) ∧ w = w' := by
  by_cases h1 : N < 1
  · go_enter Tryd.func37, Tryd.ntmps37
    go_wp2
    go_ret2
    exact ⟨rfl, rfl⟩
  · have h2 : 1024 < N := by omega
    clear h
    go_enter Tryd.func37, Tryd.ntmps37
    go_wp2
    go_ret2
    exact ⟨rfl, rfl⟩

set_option maxRecDepth 100000 in
set_option maxHeartbeats 1600000 in
theorem new_ok (n : Nat) (w : World) (h1 : 1 ≤ n) (h2 : n ≤ 1024) :
    Calls Tryd.prog 37 #[.int .i64 n] w fun e w' => e = .returned (.tuple #[.pointer (some ⟨w.heap.size + 1, 0, none⟩), .int .i64 0]) ∧
      Tb 124 129 w' w.heap.size (w.heap.size + 1) w.heap.size (List.replicate n (0, false, (.agg #[.string ⟨#[]⟩, .int .i64 0]))) 0 (fun i => decide (i < n)) ∧ Below w.heap.size w w' := by
  have hmk := run_make_slots n h2
  obtain ⟨cs, hcs⟩ : ∃ cs, cs = (slotCells (List.replicate n ((0, false, (.agg #[.string ⟨#[]⟩, .int .i64 0])) : Slt))).toArray := ⟨_, rfl⟩
  rw [← hcs] at hmk
  have HC := Lib.hid hcs
  clear hcs
  have HF := Lib.hid (bNew_ok n true ((w.alloc (.cells cs 129)).alloc (.cells #[.slice (some ⟨w.heap.size, 0, none⟩) n n, .int .i64 0, .slice none 0 0, .int .i64 0] 124)) (by omega))
  go_enter Tryd.func37, Tryd.ntmps37
  go_wp2_with fail
  refine HF.out.mono ?_
  rintro e w1 ⟨a, cap, rfl, hown, hb⟩
  have b1 : w1.heap[w.heap.size + 1]? = some (.cells #[.slice (some ⟨w.heap.size, 0, none⟩) n n, .int .i64 0, .slice none 0 0, .int .i64 0] 124 (0, 0)) := by
    rw [hb.block _ (by simp)]
    have := heap_alloc_new (w.alloc (.cells cs 129)) (.cells #[.slice (some ⟨w.heap.size, 0, none⟩) n n, .int .i64 0, .slice none 0 0, .int .i64 0] 124)
    rwa [World.size_alloc] at this
  have b0 : w1.heap[w.heap.size]? = some (.cells cs 129 (0, 0)) := by
    rw [hb.block _ (by simp; omega), Below.heap_alloc _ _ _ (by simp)]
    exact heap_alloc_new w _
  have p1 : w1.cell? ⟨w.heap.size + 1, 1, none⟩ = some (.int .i64 0) := by rw [cell_of_block b1]; rfl
  have p2 : w1.cell? ⟨w.heap.size + 1, 2, none⟩ = some (.slice none 0 0) := by rw [cell_of_block b1]; rfl
  have p3 : ∀ j, w1.frozen? ⟨w.heap.size + 1, j, none⟩ = false := fun j => unfrozen_of_block b1 j
  have HB1 := Lib.hid b1
  have HB0 := Lib.hid b0
  have HO := Lib.hid hown
  have HB := Lib.hid hb
  clear b1 b0 hown hb
  go_wp2
  go_ret2
  refine ⟨rfl, ?_, ((((Below.refl w.heap.size w).alloc (Nat.le_refl _) _).alloc (by simp) _).trans (HB.out.mono (by simp; omega))).setCell (p := ⟨w.heap.size + 1, 1, none⟩) (by simp) _ |>.setCell (p := ⟨w.heap.size + 1, 2, none⟩) (by simp) _⟩
  have o2 := own_ne HO.out HB1.out u_tbl
  refine ⟨by omega, Nat.le_refl _, by omega, by simpa using h1, by simpa using h2, ⟨a, cap, ?_, ?_⟩, ?_, fun i hi => by simp at hi; simp; omega⟩
  · rw [setCell_block (setCell_block HB1.out _) _]; simp
  · rw [List.length_replicate]
    have := ownsRow_setCell_other (ownsRow_setCell_other HO.out (a := ⟨w.heap.size + 1, 1, none⟩) o2 (.int .i64 (n : Int))) (a := ⟨w.heap.size + 1, 2, none⟩) o2 (.slice a ((n + 63) / 64) cap)
    exact ownsRow_le this (by simp; omega)
  · rw [Below.heap_setCell _ _ _ _ (by dsimp only; omega), Below.heap_setCell _ _ _ _ (by dsimp only; omega), HB0.out, HC.out]
end Go.Proofs.YtpaecmpiokkdnaaDoor.Thing

namespace Go.Proofs.YtpaecmpiokkdnaaDoor.Thing
open Go.RowKit Go.Sort Go.Joins
attribute [local go_sem] cell_grow frozen_grow size_grow

theorem rdy_f (g : Nat) (v : Value) : decide ((g : Int) < 65535) = rdy (g, false, v) := by
  simp only [rdy, Bool.not_false, Bool.true_and]
  exact decide_eq_decide.2 (by omega)
theorem rdy_t (g : Nat) (v : Value) : false = rdy (g, true, v) := by simp [rdy]

set_option maxRecDepth 100000 in
set_option maxHeartbeats 1600000 in
theorem note_ok {B p q : Nat} {st : List Slt} {m : Nat} {r : Nat → Bool} (i : Nat) (w : World) (h : Tb 124 129 w B p q st m r) (hB : B ≤ w.heap.size) (hi : i < st.length) :
    Calls Tryd.prog 66 #[.pointer (some ⟨p, 0, none⟩), .int .i64 i] w fun e w' => e = .returned (.tuple #[]) ∧ Tb 124 129 w' B p q st m (filled r i (i + 1) (rdy (st.getD i (0, false, undef)))) ∧ Fr p q w w' := by
  have c0 := h.c0
  have c1 := h.c1
  obtain ⟨ra, rcap, c2, hsl⟩ := h.c2
  have n2 := h.n2
  have s0 := h.s0 hi
  have s1 := h.s1 hi
  have hc := h.chk0
  have f1 := h.fp
  have hpl : p < w.heap.size := World.block_lt_of_cell? _ _ c1
  obtain ⟨⟨g, al, v⟩, hS⟩ : ∃ S, S = st.getD i (0, false, undef) := ⟨_, rfl⟩
  rw [← hS] at s0 s1 ⊢
  dsimp only at s0 s1
  have i0 : (0 : Int) ≤ (i : Int) := by omega
  have i1 : (i : Int) < (st.length : Int) := by omega
  have H := Lib.hid h
  have e1 : ((i + 1 : Nat) : Int) = (i : Int) + 1 := by omega
  have hsl' : SlK .u64 w.drew ra ((st.length + 63) / 64) (pack r ((st.length + 63) / 64)) := ⟨hsl.length, hsl.cells⟩
  have hwr : IntKind.i64.wrap ((i : Int) + 1) = (i : Int) + 1 := IntWalk.i64_in _ (by omega)
  have hF := fun b => bSet_ok st.length i (i + 1) b ra ((st.length + 63) / 64) rcap _ w.drew hsl' (pack_lt _ _) hc (by omega) (by omega)
  rw [e1] at hF
  have HF := Lib.hid hF
  clear hc hS h e1 hsl hsl' hF
  cases al
  · go_enter Tryd.func66, Tryd.ntmps66
    go_wp2
    first | go_region_with ((go_at_call 80; refine (HF.out (decide ((g : Int) < 65535))).mono ?_; rintro e w' ⟨a', cap', rfl, hown, hbl⟩; have p1 : w'.cell? ⟨p, 1, none⟩ = some (.int .i64 (st.length : Int)) := cell_later hbl c1; have p2 : w'.cell? ⟨p, 2, none⟩ = some (.slice ra ((st.length + 63) / 64) rcap) := cell_later hbl c2; have p3 : ∀ j, w'.frozen? ⟨p, j, none⟩ = false := fun j => (hbl.frozen (p := ⟨p, j, none⟩) hpl).trans (f1 j))) | fail
    all_goals go_end0
    all_goals exact ⟨rfl, H.out.noted' u_tbl hi hB (rdy_f _ _) hbl hown⟩
  · go_enter Tryd.func66, Tryd.ntmps66
    go_wp2
    first | go_region_with ((go_at_call 80; refine (HF.out false).mono ?_; rintro e w' ⟨a', cap', rfl, hown, hbl⟩; have p1 : w'.cell? ⟨p, 1, none⟩ = some (.int .i64 (st.length : Int)) := cell_later hbl c1; have p2 : w'.cell? ⟨p, 2, none⟩ = some (.slice ra ((st.length + 63) / 64) rcap) := cell_later hbl c2; have p3 : ∀ j, w'.frozen? ⟨p, j, none⟩ = false := fun j => (hbl.frozen (p := ⟨p, j, none⟩) hpl).trans (f1 j))) | fail
    all_goals go_end0
    all_goals exact ⟨rfl, H.out.noted' u_tbl hi hB (rdy_t _ _) hbl hown⟩
end Go.Proofs.YtpaecmpiokkdnaaDoor.Thing

namespace Go.Proofs.YtpaecmpiokkdnaaDoor.Thing
open Go.RowKit Go.Sort Go.Joins
attribute [local go_sem] cell_grow frozen_grow size_grow

/-- a slice of values of two cells -/
def SlT (w : World) (a : Option Addr) (n : Nat) (f : Nat → Value) : Prop := n = 0 ∨ ∃ b o, a = some ⟨b, o, none⟩ ∧ ∀ j, j < n → w.cell? ⟨b, o + j * 2, none⟩ = some (a0 (f j)) ∧ w.cell? ⟨b, o + j * 2 + 1, none⟩ = some (a1 (f j))
theorem SlT.below {w w' : World} {a : Option Addr} {n : Nat} {f : Nat → Value} (h : SlT w a n f) (hb : Below w.heap.size w w') : SlT w' a n f := by
  rcases h with h | ⟨b, o, ha, hc⟩
  · exact .inl h
  · refine .inr ⟨b, o, ha, fun j hj => ?_⟩
    obtain ⟨h0, h1⟩ := hc j hj
    have hl := World.block_lt_of_cell? _ _ h0
    dsimp only at hl
    exact ⟨(hb.cell (p := ⟨b, o + j * 2, none⟩) hl).trans h0, (hb.cell (p := ⟨b, o + j * 2 + 1, none⟩) hl).trans h1⟩
theorem SlT.at_ {w : World} {a : Option Addr} {n : Nat} {f : Nat → Value} (h : SlT w a n f) {j : Nat} (hj : j < n) : ∃ b o, a = some ⟨b, o, none⟩ ∧ w.cell? ⟨b, o + j * 2, none⟩ = some (a0 (f j)) ∧ w.cell? ⟨b, o + j * 2 + 1, none⟩ = some (a1 (f j)) := by
  obtain ⟨b, o, ha, hc⟩ := h.resolve_left (by omega)
  exact ⟨b, o, ha, hc j hj⟩

abbrev TT (w : World) (B p q : Nat) (st : List Slt) : Prop := Tg 124 129 w B p q st
section
variable {n na nv : Nat} {ga aa va : Option Addr} {gc ac vc : Nat} {G : Nat → Int} {A : Nat → Bool} {V : Nat → Value}
set_option maxRecDepth 100000 in
set_option maxHeartbeats 1600000 in
theorem load_err (w : World) (hG : SlF w ga n (zI G)) (hA : SlF w aa na (zB A)) (he : hcE n na nv G A ≠ 0) :
    Calls Tryd.prog 42 #[.agg #[.slice ga n gc, .slice aa na ac, .slice va nv vc]] w fun e w' => e = .returned (.tuple #[.pointer none, .int .i64 (hcE n na nv G A)]) ∧ Below w.heap.size w w' := by
  have hb0 := below_box0 w (.cells #[.slice ga n gc, .slice aa na ac, .slice va nv vc] 83)
  have HB := Lib.hid hb0
  have HG := Lib.hid (hG.below hb0)
  have HA := Lib.hid (hA.below hb0)
  have hb := bne0_true he
  clear hb0 he hG hA
  go_enter Tryd.func42, Tryd.ntmps42
  go_wp2_with fail
  refine (check_ok _ HG.out HA.out).mono ?_
  rintro e w1 ⟨rfl, b1⟩
  have HB1 := Lib.hid (HB.out.trans (b1.mono (by simp)))
  clear b1
  go_wp2
  go_ret2
  exact ⟨rfl, HB1.out⟩

theorem note_tg {B p q : Nat} {st : List Slt} (i : Nat) (s : Slt) {m : Nat} (w : World) (h : Tb 124 129 w B p q (st.set i s) m (rdyF st)) (hi : i < st.length) (hm : m = (st.set i s).countP alv) (hB : B ≤ w.heap.size) :
    Calls Tryd.prog 66 #[.pointer (some ⟨p, 0, none⟩), .int .i64 i] w fun e w' => e = .returned (.tuple #[]) ∧ TT w' B p q (st.set i s) ∧ Fr p q w w' :=
  (note_ok i w h hB (by simpa using hi)).mono fun _ _ ⟨he, ht, hf⟩ => ⟨he, by
    have e2 : ((st.set i s).getD i (0, false, undef)) = s := by simp [hi]
    rw [e2, rdyF_set s hi] at ht
    exact Tg.of ht hm rfl, hf⟩

set_option maxRecDepth 100000 in
set_option maxHeartbeats 6400000 in
theorem load_ok (w : World) (hG : SlF w ga n (zI G)) (hA : SlF w aa na (zB A)) (hV : SlT w va nv V) (hVf : ∀ j, ∃ (xs : ByteArray) (x : Int), V j = (.agg #[.string xs, .int .i64 x])) (he : hcE n na nv G A = 0) :
    Calls Tryd.prog 42 #[.agg #[.slice ga n gc, .slice aa na ac, .slice va nv vc]] w fun e w' => ∃ p q, e = .returned (.tuple #[.pointer (some ⟨p, 0, none⟩), .int .i64 0]) ∧ TT w' w.heap.size p q (stP n G A V ((.agg #[.string ⟨#[]⟩, .int .i64 0])) n) ∧ Below w.heap.size w w' := by
  obtain ⟨h1, h2, rfl, rfl, hbad⟩ := hcE_zero he
  have hb0 := below_box0 w (.cells #[.slice ga nv gc, .slice aa nv ac, .slice va nv vc] 83)
  have HB := Lib.hid hb0
  have HG := Lib.hid (hG.below hb0)
  have HA := Lib.hid (hA.below hb0)
  have HV := Lib.hid (hV.below hb0)
  have HE := Lib.hid he
  have HBad := Lib.hid hbad
  clear hb0 he hG hA hV hbad
  go_enter Tryd.func42, Tryd.ntmps42
  go_wp2_with fail
  refine (check_ok _ HG.out HA.out).mono ?_
  rintro e w1 ⟨rfl, b1⟩
  rw [HE.out]
  have k0 : w1.cell? ⟨w.heap.size, 0, none⟩ = some (.slice ga nv gc) := (b1.cell (p := ⟨w.heap.size, 0, none⟩) (by simp)).trans (by simp [go_sem])
  have k1 : w1.cell? ⟨w.heap.size, 1, none⟩ = some (.slice aa nv ac) := (b1.cell (p := ⟨w.heap.size, 1, none⟩) (by simp)).trans (by simp [go_sem])
  have k2 : w1.cell? ⟨w.heap.size, 2, none⟩ = some (.slice va nv vc) := (b1.cell (p := ⟨w.heap.size, 2, none⟩) (by simp)).trans (by simp [go_sem])
  have hz1 : w.heap.size + 1 ≤ w1.heap.size := by have := b1.size; simpa using this
  have HB1 := Lib.hid (HB.out.trans (b1.mono (by simp)))
  have HG1 := Lib.hid (HG.out.below b1)
  have HA1 := Lib.hid (HA.out.below b1)
  have HV1 := Lib.hid (HV.out.below b1)
  clear b1
  go_wp2_with fail
  refine (new_ok nv _ h1 h2).mono ?_
  rintro e w2 ⟨rfl, t2, b2⟩
  rw [← stP_zero (G := G) (A := A) (V := V), rdyF_zero (G := G) (A := A) (V := V) (Z := (.agg #[.string ⟨#[]⟩, .int .i64 0]))] at t2
  have T2 := Lib.hid (Tg.of t2 countP_zero rfl)
  have HB2 := Lib.hid b2
  have c0 := (b2.cell (p := ⟨w.heap.size, 0, none⟩) (by dsimp only; omega)).trans k0
  clear t2 b2
  go_wp2
  go_loopw [29] (fun x wr => ∃ i : Nat, i ≤ nv ∧ x = .int .i64 i ∧ Hid (TT wr w1.heap.size (w1.heap.size + 1) w1.heap.size (stP nv G A V ((.agg #[.string ⟨#[]⟩, .int .i64 0])) i)) ∧ Hid (Below w1.heap.size w1 wr)) (fun x _ => nv - (intOf x).toNat)
  case atStart => exact ⟨0, Nat.zero_le _, rfl, T2, HB2⟩
  case round =>
    obtain ⟨i, hi, rfl, HT, HW⟩ := hrel
    by_cases hlt : i < nv
    · have hlb : decide (i < nv) = true := by simpa using hlt
      have hli : (i : Int) < (nv : Int) := by omega
      have hl0 : (0 : Int) ≤ (i : Int) := by omega
      obtain ⟨gb, go, rfl, cg⟩ := HG1.out.at_ hlt
      obtain ⟨ab, ao, rfl, ca⟩ := HA1.out.at_ hlt
      obtain ⟨vb, vo, rfl, cv, cu⟩ := HV1.out.at_ hlt
      have lg := World.block_lt_of_cell? _ _ cg
      have la := World.block_lt_of_cell? _ _ ca
      have lv := World.block_lt_of_cell? _ _ cv
      dsimp only at lg la lv
      replace cg := (HW.out.cell (p := ⟨gb, go + i, none⟩) lg).trans cg
      replace ca := (HW.out.cell (p := ⟨ab, ao + i, none⟩) la).trans ca
      replace cv := (HW.out.cell (p := ⟨vb, vo + i * 2, none⟩) lv).trans cv
      replace cu := (HW.out.cell (p := ⟨vb, vo + i * 2 + 1, none⟩) lv).trans cu
      have d0 := (HW.out.cell (p := ⟨w.heap.size, 0, none⟩) (by dsimp only; omega)).trans k0
      have d1 := (HW.out.cell (p := ⟨w.heap.size, 1, none⟩) (by dsimp only; omega)).trans k1
      have d2 := (HW.out.cell (p := ⟨w.heap.size, 2, none⟩) (by dsimp only; omega)).trans k2
      have n1 : w.heap.size ≠ w1.heap.size := by omega
      have n2 : w.heap.size ≠ w1.heap.size + 1 := by omega
      have n3 : vb ≠ w1.heap.size := by omega
      have n4 : vb ≠ w1.heap.size + 1 := by omega
      have hsz := HT.out.size
      have hcl := HT.out.count_le
      dsimp only [zI, zB] at cg ca
      obtain ⟨b1, b2, b3⟩ := badS_ok (HBad.out i hlt)
      obtain ⟨g, hg⟩ := Int.eq_ofNat_of_zero_le b1
      rw [hg] at cg
      have hltS : i < (stP nv G A V ((.agg #[.string ⟨#[]⟩, .int .i64 0])) i).length := by rw [stP_length]; exact hlt
      have c9 := Tb.c0 HT.out
      have c3 := Tb.c3 HT.out
      have s0 := Tb.s0 HT.out hltS
      have s1 := Tb.s1 HT.out hltS
      have s2 := Tb.s2 HT.out hltS
      have s3 := Tb.s3 HT.out hltS
      have fp := Tb.fp HT.out
      have fq := Tb.fq HT.out
      rw [stP_length] at c9
      have hget : (stP nv G A V ((.agg #[.string ⟨#[]⟩, .int .i64 0])) i).getD i (0, false, undef) = (0, false, (.agg #[.string ⟨#[]⟩, .int .i64 0])) := by rw [stP_get hlt, if_neg (Nat.lt_irrefl i)]
      rw [hget] at s0 s1 s2 s3
      obtain ⟨m, hm⟩ : ∃ m, (stP nv G A V ((.agg #[.string ⟨#[]⟩, .int .i64 0])) i).countP alv = m := ⟨_, rfl⟩
      rw [hm] at c3 hcl
      have HM := Lib.hid hm
      have hcnt := countP_set' alv (0, false, undef) (stP nv G A V ((.agg #[.string ⟨#[]⟩, .int .i64 0])) i) i ((G i).toNat, A i, if A i then V i else (.agg #[.string ⟨#[]⟩, .int .i64 0])) hltS
      have hsucc := stP_succ (G := G) (A := A) (V := V) (Z := (.agg #[.string ⟨#[]⟩, .int .i64 0])) hlt
      have hgn : (G i).toNat = g := by rw [hg]; rfl
      rw [hget, hm] at hcnt
      rw [hgn] at hcnt hsucc
      cases hA : A i with
      | true =>
        rw [hA] at ca hcnt hsucc
        simp only [↓reduceIte] at hcnt hsucc
        have hX := Tb.stored HT.out u_slot u_tbl hltS (g, true, V i) (m + 1)
        obtain ⟨xs, x, hv⟩ := hVf i
        dsimp only at hX
        rw [hv] at cv cu hX hcnt hsucc
        change _ = some (Value.string xs) at cv
        change _ = some (Value.int .i64 x) at cu
        dsimp only [a0, a1] at hX
        rw [show ((m + 1 : Nat) : Int) = (m : Int) + 1 by omega] at hX
        have HX := Lib.hid hX
        have HC := Lib.hid hcnt
        have HS := Lib.hid hsucc
        have HVV := Lib.hid hv
        clear hX hcnt hsucc hv hm hget hgn hg b1 b2 b3 hA
        go_wp2_with fail
        refine (note_tg i (g, true, (.agg #[.string xs, .int .i64 x])) _ HX.out hltS (by have h1 := HC.out; rw [show alv (0, false, (.agg #[.string ⟨#[]⟩, .int .i64 0])) = false from rfl] at h1; simp only [alv, Bool.false_eq_true, ↓reduceIte] at h1 ⊢; omega) (by simp only [World.size_setCell]; exact hsz)).mono ?_
        rintro e w3 ⟨rfl, t3, f3⟩
        have T3 := Lib.hid t3
        have F3 := Lib.hid f3
        clear t3 f3
        go_wp2
        refine ⟨⟨i + 1, by omega, by simp, Lib.hid ?_, Lib.hid ?_⟩, by simp [intOf]; omega⟩
        · have := T3.out
          rw [HS.out] at this
          exact this
        · exact Fr.below HW.out (((((Fr.setQ _ _ _).trans (Fr.setQ _ _ _)).trans (Fr.setQ _ _ _)).trans (Fr.setQ _ _ _)).trans (Fr.setP _ _ _) |>.trans F3.out) (by omega) (Nat.le_refl _) hsz
      | false =>
        rw [hA] at ca hcnt hsucc
        simp only [Bool.false_eq_true, ↓reduceIte] at hcnt hsucc
        have hX := Tb.stored2 HT.out u_slot hltS (g, false, (.agg #[.string ⟨#[]⟩, .int .i64 0])) (by rw [hget])
        dsimp only at hX
        have HX := Lib.hid hX
        have HC := Lib.hid hcnt
        have HS := Lib.hid hsucc
        clear hX hcnt hsucc hm hget hgn hg b1 b2 b3 hA
        go_wp2_with fail
        refine (note_tg i (g, false, (.agg #[.string ⟨#[]⟩, .int .i64 0])) _ HX.out hltS (by have h1 := HC.out; have h2 := HM.out; rw [show alv (0, false, (.agg #[.string ⟨#[]⟩, .int .i64 0])) = false from rfl] at h1; simp only [alv, Bool.false_eq_true, ↓reduceIte] at h1 ⊢; omega) (by simp only [World.size_setCell]; exact hsz)).mono ?_
        rintro e w3 ⟨rfl, t3, f3⟩
        have T3 := Lib.hid t3
        have F3 := Lib.hid f3
        clear t3 f3
        go_wp2
        refine ⟨⟨i + 1, by omega, by simp, Lib.hid ?_, Lib.hid ?_⟩, by simp [intOf]; omega⟩
        · have := T3.out
          rw [HS.out] at this
          exact this
        · exact Fr.below HW.out (((Fr.setQ _ _ _).trans (Fr.setQ _ _ _)).trans F3.out) (by omega) (Nat.le_refl _) hsz
    · have hlb : decide (i < nv) = false := by simpa using hlt
      obtain rfl : i = nv := by omega
      go_wp2
      go_ret2
      exact ⟨_, _, rfl, Tg.base HT.out (by omega), HB1.out.trans (HW.out.mono (by omega))⟩
end
end Go.Proofs.YtpaecmpiokkdnaaDoor.Thing

namespace Go.Proofs.YtpaecmpiokkdnaaDoor.Thing
open Go.RowKit Go.Sort Go.Joins
attribute [local go_sem] cell_grow frozen_grow size_grow

set_option maxRecDepth 100000 in
set_option maxHeartbeats 1600000 in
theorem put_full {B p q : Nat} {st : List Slt} {m : Nat} {r : Nat → Bool} (xs : ByteArray) (x : Int) (w : World) (h : Tb TBL SLOT w B p q st m r) (hT : Tab w) (hlt : ¬ nxt r 0 st.length < st.length) :
    Calls Tryd.prog 41 #[.pointer (some ⟨p, 0, none⟩), .agg #[.string xs, .int .i64 x]] w fun e w' => e = .returned (.tuple #[.int .i64 0, .int .i64 5]) ∧ Below w.heap.size w w' := by
  have hb0 := below_box0 w (.cells #[.string xs, .int .i64 x] 75)
  have h0 := h.below hb0
  have hT0 : Tab (w.alloc (.cells #[.string xs, .int .i64 x] 75)) := hT.below hb0
  have hN := next_tb h
  rw [if_neg hlt, if_neg hlt] at hN
  obtain ⟨ra, rcap, c2, hsl⟩ := h0.c2
  have c1 := h0.c1
  have n2 := h.n2
  have HB0 := Lib.hid hb0
  have HM := Lib.hid (made_ok _ h0)
  have HX := Lib.hid (bNext_ok st.length 0 true ra ((st.length + 63) / 64) rcap _ _ hT0 hsl (pack_lt _ _) (by omega))
  have HN := Lib.hid hN
  clear hN h hsl hlt h0 hb0 hT hT0
  go_enter Tryd.func41, Tryd.ntmps41
  go_wp2_with fail
  refine HM.out.mono ?_
  rintro e w1 ⟨rfl, rfl⟩
  go_wp2_with fail
  refine HX.out.mono ?_
  rintro e W ⟨rfl, hb⟩
  rw [HN.out.1, HN.out.2]
  have HB := Lib.hid (HB0.out.trans (hb.mono (by simp)))
  clear hb
  go_wp2_with fail
  go_ret2
  exact ⟨rfl, HB.out⟩

set_option maxRecDepth 100000 in
set_option maxHeartbeats 1600000 in
theorem put_ok {B p q : Nat} {st : List Slt} {m : Nat} {r : Nat → Bool} (i g : Nat) (xs : ByteArray) (x : Int) (w : World) (h : Tb TBL SLOT w B p q st m r) (hT : Tab w)
    (hi : nxt r 0 st.length = i) (hlt : i < st.length) (hg : (st.getD i (0, false, undef)).1 = g) (hg2 : g < 65535) (hm : m ≤ 100000) :
    Calls Tryd.prog 41 #[.pointer (some ⟨p, 0, none⟩), .agg #[.string xs, .int .i64 x]] w fun e w' => e = .returned (.tuple #[.int .i64 (((g : Int) + 1) * 65536 + i), .int .i64 0]) ∧
      Tb TBL SLOT w' B p q (st.set i (g + 1, true, .agg #[.string xs, .int .i64 x])) (m + 1) (filled r i (i + 1) false) ∧ Fr p q w w' := by
  have hb0 := below_box0 w (.cells #[.string xs, .int .i64 x] 75)
  have h0 := h.below hb0
  have hT0 : Tab (w.alloc (.cells #[.string xs, .int .i64 x] 75)) := hT.below hb0
  have hN := next_tb h
  rw [hi, if_pos hlt, if_pos hlt] at hN
  obtain ⟨ra, rcap, c2, hsl⟩ := h0.c2
  have c1 := h0.c1
  have n2 := h.n2
  have hne := h.ne
  have hpq : p < w.heap.size ∧ q < w.heap.size := ⟨World.block_lt_of_cell? _ _ h.c1, blk_lt h.slots⟩
  have hBw : B ≤ w.heap.size := by have := h.hp; omega
  have HB0 := Lib.hid hb0
  have HM := Lib.hid (made_ok _ h0)
  have HX := Lib.hid (bNext_ok st.length 0 true ra ((st.length + 63) / 64) rcap _ _ hT0 hsl (pack_lt _ _) (by omega))
  have HN := Lib.hid hN
  have H := Lib.hid h0
  have HG := Lib.hid hg
  have i0 : (0 : Int) ≤ (i : Int) := by omega
  have i1 : (i : Int) < (st.length : Int) := by omega
  clear hN h hsl hg hi h0 hb0 hT hT0
  go_enter Tryd.func41, Tryd.ntmps41
  go_wp2_with fail
  refine HM.out.mono ?_
  rintro e w1 ⟨rfl, rfl⟩
  go_wp2_with fail
  refine HX.out.mono ?_
  rintro e W ⟨rfl, hb⟩
  rw [HN.out.1, HN.out.2]
  have hW := H.out.below hb
  have k0 : W.cell? ⟨w.heap.size, 0, none⟩ = some (.string xs) := (hb.cell (p := ⟨w.heap.size, 0, none⟩) (by simp)).trans (by simp [go_sem])
  have k1 : W.cell? ⟨w.heap.size, 1, none⟩ = some (.int .i64 x) := (hb.cell (p := ⟨w.heap.size, 1, none⟩) (by simp)).trans (by simp [go_sem])
  have m1 : w.heap.size ≠ p := by omega
  have m2 : w.heap.size ≠ q := by omega
  have m3 : q ≠ w.heap.size := by omega
  have d0 := hW.c0
  have d3 := hW.c3
  have s0 := hW.s0 hlt
  have s1 := hW.s1 hlt
  have s2 := hW.s2 hlt
  have s3 := hW.s3 hlt
  have f1 := hW.fp
  have f2 := hW.fq
  rw [HG.out] at s0
  have hS := hW.stored u_slot u_tbl hlt (g + 1, true, .agg #[.string xs, .int .i64 x]) (m + 1)
  dsimp only [a0, a1] at hS
  rw [show ((g + 1 : Nat) : Int) = (g : Int) + 1 by omega, show ((m + 1 : Nat) : Int) = (m : Int) + 1 by omega] at hS
  have HS := Lib.hid hS
  have HW := Lib.hid hW
  have HB := Lib.hid hb
  have HWs : Hid (B ≤ W.heap.size) := Lib.hid (by have h1 := hb.size; simp at h1; omega)
  clear hS hW hb c1 c2
  go_wp2_with fail
  go_region
  go_wp2_with fail
  have HD := Lib.hid (HS.out.below (below_draw _ 1))
  refine (note_ok i _ HD.out (by have h2 := HWs.out; simp [World.drewN]; omega) (by simpa using hlt)).mono ?_
  rintro e w2 ⟨rfl, ht2, hf2⟩
  have e2 : ((st.set i (g + 1, true, .agg #[.string xs, .int .i64 x])).getD i (0, false, undef)) = (g + 1, true, .agg #[.string xs, .int .i64 x]) := by simp [hlt]
  rw [e2, ← rdy_t] at ht2
  have HT2 := Lib.hid ht2
  have HF2 := Lib.hid hf2
  clear ht2 hf2
  go_wp2_with fail
  refine (handle_ok i (g + 1) _ HT2.out (by simpa using hlt) (by rw [e2]) (by omega)).mono ?_
  rintro e w3 ⟨rfl, rfl⟩
  go_wp2
  go_ret2
  refine ⟨rfl, HT2.out, Fr.trans ?_ HF2.out⟩
  have hf : Fr p q w W := Fr.of_below (HB0.out.trans (HB.out.mono (by simp)))
  have hg := (((((hf.trans (Fr.setQ _ (i * 4) (.int .i64 ((g : Int) + 1)))).trans (Fr.setQ _ (i * 4 + 1) (.bool true))).trans (Fr.setQ _ (i * 4 + 2) (.string xs))).trans (Fr.setQ _ (i * 4 + 3) (.int .i64 x))).trans (Fr.setP _ 3 (.int .i64 ((m : Int) + 1)))).trans (Fr.of_below (below_draw _ 1))
  exact hg
end Go.Proofs.YtpaecmpiokkdnaaDoor.Thing

namespace Go.Proofs.YtpaecmpiokkdnaaDoor.Thing
open Go.RowKit Go.Sort Go.Joins
attribute [local go_sem] cell_grow frozen_grow size_grow

set_option maxRecDepth 100000 in
set_option maxHeartbeats 3200000 in
theorem find_ok {B p q : Nat} {st : List Slt} {m : Nat} {r : Nat → Bool} (h : Int) (w : World) (H : Tb 124 129 w B p q st m r) :
    Calls Tryd.prog 65 #[.pointer (some ⟨p, 0, none⟩), .int .i64 h] w fun e w' => e = .returned (.tuple #[.pointer (findP q st h), .int .i64 (findE st h)]) ∧ w = w' := by
  have c0 := H.c0
  have n2 := H.n2
  have HM := Lib.hid (made_ok w H)
  have HX := Lib.hid (slot_ok h w)
  by_cases h1 : slotI h < 0
  · have R := Lib.hid (find_none (q := q) (st := st) (.inl h1))
    have d1 : decide (slotI h < 0) = true := by simpa using h1
    clear H h1
    go_enter Tryd.func65, Tryd.ntmps65
    go_wp2_with fail
    refine HM.out.mono ?_
    rintro e w1 ⟨rfl, rfl⟩
    go_wp2_with fail
    refine HX.out.mono ?_
    rintro e w1 ⟨rfl, rfl⟩
    go_wp2
    go_ret2
    exact ⟨ret_ptr R.out, rfl⟩
  obtain ⟨i, hi⟩ := Int.eq_ofNat_of_zero_le (by omega : 0 ≤ slotI h)
  have d1 : decide ((i : Int) < 0) = false := by simp
  by_cases h2 : st.length ≤ i
  · have R := Lib.hid (find_none (q := q) (st := st) (h := h) (.inr (.inl (by omega))))
    have d2 : decide ((st.length : Int) ≤ (i : Int)) = true := by simpa using h2
    have d2' : decide (st.length ≤ i) = true := by simpa using h2
    rw [hi] at HX
    clear H h1 h2 hi
    go_enter Tryd.func65, Tryd.ntmps65
    go_wp2_with fail
    refine HM.out.mono ?_
    rintro e w1 ⟨rfl, rfl⟩
    go_wp2_with fail
    refine HX.out.mono ?_
    rintro e w1 ⟨rfl, rfl⟩
    go_wp2
    go_ret2
    exact ⟨ret_ptr R.out, rfl⟩
  have hlt : i < st.length := by omega
  have d2 : decide ((st.length : Int) ≤ (i : Int)) = false := by simp; omega
  have d2' : decide (st.length ≤ i) = false := by simp; omega
  have s0 := H.s0 hlt
  have s1 := H.s1 hlt
  obtain ⟨⟨g, al, v⟩, hS⟩ : ∃ S, S = st.getD i (0, false, undef) := ⟨_, rfl⟩
  rw [← hS] at s0 s1
  dsimp only at s0 s1
  have i0 : (0 : Int) ≤ (i : Int) := by omega
  have i1 : (i : Int) < (st.length : Int) := by omega
  by_cases h3 : (g : Int) < numI h
  · have R := Lib.hid (find_far (q := q) hi hlt (by rw [← hS]; exact h3))
    have d3 : decide ((g : Int) < numI h) = true := by simpa using h3
    rw [hi] at HX
    clear H h1 h2 h3 hi hS
    go_enter Tryd.func65, Tryd.ntmps65
    go_wp2_with fail
    refine HM.out.mono ?_
    rintro e w1 ⟨rfl, rfl⟩
    go_wp2_with fail
    refine HX.out.mono ?_
    rintro e w1 ⟨rfl, rfl⟩
    go_wp2
    go_ret2
    exact ⟨ret_ptr R.out, rfl⟩
  have d3 : decide ((g : Int) < numI h) = false := by simpa using h3
  by_cases h4 : numI h < (g : Int)
  · have R := Lib.hid (find_old (q := q) hi hlt (by rw [← hS]; exact h3) (.inl (by rw [← hS]; exact h4)))
    have d4 : decide (numI h < (g : Int)) = true := by simpa using h4
    rw [hi] at HX
    clear H h1 h2 h3 h4 hi hS
    go_enter Tryd.func65, Tryd.ntmps65
    go_wp2_with fail
    refine HM.out.mono ?_
    rintro e w1 ⟨rfl, rfl⟩
    go_wp2_with fail
    refine HX.out.mono ?_
    rintro e w1 ⟨rfl, rfl⟩
    go_wp2
    go_ret2
    exact ⟨ret_ptr R.out, rfl⟩
  have d4 : decide (numI h < (g : Int)) = false := by simpa using h4
  cases al
  · have R := Lib.hid (find_old (q := q) hi hlt (by rw [← hS]; exact h3) (.inr (by rw [← hS])))
    rw [hi] at HX
    clear H h1 h2 h3 h4 hi hS
    go_enter Tryd.func65, Tryd.ntmps65
    go_wp2_with fail
    refine HM.out.mono ?_
    rintro e w1 ⟨rfl, rfl⟩
    go_wp2_with fail
    refine HX.out.mono ?_
    rintro e w1 ⟨rfl, rfl⟩
    go_wp2
    go_ret2
    exact ⟨ret_ptr R.out, rfl⟩
  · have R := Lib.hid (find_yes (q := q) hi hlt (by rw [← hS]; exact h3) (by rw [← hS]; exact h4) (by rw [← hS]))
    rw [hi] at HX
    clear H h1 h2 h3 h4 hi hS
    go_enter Tryd.func65, Tryd.ntmps65
    go_wp2_with fail
    refine HM.out.mono ?_
    rintro e w1 ⟨rfl, rfl⟩
    go_wp2_with fail
    refine HX.out.mono ?_
    rintro e w1 ⟨rfl, rfl⟩
    go_wp2
    go_ret2
    exact ⟨ret_ptr R.out, rfl⟩
end Go.Proofs.YtpaecmpiokkdnaaDoor.Thing
