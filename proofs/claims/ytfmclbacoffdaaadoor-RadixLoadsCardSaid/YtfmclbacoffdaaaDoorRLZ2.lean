/- The radix map: Check of the reference. | The frame of a statement of this seat: the table of math/bits as the row lists it. | An argument of type RmDesc, as a row hands it. | The argument of type RmState, as a row hands it. | The radix map: RadixLoads returns true. | RadixLoads returns true for every input, on every schedule; its arguments read afterwards as they read before. No condition beyond the row's own. -/
import Derived.Test.YtfmclbacoffdaaaDoorRLZ1
import Derived.Test.YtfmclbacoffdaaaDoorCards
import Derived.Test.YtfmclbacoffdaaaDoorTie
import Derived.Test.YtfmclbacoffdaaaDoorRZ2
import Derived.ProofKit
import Derived.OpenShut
import Derived.Deep.DeepHandedRow
import Derived.Lib.LaidTab
import Derived.Lib.SmallJoins
import Derived.Deep.Fields
import Derived.Test.YtfmclbacoffdaaaDoorRSZ1
import Derived.Deep.Slices
import Derived.Test.YtfmclbacoffdaaaDoorRSZ4
import Derived.Test.YtfmclbacoffdaaaDoorRSZ5
import Derived.Test.YtfmclbacoffdaaaDoorRZ10
import Derived.Deep.RegionHeld3
import Derived.Deep.RegionWith
namespace Go.Proofs.YtfmclbacoffdaaaDoor
open Go.RowKit Go.Sort Go.Joins
attribute [local go_sem] cell_grow frozen_grow size_grow Oper.semAt_some
section
variable {w : World} {a : Option Addr} {c : Nat} {S : List Rn}
set_option maxRecDepth 100000 in
set_option maxHeartbeats 3200000 in
theorem rcheck_ok (m : Int) (hS : StR w a S) (hl : S.length ≤ 10000) (hk : ∀ j, (S.getD j rn0).ks.length ≤ 1000) (hu : ∀ j, (S.getD j rn0).ws.length ≤ 1000) (hw : ∀ i j, (S.getD i rn0).ws.getD j 0 < 18446744073709551616) :
    Calls Tryd.prog 29 #[.agg #[.int .i64 m, .slice a S.length c]] w fun e w' => e = .returned (.tuple #[.int .i64 (rckV m S), .int .i64 (rckE m S)]) ∧ Below w.heap.size w w' := by
  obtain ⟨hB, hX⟩ := ndBox w #[.int .i64 m, .slice a S.length c] 45
  have HBT := Lib.hid (btw_ok m 1 145)
  by_cases hm : m < 1 ∨ 145 < m
  · have e1 : rckE m S = 7 ∧ rckV m S = 0 := ⟨if_pos hm, if_pos hm⟩
    rw [e1.1, e1.2]
    have d1 : (decide (1 ≤ m) && decide (m ≤ 145)) = false := by
      rcases hm with h | h
      · rw [decide_eq_false (by omega)]; rfl
      · rw [decide_eq_false (show ¬ m ≤ 145 by omega), Bool.and_false]
    rw [d1] at HBT
    have HB := Lib.hid hB
    clear hm e1 d1 hX hB hS hk hu hw
    go_enter Tryd.func29, Tryd.ntmps29
    go_wp2_with fail
    refine (HBT.out _).mono ?_
    rintro e w1 ⟨rfl, rfl⟩
    go_wp2
    go_ret2
    exact ⟨rfl, HB.out⟩
  have d1 : (decide (1 ≤ m) && decide (m ≤ 145)) = true := by rw [decide_eq_true (show 1 ≤ m by omega), decide_eq_true (show m ≤ 145 by omega)]; rfl
  rw [d1] at HBT
  by_cases hm3 : (S.length : Int) = m
  case neg =>
    have e1 : rckE m S = 6 ∧ rckV m S = 0 := by
      unfold rckE rckV
      rw [if_neg hm, if_neg hm, if_pos hm3, if_pos hm3]; exact ⟨rfl, rfl⟩
    rw [e1.1, e1.2]
    have d2 : ((S.length : Int) != m) = true := by simpa using hm3
    have HB := Lib.hid hB
    clear hm e1 d1 hX hB hS hk hu hw hm3
    go_enter Tryd.func29, Tryd.ntmps29
    go_wp2_with fail
    refine (HBT.out _).mono ?_
    rintro e w1 ⟨rfl, rfl⟩
    go_wp2
    go_ret2
    exact ⟨rfl, HB.out⟩
  case pos =>
  subst hm3
  have hq : rckE (S.length : Int) S = (if nxt (rwr S) 0 S.length < S.length then 6 else 0) ∧ rckV (S.length : Int) S = (if nxt (rwr S) 0 S.length < S.length then (nxt (rwr S) 0 S.length : Int) else 0) := by
    have h3 : ¬ ((S.length : Int) ≠ (S.length : Int)) := fun h => h rfl
    unfold rckE rckV
    rw [if_neg hm, if_neg hm, if_neg h3, if_neg h3]; exact ⟨rfl, rfl⟩
  have Q1 := Lib.hid hq.1
  have Q2 := Lib.hid hq.2
  obtain ⟨E, hE⟩ : ∃ E, rckE (S.length : Int) S = E := ⟨_, rfl⟩
  obtain ⟨V, hV⟩ : ∃ V, rckV (S.length : Int) S = V := ⟨_, rfl⟩
  rw [hE] at Q1 ⊢
  rw [hV] at Q2 ⊢
  have HRW := Lib.hid (fun W (hb : Below w.heap.size w W) j hj => rwrong_ok (c := c) (S.length : Int) (hS.below hb) hl hk hu hw (i := j) hj)
  have HRI : Hid (∀ j, (∀ k, k < j → rwr S k = false) → j ≤ S.length → (j < S.length → rwr S j = true) → nxt (rwr S) 0 S.length = j) := Lib.hid (fun j h1 h2 h3 => nxt_eq (Nat.zero_le _) (Nat.zero_le _) h2 (fun k _ hk => h1 k hk) h3)
  obtain ⟨N, hN⟩ : ∃ N, S.length = N := ⟨_, rfl⟩
  rw [hN] at Q1 Q2 HRW HRI HBT hB hX hl ⊢
  have HB := Lib.hid hB
  have HX := Lib.hid hX
  have d2 : ((N : Int) != (N : Int)) = false := by simp
  clear hm d1 hX hB hS hk hu hw hq hE hV hN
  go_enter Tryd.func29, Tryd.ntmps29
  go_wp2_with fail
  generalize World.alloc _ _ = W0 at HB HX ⊢
  refine (HBT.out _).mono ?_
  rintro e w1 ⟨rfl, rfl⟩
  have p0 : W0.cell? ⟨w.heap.size, 0, none⟩ = some (.int .i64 N) := by rw [cell_of_block HX.out]; rfl
  have p1 : W0.cell? ⟨w.heap.size, 1, none⟩ = some (.slice a N c) := by rw [cell_of_block HX.out]; rfl
  go_wp2
  clear d2
  go_loopw [4] (fun v wr => ∃ j : Nat, j ≤ N ∧ v = .int .i64 j ∧ Hid (∀ k, k < j → rwr S k = false) ∧ Hid (Below W0.heap.size W0 wr)) (fun v _ => N - (intOf v).toNat)
  case atStart => exact ⟨0, Nat.zero_le _, rfl, Lib.hid (fun k hk => absurd hk (Nat.not_lt_zero _)), Lib.hid (Below.refl _ _)⟩
  case round =>
    obtain ⟨j, hj, rfl, HA, BR⟩ := hrel
    have p0 := cell_later BR.out p0
    have p1 := cell_later BR.out p1
    have BW := Lib.hid (below_tr HB.out BR.out)
    by_cases hlt : j < N
    · have j1 : (j : Int) < (N : Int) := by omega
      have hwj : IntKind.i64.wrap ((j : Int) + 1) = (j : Int) + 1 := IntWalk.i64_in _ (by omega)
      have HWT := Lib.hid (HRW.out _ BW.out j hlt)
      obtain ⟨r, hr⟩ : ∃ r, rwr S j = r := ⟨_, rfl⟩
      rw [hr] at HWT
      have HR := Lib.hid hr
      clear hr
      go_wp2_with fail
      refine HWT.out.mono ?_
      rintro e w5 ⟨rfl, b5⟩
      have B5 := Lib.hid (below_tr BR.out b5)
      have BW5 := Lib.hid (below_tr BW.out b5)
      clear b5
      cases r
      · go_wp2
        go_roundw
        case rel => exact ⟨j + 1, by omega, by go_num, Lib.hid (fun k hk => by
          by_cases e : k = j
          · rw [e]; exact HR.out
          · exact HA.out k (by omega)), B5⟩
        case measure => simp [intOf]; omega
      · have hck := HRI.out j HA.out (by omega) (fun _ => HR.out)
        have hE : E = 6 := by rw [Q1.out, hck, if_pos hlt]
        have hV : V = (j : Int) := by rw [Q2.out, hck, if_pos hlt]
        subst hE
        subst hV
        clear Q1 Q2 hck
        go_wp2
        go_ret2
        exact ⟨rfl, BW5.out⟩
    · obtain rfl : j = N := by omega
      have i1 : ¬ ((j : Int) < (j : Int)) := by omega
      have hck := HRI.out j HA.out (by omega) (fun h => by omega)
      have hE : E = 0 := by rw [Q1.out, hck, if_neg (Nat.lt_irrefl _)]
      have hV : V = 0 := by rw [Q2.out, hck, if_neg (Nat.lt_irrefl _)]
      subst hE
      subst hV
      clear Q1 Q2 hck
      go_wp2
      go_ret2
      exact ⟨rfl, BW.out⟩
end
end Go.Proofs.YtfmclbacoffdaaaDoor

namespace Go.Proofs.YtfmclbacoffdaaaDoor
open Go.ChangeShapes Go.WideShapes Go.ChangeAt Go.RowKit

theorem own : ownKnob Tryd.prog.godebug = none := by kernel_rfl
theorem gTab : Tryd.prog.globalNamed "math/bits.deBruijn64tab" = some 0 := by kernel_rfl
theorem gTabType : (Tryd.prog.globals[0]?).map (·.type) = some 129 := by kernel_rfl
theorem cellsTab : Tryd.prog.cellsOf 129 = 64 := by kernel_rfl
theorem cellsU8 : Tryd.prog.cellsOf 5 = 1 := by kernel_rfl

theorem tab_of {W : World} (h : laidMetH Tryd.prog [("math/bits.deBruijn64tab", Rows.laid_math_bits_deBruijn64tab)] W) : Tab W := by
  have ht : Lib.TabIs Tryd.prog W "math/bits.deBruijn64tab" .u8 (Lib.deBruijn64tab.map fun (x : Nat) => (x : Int)) :=
    Lib.tabIs_of_head (rest := []) gTab gTabType Tryd.underlying129 Tryd.underlying5 cellsU8 cellsTab h
  intro i hi
  have := ht.cell gTab i (by rw [List.length_map]; exact hi)
  rw [this]
  have e : (Lib.deBruijn64tab.map fun (x : Nat) => (x : Int)).getD i 0 = ((Lib.deBruijn64tab.getD i 0 : Nat) : Int) := by
    have h64 : Lib.deBruijn64tab.length = 64 := rfl
    simp [List.getD_eq_getElem?_getD, h64, hi]
  rw [e]

/-- A world for the witness: the settled one, the table holding what its initialiser lays. -/
noncomputable def laidWorld (os : Os) : World :=
  { World.holding Tryd.prog os ⟨#[], #[], []⟩ with heap := (World.holding Tryd.prog os ⟨#[], #[], []⟩).heap.modify 0 fun
      | .cells _ t frozen => .cells (Lib.deBruijn64tab.map fun (x : Nat) => Value.int .u8 (x : Int)).toArray t frozen
      | o => o }
theorem laidOut : laidOutB Tryd.prog = true := by kernel_rfl

theorem trodAll_below {H : Type} {enc : TypeId × Value → H} {W W' : World} (hb : Below W.heap.size W W') (ts : List TypeId) : ∀ (vs : List Value) (ds : List (DataW H)) (ps : List MemPlace),
    (ts.all fun t => Tryd.prog.readableRec t && decide (t < Tryd.prog.types.size)) = true → (∀ x ∈ ps, x.block < W.heap.size) → DataW.TrodAll enc Tryd.prog W 0 (fun _ => true) true ts vs ds ps →
    DataW.TrodAll enc Tryd.prog W' 0 (fun b => decide (b < W.heap.size)) true ts vs ds ps := by
  induction ts with
  | nil =>
    intro vs ds ps _ _ h
    obtain ⟨rfl, rfl, rfl⟩ := trodAll_nil h
    exact trodAll_mk0
  | cons t ts ih =>
    intro vs ds ps hr hlt h
    obtain ⟨v, vs', d, ds', p, q, rfl, rfl, rfl, h1, h2⟩ := trodAll_cons h
    rw [List.all_cons, Bool.and_eq_true, Bool.and_eq_true] at hr
    exact trodAll_cons_mk (Below.trod laidOut hr.1.1 (of_decide_eq_true hr.1.2) h1 hb (fun x hx => hlt x (List.mem_append_left _ hx))) (ih vs' ds' q hr.2 (fun x hx => hlt x (List.mem_append_right _ hx)) h2)

/-- WHAT A LAW's WALK GIVES THE ROW: true, the arguments read as they did. -/
theorem law_post {H : Type} {enc : TypeId × Value → H} {fn : Func} {s : ChangeSpec} {W W' : World} {args : Array Value} {ds gs : List (DataW H)} {before : List MemPlace}
    (hW : DataW.Whole enc Tryd.prog fn.params.toList s.vars false W args.toList ds gs before) (hv : s.vars = []) (hr : (fn.params.toList.all fun t => Tryd.prog.readableRec t && decide (t < Tryd.prog.types.size)) = true) (hrt : fn.resultTypes = #[4])
    (h1 : (s.fn H (ds ++ gs)).results = [.lit (.bool true)]) (h2 : (s.fn H (ds ++ gs)).args = ds) (h3 : (s.fn H (ds ++ gs)).vars = []) (hb : Below W.heap.size W W') :
    s.post enc Tryd.prog fn false true false false W args (.bool true) W' := by
  have hW' := hW
  have hlt := hW.lt
  obtain ⟨p, q, hA, hV, rfl, hfz, hnd⟩ := hW
  refine ⟨ds, gs, p ++ q, [], p, [], hW', ?_, ?_, ?_, hb.frame _, fun h => by cases h⟩
  · rw [h1, hrt]
    exact trodAll_cons_mk (shut_bool Tryd.underlying4 _) trodAll_mk0
  · rw [h2]
    exact trodAll_below hb _ _ _ _ hr (fun x hx => hlt x (List.mem_append_left _ hx)) hA
  · rw [h3, hv]; rfl
end Go.Proofs.YtfmclbacoffdaaaDoor

namespace Go.Proofs.YtfmclbacoffdaaaDoor
open Go.ChangeShapes Go.WideShapes Go.ChangeAt Go.RowKit Go.Joins
set_option maxRecDepth 100000 in
theorem open_desc {H : Type} {enc : TypeId × Value → H} {W : World} {base : Nat} {v : Value} {d : DataW H} {p : List MemPlace} (hv : Value.okWide Tryd.prog W .any base 23 v) (h : DataW.Trod enc Tryd.prog W 0 (fun _ => true) true 23 v d p) :
    ∃ (o s t : Int) (g : Bool), v = .agg #[.int .i64 o, .int .i64 s, .int .i64 t, .bool g] ∧ (-9223372036854775808 ≤ o ∧ o ≤ 9223372036854775807) ∧ (-9223372036854775808 ≤ s ∧ s ≤ 9223372036854775807) ∧ (-9223372036854775808 ≤ t ∧ t ≤ 9223372036854775807) := by
  obtain ⟨cs, rfl, hsz⟩ := okWide_struct Tryd.underlying23 hv
  have hC : Tryd.prog.cellsOf 23 = 4 := by kernel_rfl
  have hk : Tryd.prog.cellsOf 3 = 1 := by kernel_rfl
  have hk6 : Tryd.prog.cellsOf 2 = 1 := by kernel_rfl
  have hkb : Tryd.prog.cellsOf 4 = 1 := by kernel_rfl
  obtain ⟨fuel, hf⟩ := h
  have hl : cs.toList.length = 4 := by simpa using hsz.trans hC
  obtain ⟨ys, n', _, _, _, hyl, hg⟩ := DataW.trod_struct Tryd.underlying23 hf
  have h0 : DataW.trod enc Tryd.prog W 0 (fun _ => true) true n' 3 ((cs.toList.drop 0).take (Tryd.prog.cellsOf 3)) = ys[0]? := hg 0 _ rfl
  have h1 : DataW.trod enc Tryd.prog W 0 (fun _ => true) true n' 3 ((cs.toList.drop 1).take (Tryd.prog.cellsOf 3)) = ys[1]? := hg 1 _ rfl
  have h2 : DataW.trod enc Tryd.prog W 0 (fun _ => true) true n' 2 ((cs.toList.drop 2).take (Tryd.prog.cellsOf 2)) = ys[2]? := hg 2 _ rfl
  have h3 : DataW.trod enc Tryd.prog W 0 (fun _ => true) true n' 4 ((cs.toList.drop 3).take (Tryd.prog.cellsOf 4)) = ys[3]? := hg 3 _ rfl
  rw [hk] at h0 h1
  rw [hk6] at h2
  rw [hkb] at h3
  have e0 : ys[0]? = some (ys[0]'(by rw [hyl]; decide)) := List.getElem?_eq_getElem _
  have e1 : ys[1]? = some (ys[1]'(by rw [hyl]; decide)) := List.getElem?_eq_getElem _
  have e2 : ys[2]? = some (ys[2]'(by rw [hyl]; decide)) := List.getElem?_eq_getElem _
  have e3 : ys[3]? = some (ys[3]'(by rw [hyl]; decide)) := List.getElem?_eq_getElem _
  match hcs : cs.toList, hl with
  | [v0, v1, v2, v3], _ =>
    rw [hcs] at h0 h1 h2 h3
    obtain ⟨x0, f0, _, w0⟩ := DataW.trod_int Tryd.underlying3 (show DataW.trod enc Tryd.prog W 0 (fun _ => true) true n' 3 [v0] = some _ from h0.trans e0)
    obtain ⟨x1, f1, _, w1⟩ := DataW.trod_int Tryd.underlying3 (show DataW.trod enc Tryd.prog W 0 (fun _ => true) true n' 3 [v1] = some _ from h1.trans e1)
    obtain ⟨x2, f2, _, w2⟩ := DataW.trod_int Tryd.underlying2 (show DataW.trod enc Tryd.prog W 0 (fun _ => true) true n' 2 [v2] = some _ from h2.trans e2)
    obtain ⟨x3, f3, _⟩ := DataW.trod_bool Tryd.underlying4 (show DataW.trod enc Tryd.prog W 0 (fun _ => true) true n' 4 [v3] = some _ from h3.trans e3)
    cases f0; cases f1; cases f2; cases f3
    exact ⟨x0, x1, x2, x3, by cases cs; simp_all, bounds_i64 w0, bounds_i64 w1, bounds_i64 w2⟩
end Go.Proofs.YtfmclbacoffdaaaDoor

namespace Go.Proofs.YtfmclbacoffdaaaDoor
open Go.ChangeShapes Go.WideShapes Go.ChangeAt Go.RowKit Go.Joins Go.Deep
section
variable {H : Type} {enc : TypeId × Value → H} {W : World} {base : Nat}
theorem open_sln {t e : TypeId} {k : IntKind} {fuel : Nat} {cs : List Value} {x : DataW H × List MemPlace} (ht : Tryd.prog.underlying t = some (.slice e)) (he : Tryd.prog.underlying e = some (.int k)) (hc : Tryd.prog.cellsOf e = 1)
    (h : DataW.trod enc Tryd.prog W base (fun _ => true) true fuel t cs = some x) :
    ∃ (a : Option Addr) (c : Nat) (zs : List Int), cs = [.slice a zs.length c] ∧ SlN W a zs.length (fun j => .int k (zs.getD j 0)) ∧ zs.length ≤ 9223372036854775807 ∧ (∀ n ∈ zs, (Lit.int k n).wf = true) := by
  rcases open_ints ht he hc h with ⟨h, _⟩ | ⟨A, len, cap, zs, h, _, hl, hm, hz, _, hcl, hwf⟩
  · exact ⟨none, 0, [], h, .inl rfl, by decide, fun n hn => absurd hn (List.not_mem_nil)⟩
  · have hz' : zs.length = cap := by simpa using hz
    have hml : maxLen ≤ 9223372036854775807 := by decide
    have hlen : (zs.take len).length = len := by rw [List.length_take]; omega
    refine ⟨some A, cap, zs.take len, by rw [hlen]; exact h, ?_, by rw [hlen]; omega, fun n hn => hwf n (List.mem_of_mem_take hn)⟩
    rw [hlen]
    by_cases h0 : len = 0
    · exact .inl h0
    · have hp := hcl 0 (by omega)
      obtain ⟨b, o, spot⟩ := A
      have hs : spot = none := World.cell?_spot hp
      subst hs
      refine .inr ⟨b, o, rfl, World.block_lt_of_cell? _ _ hp, fun j hj => ?_⟩
      have := hcl j (by omega)
      rw [Go.WideShapes.add_plain] at this
      rw [this]
      have e : (zs.take len).getD j 0 = zs.getD j 0 := by
        rw [List.getD_eq_getElem?_getD, List.getElem?_take_of_lt hj]; rfl
      show some (Value.int k (zs.getD j 0)) = some (Value.int k ((zs.take len).getD j 0))
      rw [e]
/-- the bounds of a node's numbers -/
structure RnB (x : Rn) : Prop where
  lv : -9223372036854775808 ≤ x.lv ∧ x.lv ≤ 9223372036854775807
  ks : x.ks.length ≤ 9223372036854775807
  ws : x.ws.length ≤ 9223372036854775807
  w : ∀ u ∈ x.ws, u < 18446744073709551616
set_option maxRecDepth 100000 in
theorem cells_node {fuel : Nat} {cs : List Value} {x : DataW H × List MemPlace} (hl : cs.length = 3) (hf : DataW.trod enc Tryd.prog W base (fun _ => true) true fuel 60 cs = some x) :
    ∃ (x : Rn) (ka : Option Addr) (kc : Nat) (ua : Option Addr) (uc : Nat), cs = [.int .i64 x.lv, .slice ka x.ks.length kc, .slice ua x.ws.length uc] ∧ SlN W ka x.ks.length (kdV x) ∧ SlN W ua x.ws.length (wdV x) ∧ RnB x := by
  have hk : Tryd.prog.cellsOf 3 = 1 := by kernel_rfl
  have hks : Tryd.prog.cellsOf 52 = 1 := by kernel_rfl
  have hus : Tryd.prog.cellsOf 58 = 1 := by kernel_rfl
  have hu : Tryd.prog.cellsOf 24 = 1 := by kernel_rfl
  obtain ⟨ys, n', _, _, _, hyl, hg⟩ := DataW.trod_struct Tryd.underlying60 hf
  have h0 : DataW.trod enc Tryd.prog W base (fun _ => true) true n' 3 ((cs.drop 0).take (Tryd.prog.cellsOf 3)) = ys[0]? := hg 0 _ rfl
  have h1 : DataW.trod enc Tryd.prog W base (fun _ => true) true n' 52 ((cs.drop 1).take (Tryd.prog.cellsOf 52)) = ys[1]? := hg 1 _ rfl
  have h2 : DataW.trod enc Tryd.prog W base (fun _ => true) true n' 58 ((cs.drop 2).take (Tryd.prog.cellsOf 58)) = ys[2]? := hg 2 _ rfl
  rw [hk] at h0
  rw [hks] at h1
  rw [hus] at h2
  have e0 : ys[0]? = some (ys[0]'(by rw [hyl]; decide)) := List.getElem?_eq_getElem _
  have e1 : ys[1]? = some (ys[1]'(by rw [hyl]; decide)) := List.getElem?_eq_getElem _
  have e2 : ys[2]? = some (ys[2]'(by rw [hyl]; decide)) := List.getElem?_eq_getElem _
  match cs, hl with
  | [v0, v1, v2], _ =>
    obtain ⟨l, f0, _, w0⟩ := DataW.trod_int Tryd.underlying3 (show DataW.trod enc Tryd.prog W base (fun _ => true) true n' 3 [v0] = some _ from h0.trans e0)
    obtain ⟨ka, kc, ks, f1, s1, l1, _⟩ := open_sln Tryd.underlying52 Tryd.underlying3 hk (show DataW.trod enc Tryd.prog W base (fun _ => true) true n' 52 [v1] = some _ from h1.trans e1)
    obtain ⟨ua, uc, us, f2, s2, l2, w2⟩ := open_sln Tryd.underlying58 Tryd.underlying24 hu (show DataW.trod enc Tryd.prog W base (fun _ => true) true n' 58 [v2] = some _ from h2.trans e2)
    cases f0; cases f1; cases f2
    refine ⟨⟨l, ks, us.map Int.toNat⟩, ka, kc, ua, uc, by simp, s1, ?_, ⟨bounds_i64 w0, l1, by simpa using l2, fun u hu => ?_⟩⟩
    · show SlN W ua (us.map Int.toNat).length _
      rw [List.length_map]
      rcases s2 with s2 | ⟨b, o, ha, hb, hc⟩
      · exact .inl s2
      · refine .inr ⟨b, o, ha, hb, fun j hj => ?_⟩
        rw [hc j hj]
        have hb := bounds_u64 (w2 us[j] (List.getElem_mem hj))
        have e3 : us.getD j 0 = us[j] := by rw [List.getD_eq_getElem?_getD, List.getElem?_eq_getElem hj]; rfl
        have e4 : (us.map Int.toNat).getD j 0 = us[j].toNat := by rw [List.getD_eq_getElem?_getD, List.getElem?_map, List.getElem?_eq_getElem hj]; rfl
        show some (Value.int .u64 (us.getD j 0)) = some (Value.int .u64 (((us.map Int.toNat).getD j 0 : Nat) : Int))
        rw [e3, e4, Int.toNat_of_nonneg hb.1]
    · obtain ⟨z, hz, rfl⟩ := List.mem_map.1 hu
      have := bounds_u64 (w2 z hz)
      omega
set_option maxRecDepth 100000 in
theorem open_nodes {fuel : Nat} {cs : List Value} {x : DataW H × List MemPlace} (hf : DataW.trod enc Tryd.prog W base (fun _ => true) true fuel 43 cs = some x) :
    ∃ (a : Option Addr) (c : Nat) (S : List Rn), cs = [.slice a S.length c] ∧ StR W a S ∧ S.length ≤ 9223372036854775807 ∧ ∀ j, RnB (S.getD j rn0) := by
  have hC : Tryd.prog.cellsOf 60 = 3 := by kernel_rfl
  have hB0 : RnB rn0 := ⟨by decide, by decide, by decide, fun u hu => absurd hu (List.not_mem_nil)⟩
  rcases open_slice Tryd.underlying43 hf with ⟨h, _⟩ | ⟨A, len, cap, mm, n, D, Pl, h, _, hl, hm, hmm, _, hi⟩
  · exact ⟨none, 0, [], h, .inl rfl, by decide, fun j => hB0⟩
  · have hml : maxLen ≤ 9223372036854775807 := by decide
    simp only [↓reduceIte] at hmm
    have key : ∀ i, i < cap → ∃ (x : Rn) (ka : Option Addr) (kc : Nat) (ua : Option Addr) (uc : Nat), (∀ k, k < 3 → W.cell? (A.add (i * 3 + k)) = [Value.int .i64 x.lv, .slice ka x.ks.length kc, .slice ua x.ws.length uc][k]?) ∧ SlN W ka x.ks.length (kdV x) ∧ SlN W ua x.ws.length (wdV x) ∧ RnB x := by
      intro i hic
      obtain ⟨cs', hc, ht'⟩ := hi i (by omega)
      rw [hC] at hc
      obtain ⟨_, hcl, hat⟩ := World.cells?_some hc
      obtain ⟨x, ka, kc, ua, uc, hx, q1, q2, q3⟩ := cells_node hcl ht'
      refine ⟨x, ka, kc, ua, uc, fun k hk => ?_, q1, q2, q3⟩
      have := hat k hk
      rw [Go.Deep.add_add] at this
      rw [this, hx]
    have key2 : ∃ C : Nat → Rn, ∀ i, i < cap → ∃ (ka : Option Addr) (kc : Nat) (ua : Option Addr) (uc : Nat), (∀ k, k < 3 → W.cell? (A.add (i * 3 + k)) = [Value.int .i64 (C i).lv, .slice ka (C i).ks.length kc, .slice ua (C i).ws.length uc][k]?) ∧ SlN W ka (C i).ks.length (kdV (C i)) ∧ SlN W ua (C i).ws.length (wdV (C i)) ∧ RnB (C i) := by
      classical
      refine ⟨fun i => if hi : i < cap then Classical.choose (key i hi) else rn0, fun i hi => ?_⟩
      dsimp only
      rw [dif_pos hi]
      exact Classical.choose_spec (key i hi)
    obtain ⟨C, hC'⟩ := key2
    have hlen : ((List.range len).map C).length = len := by simp
    have hget : ∀ j, j < len → ((List.range len).map C).getD j rn0 = C j := fun j hj => by
      rw [List.getD_eq_getElem?_getD, List.getElem?_map, List.getElem?_range hj]; rfl
    refine ⟨some A, cap, (List.range len).map C, by rw [hlen]; exact h, ?_, by rw [hlen]; omega, fun j => ?_⟩
    · by_cases h0 : len = 0
      · exact .inl (by rw [hlen]; exact h0)
      · obtain ⟨ka0, kc0, ua0, uc0, hp0, _⟩ := hC' 0 (by omega)
        have hp := hp0 0 (by decide)
        obtain ⟨b, o, spot⟩ := A
        have hs : spot = none := World.cell?_spot (hp.trans rfl)
        subst hs
        have hlt : b < W.heap.size := World.block_lt_of_cell? _ _ (hp.trans rfl)
        refine .inr ⟨b, o, rfl, hlt, fun j hj => ?_⟩
        rw [hlen] at hj
        rw [hget j hj]
        obtain ⟨ka, kc, ua, uc, hk, q1, q2, _⟩ := hC' j (by omega)
        simp only [Go.WideShapes.add_plain] at hk
        exact ⟨hk 0 (by decide), ⟨ka, kc, hk 1 (by decide), q1⟩, ⟨ua, uc, hk 2 (by decide), q2⟩⟩
    · by_cases hj : j < len
      · rw [hget j hj]
        obtain ⟨ka, kc, ua, uc, _, _, _, q⟩ := hC' j (by omega)
        exact q
      · rw [show ((List.range len).map C).getD j rn0 = rn0 by rw [List.getD_eq_getElem?_getD, List.getElem?_eq_none (by rw [hlen]; omega)]; rfl]
        exact hB0
set_option maxRecDepth 100000 in
theorem open_rmstate {v : Value} {d : DataW H} {p : List MemPlace} (hv : Value.okWide Tryd.prog W .any base 45 v) (h : DataW.Trod enc Tryd.prog W 0 (fun _ => true) true 45 v d p) :
    ∃ (m : Int) (a : Option Addr) (c : Nat) (S : List Rn), v = .agg #[.int .i64 m, .slice a S.length c] ∧ StR W a S ∧ S.length ≤ 9223372036854775807 ∧ (∀ j, RnB (S.getD j rn0)) ∧ -9223372036854775808 ≤ m ∧ m ≤ 9223372036854775807 := by
  obtain ⟨cs, rfl, hsz⟩ := okWide_struct Tryd.underlying45 hv
  have hC : Tryd.prog.cellsOf 45 = 2 := by kernel_rfl
  have hk : Tryd.prog.cellsOf 3 = 1 := by kernel_rfl
  have hks : Tryd.prog.cellsOf 43 = 1 := by kernel_rfl
  obtain ⟨fuel, hf⟩ := h
  obtain ⟨ys, n', _, _, _, hyl, hg⟩ := DataW.trod_struct Tryd.underlying45 hf
  have h0 : DataW.trod enc Tryd.prog W 0 (fun _ => true) true n' 3 ((cs.toList.drop 0).take (Tryd.prog.cellsOf 3)) = ys[0]? := hg 0 _ rfl
  have h1 : DataW.trod enc Tryd.prog W 0 (fun _ => true) true n' 43 ((cs.toList.drop 1).take (Tryd.prog.cellsOf 43)) = ys[1]? := hg 1 _ rfl
  rw [hk] at h0
  rw [hks] at h1
  have hl : cs.toList.length = 2 := by simpa using hsz.trans hC
  have e0 : ys[0]? = some (ys[0]'(by rw [hyl]; decide)) := List.getElem?_eq_getElem _
  have e1 : ys[1]? = some (ys[1]'(by rw [hyl]; decide)) := List.getElem?_eq_getElem _
  have hx : cs = cs.toList.toArray := by simp
  rw [hx]
  generalize cs.toList = cl at hl h0 h1 ⊢
  match cl, hl with
  | [v0, v1], _ =>
    obtain ⟨m, f0, _, w0⟩ := DataW.trod_int Tryd.underlying3 (show DataW.trod enc Tryd.prog W 0 (fun _ => true) true n' 3 [v0] = some _ from h0.trans e0)
    obtain ⟨a, c, S, f1, q1, q2, q3⟩ := open_nodes (show DataW.trod enc Tryd.prog W 0 (fun _ => true) true n' 43 [v1] = some _ from h1.trans e1)
    cases f0; cases f1
    have b := bounds_i64 w0
    exact ⟨m, a, c, S, rfl, q1, q2, q3, b.1, b.2⟩
end
end Go.Proofs.YtfmclbacoffdaaaDoor

namespace Go.Proofs.YtfmclbacoffdaaaDoor
open Go.RowKit Go.Sort Go.Joins
attribute [local go_sem] cell_grow frozen_grow size_grow Oper.semAt_some
/-- is some list of the first j nodes too long? -/
def lgN (x : Rn) : Bool := decide (20 < (x.ks.length : Int)) || decide (20 < (x.ws.length : Int))
section
variable {w : World} {a : Option Addr} {c : Nat} {S : List Rn}
set_option maxRecDepth 100000 in
set_option maxHeartbeats 6400000 in
theorem law_loads (m : Int) (hS : StR w a S) (hlen : S.length ≤ 9223372036854775807) (hb : ∀ j, RnB (S.getD j rn0)) (hT : Tab w) :
    Calls Tryd.prog 7 #[.agg #[.int .i64 m, .slice a S.length c]] w fun e w' => e = .returned (.bool true) ∧ Below w.heap.size w w' := by
  obtain ⟨hB, hX⟩ := ndBox w #[.int .i64 m, .slice a S.length c] 45
  have HT := Lib.hid hT
  by_cases hl : 200 < S.length
  · have d1 : (200 : Int) < (S.length : Int) := by omega
    have HB := Lib.hid hB
    clear hS hb hT hB hX hl
    go_enter Tryd.func7, Tryd.ntmps7
    go_wp2_with fail
    refine (awake_ok _ (HT.out.below HB.out)).mono ?_
    rintro e w1 ⟨rfl, b1⟩
    have B1 := Lib.hid (below_tr HB.out b1)
    clear b1
    go_wp2
    go_ret
    exact ⟨rfl, B1.out⟩
  have d1 : ¬ ((200 : Int) < (S.length : Int)) := by omega
  have HS := Lib.hid hS
  have HBD := Lib.hid hb
  have HLV : Hid (∀ j, -9223372036854775808 ≤ (S.getD j rn0).lv ∧ (S.getD j rn0).lv ≤ 9223372036854775807) := Lib.hid (fun j => (hb j).lv)
  have HWD : Hid (∀ i j, (S.getD i rn0).ws.getD j 0 < 18446744073709551616) := Lib.hid (fun i j => by
    have hx := (hb i).w
    generalize S.getD i rn0 = x at hx ⊢
    by_cases hj : j < x.ws.length
    · exact hx (x.ws.getD j 0) (by rw [List.getD_eq_getElem?_getD, List.getElem?_eq_getElem hj]; exact List.getElem_mem hj)
    · rw [List.getD_eq_getElem?_getD, List.getElem?_eq_none (by omega)]; decide)
  obtain ⟨N, hN⟩ : ∃ N, S.length = N := ⟨_, rfl⟩
  have HN := Lib.hid hN
  rw [hN] at hB hX hl d1 ⊢
  have HB := Lib.hid hB
  have HX := Lib.hid hX
  clear hS hb hT hB hX hN hlen
  go_enter Tryd.func7, Tryd.ntmps7
  go_upto_region 3 with fail
  generalize World.alloc _ _ = W0 at HB HX ⊢
  have p0 : W0.cell? ⟨w.heap.size, 0, none⟩ = some (.int .i64 m) := by rw [cell_of_block HX.out]; rfl
  have p1 : W0.cell? ⟨w.heap.size, 1, none⟩ = some (.slice a N c) := by rw [cell_of_block HX.out]; rfl
  clear d1
  go_wp2
  go_loopw [3] (fun v wr => ∃ j : Nat, j ≤ N ∧ v = .int .i64 j ∧ wr = W0 ∧ Hid (∀ q, q < j → lgN (S.getD q rn0) = false)) (fun v _ => N - (intOf v).toNat)
  case atStart => exact ⟨0, Nat.zero_le _, rfl, rfl, Lib.hid (fun q hq => absurd hq (Nat.not_lt_zero _))⟩
  case round =>
    obtain ⟨j, hj, rfl, rfl, HA⟩ := hrel
    by_cases hlt : j < N
    · obtain ⟨b, o, rfl, hb, hc⟩ : ∃ b o, a = some ⟨b, o, none⟩ ∧ b < w.heap.size ∧ ∀ j, j < S.length → NdR w b (o + j * 3) (S.getD j rn0) := HS.out.resolve_left (by rw [HN.out]; omega)
      have d := hc j (by rw [HN.out]; exact hlt)
      have HLG : Hid (lgN (S.getD j rn0) = (decide (20 < ((S.getD j rn0).ks.length : Int)) || decide (20 < ((S.getD j rn0).ws.length : Int)))) := Lib.hid rfl
      obtain ⟨x, hxx⟩ : ∃ x, S.getD j rn0 = x := ⟨_, rfl⟩
      rw [hxx] at d HLG
      have HXX := Lib.hid hxx
      obtain ⟨ka, kc, e1w, r1⟩ := d.ks
      obtain ⟨ua, uc, e2w, r2⟩ := d.ws
      have e1 := cell_later HB.out e1w
      have e2 := cell_later HB.out e2w
      obtain ⟨nk, hnk⟩ : ∃ n, x.ks.length = n := ⟨_, rfl⟩
      obtain ⟨nu, hnu⟩ : ∃ n, x.ws.length = n := ⟨_, rfl⟩
      rw [hnk] at e1 HLG
      rw [hnu] at e2 HLG
      have j0 : (0 : Int) ≤ (j : Int) := by omega
      have j1 : (j : Int) < (N : Int) := by omega
      have hwj : IntKind.i64.wrap ((j : Int) + 1) = (j : Int) + 1 := IntWalk.i64_in _ (by omega)
      clear hc d hxx e1w e2w r1 r2 hnk hnu
      have hways : (decide (20 < (nk : Int)) = true ∧ decide (20 < nk) = true) ∨ (decide (20 < (nk : Int)) = false ∧ decide (20 < nk) = false ∧ decide (20 < (nu : Int)) = true ∧ decide (20 < nu) = true) ∨ (decide (20 < (nk : Int)) = false ∧ decide (20 < nk) = false ∧ decide (20 < (nu : Int)) = false ∧ decide (20 < nu) = false) := by
        by_cases k1 : 20 < nk
        · exact .inl ⟨decide_eq_true (by omega), decide_eq_true k1⟩
        · by_cases k2 : 20 < nu
          · exact .inr (.inl ⟨decide_eq_false (by omega), decide_eq_false k1, decide_eq_true (by omega), decide_eq_true k2⟩)
          · exact .inr (.inr ⟨decide_eq_false (by omega), decide_eq_false k1, decide_eq_false (by omega), decide_eq_false k2⟩)
      rcases hways with ⟨d1, d1'⟩ | ⟨d1, d1', d2, d2'⟩ | ⟨d1, d1', d2, d2'⟩
      · go_wp2_with fail
        refine (awake_ok _ (HT.out.below HB.out)).mono ?_
        rintro e w1 ⟨rfl, b1⟩
        have B1 := Lib.hid (below_tr HB.out b1)
        clear b1
        go_wp2
        go_ret
        exact ⟨rfl, B1.out⟩
      · go_wp2_with fail
        refine (awake_ok _ (HT.out.below HB.out)).mono ?_
        rintro e w1 ⟨rfl, b1⟩
        have B1 := Lib.hid (below_tr HB.out b1)
        clear b1
        go_wp2
        go_ret
        exact ⟨rfl, B1.out⟩
      · have HNX : Hid (lgN x = false) := Lib.hid (by rw [HLG.out, d1, d2]; rfl)
        clear HLG
        go_wp2
        go_roundw
        case rel => exact ⟨j + 1, by omega, by go_num, by first | rfl | trivial, Lib.hid (fun q hq => by
          by_cases e : q = j
          · rw [e, HXX.out]; exact HNX.out
          · exact HA.out q (by omega))⟩
        case measure => simp [intOf]; omega
    · obtain rfl : j = N := by omega
      have i1 : ¬ ((j : Int) < (j : Int)) := by omega
      obtain ⟨W1, hW1⟩ : ∃ W, W = wr := ⟨_, rfl⟩
      subst hW1
      have hlk : ∀ q, (S.getD q rn0).ks.length ≤ 1000 ∧ (S.getD q rn0).ws.length ≤ 1000 := fun q => by
        by_cases hq : q < j
        · have h := HA.out q hq
          unfold lgN at h
          rw [Bool.or_eq_false_iff] at h
          have h1 := of_decide_eq_false h.1
          have h2 := of_decide_eq_false h.2
          omega
        · rw [show S.getD q rn0 = rn0 by rw [List.getD_eq_getElem?_getD, List.getElem?_eq_none (by rw [HN.out]; omega)]; rfl]
          decide
      have H1 := Lib.hid (check_ok (c := c) m (HS.out.below HB.out) (by rw [HN.out]; omega) (fun q => (hlk q).1) (fun q => (hlk q).2) HWD.out)
      have H2 := Lib.hid (fun W (hb : Below w.heap.size w W) => rcheck_ok (c := c) m (HS.out.below hb) (by rw [HN.out]; omega) (fun q => (hlk q).1) (fun q => (hlk q).2) HWD.out)
      obtain ⟨q1, q2⟩ := ck_same m HLV.out
      rw [q1, q2] at H2
      rw [HN.out] at H1 H2
      have d0 : ((ckV m S) != (ckV m S)) = false := by simp
      have d0' : ((ckE m S) != (ckE m S)) = false := by simp
      by_cases hE : ckE m S = 0
      · have hok := ckE_zero hE
        have HST := Lib.hid (stS_ld hok.2.2.2)
        have HML : Hid ((ldM S).st.length = j) := Lib.hid ((ldN_len S _).trans HN.out)
        have HMN : Hid ((j : Int) = m) := Lib.hid (by rw [← HN.out]; exact hok.1)
        have H3 := Lib.hid (fun W (hb : Below w.heap.size w W) => load_ok (c := c) m hE (HS.out.below hb) HWD.out)
        rw [HN.out] at H3
        rw [hE] at H1 H2 d0'
        obtain ⟨V, hV⟩ : ∃ V, ckV m S = V := ⟨_, rfl⟩
        rw [hV] at H1 H2 d0
        clear hok hE q1 q2 hV
        go_wp2_with fail
        refine H1.out.mono ?_
        rintro e w2 ⟨rfl, b2⟩
        have p0 := cell_later b2 p0
        have p1 := cell_later b2 p1
        have B2 := Lib.hid (below_tr HB.out b2)
        clear b2
        go_wp2_with fail
        refine (H2.out _ B2.out).mono ?_
        rintro e w3 ⟨rfl, b3⟩
        have p0 := cell_later b3 p0
        have p1 := cell_later b3 p1
        have B3 := Lib.hid (below_tr B2.out b3)
        clear b3
        go_wp2_with fail
        refine (H3.out _ B3.out).mono ?_
        rintro e w4 ⟨g, hg, rfl, n4, b4⟩
        have p0 := cell_later b4 p0
        have p1 := cell_later b4 p1
        have B4 := Lib.hid (below_tr B3.out b4)
        have N4 := Lib.hid n4
        clear b4 n4 H1 H2 H3
        have L1 : Hid (∀ w', Below w4.heap.size w4 w' → Calls Tryd.prog 24 #[.pointer (some ⟨g + 1, 0, none⟩)] w' fun e wn => ∃ a c, e = .returned (.agg #[.int .i64 j, .slice a j c]) ∧ StR wn a S ∧ Below w'.heap.size w' wn) := Lib.hid (fun w' hb => by
          have h := save_ok (N4.out.below hb)
          rw [HML.out] at h
          exact h.mono fun e wn ⟨a, c, he, ⟨K, L, ho⟩, hbn⟩ => ⟨a, c, he, by have := ho.str; rwa [HST.out] at this, hbn⟩)
        have L2 : Hid (∀ w' (a8 : Option Addr) (c8 : Nat), StR w' a8 S → Below w4.heap.size w4 w' → Calls Tryd.prog 23 #[.agg #[.int .i64 j, .slice a8 j c8], .agg #[.int .i64 m, .slice a j c]] w' fun e wn => e = .returned (.bool true) ∧ Below w'.heap.size w' wn) := Lib.hid (fun w' a8 c8 h8 hb => by
          have h := same_ok (c1 := c8) (c2 := c) (m1 := (j : Int)) (m2 := m) h8 (HS.out.below (below_tr B4.out hb)) (by rw [HN.out]; omega) (fun q => by have := (hlk q).1; omega) (fun q => by have := (hlk q).2; omega)
          rw [show smS (j : Int) m S S = true from decide_eq_true ⟨HMN.out, rfl⟩, HN.out] at h
          exact h)
        have L3 : Hid (∀ w', Below w4.heap.size w4 w' → Calls Tryd.prog 17 #[] w' fun e wn => e = .returned (.bool true) ∧ Below w'.heap.size w' wn) := Lib.hid (fun w' hb => awake_ok _ ((HT.out.below B4.out).below hb))
        have HC : Hid (∀ w', Below w4.heap.size w4 w' → w'.cell? ⟨w.heap.size, 0, none⟩ = some (.int .i64 m) ∧ w'.cell? ⟨w.heap.size, 1, none⟩ = some (.slice a j c)) := Lib.hid (fun w' hb => ⟨cell_later hb p0, cell_later hb p1⟩)
        go_upto_region 13 with fail
        go_region_held3 (fun w' => Below w4.heap.size w4 w' ∧ w'.cell? ⟨w.heap.size, 0, none⟩ = some (.int .i64 m) ∧ w'.cell? ⟨w.heap.size, 1, none⟩ = some (.slice a j c))
          ((refine keepN HC ?_; first | exact (Below.refl _ _).drew | exact And.left (by assumption) | exact bel_call (by assumption) (by assumption)))
          (first
            | (go_at_call 24; (with_reducible refine (L1.out _ (And.left (by assumption))).mono ?_); rintro e w8 ⟨a8, c8, rfl, h8, b8'⟩; have S8 := Lib.hid h8)
            | (go_at_call 23; (with_reducible refine (L2.out _ _ _ S8.out (And.left (by assumption))).mono ?_); rintro e w9 ⟨rfl, b9⟩)
            | (go_at_call 17; (with_reducible refine (L3.out _ (And.left (by assumption))).mono ?_); rintro e wa ⟨rfl, ba⟩))
        all_goals
          go_wp2
          go_ret
          exact ⟨rfl, below_tr B4.out (And.left (by assumption))⟩
      · have H3 := Lib.hid (fun W (hb : Below w.heap.size w W) => load_bad (c := c) m hE (HS.out.below hb) (by rw [HN.out]; omega) (fun q => (hlk q).1) (fun q => (hlk q).2) HWD.out)
        rw [HN.out] at H3
        have de : (ckE m S != 0) = true := by simpa using hE
        obtain ⟨V, hV⟩ : ∃ V, ckV m S = V := ⟨_, rfl⟩
        obtain ⟨E, hE'⟩ : ∃ V, ckE m S = V := ⟨_, rfl⟩
        rw [hV] at H1 H2 d0
        rw [hE'] at H1 H2 H3 d0' de
        clear hE q1 q2 hV hE'
        go_wp2_with fail
        refine H1.out.mono ?_
        rintro e w2 ⟨rfl, b2⟩
        have p0 := cell_later b2 p0
        have p1 := cell_later b2 p1
        have B2 := Lib.hid (below_tr HB.out b2)
        clear b2
        go_wp2_with fail
        refine (H2.out _ B2.out).mono ?_
        rintro e w3 ⟨rfl, b3⟩
        have p0 := cell_later b3 p0
        have p1 := cell_later b3 p1
        have B3 := Lib.hid (below_tr B2.out b3)
        clear b3
        go_wp2_with fail
        refine (H3.out _ B3.out).mono ?_
        rintro e w4 ⟨rfl, b4⟩
        have B4 := Lib.hid (below_tr B3.out b4)
        clear b4 H1 H2 H3
        have B4D := Lib.hid (below_tr B4.out (Below.refl _ w4).drew)
        have L3 := Lib.hid (awake_ok _ (HT.out.below B4D.out))
        go_upto_region 13 with fail
        first
          | go_region_with (go_at_call 17; refine L3.out.mono ?_; rintro e wa ⟨rfl, ba⟩)
          | fail
        all_goals
          have BA := Lib.hid (below_tr B4D.out ba)
          go_wp2
          go_ret
          exact ⟨rfl, BA.out⟩
end
end Go.Proofs.YtfmclbacoffdaaaDoor

namespace Go.Proofs.YtfmclbacoffdaaaDoor.radixLoads
open Go.ChangeShapes Go.WideShapes Go.ChangeAt Go.RowKit

set_option maxRecDepth 100000 in
theorem contract (H : Type) (enc : TypeId × Value → H) (W : World) (base : Nat) (args : Array Value) (ds gs : List (DataW H)) (before : List MemPlace)
    (hval : ∀ (j : Nat) t v, Tryd.f7.params[j]? = some t → args[j]? = some v → Value.okWide Tryd.prog W .any base t v)
    (hW : DataW.Whole enc Tryd.prog Tryd.f7.params.toList Rows.radixLoadsSpec.vars false W args.toList ds gs before) (hL : laidMetH Tryd.prog Rows.radixLoadsRow.laid W) :
    Calls Tryd.prog 7 args W fun e W' => ∃ v, e = .returned v ∧ Rows.radixLoadsSpec.post enc Tryd.prog Tryd.f7 false true false false W args v W' := by
  have hW' := hW
  obtain ⟨p, q, hA0, hV, rfl, hfz, hnd⟩ := hW
  have hA : DataW.TrodAll enc Tryd.prog W 0 (fun _ => true) true Tryd.f7.params.toList args.toList ds p := hA0
  rw [Tryd.params7] at hA hval
  obtain ⟨v0, vs0, d0, ds0, p0, q0, hargs, rfl, rfl, h0, r0⟩ := trodAll_cons hA
  obtain ⟨rfl, rfl, rfl⟩ := trodAll_nil r0
  obtain rfl : args = #[v0] := by cases args; simp_all
  obtain ⟨rfl, rfl⟩ := trodVars_none hV
  obtain ⟨m0, a0, c0, S0, rfl, hS0, hl0, hb0, _, _⟩ := open_rmstate (hval 0 45 v0 rfl rfl) h0
  refine (law_loads m0 hS0 hl0 hb0 (tab_of hL)).mono fun e W' ⟨he, hb⟩ => ?_
  exact ⟨_, he, law_post hW' rfl (by rw [Tryd.params7]; kernel_rfl) rfl rfl rfl rfl hb⟩

theorem laid_met (os : Os) : laidMet Tryd.prog Rows.radixLoadsRow.laid ((laidWorld os).forCall (fun _ _ => 0) ⟨#[], #[.agg #[.int .i64 0, .slice none 0 0]], []⟩).memory :=
  laidMet_of_run' 8 (by kernel_rfl) (by kernel_rfl)
theorem reads (os : Os) {H : Type} (enc : TypeId × Value → H) : ∃ places, DataW.whole enc Tryd.prog ((laidWorld os).forCall (fun _ _ => 0) ⟨#[], #[.agg #[.int .i64 0, .slice none 0 0]], []⟩).memory Tryd.f7.params.toList Rows.radixLoadsSpec.vars false #[Value.agg #[.int .i64 0, .slice none 0 0]].toList 8 = some ([.agg [.lit (.int .i64 0), .nil]], [], places) :=
  ⟨[], by kernel_rfl⟩

set_option maxRecDepth 100000 in
theorem lifted (os : Os) (started : os.Started) (H : Type) (enc : TypeId × Value → H) (F : Stop.Interp) :
    ReturnsInHanded {} Tryd.checked os 7 .any ((OpenSpec.ofChange Rows.radixLoadsSpec).preRow enc Tryd.prog Tryd.f7 Rows.radixLoadsRow.domain false Rows.radixLoadsRow.laid) (((OpenSpec.ofChange Rows.radixLoadsSpec).at F).post enc Tryd.prog Tryd.f7 false true false false) := by
  obtain ⟨places, hx⟩ := reads os enc
  refine returnsInHanded_of_row (C := Tryd.checked) (s := OpenSpec.ofChange Rows.radixLoadsSpec) own started (by kernel_rfl) Tryd.func7
    (witness_row_at (enc := enc) (C := Tryd.checked) false (laidWorld os) #[.agg #[.int .i64 0, .slice none 0 0]] rfl (by kernel_rfl) (by kernel_rfl) (by kernel_rfl)
      (OpenSpec.preRow_of_cond 8 hx (by kernel_rfl) (fun k hk => by cases hk) (by kernel_rfl) (laid_met os))) ?_
  intro W base args ds gs before hval hW _ _ _ hL _ _
  exact contract H enc W base args ds gs before hval hW hL

theorem said : Rows.RadixLoadsSaid :=
  OpenClaim.holds_of_cond 7 Tryd.f7 rfl rfl rfl rfl rfl rfl rfl ⟨rfl, rfl, rfl, rfl, rfl⟩ rfl rfl rfl rfl rfl (by kernel_rfl) Tryd.func7 (by kernel_rfl)
    (of_decide_eq_true (by kernel_rfl)) (by unfold Func.isWrapper; first | (rw [if_pos (by decide +kernel)]; kernel_rfl) | (rw [if_neg (by decide +kernel)]; exact ⟨rfl, rfl⟩))
    (fun os started H enc _ F => by rw [OpenClaim.pre_eq_preRow]; exact lifted os started H enc F)

theorem plain (f : FuncId) (fn : Func) (hf : Tryd.pinned.checked.prog.funcNamed "polder/polderlaw07.RadixLoads" = some f) (hfn : Tryd.pinned.checked.prog.funcs[f]? = some fn) :
    false = Tryd.pinned.checked.prog.looks [] ∧ ∀ (j : Nat) t, fn.params[j]? = some t → Tryd.pinned.checked.prog.wantsStandIn t = false := by
  obtain rfl : f = 7 := Option.some.inj ((show Tryd.prog.funcNamed "polder/polderlaw07.RadixLoads" = some 7 by kernel_rfl).symm.trans hf) |>.symm
  obtain rfl : fn = Tryd.f7 := (Option.some.inj (Tryd.func7.symm.trans hfn)).symm
  refine ⟨by kernel_rfl, fun j t ht => ?_⟩
  rw [Tryd.params7] at ht
  have hm : t ∈ [45] := by simpa using Array.mem_of_getElem? ht
  have hall : ([45].all fun u => !Tryd.prog.wantsStandIn u) = true := by kernel_rfl
  exact (show Tryd.prog.wantsStandIn t = false by simpa using List.all_eq_true.1 hall t hm)

/-- THE CARD. -/
theorem card : Rows.RadixLoadsCardSaid :=
  Claim7.holds_tied_plain_at .later [] _ _ _ _ said (fun _ h => by cases h) (by kernel_rfl) (fun _ h => by cases h) radixLoads_row_tie rfl ⟨rfl, rfl⟩ (by kernel_rfl) rfl plain (by kernel_rfl)
#print axioms card
end Go.Proofs.YtfmclbacoffdaaaDoor.radixLoads
