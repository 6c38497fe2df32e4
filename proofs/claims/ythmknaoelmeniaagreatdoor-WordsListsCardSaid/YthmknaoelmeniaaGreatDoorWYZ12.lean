/- Words: List behind its first loop: the text is written, item by item. | Words: the laws' own comparisons: ints, alike; fields. | Words: the laws' examples, plain. | Words: the laws' examples, by the program. -/
import Derived.Test.YthmknaoelmeniaaGreatDoorWYZ10
import Derived.Test.YthmknaoelmeniaaGreatDoorWYZ11
import Derived.Test.YthmknaoelmeniaaGreatDoorWYZ9
import Derived.Test.YthmknaoelmeniaaGreatDoorWYZ7
import Derived.Deep.RegionHeld3
import Derived.Laws.StructEq
import Derived.ChangeKeysEq
import Derived.Deep.AppendLies
namespace Go.Proofs.YthmknaoelmeniaaGreatDoor
open Go.RowKit Go.Sort Go.Joins Go.Shelf
attribute [local go_sem] cell_grow frozen_grow size_grow Oper.semAt_some

def F6 (w : World) (a : Option Addr) (n c bz q : Nat) (f : Nat → Value) (ds : List Nat) : Act := { tmps := #[.slice a n c, undef, f 2, f 3, undef, f 5, .pointer (some ⟨w.heap.size + 1, 0, none⟩), f 7, f 8, .pointer (some ⟨bz, 0, none⟩), .pointer (some ⟨q, 0, none⟩), f 11, f 12, .slice a n c, .int .i64 (n : Int), .bool false, .slice a n c, .int .i64 (n : Int), .int .i64 (n : Int), .bool false, f 20, f 21, f 22, f 23, f 24, f 25, f 26, f 27, f 28, .slice a n c, .int .i64 (n : Int), .int .i64 ((n : Int) + 1), .slice (some ⟨w.heap.size, 0, none⟩) (n + 1) (n + 1), .slice a n c, .int .i64 (n : Int), .int .i64 ((n : Int) - 1), .int .i64 (-1), .bool false, f 38, f 39, f 40, f 41, f 42, f 43, f 44, f 45, f 46, f 47, f 48, f 49, f 50, f 51, f 52, f 53, f 54, f 55, f 56, f 57, f 58, f 59, f 60, f 61, f 62, f 63, f 64, f 65, f 66, f 67, f 68, f 69, f 70, f 71, f 72, f 73, f 74, f 75, f 76, f 77, f 78, f 79, f 80, f 81, f 82, f 83, f 84, f 85, f 86, f 87, f 88, f 89, f 90, f 91, f 92, f 93, f 94, f 95, f 96, f 97, f 98, f 99, f 100, f 101, f 102, f 103, f 104, f 105, f 106, f 107, f 108, f 109, f 110, f 111, f 112, f 113, f 114, f 115, f 116, f 117, f 118, f 119, f 120, f 121, f 122, f 123, f 124, f 125, f 126, f 127, f 128, f 129, f 130, f 131, f 132, f 133, undef], defers := mks ds }
/-- the second loop: i numbers are written -/
def L6 (w : World) (a : Option Addr) (n c : Nat) (N : List Nat) (bz : Nat) (A : Act) (W : World) : Prop :=
  ∃ (i q : Nat) (t : List UInt8) (ds : List Nat), A = F6 w a n c bz q (fun k => A.tmps.getD k undef) ds ∧ i ≤ n ∧ w.heap.size + 2 ≤ q ∧ w.heap.size + 2 ≤ bz ∧ SW w n N bz q i ds t W ∧ Wrt N i t
def mu6 (n : Nat) (A : Act) (W : World) : Nat := match A.tmps.getD 10 undef with
  | .pointer (some p) => (match W.cell? p with | some (.int _ i) => n - i.toNat | _ => 0)
  | _ => 0
/-- memory while an item is picked -/
structure JW (w : World) (n : Nat) (N : List Nat) (bz q i : Nat) (ds : List Nat) (u : List UInt8) (zq g : Nat) (V : Value) (pre : List ItB) (W : World) : Prop where
  sw : SW w n N bz q i ds u W
  zb : W.heap[zq]? = some (.cells #[V] 22 (0, 0))
  pk : ∃ (T : ByteArray) (s : Nat), BoxT W g T s ∧ PickI N i (pre.map frB) (T.data.toList, s)
section
variable {w W W' : World} {n : Nat} {N : List Nat} {bz q i : Nat} {ds : List Nat} {u : List UInt8} {zq g : Nat} {V : Value} {pre : List ItB}
theorem JW.below (h : JW w n N bz q i ds u zq g V pre W) (hb : Below W.heap.size W W') : JW w n N bz q i ds u zq g V pre W' := by
  obtain ⟨T, s, h1, h2⟩ := h.pk
  exact ⟨h.sw.below hb, (hb.block _ (blk_lt h.zb)).trans h.zb, T, s, (hb.block _ (blk_lt h1)).trans h1, h2⟩
theorem BoxT.set {T T2 : ByteArray} {s s2 : Nat} (h : BoxT W g T2 s2) : BoxT ((W.setCell ⟨g, 0, none⟩ (.string T)).setCell ⟨g, 1, none⟩ (.int .i64 (s : Int))) g T s := by
  have h1 := setCell_block h (i := 0) (.string T)
  have h2 := setCell_block h1 (i := 1) (.int .i64 (s : Int))
  exact h2
theorem JW.set {pre' : List ItB} {T : ByteArray} {s : Nat} (h : JW w n N bz q i ds u zq g V pre W) (hz : zq ≠ g) (hg : w.heap.size + 2 ≤ g) (hp : PickI N i (pre'.map frB) (T.data.toList, s)) :
    JW w n N bz q i ds u zq g V pre' ((W.setCell ⟨g, 0, none⟩ (.string T)).setCell ⟨g, 1, none⟩ (.int .i64 (s : Int))) := by
  obtain ⟨T2, s2, h1, _⟩ := h.pk
  have h2 := setCell_block h1 (i := 0) (.string T)
  refine ⟨(h.sw.set h1 (by decide) (by decide) (by decide) (by decide) hg _).set h2 (by decide) (by decide) (by decide) (by decide) hg _, ?_, T, s, BoxT.set h1, hp⟩
  exact (Below.heap_setCell _ _ _ _ (show zq ≠ g from hz)).trans ((Below.heap_setCell _ _ _ _ (show zq ≠ g from hz)).trans h.zb)
theorem JW.grown {Z : Nat} {row : Option Nat} (h : JW w n N bz q i ds u zq g V pre W) (hZ : w.heap.size ≤ Z) (hds : ∀ D ∈ ds, D < Z) (hg : W.grownBy W' row) (hr : ∀ r, row = some r → Z ≤ r ∧ ∃ o : Obj, W.heap[r]? = some o ∧ o.isCells = false) : JW w n N bz q i ds u zq g V pre W' := by
  obtain ⟨T, s, h1, h2⟩ := h.pk
  exact ⟨h.sw.grown hZ hds hg hr, blk_kept h.zb hg (fun r e => (hr r e).2), T, s, blk_kept h1 hg (fun r e => (hr r e).2), h2⟩
end
theorem SW.next {w W : World} {n : Nat} {N : List Nat} {bz q i : Nat} {ds : List Nat} {u : List UInt8} (h : SW w n N bz q i ds u W) (hq : w.heap.size + 2 ≤ q) {D : Nat} (hD : w.heap.size + 3 ≤ D) (hn : D ∉ ds) (hk : W.heap[D]? = some (.deferred (some []))) (s : Nat) :
    SW w n N bz W.heap.size (i + s) (D :: ds) u ((W.setCell ⟨q, 0, none⟩ (.int .i64 ((i : Int) + (s : Int)))).alloc (.cells #[.int .i64 ((i : Int) + (s : Int))] 3)) := by
  have hqb : W.heap[q]? = some (.cells #[.int .i64 (i : Int)] 3 (0, 0)) := h.qb
  have ne : ∀ {E : Nat}, W.heap[E]? = some (.deferred (some [])) → E ≠ q := fun hE e => by rw [e, hqb] at hE; cases hE
  have l1 := h.lm.other (p := ⟨q, 0, none⟩) hq (fun E hE => ne (h.lm.dm.2 E hE).2) (.int .i64 ((i : Int) + (s : Int)))
  have b1 := bld_set (i := 0) h.bl hqb (by decide) (by decide) (.int .i64 ((i : Int) + (s : Int)))
  have k1 := (Below.heap_setCell W ⟨q, 0, none⟩ (.int .i64 ((i : Int) + (s : Int))) D (show D ≠ q from ne hk)).trans hk
  have bb := below_box0 (W.setCell ⟨q, 0, none⟩ (.int .i64 ((i : Int) + (s : Int)))) (.cells #[.int .i64 ((i : Int) + (s : Int))] 3)
  have l2 := l1.below bb
  refine ⟨⟨l2.own, l2.box, l2.k, l2.dm.cons hD hn ((bb.block _ (blk_lt k1)).trans k1)⟩, bld_below b1 bb, ?_⟩
  have e : ((i + s : Nat) : Int) = (i : Int) + (s : Int) := by omega
  unfold BoxI
  rw [e]
  exact heap_alloc_is _ _ _ _ (by simp)
set_option maxRecDepth 100000 in
set_option maxHeartbeats 6400000 in
theorem wlB (N : List Nat) (a : Option Addr) (n c : Nat) (w : World) (hS : SlN w a (ints N)) (h9 : ∀ x, x ∈ N → x ≤ 9999) (hNl : N.length = n) (h1 : n ≤ 500) (hc : n ≤ c) (hT : T1 w)
    (A : Act) (W0 : World) (hA : L2e w a n c N A W0) :
    (codeAt Tryz.f5 19).wpIn Fence.wide 8 Tryz.prog (bodyPostM Fence.wide 8 Tryz.prog Tryz.f5 (LsPost w (bestS N) 0)) A W0 := by
  obtain ⟨q0, u2, u3, u5, u20, u21, u22, u23, u24, u25, u26, u27, u28, u8, u38, u39, u40, u41, u42, u43, u44, u45, u46, u47, u48, u49, u50, u51, u52, u53, u54, u55, u56, u57, u58, u59, u60, u61, u62, u63, u64, u65, u66, u67, u68, u69, u70, u71, u72, u73, u74, u75, u76, u77, u78, u79, u80, ds, rfl, hq0, hB0, hM0⟩ := hA
  have HS := Lib.hid hS
  have HT := Lib.hid hT
  have HNL := Lib.hid hNl
  have H9 := Lib.hid h9
  have HM := Lib.hid hM0
  have hz0 := blk_lt hM0.box
  clear hS hT hNl h9 hM0 hB0 hq0
  conv => arg 4; whnf
  gi_wp2
  refine wpIn_loop (L6 w a n c N W0.heap.size) (mu6 n) ?_ ?_
  · have b1 := below_box0 W0 (.cells #[.pointer none, .slice none 0 0] 49)
    have b2 := below_box0 (W0.alloc (.cells #[.pointer none, .slice none 0 0] 49)) (.cells #[.int .i64 0] 3)
    refine ⟨0, _, [], ds, rfl, Nat.zero_le _, ?_, ?_, ⟨(HM.out.below b1).below b2, bld_below (bldNew W0 w.heap.size HM.out.k.size) b2, heap_alloc_is _ _ _ _ (by simp)⟩, .inl ⟨rfl, rfl⟩⟩
    · simp; omega
    · omega
  · clear HM
    rintro A V ⟨i, q, t, ds, hA, hi, hq, hbz, hW, hwr⟩
    generalize (fun k => A.tmps.getD k undef) = f at hA
    subst hA
    simp only [F6]
    have x10 : V.cell? ⟨q, 0, none⟩ = some (.int .i64 (i : Int)) := by rw [cell_of_block hW.qb]; rfl
    have hqV := blk_lt hW.qb
    have HX := Lib.hid x10
    have HW := Lib.hid hW
    have HWR := Lib.hid hwr
    clear hW hwr
    by_cases hlt : i < n
    · have d1 : decide ((i : Int) < (n : Int)) = true := decide_eq_true (by omega)
      obtain ⟨b, o, rfl, -⟩ := HS.out.at_ (j := i) (by rw [ints_len, HNL.out]; omega)
      have i0 : (0 : Int) ≤ (i : Int) := by omega
      have i1 : (i : Int) ≤ (n : Int) := by omega
      gi_wp2_with fail
      refine ⟨trivial, (callsIn_wide.2 (items_ok _ _ _ _)).mono ?_⟩
      rintro e w2 ⟨rfl, hw2⟩
      have hg0 := heap_alloc_new V (.cells #[.string ⟨#[]⟩, .int .i64 0] 45)
      have b0 := below_box0 V (.cells #[.string ⟨#[]⟩, .int .i64 0] 45)
      obtain ⟨V1, hV1⟩ : ∃ V1, V.alloc (.cells #[.string ⟨#[]⟩, .int .i64 0] 45) = V1 := ⟨_, rfl⟩
      have hz1 : V1.heap.size = V.heap.size + 1 := by rw [← hV1]; simp
      rw [hV1] at hg0 b0 hw2 ⊢
      rw [hz1]
      have b2 : Below V1.heap.size V1 w2 := by rw [← hw2]; exact below_box0 _ _
      have hz2 : w2.heap.size = V.heap.size + 2 := by rw [← hw2]; simp [hz1]
      have hJ0 : JW w n N W0.heap.size q i ds t (V.heap.size + 1) V.heap.size (.slice (some ⟨b, o + i, none⟩) (n - i) (c - i)) [] w2 :=
        ⟨(HW.out.below b0).below b2, by rw [← hw2]; exact heap_alloc_is _ _ _ _ hz1.symm, ⟨#[]⟩, 0, (b2.block _ (blk_lt hg0)).trans hg0, pick_start N i⟩
      have HJ0 := Lib.hid hJ0
      have HDs : Hid (∀ D ∈ ds, D < w2.heap.size) := Lib.hid (fun D hD => hJ0.sw.lm.dm.lt hD)
      have hnj : i < N.length := by rw [HNL.out]; exact hlt
      have hdr := drop_at hnj
      have hdl : (N.drop i).length = n - i := by rw [List.length_drop, HNL.out]
      have h9d : ∀ y, y ∈ N.getD i 0 :: N.drop (i + 1) → y ≤ 9999 := fun y hy => H9.out y (List.mem_of_mem_drop (by rw [hdr]; exact hy))
      have HKI : Hid (∀ pre W, JW w n N W0.heap.size q i ds t (V.heap.size + 1) V.heap.size (.slice (some ⟨b, o + i, none⟩) (n - i) (c - i)) pre W → KeepI (V.heap.size + 1) (some ⟨b, o + i, none⟩) (c - i) (N.drop i) W) := Lib.hid (fun pre W h => ⟨by rw [cell_of_block h.zb, hdl]; rfl, by
        have := ((HS.out.below h.sw.lm.k).drop i)
        rw [ints_drop] at this
        exact this, (HT.out.below h.sw.lm.k).tw⟩)
      have hseq := items_seq 7 (N.getD i 0) (N.drop (i + 1)) h9d (by rw [← hdr, hdl]; omega) (V.heap.size + 1) (some ⟨b, o + i, none⟩) (c - i) (fun pre W => JW w n N W0.heap.size q i ds t (V.heap.size + 1) V.heap.size (.slice (some ⟨b, o + i, none⟩) (n - i) (c - i)) pre W) (fun pre W h => by rw [← hdr]; exact HKI.out pre W h) w2
      rw [← hdr] at hseq
      have HSQ := Lib.hid hseq
      have HDR := Lib.hid hdl
      have hsz0 := blk_lt HW.out.lm.box
      clear hw2 hseq hdr hdl h9d b2 b0 hg0 hV1 hz1 hJ0 x10 hqV HW
      gi_wp2
      refine wpIn_iter_ax rfl (by omega) (gf := 32) (lb := #[.pointer (some ⟨V.heap.size + 1, 0, none⟩)]) rfl trivial (enters_of Tryz.func32 (by kernel_rfl) rfl)
        (fun pre W => JW w n N W0.heap.size q i ds t (V.heap.size + 1) V.heap.size (.slice (some ⟨b, o + i, none⟩) (n - i) (c - i)) pre W) HSQ.out (fun _ => rfl) (fun _ _ _ => False) ?own (fun _ _ _ _ _ hs _ _ => hs) HJ0.out
        (fun a x a' W' => ∃ g : Nat, a' = { tmps := (a.tmps.setIfInBounds 90 (.agg #[.string x.1, .int .i64 (x.2 : Int)])).setIfInBounds 12 (.pointer (some ⟨g, 0, none⟩)), defers := [] } ∧ W'.heap[g]? = some (.cells #[.string x.1, .int .i64 (x.2 : Int)] 45 (0, 0)))
        ?hax ?assign ?body ?done (fun _ _ _ _ _ h _ => h.elim)
      case own =>
        rintro pre A B row h hg hr
        exact h.grown (by omega) HDs.out hg hr
      case hax =>
        rintro x a' _ A B row ⟨g, h2, h3⟩ hg hr
        exact ⟨g, h2, blk_kept h3 hg (fun r e => (hr r e).2)⟩
      case assign =>
        intro l pre x W K hI hG hK
        simp only [List.setIfInBounds_toArray, List.set_cons_zero, List.set_cons_succ] at hK
        gi_wp2
        exact hK _ _ ((KeepsOthers.alloc _ _).from _) (hI.below (below_box0 _ _)) ⟨W.heap.size, rfl, heap_alloc_new _ _⟩
      case body =>
        rintro l pre y a' W hl hI ⟨g, rfl, hg⟩ hG
        simp only [List.setIfInBounds_toArray, List.set_cons_zero, List.set_cons_succ]
        obtain ⟨yi, hyi, hy⟩ := git_mem hG
        have hm := items_many hyi
        have hsz := items_size (fun x hx => H9.out x (List.mem_of_mem_drop hx)) (by rw [HDR.out]; omega) hyi
        rw [HDR.out] at hm
        obtain ⟨T, s⟩ := y
        have hTd : T.data.toList = yi.1 := by have := congrArg (fun p : ItB => p.1.data.toList) hy; exact this
        have hsy : s = yi.2 := congrArg (fun p : ItB => p.2) hy
        have hTl := len_of hTd
        have hfr : frB (T, s) = yi := by unfold frB; rw [hTd, hsy]
        rw [hTl] at hsz
        rw [← hsy] at hm
        obtain ⟨hm1, hm2⟩ := hm
        obtain ⟨T2, s2, hb2, hp⟩ := hI.pk
        have hT2 : T2.size ≤ 11 := by
          have h2 : T2.data.toList.length ≤ 11 := by
            rcases hp with ⟨e, _⟩ | ⟨_, h2, _⟩
            · have e2 : T2.data.toList = [] := congrArg (fun p : Itm => p.1) e
              rw [e2]; simp
            · exact items_size (fun x hx => H9.out x (List.mem_of_mem_drop hx)) (by rw [HDR.out]; omega) h2
          have e : T2.data.toList.length = T2.size := by rw [Array.length_toList]; rfl
          omega
        have hval : valB N i yi = T.size + 1 + lenB N (i + s) := by unfold valB; rw [hTl, hsy]
        have kv := hI.sw.lm.at_ (j := i + s) (by omega)
        have ki := hI.sw.lm.at_ (j := i) (by omega)
        rw [show bst N 0 (i + s) = lenB N (i + s) by unfold bst; rw [if_pos (Nat.zero_le _)]] at kv
        rw [show bst N 0 i = lenB N i by unfold bst; rw [if_pos (Nat.zero_le _)]] at ki
        have hvb : lenB N (i + s) ≤ 2500 := by have := lenB_bound H9.out (i + s); rw [HNL.out] at this; omega
        have hmb : lenB N i ≤ 2500 := by have := lenB_bound H9.out i; rw [HNL.out] at this; omega
        have hsn : (pre ++ [(T, s)]).map frB = pre.map frB ++ [yi] := by rw [List.map_append, List.map_cons, List.map_nil, hfr]
        have hstr : Op.bytesLess (T ++ ⟨#[44]⟩).toList (T2 ++ ⟨#[44]⟩).toList = decide (yi.1 ++ [44] < T2.data.toList ++ [44]) := by
          rw [bless_eq, Lib.toList_data, Lib.toList_data, app_list, app_list, hTd]
        have HTAKE : Hid (valB N i yi = lenB N i → s2 = 0 ∨ yi.1 ++ [44] < T2.data.toList ++ [44] → PickI N i ((pre ++ [(T, s)]).map frB) (T.data.toList, s)) := Lib.hid (fun h1 h2 => by
          rw [hsn, hTd, hsy]
          exact pick_take hp hyi h1 h2)
        have HKEEP : Hid ((valB N i yi = lenB N i → ¬ (s2 = 0) ∧ ¬ (yi.1 ++ [44] < T2.data.toList ++ [44])) → PickI N i ((pre ++ [(T, s)]).map frB) (T2.data.toList, s2)) := Lib.hid (fun h => by
          rw [hsn]
          exact pick_keep hp h)
        rw [hval] at HTAKE HKEEP
        obtain ⟨v, hvd⟩ : ∃ v, lenB N (i + s) = v := ⟨_, rfl⟩
        obtain ⟨m, hmd⟩ : ∃ m, lenB N i = m := ⟨_, rfl⟩
        rw [hmd] at ki hmb HTAKE HKEEP
        rw [hvd] at kv hvb HTAKE HKEEP
        have HI := Lib.hid hI
        have HG := Lib.hid hg
        have HB2 := Lib.hid hb2
        have k6 := hI.sw.lm.cell
        have x10 : W.cell? ⟨q, 0, none⟩ = some (.int .i64 (i : Int)) := by rw [cell_of_block hI.sw.qb]; rfl
        have g0 : W.cell? ⟨g, 0, none⟩ = some (.string T) := by rw [cell_of_block hg]; rfl
        have g1 : W.cell? ⟨g, 1, none⟩ = some (.int .i64 (s : Int)) := by rw [cell_of_block hg]; rfl
        have p0 : W.cell? ⟨V.heap.size, 0, none⟩ = some (.string T2) := by rw [cell_of_block hb2]; rfl
        have p1 : W.cell? ⟨V.heap.size, 1, none⟩ = some (.int .i64 (s2 : Int)) := by rw [cell_of_block hb2]; rfl
        have f0 : W.frozen? ⟨V.heap.size, 0, none⟩ = false := unfrozen_of_block hb2 0
        have f1 : W.frozen? ⟨V.heap.size, 1, none⟩ = false := unfrozen_of_block hb2 1
        have j0 : (0 : Int) ≤ (i : Int) + (s : Int) := by omega
        have j1 : (i : Int) + (s : Int) < (n : Int) + 1 := by omega
        have j2 : (i : Int) < (n : Int) + 1 := by omega
        have jt : ((i : Int) + (s : Int)).toNat = i + s := by omega
        have hw1 : IntKind.i64.wrap ((i : Int) + (s : Int)) = (i : Int) + (s : Int) := IntWalk.i64_in _ (by omega)
        have hw2 : IntKind.i64.wrap ((T.size : Int) + 1) = (T.size : Int) + 1 := IntWalk.i64_in _ (by omega)
        have hw3 : IntKind.i64.wrap ((T.size : Int) + 1 + (v : Int)) = (T.size : Int) + 1 + (v : Int) := IntWalk.i64_in _ (by omega)
        have hC1 : (9223372036854775807 < T.size + 1) = False := by simp; omega
        have hC2 : (9223372036854775807 < T2.size + 1) = False := by simp; omega
        have hways : (T.size + 1 + v ≠ m) ∨ (T.size + 1 + v = m ∧ s2 = 0) ∨ (T.size + 1 + v = m ∧ s2 ≠ 0 ∧ yi.1 ++ [44] < T2.data.toList ++ [44]) ∨ (T.size + 1 + v = m ∧ s2 ≠ 0 ∧ ¬ yi.1 ++ [44] < T2.data.toList ++ [44]) := by
          by_cases e1 : T.size + 1 + v = m
          · by_cases e2 : s2 = 0
            · exact .inr (.inl ⟨e1, e2⟩)
            · by_cases e3 : yi.1 ++ [44] < T2.data.toList ++ [44]
              · exact .inr (.inr (.inl ⟨e1, e2, e3⟩))
              · exact .inr (.inr (.inr ⟨e1, e2, e3⟩))
          · exact .inl e1
        clear hI hg hb2 hp hG hyi hy hTd hsy hTl hfr hval hsn hvd hmd HSQ HJ0 HX
        rcases hways with e1 | ⟨e1, e2⟩ | ⟨e1, e2, e3⟩ | ⟨e1, e2, e3⟩
        · have dA : ((T.size : Int) + 1 + (v : Int) == (m : Int)) = false := beq_eq_false_iff_ne.2 (by omega)
          have HP := Lib.hid (HKEEP.out (fun h => absurd h e1))
          clear HTAKE HKEEP e1
          gi_wp2_with fail
          refine wpIn_quiet_lit (by kernel_rfl) (by kernel_rfl) (by kernel_rfl) ?_
          repeat (gi_big_quiet_step (fail))
          refine wpQuietIn_nil ?_
          intro _ hw'
          obtain ⟨nq, hw''⟩ := hw'
          subst hw''
          gi_wp2
          have bq := below_draw W nq
          exact ⟨keeps_below bq _, trivial, HI.out.sw.below bq, (bq.block _ (blk_lt HI.out.zb)).trans HI.out.zb, T2, s2, HB2.out, HP.out⟩
        · have dA : ((T.size : Int) + 1 + (v : Int) == (m : Int)) = true := beq_iff_eq.2 (by omega)
          have dB : ((s2 : Int) == 0) = true := beq_iff_eq.2 (by omega)
          have HP := Lib.hid (HTAKE.out e1 (.inl e2))
          clear HTAKE HKEEP e1 e2
          gi_wp2_with fail
          refine wpIn_quiet_lit (by kernel_rfl) (by kernel_rfl) (by kernel_rfl) ?_
          repeat (gi_big_quiet_step (fail))
          refine wpQuietIn_nil ?_
          intro _ hw'
          obtain ⟨nq, hw''⟩ := hw'
          subst hw''
          gi_wp2
          have bq := below_draw W nq
          exact ⟨(keeps_below bq _).trans (((KeepsOthers.setCell _ _ _).from _).trans ((KeepsOthers.setCell _ _ _).from _)), trivial, (HI.out.below bq).set (by omega) (by omega) HP.out⟩
        · have dA : ((T.size : Int) + 1 + (v : Int) == (m : Int)) = true := beq_iff_eq.2 (by omega)
          have dB : ((s2 : Int) == 0) = false := beq_eq_false_iff_ne.2 (by omega)
          have HP := Lib.hid (HTAKE.out e1 (.inr e3))
          rw [decide_eq_true e3] at hstr
          clear HTAKE HKEEP e1 e2 e3
          gi_wp2_with fail
          refine wpIn_quiet_lit (by kernel_rfl) (by kernel_rfl) (by kernel_rfl) ?_
          repeat (gi_big_quiet_step (fail))
          refine wpQuietIn_nil ?_
          intro _ hw'
          obtain ⟨nq, hw''⟩ := hw'
          subst hw''
          gi_wp2
          have bq := below_draw W nq
          exact ⟨(keeps_below bq _).trans (((KeepsOthers.setCell _ _ _).from _).trans ((KeepsOthers.setCell _ _ _).from _)), trivial, (HI.out.below bq).set (by omega) (by omega) HP.out⟩
        · have dA : ((T.size : Int) + 1 + (v : Int) == (m : Int)) = true := beq_iff_eq.2 (by omega)
          have dB : ((s2 : Int) == 0) = false := beq_eq_false_iff_ne.2 (by omega)
          have HP := Lib.hid (HKEEP.out (fun _ => ⟨e2, e3⟩))
          rw [decide_eq_false e3] at hstr
          clear HTAKE HKEEP e1 e2 e3
          gi_wp2_with fail
          refine wpIn_quiet_lit (by kernel_rfl) (by kernel_rfl) (by kernel_rfl) ?_
          repeat (gi_big_quiet_step (fail))
          refine wpQuietIn_nil ?_
          intro _ hw'
          obtain ⟨nq, hw''⟩ := hw'
          subst hw''
          gi_wp2
          have bq := below_draw W nq
          exact ⟨keeps_below bq _, trivial, HI.out.sw.below bq, (bq.block _ (blk_lt HI.out.zb)).trans HI.out.zb, T2, s2, HB2.out, HP.out⟩
      case done =>
        rintro D xs W hD hS2 hI hK
        obtain ⟨T, s, hb, hp⟩ := hI.pk
        have e : xs = itB (N.drop i) := hS2
        rw [e, fr_items] at hp
        obtain ⟨hs1, hs2, hbe⟩ := pick_end hnj hp
        dsimp only at hs1 hs2 hbe
        have hwr2 := wrt_step (b := (T.data.toList, s)) HWR.out hs1 hbe
        dsimp only at hwr2
        have x10 : W.cell? ⟨q, 0, none⟩ = some (.int .i64 (i : Int)) := by rw [cell_of_block hI.sw.qb]; rfl
        have p0 : W.cell? ⟨V.heap.size, 0, none⟩ = some (.string T) := by rw [cell_of_block hb]; rfl
        have htl : t.length ≤ 2500 := by
          have h1 := lenB_bound H9.out 0
          rw [HNL.out] at h1
          unfold lenB at h1
          rw [List.drop_zero] at h1
          rcases HWR.out with ⟨_, e⟩ | ⟨_, e⟩
          · rw [e]; simp
          · rw [e, List.length_append] at h1; omega
        have hTl : T.data.toList.length ≤ 2500 := by
          have h1 := lenB_bound H9.out i
          rw [HNL.out] at h1
          unfold lenB at h1
          rw [hbe, List.length_append] at h1; omega
        have hsn : i + s ≤ n := by rw [HNL.out] at hs2; exact hs2
        have HSW := Lib.hid hI.sw
        have HB := Lib.hid hb
        have HKK := Lib.hid hK
        have hD2 : w.heap.size + 3 ≤ D := by omega
        have hDn : D ∉ ds := fun h => by have := HDs.out D h; omega
        have HX10 : Hid (mu6 n { tmps := #[], defers := [] } V = 0) := Lib.hid rfl
        have hways : 0 < i ∨ ¬ 0 < i := Nat.lt_or_ge 0 i |>.imp id (fun h => by omega)
        clear hI hb hK hp hS2 hbe hs2 e HSQ HJ0 HKI
        refine hways.elim ?wa ?wb
        case' wa =>
          intro h0
          rw [if_pos h0] at hwr2
          have d2 : decide ((0 : Int) < (i : Int)) = true := decide_eq_true (by omega)
          have HR := Lib.hid hwr2
          have hul : (t ++ [44]).length + T.data.toList.length ≤ 1000000 := by rw [List.length_append]; simp only [List.length_singleton]; omega
          clear hwr2
          gi_wp2_with fail
          refine ⟨trivial, (callsIn_wide.2 (wrByte 44 HSW.out.bl (by omega) HSW.out.lm.k)).mono ?_⟩
          rintro e W3 ⟨v3, rfl, h3, b3, o3⟩
          obtain ⟨_, cb, hcb⟩ := bld_blk HSW.out.bl
          have HSW5 := Lib.hid (HSW.out.str b3 o3 h3)
          have HB5 : Hid (BoxT W3 V.heap.size T s) := Lib.hid (cell_kept_o o3 HB.out (fun e => by have h1 : W.heap[V.heap.size]? = some (.cells #[.string T, .int .i64 (s : Int)] 45 (0, 0)) := HB.out; rw [e, hcb] at h1; cases h1) (by decide))
          have HK5 : Hid (W3.heap[D]? = some (.deferred (some []))) := Lib.hid (o3 D _ HKK.out (fun e => by
            have e := Option.some.inj e
            have h1 := HKK.out
            rw [e, hcb] at h1; cases h1) (fun _ _ e => by cases e))
          clear x10 p0 h3 b3 o3 hcb HSW HB HKK
          have x10 : W3.cell? ⟨q, 0, none⟩ = some (.int .i64 (i : Int)) := by rw [cell_of_block HSW5.out.qb]; rfl
          have p0 : W3.cell? ⟨V.heap.size, 0, none⟩ = some (.string T) := by rw [cell_of_block HB5.out]; rfl
        case' wb =>
          intro h0
          rw [if_neg h0] at hwr2
          have d2 : decide ((0 : Int) < (i : Int)) = false := decide_eq_false (by omega)
          have HR := Lib.hid hwr2
          have hul : t.length + T.data.toList.length ≤ 1000000 := by omega
          clear hwr2
          have HSW5 := HSW
          have HB5 := HB
          have HK5 := HKK
          clear HSW HB HKK
        all_goals
          gi_wp2_with fail
          refine ⟨trivial, (callsIn_wide.2 (wrStr rfl HSW5.out.bl hul HSW5.out.lm.k)).mono ?_⟩
          rintro e W4 ⟨v4, rfl, h4, b4, o4⟩
          obtain ⟨_, cb, hcb⟩ := bld_blk HSW5.out.bl
          have HS4 := Lib.hid (HSW5.out.str b4 o4 h4)
          have HB4 : Hid (BoxT W4 V.heap.size T s) := Lib.hid (cell_kept_o o4 HB5.out (fun e => by
            have h1 := HB5.out
            unfold BoxT at h1
            rw [e, hcb] at h1; cases h1) (by decide))
          have HK4 : Hid (W4.heap[D]? = some (.deferred (some []))) := Lib.hid (o4 D _ HK5.out (fun e => by
            have e := Option.some.inj e
            have h1 := HK5.out
            rw [e, hcb] at h1; cases h1) (fun _ _ e => by cases e))
          clear x10 p0 h4 b4 o4 hcb HSW5 HB5 HK5
          have x10 : W4.cell? ⟨q, 0, none⟩ = some (.int .i64 (i : Int)) := by rw [cell_of_block HS4.out.qb]; rfl
          have p1 : W4.cell? ⟨V.heap.size, 1, none⟩ = some (.int .i64 (s : Int)) := by rw [cell_of_block HB4.out]; rfl
          have fq : W4.frozen? ⟨q, 0, none⟩ = false := unfrozen_of_block HS4.out.qb 0
          have hqW := blk_lt HS4.out.qb
          have hw1 : IntKind.i64.wrap ((i : Int) + (s : Int)) = (i : Int) + (s : Int) := IntWalk.i64_in _ (by omega)
          have HN := Lib.hid (HS4.out.next hq hD2 hDn HK4.out s)
          have HY : Hid (((W4.setCell ⟨q, 0, none⟩ (.int .i64 ((i : Int) + (s : Int)))).alloc (.cells #[.int .i64 ((i : Int) + (s : Int))] 3)).cell? ⟨W4.heap.size, 0, none⟩ = some (.int .i64 ((i : Int) + (s : Int)))) := Lib.hid (by
            rw [cell_of_block HN.out.qb]
            have e : ((i + s : Nat) : Int) = (i : Int) + (s : Int) := by omega
            rw [e]; rfl)
          gi_wp2
          refine ⟨⟨i + s, _, _, D :: ds, rfl, hsn, by omega, hbz, HN.out, HR.out⟩, ?_⟩
          unfold mu6
          simp [HY.out, HX.out]
          omega
    · obtain rfl : i = n := by omega
      have d1 : decide ((i : Int) < (i : Int)) = false := decide_eq_false (by omega)
      gi_wp2_with fail
      refine ⟨trivial, (callsIn_wide.2 (Tryz.Builder_String_any_k w.heap.size W0.heap.size _ _ HW.out.bl HW.out.lm.k.size)).mono ?_⟩
      rintro e' w2 ⟨rfl, h2, b2, o2⟩
      obtain ⟨_, cb, hcb⟩ := bld_blk HW.out.bl
      have HLM := Lib.hid (HW.out.lm.str b2 o2 hcb)
      have hwe : t = bestS N := wrt_end (by rw [HNL.out]; exact HWR.out)
      have HWE := Lib.hid hwe
      clear h2 b2 o2 hcb hwe HWR HW HX
      gi_wp2
      refine leaves_marks (fun W => Below w.heap.size w W) ?_ ?_ ds _ HLM.out.dm HLM.out.k
      · rintro W D hD hk h2
        exact h2.trans (belowK_b (w := w) (Nat.le_refl _) _ D _ _ (by omega) hk rfl rfl)
      · rintro W h2
        refine ⟨_, results_tmp2 (t := 2) (u := 3) rfl _ _ _, ⟨t.toArray⟩, rfl, ?_, h2⟩
        exact HWE.out
/-- List of the program -/
theorem wlist_ok (I : List Int) (a : Option Addr) (c : Nat) (w : World) (hS : SlN w a I) (hc : I.length ≤ c) (hT : T1 w) (hlen : I.length ≤ 4611686018427387904) :
    Calls Tryz.prog 5 #[.slice a I.length c] w (LsPost w (lstL I) (lstE I)) := by
  by_cases hE : lstE I = 0
  · have h5 : ¬ 500 < I.length := fun h => by unfold lstE at hE; rw [if_pos h] at hE; cases hE
    have hany : I.any lsBad = false := by
      cases h : I.any lsBad
      · rfl
      · unfold lstE at hE; rw [if_neg h5, h] at hE; cases hE
    have hL : lstL I = bestS (nats I) := by unfold lstL; rw [if_pos hE]
    have hIN := ints_nats hany
    have hNl : (nats I).length = I.length := by unfold nats; rw [List.length_map]
    have h9 := nats_le hany
    rw [hE, hL]
    have hS2 : SlN w a (ints (nats I)) := by rw [hIN]; exact hS
    exact wlA (nats I) a I.length c w (fun A W hA => wlB (nats I) a I.length c w hS2 h9 hNl (by omega) hc hT A W hA) hS2 h9 hNl (by omega) hc hT
  · exact wlist_bad I a c w hS hc hT hlen hE
end Go.Proofs.YthmknaoelmeniaaGreatDoor

namespace Go.Proofs.YthmknaoelmeniaaGreatDoor
open Go.RowKit Go.Sort Go.Joins Go.Shelf
attribute [local go_sem] cell_grow frozen_grow size_grow

theorem eqL_no {α : Type} [DecidableEq α] {I J : List α} {k : Nat} {d : α} (h : I.getD k d ≠ J.getD k d) : decide (I = J) = false := decide_eq_false fun e => h (by rw [e])
theorem eqL_yes {α : Type} [DecidableEq α] {I J : List α} {d : α} (hl : I.length = J.length) (h : ∀ j, j < I.length → I.getD j d = J.getD j d) : decide (I = J) = true := decide_eq_true (by
  apply List.ext_getElem hl
  intro j h1 h2
  have := h j h1
  rw [List.getD_eq_getElem?_getD, List.getD_eq_getElem?_getD, List.getElem?_eq_getElem h1, List.getElem?_eq_getElem h2] at this
  exact this)
set_option maxRecDepth 100000 in
set_option maxHeartbeats 1600000 in
theorem ints_okL (a b : Option Addr) (ca cb : Nat) (I J : List Int) (w : World) (hI : SlN w a I) (hJ : SlN w b J) (hb : I.length ≤ 4611686018427387904) :
    Calls Tryz.prog 9 #[.slice a I.length ca, .slice b J.length cb] w fun e w' => e = .returned (.bool (decide (I = J))) ∧ Below w.heap.size w w' := by
  have HI := Lib.hid hI
  have HJ := Lib.hid hJ
  obtain ⟨n, hn⟩ : ∃ n, I.length = n := ⟨_, rfl⟩
  obtain ⟨m, hm⟩ : ∃ m, J.length = m := ⟨_, rfl⟩
  rw [hn] at hb
  rw [hn, hm]
  clear hI hJ
  by_cases hl : n = m
  · have HL : Hid (I.length = n ∧ J.length = n) := Lib.hid ⟨hn, by omega⟩
    subst hl
    have hne : ((n : Int) != (n : Int)) = false := by simp
    clear hn hm
    go_enter Tryz.func9, Tryz.ntmps9
    go_wp2
    go_loopw [5] (fun i wr => ∃ k : Nat, i = .int .i64 k ∧ k ≤ n ∧ Hid (Below w.heap.size w wr) ∧ Hid (∀ j, j < k → I.getD j 0 = J.getD j 0)) (fun i _ => n - (intOf i).toNat)
    case atStart => exact ⟨0, rfl, Nat.zero_le _, Lib.hid (Below.refl _ _), Lib.hid (fun j hj => by omega)⟩
    case round =>
      obtain ⟨k, rfl, hk, HB, HA⟩ := hrel
      clear hne
      by_cases hlt : k < n
      · obtain ⟨b1, o1, rfl, g1⟩ := (HI.out.below HB.out).at_ (j := k) (by rw [HL.out.1]; exact hlt)
        obtain ⟨b2, o2, rfl, g2⟩ := (HJ.out.below HB.out).at_ (j := k) (by rw [HL.out.2]; exact hlt)
        have hli : (k : Int) < (n : Int) := by omega
        have hk0 : (0 : Int) ≤ (k : Int) := by omega
        obtain ⟨x, hx⟩ : ∃ x, I.getD k 0 = x := ⟨_, rfl⟩
        obtain ⟨y, hy⟩ : ∃ y, J.getD k 0 = y := ⟨_, rfl⟩
        rw [hx] at g1
        rw [hy] at g2
        have HX := Lib.hid hx
        have HY := Lib.hid hy
        clear hx hy
        by_cases hxy : x = y
        · have d1 : (x != y) = false := by simpa using hxy
          have HXY := Lib.hid hxy
          clear hxy
          go_wp2_with fail
          go_quiet (fail)
          go_wp2
          go_roundw
          case rel => exact ⟨k + 1, by go_num, by omega, Lib.hid (HB.out.trans ((below_draw _ _).mono HB.out.size)), Lib.hid (fun j hj => by
            by_cases ej : j = k
            · rw [ej, HX.out, HY.out]; exact HXY.out
            · exact HA.out j (by omega))⟩
          case measure => simp [intOf]; omega
        · have d1 : (x != y) = true := by simpa using hxy
          have HXY := Lib.hid hxy
          clear hxy
          go_wp2_with fail
          go_quiet (fail)
          go_wp2
          go_ret
          exact ⟨ret_bool (eqL_no (k := k) (d := 0) (by rw [HX.out, HY.out]; exact HXY.out)).symm, HB.out.trans ((below_draw _ _).mono HB.out.size)⟩
      · obtain rfl : k = n := by omega
        go_wp2
        go_ret
        exact ⟨ret_bool (eqL_yes (d := 0) (HL.out.1.trans HL.out.2.symm) (fun j hj => HA.out j (by rw [HL.out.1] at hj; exact hj))).symm, HB.out⟩
  · have hne : ((n : Int) != (m : Int)) = true := by simp; omega
    have HN : Hid (decide (I = J) = false) := Lib.hid (decide_eq_false fun e => hl (by rw [← hn, ← hm, e]))
    clear hn hm
    go_enter Tryz.func9, Tryz.ntmps9
    go_wp2
    go_ret
    exact ⟨ret_bool HN.out.symm, Below.refl _ _⟩
theorem guardF : Tryz.prog.eqGuardType Tryz.prog.depth 39 = false := by kernel_rfl
theorem neq_field' (x y : Bool) (S T : ByteArray) (w : World) : Sem.run Tryz.prog (binOp .neq 39 (.agg #[.bool x, .string S]) (.agg #[.bool y, .string T])) w = .ok (.bool (!(decide (x = y) && decide (S.toList = T.toList)))) w := by
  have u4 := Tryz.underlying4
  have u9 := Tryz.underlying9
  have hS : Tryz.prog.underlying 39 = some (.struct (Tryz.prog.fieldsOf 39)) := by kernel_rfl
  have hp : Tryz.prog.stoodInHeld 39 = false := by kernel_rfl
  rw [run_neq_struct, show (10000 : Nat) = 9999 + 1 from rfl, run_equalIn_agg w 9999 39 _ _ hS hp]
  simp only [Program.fieldsOf, Tryz.underlying39]
  go_simp
  cases x <;> cases y <;> simp <;> (by_cases h : S.toList = T.toList <;> simp [h])
theorem neq_field (x y : Bool) (S T : ByteArray) (w : World) : Sem.run Tryz.prog (binOp .neq 39 (.agg #[.bool x, .string S]) (.agg #[.bool y, .string T])) w = .ok (.bool (!(decide (x = y) && decide (S.data.toList = T.data.toList)))) w := by
  rw [neq_field', Lib.toList_data, Lib.toList_data]
theorem SlF.at_ {w : World} {a : Option Addr} {fs : List Fl} (h : SlF w a fs) {j : Nat} (hj : j < fs.length) : ∃ (b o : Nat) (S : ByteArray), a = some ⟨b, o, none⟩ ∧ w.cell? ⟨b, o + 2 * j, none⟩ = some (.bool (fs.getD j (false, [])).1) ∧ w.cell? ⟨b, o + 2 * j + 1, none⟩ = some (.string S) ∧ S.data.toList = (fs.getD j (false, [])).2 := by
  rcases h with rfl | ⟨b, o, ha, hc⟩
  · simp at hj
  · obtain ⟨h1, S, h2, h3⟩ := hc j hj
    exact ⟨b, o, S, ha, h1, h2, h3⟩
set_option maxRecDepth 100000 in
set_option maxHeartbeats 1600000 in
theorem alike_ok (a b : Option Addr) (ca cb : Nat) (I J : List Fl) (w : World) (hI : SlF w a I) (hJ : SlF w b J) (hb : I.length ≤ 4611686018427387904) :
    Calls Tryz.prog 12 #[.slice a I.length ca, .slice b J.length cb] w fun e w' => e = .returned (.bool (decide (I = J))) ∧ Below w.heap.size w w' := by
  have HI := Lib.hid hI
  have HJ := Lib.hid hJ
  obtain ⟨n, hn⟩ : ∃ n, I.length = n := ⟨_, rfl⟩
  obtain ⟨m, hm⟩ : ∃ m, J.length = m := ⟨_, rfl⟩
  rw [hn] at hb
  rw [hn, hm]
  clear hI hJ
  by_cases hl : n = m
  · have HL : Hid (I.length = n ∧ J.length = n) := Lib.hid ⟨hn, by omega⟩
    subst hl
    have hne : ((n : Int) != (n : Int)) = false := by simp
    clear hn hm
    go_enter Tryz.func12, Tryz.ntmps12
    go_wp2
    go_loopw [5] (fun i wr => ∃ k : Nat, i = .int .i64 k ∧ k ≤ n ∧ Hid (Below w.heap.size w wr) ∧ Hid (∀ j, j < k → I.getD j (false, []) = J.getD j (false, []))) (fun i _ => n - (intOf i).toNat)
    case atStart => exact ⟨0, rfl, Nat.zero_le _, Lib.hid (Below.refl _ _), Lib.hid (fun j hj => by omega)⟩
    case round =>
      obtain ⟨k, rfl, hk, HB, HA⟩ := hrel
      clear hne
      by_cases hlt : k < n
      · obtain ⟨b1, o1, S1, rfl, g1, g1s, e1⟩ := (HI.out.below HB.out).at_ (j := k) (by rw [HL.out.1]; exact hlt)
        obtain ⟨b2, o2, S2, rfl, g2, g2s, e2⟩ := (HJ.out.below HB.out).at_ (j := k) (by rw [HL.out.2]; exact hlt)
        have hli : (k : Int) < (n : Int) := by omega
        have hk0 : (0 : Int) ≤ (k : Int) := by omega
        obtain ⟨x, hx⟩ : ∃ x, (I.getD k (false, [])).1 = x := ⟨_, rfl⟩
        obtain ⟨y, hy⟩ : ∃ y, (J.getD k (false, [])).1 = y := ⟨_, rfl⟩
        rw [hx] at g1
        rw [hy] at g2
        have HX : Hid (I.getD k (false, []) = (x, S1.data.toList)) := Lib.hid (Prod.ext hx e1.symm)
        have HY : Hid (J.getD k (false, []) = (y, S2.data.toList)) := Lib.hid (Prod.ext hy e2.symm)
        rw [Nat.mul_comm] at g1 g1s g2 g2s
        clear hx hy e1 e2
        have hgd := guardF
        have hnq := neq_field x y S1 S2
        obtain ⟨r, hr⟩ : ∃ r, (decide (x = y) && decide (S1.data.toList = S2.data.toList)) = r := ⟨_, rfl⟩
        rw [hr] at hnq
        have HR := Lib.hid hr
        clear hr
        cases r
        · go_wp2_with fail
          go_quiet (fail)
          go_wp2
          go_ret
          exact ⟨ret_bool (eqL_no (k := k) (d := (false, [])) (by
            rw [HX.out, HY.out]
            intro e
            have h := HR.out
            rw [decide_eq_true (congrArg Prod.fst e), decide_eq_true (congrArg Prod.snd e)] at h
            cases h)).symm, HB.out.trans ((below_draw _ _).mono HB.out.size)⟩
        · go_wp2_with fail
          go_quiet (fail)
          go_wp2
          go_roundw
          case rel => exact ⟨k + 1, by go_num, by omega, Lib.hid (HB.out.trans ((below_draw _ _).mono HB.out.size)), Lib.hid (fun j hj => by
            by_cases ej : j = k
            · rw [ej, HX.out, HY.out]
              have h := HR.out
              rw [Bool.and_eq_true, decide_eq_true_eq, decide_eq_true_eq] at h
              rw [h.1, h.2]
            · exact HA.out j (by omega))⟩
          case measure => simp [intOf]; omega
      · obtain rfl : k = n := by omega
        go_wp2
        go_ret
        exact ⟨ret_bool (eqL_yes (d := (false, [])) (HL.out.1.trans HL.out.2.symm) (fun j hj => HA.out j (by rw [HL.out.1] at hj; exact hj))).symm, HB.out⟩
  · have hne : ((n : Int) != (m : Int)) = true := by simp; omega
    have HN : Hid (decide (I = J) = false) := Lib.hid (decide_eq_false fun e => hl (by rw [← hn, ← hm, e]))
    clear hn hm
    go_enter Tryz.func12, Tryz.ntmps12
    go_wp2
    go_ret
    exact ⟨ret_bool HN.out.symm, Below.refl _ _⟩
theorem news2 {W : World} {g : Nat} {x : Bool} {S : ByteArray} {t : TypeId} (h : W.heap[g]? = some (.cells #[.bool x, .string S] t (0, 0))) : ∀ (j : Nat) (u : Value), ([.bool x, .string S] : List Value)[j]? = some u → W.cell? ((⟨g, 0, none⟩ : Addr).add j) = some u := by
  intro j u hj
  match j, hj with
  | 0, hj => simp at hj; subst hj; rw [show (⟨g, 0, none⟩ : Addr).add 0 = ⟨g, 0, none⟩ from rfl, cell_of_block h]; rfl
  | 1, hj => simp at hj; subst hj; rw [show (⟨g, 0, none⟩ : Addr).add 1 = ⟨g, 1, none⟩ from rfl, cell_of_block h]; rfl
theorem one2 {x : Bool} {S : ByteArray} : ∀ u ∈ ([.bool x, .string S] : List Value), u.oneCell' = true := by
  intro u hu
  simp at hu
  rcases hu with rfl | rfl <;> rfl
theorem cell_grown {W W' : World} {row : Option Nat} {p : Addr} {v : Value} (hg : W.grownBy W' row) (hc : W.cell? p = some v) (hne : some p.block ≠ row) : W'.cell? p = some v :=
  (World.cell?_of_block (w := W) (hg.block _ (World.block_lt_of_cell? _ _ hc) hne)).trans hc
set_option maxRecDepth 100000 in
set_option maxHeartbeats 3200000 in
theorem fields_ok (a : Option Addr) (ca : Nat) (I : List Fl) (w : World) (hI : SlF w a I) (hb : I.length ≤ 1000000) :
    Calls Tryz.prog 13 #[.slice a I.length ca] w fun e w' => ∃ a' c', e = .returned (.slice a' I.length c') ∧ SlF w' a' I ∧ Below w.heap.size w w' := by
  obtain ⟨i0, hi0, hz0, hz1, hz2'⟩ := info_parts info_field
  have HI := Lib.hid hI
  obtain ⟨n, hn⟩ : ∃ n, I.length = n := ⟨_, rfl⟩
  have HN := Lib.hid hn
  rw [hn] at hb ⊢
  clear hI hn
  go_enter Tryz.func13, Tryz.ntmps13
  go_wp2
  go_loopw [3, 4] (fun s i wr => ∃ (k : Nat) (X : List (Bool × ByteArray)) (a' : Option Addr) (c' : Nat), s = .slice a' k c' ∧ i = .int .i64 k ∧ k ≤ n ∧ Hid (X.length = k ∧ fls X = I.take k) ∧ Hid (wr.ownsRow w.heap.size 39 2 (.slice a' k c') k (flc X)) ∧ Hid (Below w.heap.size w wr)) (fun _ i _ => n - (intOf i).toNat)
  case atStart => exact ⟨0, [], none, 0, rfl, rfl, Nat.zero_le _, Lib.hid ⟨rfl, rfl⟩, Lib.hid (World.ownsRow_nil _ _ _ _), Lib.hid (Below.refl _ _)⟩
  case round =>
    obtain ⟨k, X, a', c', rfl, rfl, hk, HX, HO, HB⟩ := hrel
    by_cases hlt : k < n
    · obtain ⟨b1, o1, S1, rfl, g1, g1s, e1⟩ := (HI.out.below HB.out).at_ (j := k) (by rw [HN.out]; exact hlt)
      have hli : (k : Int) < (n : Int) := by omega
      have hk0 : (0 : Int) ≤ (k : Int) := by omega
      obtain ⟨x, hx⟩ : ∃ x, (I.getD k (false, [])).1 = x := ⟨_, rfl⟩
      rw [hx] at g1
      have HE : Hid (I[k]? = some (x, S1.data.toList)) := Lib.hid (by
        rw [List.getElem?_eq_getElem (by rw [HN.out]; exact hlt)]
        have h : I.getD k (false, []) = (x, S1.data.toList) := Prod.ext hx e1.symm
        rw [List.getD_eq_getElem?_getD, List.getElem?_eq_getElem (by rw [HN.out]; exact hlt)] at h
        exact congrArg some h)
      rw [Nat.mul_comm] at g1 g1s
      clear hx e1
      have hb1 : b1 < wr.heap.size := World.block_lt_of_cell? _ _ g1
      have hb0 : b1 < w.heap.size := by
        obtain ⟨b2, o2, S2, e, g2, _⟩ := HI.out.at_ (j := k) (by rw [HN.out]; exact hlt)
        cases e
        exact World.block_lt_of_cell? _ _ g2
      have hnb : some b1 ≠ (Value.slice a' k c').ownBlock := fun e => by have := (HO.out.lt _ e.symm).1; omega
      have hB0 := Lib.hid HB.out.size
      go_wp2_with fail
      go_region_held3 (fun w' => w'.cell? ⟨b1, o1 + k * 2, none⟩ = some (.bool x) ∧ w'.cell? ⟨b1, o1 + k * 2 + 1, none⟩ = some (.string S1)) (first | go_keep | (exact ⟨cell_grown hgr (by go_keep) hnb, cell_grown hgr (by go_keep) hnb⟩))
        ((refine step_append_lies _ rfl (.tmp 11) (.tmp 23) 36 rfl w.heap.size 39 i0 (.agg #[.bool false, .string ⟨#[]⟩]) 2 24 Tryz.underlying36 hi0 hz0 hz1 hz2' rfl (by decide) (.slice a' k c') k (flc X) rfl (HO.out.alloc _) ⟨wr.heap.size, 0, none⟩ 1 1 [.bool x, .string S1] rfl rfl (news2 (heap_alloc_new wr _)) one2 (by decide) (by unfold maxLen; omega) (by omega) (by simp; have := hB0.out; omega) _ rfl ?_; intro g cap w' ho hgr hg1 hg2))
      have hbw : Below w.heap.size w w' := (HB.out.alloc HB.out.size _).drew.grown hgr (by simp; have := hB0.out; omega) (fun r e => (HO.out.lt _ e).1)
      have HO2 : Hid (w'.ownsRow w.heap.size 39 2 (.slice (some ⟨g, 0, none⟩) (k + 1) cap) (k + 1) (flc (X ++ [(x, S1)]))) := Lib.hid (by rw [flc_snoc]; exact ho)
      have HBW := Lib.hid hbw
      clear ho hgr hg1 hg2 hbw
      go_wp2
      go_roundw
      case rel => exact ⟨k + 1, X ++ [(x, S1)], some ⟨g, 0, none⟩, cap, rfl, by go_num, hlt, Lib.hid ⟨by rw [List.length_append, HX.out.1]; rfl, by rw [fls_snoc, HX.out.2, take_snoc HE.out]⟩, HO2, HBW⟩
      case measure => simp [intOf]; omega
    · obtain rfl : k = n := by omega
      go_wp2
      go_ret
      refine ⟨a', c', rfl, ?_, HB.out⟩
      have h := SlF.of_own (X := X) (a := a') (len := k) (cap := c') (by rw [HX.out.1]; exact HO.out)
      rw [HX.out.2, List.take_of_length_le (by rw [HN.out]; exact Nat.le_refl _)] at h
      exact h
end Go.Proofs.YthmknaoelmeniaaGreatDoor

namespace Go.Proofs.YthmknaoelmeniaaGreatDoor
open Go.RowKit Go.Sort Go.Joins Go.Shelf

theorem dd (n : Nat) (h : n < 10) : Lib.decDigits n = [UInt8.ofNat (48 + n)] := Lib.decDigits_one h
def exA : List Int := [1, 2, 3, 7]
def exB : List Int := [1, 2, 3, 3, 3]
theorem best_by {N : List Nat} {s : List UInt8} (h : ∀ x, x ∈ candL N → ltS x (s ++ [44]) = false) (hm : s ++ [44] ∈ candL N) (hN : N ≠ []) : bestC N = s ++ [44] := by
  rw [bestC_eq hN]
  exact pick_is hm h
theorem c7 : bestC [7] = [55, 44] := by
  refine best_by (s := [55]) ?_ ?_ (by decide) <;> simp [candL, itemsL, runU, runA, dd, bestC_nil] <;> decide
theorem c37 : bestC [3, 7] = [51, 44, 55, 44] := by
  refine best_by (s := [51, 44, 55]) ?_ ?_ (by decide) <;> simp [candL, itemsL, runU, runA, dd, c7] <;> decide
theorem c237 : bestC [2, 3, 7] = [50, 44, 51, 44, 55, 44] := by
  refine best_by (s := [50, 44, 51, 44, 55]) ?_ ?_ (by decide) <;> simp [candL, itemsL, runU, runA, upI, dd, c7, c37, List.range_succ] <;> decide
theorem c1237 : bestC [1, 2, 3, 7] = [49, 45, 51, 44, 55, 44] := by
  refine best_by (s := [49, 45, 51, 44, 55]) ?_ ?_ (by decide) <;> simp [candL, itemsL, runU, runA, upI, dd, c7, c37, c237, List.range_succ] <;> decide
theorem c3 : bestC [3] = [51, 44] := by
  refine best_by (s := [51]) ?_ ?_ (by decide) <;> simp [candL, itemsL, runU, runA, dd, bestC_nil] <;> decide
theorem c33 : bestC [3, 3] = [50, 120, 51, 44] := by
  refine best_by (s := [50, 120, 51]) ?_ ?_ (by decide) <;> simp [candL, itemsL, runU, runA, alI, dd, c3, bestC_nil, List.range_succ] <;> decide
theorem c333 : bestC [3, 3, 3] = [51, 120, 51, 44] := by
  refine best_by (s := [51, 120, 51]) ?_ ?_ (by decide) <;> simp [candL, itemsL, runU, runA, alI, dd, c3, c33, bestC_nil, List.range_succ] <;> decide
theorem c2333 : bestC [2, 3, 3, 3] = [50, 44, 51, 120, 51, 44] := by
  refine best_by (s := [50, 44, 51, 120, 51]) ?_ ?_ (by decide) <;> simp [candL, itemsL, runU, runA, upI, dd, c33, c333, List.range_succ] <;> decide
theorem c12333 : bestC [1, 2, 3, 3, 3] = [49, 44, 50, 44, 51, 120, 51, 44] := by
  refine best_by (s := [49, 44, 50, 44, 51, 120, 51]) ?_ ?_ (by decide) <;> simp [candL, itemsL, runU, runA, upI, dd, c33, c333, c2333, List.range_succ] <;> decide
theorem exA_E : lstE exA = 0 := by decide
theorem exA_L : lstL exA = [49, 45, 51, 44, 55] := by
  unfold lstL
  rw [if_pos exA_E]
  unfold bestS
  rw [show nats exA = [1, 2, 3, 7] from rfl, c1237]; rfl
theorem exB_E : lstE exB = 0 := by decide
theorem exB_L : lstL exB = [49, 44, 50, 44, 51, 120, 51] := by
  unfold lstL
  rw [if_pos exB_E]
  unfold bestS
  rw [show nats exB = [1, 2, 3, 3, 3] from rfl, c12333]; rfl
def exP : List UInt8 := [53, 45, 55, 44, 50, 120, 57]
theorem exP_E : plE exP = 0 := by decide
theorem exP_L : plL exP = [5, 6, 7, 9, 9] := by decide
def exQ : List UInt8 := [115, 97, 121, 32, 34, 97, 34]
theorem exQ_E : qtE exQ = 0 := by decide
theorem exQ_V : qtV exQ = [34, 115, 97, 121, 32, 34, 34, 97, 34, 34, 34] := by decide
def exS : List UInt8 := [99, 114, 101, 97, 116, 101, 32, 34, 109, 97, 105, 110, 32, 97, 114, 101, 110, 97, 34, 32, 49]
theorem exS_E : splE exS = 0 := by decide
theorem exS_R : splR exS = [(false, [99, 114, 101, 97, 116, 101]), (true, [109, 97, 105, 110, 32, 97, 114, 101, 110, 97]), (false, [49])] := by decide
end Go.Proofs.YthmknaoelmeniaaGreatDoor

namespace Go.Proofs.YthmknaoelmeniaaGreatDoor
open Go.RowKit Go.Sort Go.Joins Go.Shelf
attribute [local go_sem] cell_grow frozen_grow size_grow

theorem ba_lit {S : ByteArray} {l : List UInt8} (h : S.data.toList = l) : S = ⟨l.toArray⟩ := by
  apply ByteArray.ext
  rw [← h]
theorem SlN.ints_ {w : World} {k : Nat} {vs : List Int} {t : TypeId} (h : w.heap[k]? = some (.cells (vs.map (Value.int .i64)).toArray t (0, 0))) : SlN w (some ⟨k, 0, none⟩) vs := by
  refine .inr ⟨k, 0, rfl, fun j hj => ?_⟩
  rw [cell_of_block h, Nat.zero_add, List.getElem?_toArray, List.getElem?_map, List.getElem?_eq_getElem hj, List.getD_eq_getElem?_getD, List.getElem?_eq_getElem hj]
  rfl
theorem SlF.three {w : World} {k : Nat} {x y z : Bool} {X Y Z : ByteArray} {t : TypeId} (h : w.heap[k]? = some (.cells #[.bool x, .string X, .bool y, .string Y, .bool z, .string Z] t (0, 0))) : SlF w (some ⟨k, 0, none⟩) [(x, X.data.toList), (y, Y.data.toList), (z, Z.data.toList)] := by
  refine .inr ⟨k, 0, rfl, fun j hj => ?_⟩
  match j, hj with
  | 0, _ => exact ⟨by rw [cell_of_block h]; rfl, X, by rw [cell_of_block h]; rfl, rfl⟩
  | 1, _ => exact ⟨by rw [cell_of_block h]; rfl, Y, by rw [cell_of_block h]; rfl, rfl⟩
  | 2, _ => exact ⟨by rw [cell_of_block h]; rfl, Z, by rw [cell_of_block h]; rfl, rfl⟩
set_option maxRecDepth 100000 in
set_option maxHeartbeats 3200000 in
theorem shown_ok (w : World) (hT : T1 w) : Calls Tryz.prog 4 #[] w fun e w' => e = .returned (.bool true) ∧ Below w.heap.size w w' := by
  have HT := Lib.hid hT
  have hS0 : SlN (w.alloc (.cells #[.int .i64 1, .int .i64 2, .int .i64 3, .int .i64 7] 3)) (some ⟨w.heap.size, 0, none⟩) exA := SlN.ints_ (heap_alloc_new w _)
  have HS0 := Lib.hid hS0
  have HB0 := Lib.hid (below_box0 w (.cells #[.int .i64 1, .int .i64 2, .int .i64 3, .int .i64 7] 3))
  clear hS0 hT
  go_enter Tryz.func4, Tryz.ntmps4
  go_wp2_with fail
  refine (wlist_ok exA _ 4 _ HS0.out (by decide) (HT.out.below HB0.out) (by decide)).mono ?_
  rintro e w1 ⟨S1, rfl, h1, b1⟩
  rw [exA_L] at h1
  rw [exA_E, ba_lit h1]
  have HB1 := Lib.hid (HB0.out.trans (b1.mono HB0.out.size))
  clear h1 b1 HS0 HB0
  go_wp2_with fail
  have hS0 : SlN (w1.alloc (.cells #[.int .i64 1, .int .i64 2, .int .i64 3, .int .i64 3, .int .i64 3] 3)) (some ⟨w1.heap.size, 0, none⟩) exB := SlN.ints_ (heap_alloc_new w1 _)
  have b0 := below_box0 w1 (.cells #[.int .i64 1, .int .i64 2, .int .i64 3, .int .i64 3, .int .i64 3] 3)
  refine (wlist_ok exB _ 5 _ hS0 (by decide) ((HT.out.below HB1.out).below b0) (by decide)).mono ?_
  rintro e w2 ⟨S2, rfl, h2, b2⟩
  rw [exB_L] at h2
  rw [exB_E, ba_lit h2]
  have HB2 := Lib.hid (HB1.out.trans ((b0.trans (b2.mono b0.size)).mono HB1.out.size))
  clear h2 b2 b0 hS0 HB1
  go_wp2_with fail
  refine (wparse_ok ⟨#[53, 45, 55, 44, 50, 120, 57]⟩ exP rfl (by decide) _ (HT.out.below HB2.out).ml (HT.out.below HB2.out).tw).mono ?_
  rintro e w3 ⟨a3, c3, rfl, s3, b3⟩
  rw [exP_L] at s3 ⊢
  rw [exP_E]
  have HB3 := Lib.hid (HB2.out.trans (b3.mono HB2.out.size))
  have HS3 := Lib.hid s3
  clear s3 b3 HB2
  go_wp2_with fail
  refine (wquote_ok ⟨#[115, 97, 121, 32, 34, 97, 34]⟩ exQ rfl (by decide) _ (HT.out.below HB3.out).ml).mono ?_
  rintro e w4 ⟨S4, rfl, h4, b4⟩
  rw [exQ_V] at h4
  rw [exQ_E, ba_lit h4]
  have HB4 := Lib.hid (HB3.out.trans (b4.mono HB3.out.size))
  have HS4 := Lib.hid (HS3.out.below b4)
  clear h4 b4 HB3 HS3
  go_wp2_with fail
  refine (wsplit_ok ⟨#[99, 114, 101, 97, 116, 101, 32, 34, 109, 97, 105, 110, 32, 97, 114, 101, 110, 97, 34, 32, 49]⟩ exS rfl (by decide) _ (HT.out.below HB4.out).ml).mono ?_
  rintro e w5 ⟨a5, c5, rfl, s5, b5⟩
  rw [exS_R] at s5 ⊢
  rw [exS_E]
  have HB5 := Lib.hid (HB4.out.trans (b5.mono HB4.out.size))
  have HS5 := Lib.hid (HS4.out.below b5)
  have HF5 := Lib.hid s5
  clear s5 b5 HB4 HS4
  go_wp2_with fail
  have b0 := below_box0 w5 (.cells #[.int .i64 5, .int .i64 6, .int .i64 7, .int .i64 9, .int .i64 9] 3)
  refine (ints_okL _ _ _ 5 (ints [5, 6, 7, 9, 9]) [5, 6, 7, 9, 9] _ (HS5.out.below b0) (SlN.ints_ (heap_alloc_new w5 _)) (by decide)).mono ?_
  rintro e w6 ⟨rfl, b6⟩
  rw [show decide (ints [5, 6, 7, 9, 9] = [5, 6, 7, 9, 9]) = true from rfl]
  have HB6 := Lib.hid (HB5.out.trans ((b0.trans (b6.mono b0.size)).mono HB5.out.size))
  have HF6 := Lib.hid ((HF5.out.below b0).below b6)
  clear b0 b6 HB5 HF5 HS5
  go_wp2_with fail
  refine (fields_ok _ _ _ _ HF6.out (by decide)).mono ?_
  rintro e w7 ⟨a7, c7, rfl, s7, b7⟩
  have HB7 := Lib.hid (HB6.out.trans (b7.mono HB6.out.size))
  have HF7 := Lib.hid s7
  clear s7 b7 HB6 HF6
  go_wp2_with fail
  have b0 := below_box0 w7 (.cells #[.bool false, .string ⟨#[99, 114, 101, 97, 116, 101]⟩, .bool true, .string ⟨#[109, 97, 105, 110, 32, 97, 114, 101, 110, 97]⟩, .bool false, .string ⟨#[49]⟩] 39)
  refine (alike_ok _ _ _ 3 _ [(false, [99, 114, 101, 97, 116, 101]), (true, [109, 97, 105, 110, 32, 97, 114, 101, 110, 97]), (false, [49])] _ (HF7.out.below b0) (SlF.three (heap_alloc_new w7 _)) (by decide)).mono ?_
  rintro e w8 ⟨rfl, b8⟩
  rw [decide_eq_true rfl]
  have HB8 := Lib.hid (HB7.out.trans ((b0.trans (b8.mono b0.size)).mono HB7.out.size))
  clear b0 b8 HB7 HF7
  go_wp2
  go_ret
  exact ⟨rfl, HB8.out⟩
end Go.Proofs.YthmknaoelmeniaaGreatDoor
