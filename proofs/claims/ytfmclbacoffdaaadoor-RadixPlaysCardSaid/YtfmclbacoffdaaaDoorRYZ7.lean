/- The radix map: Set and Clear of the reference. | The radix map: Set and Clear of the reference, the loops. | The radix map: same, sameRuns of the law: of equal lists. | The radix map: Owned of the reference. -/
import Derived.Test.YtfmclbacoffdaaaDoorRYZ6
import Derived.Test.YtfmclbacoffdaaaDoorRSZ5
import Derived.Test.YtfmclbacoffdaaaDoorRZ8
import Derived.Test.YtfmclbacoffdaaaDoorRZ9
import Derived.Test.YtfmclbacoffdaaaDoorRWZ2
import Derived.Deep.QuietTactic
import Derived.BigQuiet
namespace Go.Proofs.YtfmclbacoffdaaaDoor
open Go.RowKit Go.Sort Go.Joins
attribute [local go_sem] cell_grow frozen_grow size_grow
section
variable {w : World} {B g n c : Nat} {m : Int} {K L : Nat → Value} {X : RM} {p x : Nat}
theorem RInv.m_le (h : RInv X) : X.m ≤ X.st.length := by rw [h.cn]; exact cnt_le X.r 0 _
theorem rput_yes (h : OSt w B (.slice (some ⟨g, 0, none⟩) n c) K L (stS X)) (hI : RInv X) (hN : NrS X.st) (hn : n = X.st.length) (hn2 : n ≤ 145) (hp : p < 1024) (hB0 : B ≤ w.heap.size) (hr : X.m + rq X p ≤ n) :
    Calls Tryd.prog 71 #[.agg #[.int .i64 m, .slice (some ⟨g, 0, none⟩) n c], .int .i64 p, .int .u64 x] w fun e w' => e = .returned (.bool true) ∧ (∃ K' L', OSt w' B (.slice (some ⟨g, 0, none⟩) n c) K' L' (stS (putM X x p))) ∧ Below B w w' ∧ KpS w w' := by
  by_cases h1 : mdI X.st p = 0
  · have h2 : lfI X.st p = 0 := by unfold lfI; rw [if_pos h1]
    exact rput_both h hI hN hn hn2 hp hB0 h1 (by unfold rq at hr; rw [if_pos h1, if_pos h2] at hr; omega)
  · by_cases h2 : lfI X.st p = 0
    · exact rput_leaf h hI hN hn hn2 hp hB0 h1 h2 (by unfold rq at hr; rw [if_neg h1, if_pos h2] at hr; omega)
    · exact rput_word h hI hN hn hn2 hp hB0 h2
theorem rput_no (h : OSt w B (.slice (some ⟨g, 0, none⟩) n c) K L (stS X)) (hI : RInv X) (hN : NrS X.st) (hn : n = X.st.length) (hn2 : n ≤ 145) (hp : p < 1024) (hB0 : B ≤ w.heap.size) (hr : n < X.m + rq X p) :
    Calls Tryd.prog 71 #[.agg #[.int .i64 m, .slice (some ⟨g, 0, none⟩) n c], .int .i64 p, .int .u64 x] w fun e w' => e = .returned (.bool false) ∧ Below B w w' ∧ KpS w w' := by
  have hm := hI.m_le
  by_cases h1 : mdI X.st p = 0
  · have h2 : lfI X.st p = 0 := by unfold lfI; rw [if_pos h1]
    unfold rq at hr
    rw [if_pos h1, if_pos h2] at hr
    by_cases h3 : n ≤ X.m
    · exact rput_no0 h hI hN hn hn2 hp hB0 h1 h3
    · exact rput_no1 h hI hN hn hn2 hp hB0 h1 (by omega)
  · by_cases h2 : lfI X.st p = 0
    · exact rput_noL h hI hN hn hn2 hp hB0 h1 h2 (by unfold rq at hr; rw [if_neg h1, if_pos h2] at hr; omega)
    · exfalso
      unfold rq at hr
      rw [if_neg h1, if_neg h2] at hr
      omega
theorem rdrop_ok (h : OSt w B (.slice (some ⟨g, 0, none⟩) n c) K L (stS X)) (hA : RAll X) (hn : n = X.st.length) (hn2 : n ≤ 145) (hp : p < 1024) (hB0 : B ≤ w.heap.size) :
    Calls Tryd.prog 69 #[.agg #[.int .i64 m, .slice (some ⟨g, 0, none⟩) n c], .int .i64 p] w fun e w' => e = .returned (.tuple #[]) ∧ (∃ K' L', OSt w' B (.slice (some ⟨g, 0, none⟩) n c) K' L' (stS (clrM X p))) ∧ Below B w w' ∧ KpS w w' := by
  by_cases h1 : lfI X.st p = 0
  · exact rdrop_none h hA.i hn hn2 hp hB0 h1
  · exact rdrop_some h hA hn hn2 hp hB0 h1
end
theorem rpart_ok (f t : Int) (w : World) : Calls Tryd.prog 67 #[.int .i64 f, .int .i64 t] w fun e w' => e = .returned (.bool (decide (paE f t = 0))) ∧ w = w' := by
  have hw : (Hid (decide (paE f t = 0) = false) ∧ decide (0 ≤ f) = false) ∨ (Hid (decide (paE f t = 0) = false) ∧ decide (0 ≤ f) = true ∧ decide (f ≤ t) = false) ∨ (Hid (decide (paE f t = 0) = false) ∧ decide (0 ≤ f) = true ∧ decide (f ≤ t) = true ∧ decide (t ≤ 1024) = false) ∨ (Hid (decide (paE f t = 0) = true) ∧ decide (0 ≤ f) = true ∧ decide (f ≤ t) = true ∧ decide (t ≤ 1024) = true) := by
    unfold paE
    by_cases h1 : 0 ≤ f
    · by_cases h2 : f ≤ t
      · by_cases h3 : t ≤ 1024
        · exact .inr (.inr (.inr ⟨Lib.hid (by rw [if_neg (by omega)]; rfl), decide_eq_true h1, decide_eq_true h2, decide_eq_true h3⟩))
        · exact .inr (.inr (.inl ⟨Lib.hid (by rw [if_pos (by omega)]; rfl), decide_eq_true h1, decide_eq_true h2, decide_eq_false h3⟩))
      · exact .inr (.inl ⟨Lib.hid (by rw [if_pos (by omega)]; rfl), decide_eq_true h1, decide_eq_false h2⟩)
    · exact .inl ⟨Lib.hid (by rw [if_pos (by omega)]; rfl), decide_eq_false h1⟩
  rcases hw with ⟨HE, d1⟩ | ⟨HE, d1, d2⟩ | ⟨HE, d1, d2, d3⟩ | ⟨HE, d1, d2, d3⟩
  all_goals
    go_enter Tryd.func67, Tryd.ntmps67
    go_wp2
    go_ret
    exact ⟨by rw [HE.out]; rfl, rfl⟩
/-- what Set and Clear hold: the state given, the result's box, and the copy -/
structure StL (w wr : World) (r B b : Nat) (m : Int) (a : Option Addr) (c0 n g c : Nat) (X : RM) : Prop where
  b4 : wr.heap[w.heap.size]? = some (.cells #[.int .i64 m, .slice a n c0] 45 (0, 0))
  b8 : wr.heap[r]? = some (.cells #[.int .i64 0, .slice none 0 0] 45 (0, 0))
  bx : wr.heap[b]? = some (.cells #[.int .i64 m, .slice (some ⟨g, 0, none⟩) n c] 45 (0, 0))
  st : ∃ K L, OSt wr B (.slice (some ⟨g, 0, none⟩) n c) K L (stS X)
  k : Below w.heap.size w wr
  hB : r < B
  hw : w.heap.size < r
  hb : B ≤ b
section
variable {w wr w' : World} {r B b : Nat} {m : Int} {a : Option Addr} {c0 n g c : Nat} {X Y : RM}
theorem StL.next (h : StL w wr r B b m a c0 n g c X) (hs : ∃ K L, OSt w' B (.slice (some ⟨g, 0, none⟩) n c) K L (stS Y)) (hk : Below B wr w') (hp : KpS wr w') : StL w w' r B b m a c0 n g c Y :=
  ⟨hp _ _ h.b4, hp _ _ h.b8, hp _ _ h.bx, hs, h.k.trans (hk.mono (by have := h.hB; have := h.hw; omega)), h.hB, h.hw, h.hb⟩
/-- the copy is the answer -/
theorem StL.give (h : StL w wr r B b m a c0 n g c X) : (∃ K L, OSt ((wr.setCell ⟨r, 0, none⟩ (.int .i64 m)).setCell ⟨r, 1, none⟩ (.slice (some ⟨g, 0, none⟩) n c)) w.heap.size (.slice (some ⟨g, 0, none⟩) n c) K L (stS X)) ∧
    Below w.heap.size w ((wr.setCell ⟨r, 0, none⟩ (.int .i64 m)).setCell ⟨r, 1, none⟩ (.slice (some ⟨g, 0, none⟩) n c)) := by
  obtain ⟨K, L, hs⟩ := h.st
  have hw := h.hw
  have hB := h.hB
  refine ⟨⟨K, L, ?_⟩, (h.k.setCell (p := ⟨r, 0, none⟩) (by dsimp only; omega) _).setCell (p := ⟨r, 1, none⟩) (by dsimp only; omega) _⟩
  exact ((hs.setBelow (a := ⟨r, 0, none⟩) (by dsimp only; omega) _).setBelow (a := ⟨r, 1, none⟩) (by dsimp only; omega) _).le (by omega)
end
section
variable {w : World} {a : Option Addr} {n c : Nat} {m : Int} {X : RM} {f t o s d : Int} {z : Bool}
set_option maxRecDepth 100000 in
set_option maxHeartbeats 1600000 in
theorem rset_part (hE : paE f t ≠ 0) :
    Calls Tryd.prog 59 #[.agg #[.int .i64 m, .slice a n c], .int .i64 f, .int .i64 t, dsV o s d z] w fun e w' => e = .returned (.tuple #[.agg #[.int .i64 m, .slice a n c], .int .i64 7]) ∧ Below w.heap.size w w' := by
  have hB3 : Below w.heap.size w (((w.alloc (.cells #[.int .i64 m, .slice a n c] 45)).alloc (.cells #[.int .i64 o, .int .i64 s, .int .i64 d, .bool z] 23)).alloc (.cells #[.int .i64 0, .slice none 0 0] 45)) :=
    (((Below.refl _ w).alloc (Nat.le_refl _) _).alloc (by simp) _).alloc (by simp; omega) _
  have N0 : ∀ (W : World) (A : Array Value) (t : TypeId) (k : Nat), k = W.heap.size → (W.alloc (.cells A t)).heap[k]? = some (.cells A t (0, 0)) := fun W A t k e => by rw [e]; exact heap_alloc_new W _
  have h4 : (((w.alloc (.cells #[.int .i64 m, .slice a n c] 45)).alloc (.cells #[.int .i64 o, .int .i64 s, .int .i64 d, .bool z] 23)).alloc (.cells #[.int .i64 0, .slice none 0 0] 45)).heap[w.heap.size]? = some (.cells #[.int .i64 m, .slice a n c] 45 (0, 0)) := by
    refine (Below.heap_alloc _ _ _ (by simp <;> omega)).trans ?_; refine (Below.heap_alloc _ _ _ (by simp <;> omega)).trans ?_; exact heap_alloc_new w _
  have h8 : (((w.alloc (.cells #[.int .i64 m, .slice a n c] 45)).alloc (.cells #[.int .i64 o, .int .i64 s, .int .i64 d, .bool z] 23)).alloc (.cells #[.int .i64 0, .slice none 0 0] 45)).heap[w.heap.size + 1 + 1]? = some (.cells #[.int .i64 0, .slice none 0 0] 45 (0, 0)) := N0 _ _ _ _ (by simp)
  have HP := Lib.hid (rpart_ok f t)
  rw [decide_eq_false hE] at HP
  have HB := Lib.hid hB3
  have H4 := Lib.hid h4
  have H8 := Lib.hid h8
  clear hB3 N0 h4 h8 hE
  go_enter Tryd.func59, Tryd.ntmps59
  go_wp2_with fail
  generalize World.alloc _ _ = W0 at HB H4 H8 ⊢
  refine (HP.out _).mono ?_
  rintro e w1 ⟨rfl, rfl⟩
  have k0 : W0.cell? ⟨w.heap.size, 0, none⟩ = some (.int .i64 m) := by rw [cell_of_block H4.out]; rfl
  have k1 : W0.cell? ⟨w.heap.size, 1, none⟩ = some (.slice a n c) := by rw [cell_of_block H4.out]; rfl
  have r0 : W0.cell? ⟨w.heap.size + 1 + 1, 0, none⟩ = some (.int .i64 0) := by rw [cell_of_block H8.out]; rfl
  have r1 : W0.cell? ⟨w.heap.size + 1 + 1, 1, none⟩ = some (.slice none 0 0) := by rw [cell_of_block H8.out]; rfl
  have rf : ∀ k, W0.frozen? ⟨w.heap.size + 1 + 1, k, none⟩ = false := fun k => unfrozen_of_block H8.out k
  go_wp2
  refine bodyPost_ret (v := .tuple #[.agg #[.int .i64 m, .slice a n c], .int .i64 7]) (by simp [results, Tryd.results59, go_sem, r0, r1]) rfl ?_
  exact ⟨rfl, (HB.out.setCell (p := ⟨w.heap.size + 1 + 1, 0, none⟩) (by dsimp only; omega) _).setCell (p := ⟨w.heap.size + 1 + 1, 1, none⟩) (by dsimp only; omega) _⟩
set_option maxRecDepth 100000 in
set_option maxHeartbeats 1600000 in
theorem rset_pack (hE : paE f t = 0) (hK : pkE o s d ≠ 0) :
    Calls Tryd.prog 59 #[.agg #[.int .i64 m, .slice a n c], .int .i64 f, .int .i64 t, dsV o s d z] w fun e w' => e = .returned (.tuple #[.agg #[.int .i64 m, .slice a n c], .int .i64 (pkE o s d)]) ∧ Below w.heap.size w w' := by
  have hB3 : Below w.heap.size w (((w.alloc (.cells #[.int .i64 m, .slice a n c] 45)).alloc (.cells #[.int .i64 o, .int .i64 s, .int .i64 d, .bool z] 23)).alloc (.cells #[.int .i64 0, .slice none 0 0] 45)) :=
    (((Below.refl _ w).alloc (Nat.le_refl _) _).alloc (by simp) _).alloc (by simp; omega) _
  have N0 : ∀ (W : World) (A : Array Value) (t : TypeId) (k : Nat), k = W.heap.size → (W.alloc (.cells A t)).heap[k]? = some (.cells A t (0, 0)) := fun W A t k e => by rw [e]; exact heap_alloc_new W _
  have h4 : (((w.alloc (.cells #[.int .i64 m, .slice a n c] 45)).alloc (.cells #[.int .i64 o, .int .i64 s, .int .i64 d, .bool z] 23)).alloc (.cells #[.int .i64 0, .slice none 0 0] 45)).heap[w.heap.size]? = some (.cells #[.int .i64 m, .slice a n c] 45 (0, 0)) := by
    refine (Below.heap_alloc _ _ _ (by simp <;> omega)).trans ?_; refine (Below.heap_alloc _ _ _ (by simp <;> omega)).trans ?_; exact heap_alloc_new w _
  have h7 : (((w.alloc (.cells #[.int .i64 m, .slice a n c] 45)).alloc (.cells #[.int .i64 o, .int .i64 s, .int .i64 d, .bool z] 23)).alloc (.cells #[.int .i64 0, .slice none 0 0] 45)).heap[w.heap.size + 1]? = some (.cells #[.int .i64 o, .int .i64 s, .int .i64 d, .bool z] 23 (0, 0)) := by
    refine (Below.heap_alloc _ _ _ (by simp <;> omega)).trans ?_; exact N0 _ _ _ _ (by simp)
  have h8 : (((w.alloc (.cells #[.int .i64 m, .slice a n c] 45)).alloc (.cells #[.int .i64 o, .int .i64 s, .int .i64 d, .bool z] 23)).alloc (.cells #[.int .i64 0, .slice none 0 0] 45)).heap[w.heap.size + 1 + 1]? = some (.cells #[.int .i64 0, .slice none 0 0] 45 (0, 0)) := N0 _ _ _ _ (by simp)
  have HP := Lib.hid (rpart_ok f t)
  rw [decide_eq_true hE] at HP
  have HPK := Lib.hid (rpack_ok o s d z)
  obtain ⟨ev, hev⟩ : ∃ y, pkE o s d = y := ⟨_, rfl⟩
  rw [hev] at HPK hK ⊢
  have d1 : (ev != 0) = true := by simp; omega
  have HB := Lib.hid hB3
  have H4 := Lib.hid h4
  have H7 := Lib.hid h7
  have H8 := Lib.hid h8
  clear hB3 N0 h4 h7 h8 hE hev hK
  go_enter Tryd.func59, Tryd.ntmps59
  go_wp2_with fail
  generalize World.alloc _ _ = W0 at HB H4 H7 H8 ⊢
  refine (HP.out _).mono ?_
  rintro e w1 ⟨rfl, rfl⟩
  have q0 : W0.cell? ⟨w.heap.size + 1, 0, none⟩ = some (.int .i64 o) := by rw [cell_of_block H7.out]; rfl
  have q1 : W0.cell? ⟨w.heap.size + 1, 1, none⟩ = some (.int .i64 s) := by rw [cell_of_block H7.out]; rfl
  have q2 : W0.cell? ⟨w.heap.size + 1, 2, none⟩ = some (.int .i64 d) := by rw [cell_of_block H7.out]; rfl
  have q3 : W0.cell? ⟨w.heap.size + 1, 3, none⟩ = some (.bool z) := by rw [cell_of_block H7.out]; rfl
  go_wp2_with fail
  refine (HPK.out _).mono ?_
  rintro e w2 ⟨rfl, b2⟩
  have HB2 := Lib.hid (below_tr HB.out b2)
  have X4 := (b2.block _ (blk_lt H4.out)).trans H4.out
  have X8 := (b2.block _ (blk_lt H8.out)).trans H8.out
  have k0 : w2.cell? ⟨w.heap.size, 0, none⟩ = some (.int .i64 m) := by rw [cell_of_block X4]; rfl
  have k1 : w2.cell? ⟨w.heap.size, 1, none⟩ = some (.slice a n c) := by rw [cell_of_block X4]; rfl
  have r0 : w2.cell? ⟨w.heap.size + 1 + 1, 0, none⟩ = some (.int .i64 0) := by rw [cell_of_block X8]; rfl
  have r1 : w2.cell? ⟨w.heap.size + 1 + 1, 1, none⟩ = some (.slice none 0 0) := by rw [cell_of_block X8]; rfl
  have rf : ∀ k, w2.frozen? ⟨w.heap.size + 1 + 1, k, none⟩ = false := fun k => unfrozen_of_block X8 k
  clear b2 X4 X8 q0 q1 q2 q3
  go_wp2
  refine bodyPost_ret (v := .tuple #[.agg #[.int .i64 m, .slice a n c], .int .i64 ev]) (by simp [results, Tryd.results59, go_sem, r0, r1]) rfl ?_
  exact ⟨rfl, (HB2.out.setCell (p := ⟨w.heap.size + 1 + 1, 0, none⟩) (by dsimp only; omega) _).setCell (p := ⟨w.heap.size + 1 + 1, 1, none⟩) (by dsimp only; omega) _⟩
end
end Go.Proofs.YtfmclbacoffdaaaDoor

namespace Go.Proofs.YtfmclbacoffdaaaDoor
open Go.RowKit Go.Sort Go.Joins
attribute [local go_sem] cell_grow frozen_grow size_grow
/-- what holds of the map after some pages of Set -/
structure SetK (X : RM) (x f k : Nat) : Prop where
  a : RAll (setM x k X f)
  n : NrS (setM x k X f).st
  m : (setM x k X f).m = X.m + needF X.st k f (-1) (-1)
theorem setK {X : RM} (h : RGood X) {x f k : Nat} (hx : x ≠ 0) (hf : f + k ≤ 1024) (hr : X.m + needF X.st k f (-1) (-1) ≤ X.st.length) : SetK X x f k :=
  ⟨(h.a.sets hx hf hr).1, NrS.sets x k h.n h.a.i hf (fun e => by omega) (fun e => by omega) hr, (RInv.set x k h.a.i hf (fun e => by omega) (fun e => by omega) hr).2.2.1⟩
theorem stS_rows {X : RM} (j : Nat) : ((stS X).getD j rn0).ks.length ≤ 16 ∧ ((stS X).getD j rn0).ws.length ≤ 16 := by
  by_cases h : j < X.st.length
  · rw [stS_get X h, rnOf_klen, rnOf_wlen]
    unfold kN wN
    constructor <;> (repeat' split) <;> omega
  · have : (stS X).getD j rn0 = rn0 := by
      simp [List.getD, stS_len, h]
    rw [this]
    constructor <;> exact Nat.zero_le _
section
variable {w : World} {a : Option Addr} {n c : Nat} {m : Int} {X : RM} {o s d : Int} {z : Bool}
set_option maxRecDepth 100000 in
set_option maxHeartbeats 3200000 in
theorem rset_run (h : StR w a (stS X)) (hG : RGood X) (hn : n = X.st.length) (hn2 : n ≤ 145) (f l x : Nat) (hft : f + l ≤ 1024) (hK : pkE o s d = 0) (hx : pkV o s d z = (x : Int)) (hx0 : x ≠ 0) :
    Calls Tryd.prog 59 #[.agg #[.int .i64 m, .slice a n c], .int .i64 f, .int .i64 ((f + l : Nat) : Int), dsV o s d z] w fun e w' => Below w.heap.size w w' ∧
      ((X.m + needF X.st l f (-1) (-1) ≤ n ∧ ∃ g c', e = .returned (.tuple #[.agg #[.int .i64 m, .slice (some ⟨g, 0, none⟩) n c'], .int .i64 0]) ∧ ∃ K L, OSt w' w.heap.size (.slice (some ⟨g, 0, none⟩) n c') K L (stS (setM x l X f))) ∨
       (n < X.m + needF X.st l f (-1) (-1) ∧ e = .returned (.tuple #[.agg #[.int .i64 m, .slice a n c], .int .i64 5]))) := by
  have hB3 : Below w.heap.size w (((w.alloc (.cells #[.int .i64 m, .slice a n c] 45)).alloc (.cells #[.int .i64 o, .int .i64 s, .int .i64 d, .bool z] 23)).alloc (.cells #[.int .i64 0, .slice none 0 0] 45)) :=
    (((Below.refl _ w).alloc (Nat.le_refl _) _).alloc (by simp) _).alloc (by simp; omega) _
  have N0 : ∀ (W : World) (A : Array Value) (t : TypeId) (k : Nat), k = W.heap.size → (W.alloc (.cells A t)).heap[k]? = some (.cells A t (0, 0)) := fun W A t k e => by rw [e]; exact heap_alloc_new W _
  have h4 : (((w.alloc (.cells #[.int .i64 m, .slice a n c] 45)).alloc (.cells #[.int .i64 o, .int .i64 s, .int .i64 d, .bool z] 23)).alloc (.cells #[.int .i64 0, .slice none 0 0] 45)).heap[w.heap.size]? = some (.cells #[.int .i64 m, .slice a n c] 45 (0, 0)) := by
    refine (Below.heap_alloc _ _ _ (by simp <;> omega)).trans ?_; refine (Below.heap_alloc _ _ _ (by simp <;> omega)).trans ?_; exact heap_alloc_new w _
  have h7 : (((w.alloc (.cells #[.int .i64 m, .slice a n c] 45)).alloc (.cells #[.int .i64 o, .int .i64 s, .int .i64 d, .bool z] 23)).alloc (.cells #[.int .i64 0, .slice none 0 0] 45)).heap[w.heap.size + 1]? = some (.cells #[.int .i64 o, .int .i64 s, .int .i64 d, .bool z] 23 (0, 0)) := by
    refine (Below.heap_alloc _ _ _ (by simp <;> omega)).trans ?_; exact N0 _ _ _ _ (by simp)
  have h8 : (((w.alloc (.cells #[.int .i64 m, .slice a n c] 45)).alloc (.cells #[.int .i64 o, .int .i64 s, .int .i64 d, .bool z] 23)).alloc (.cells #[.int .i64 0, .slice none 0 0] 45)).heap[w.heap.size + 1 + 1]? = some (.cells #[.int .i64 0, .slice none 0 0] 45 (0, 0)) := N0 _ _ _ _ (by simp)
  have hpa : paE (f : Int) ((f + l : Nat) : Int) = 0 := by unfold paE; rw [if_neg (by omega)]
  have HP := Lib.hid (rpart_ok (f : Int) ((f + l : Nat) : Int))
  rw [decide_eq_true hpa] at HP
  have HPK := Lib.hid (rpack_ok o s d z)
  rw [hK, hx] at HPK
  have HB := Lib.hid hB3
  have H4 := Lib.hid h4
  have H7 := Lib.hid h7
  have H8 := Lib.hid h8
  have HST := Lib.hid (h.below hB3)
  have HG := Lib.hid hG
  have HNN := Lib.hid hn
  have n1 := hG.a.i.n1
  clear hB3 N0 h4 h7 h8 hpa hK h hG hn hx
  obtain ⟨t, ht⟩ : ∃ y, f + l = y := ⟨_, rfl⟩
  rw [ht] at HP hft ⊢
  go_enter Tryd.func59, Tryd.ntmps59
  go_wp2_with fail
  generalize World.alloc _ _ = W0 at HB H4 H7 H8 HST ⊢
  refine (HP.out _).mono ?_
  rintro e w1 ⟨rfl, rfl⟩
  have q0 : W0.cell? ⟨w.heap.size + 1, 0, none⟩ = some (.int .i64 o) := by rw [cell_of_block H7.out]; rfl
  have q1 : W0.cell? ⟨w.heap.size + 1, 1, none⟩ = some (.int .i64 s) := by rw [cell_of_block H7.out]; rfl
  have q2 : W0.cell? ⟨w.heap.size + 1, 2, none⟩ = some (.int .i64 d) := by rw [cell_of_block H7.out]; rfl
  have q3 : W0.cell? ⟨w.heap.size + 1, 3, none⟩ = some (.bool z) := by rw [cell_of_block H7.out]; rfl
  go_wp2_with fail
  refine (HPK.out _).mono ?_
  rintro e w2 ⟨rfl, b2⟩
  have HB2 := Lib.hid (below_tr HB.out b2)
  have X4 := (b2.block _ (blk_lt H4.out)).trans H4.out
  have X8 := (b2.block _ (blk_lt H8.out)).trans H8.out
  have S2 := Lib.hid (HST.out.below b2)
  have k0 : w2.cell? ⟨w.heap.size, 0, none⟩ = some (.int .i64 m) := by rw [cell_of_block X4]; rfl
  have k1 : w2.cell? ⟨w.heap.size, 1, none⟩ = some (.slice a n c) := by rw [cell_of_block X4]; rfl
  have HC := Lib.hid (rcopy_ok (m := m) (c := c) S2.out (by rw [stS_len]; exact HNN.out) hn2 (by rw [HNN.out]; exact n1) stS_rows)
  have X4' := Lib.hid X4
  have X8' := Lib.hid X8
  clear b2 X4 X8 q0 q1 q2 q3 HP HPK HST H7 H4 H8 HB
  go_wp2_with fail
  refine HC.out.mono ?_
  rintro e w3 ⟨g, c', rfl, hst, b3⟩
  have HL : Hid (StL w (w3.alloc (.cells #[.int .i64 m, .slice (some ⟨g, 0, none⟩) n c'] 45)) (w.heap.size + 1 + 1) w2.heap.size w3.heap.size m a c n g c' X) := Lib.hid (by
    have bb := below_box0 w3 (.cells #[.int .i64 m, .slice (some ⟨g, 0, none⟩) n c'] 45)
    have hl8 := blk_lt X8'.out
    have e4 := (bb.block _ (by have := b3.size; have := blk_lt X4'.out; omega)).trans ((b3.block _ (blk_lt X4'.out)).trans X4'.out)
    have e8 := (bb.block _ (by have := b3.size; omega)).trans ((b3.block _ hl8).trans X8'.out)
    obtain ⟨K, L, hs⟩ := hst
    exact ⟨e4, e8, heap_alloc_new w3 _, ⟨K, L, hs.below bb⟩, HB2.out.trans ((below_tr b3 bb).mono HB2.out.size), hl8, by omega, b3.size⟩)
  obtain ⟨B, hB⟩ : ∃ y, w2.heap.size = y := ⟨_, rfl⟩
  obtain ⟨b, hb⟩ : ∃ y, w3.heap.size = y := ⟨_, rfl⟩
  have HHb := Lib.hid hb
  rw [hB, hb] at HL
  have HSet := fun (k : Nat) (h1 : f + k ≤ 1024) (h2 : X.m + needF X.st k f (-1) (-1) ≤ n) => setK HG.out hx0 h1 (by rw [← HNN.out]; exact h2)
  have HSET := Lib.hid HSet
  clear hst b3 k0 k1 S2 HC X4' X8' HB2 hB hb HSet
  go_upto_region 7 with fail
  rw [HHb.out]
  generalize World.alloc _ _ = W4 at HL ⊢
  go_wp2
  go_loopw [13] (fun y wr => ∃ k : Nat, k ≤ l ∧ y = .int .i64 ((f + k : Nat) : Int) ∧ X.m + needF X.st k f (-1) (-1) ≤ n ∧ Hid (StL w wr (w.heap.size + 1 + 1) B b m a c n g c' (setM x k X f))) (fun y _ => t - (intOf y).toNat)
  case atStart => exact ⟨0, Nat.zero_le _, rfl, by have := HG.out.a.i.m_le; rw [← HNN.out] at this; exact this, HL⟩
  case round =>
    clear HL
    obtain ⟨k, hk, rfl, hr, HL⟩ := hrel
    have k0 : wr.cell? ⟨b, 0, none⟩ = some (.int .i64 m) := by rw [cell_of_block HL.out.bx]; rfl
    have k1 : wr.cell? ⟨b, 1, none⟩ = some (.slice (some ⟨g, 0, none⟩) n c') := by rw [cell_of_block HL.out.bx]; rfl
    have hS := HSET.out k (by omega) hr
    by_cases hlt : k < l
    · have i1 : ((f + k : Nat) : Int) < (t : Int) := by omega
      have i0 : (0 : Int) ≤ ((f + k : Nat) : Int) := by omega
      have hwi : IntKind.i64.wrap (((f + k : Nat) : Int) + 1) = ((f + k : Nat) : Int) + 1 := IntWalk.i64_in _ (by omega)
      have hsp := need_split x k (X := X) (p := f) (b := -1) (s := -1) HG.out.a.i (by omega) (fun e => by omega) (fun e => by omega) (by rw [← HNN.out]; exact hr)
      have hlen : n = (setM x k X f).st.length := by rw [setM_len]; exact HNN.out
      obtain ⟨K0, L0, hst⟩ := HL.out.st
      have hBw : B ≤ wr.heap.size := by have := HL.out.hb; have := blk_lt HL.out.bx; omega
      by_cases hrm : X.m + needF X.st (k + 1) f (-1) (-1) ≤ n
      · have HPT := Lib.hid (rput_yes (m := m) (x := x) hst hS.a.i hS.n hlen hn2 (show f + k < 1024 by omega) hBw (by rw [hS.m]; omega))
        have HRM := Lib.hid hrm
        obtain ⟨p, hp⟩ : ∃ y, f + k = y := ⟨_, rfl⟩
        have HPP := Lib.hid hp
        rw [hp] at HPT i1 i0 hwi ⊢
        have HX1 : Hid (setM x (k + 1) X f = putM (setM x k X f) x p) := Lib.hid (by rw [← hp]; rfl)
        clear hst hsp hlen hS hrm hp
        go_wp2_with fail
        refine HPT.out.mono ?_
        rintro e w5 ⟨rfl, hs5, b5, p5⟩
        rw [← HX1.out] at hs5
        have HL5 := Lib.hid (HL.out.next hs5 b5 p5)
        clear hs5 b5 p5 HL k0 k1 HPT
        go_wp2
        go_roundw
        case rel => exact ⟨k + 1, by omega, by have := HPP.out; go_num, HRM.out, HL5⟩
        case measure => simp [intOf]; omega
      · have HPT := Lib.hid (rput_no (m := m) (x := x) hst hS.a.i hS.n hlen hn2 (show f + k < 1024 by omega) hBw (by rw [hS.m]; omega))
        have HFU : Hid (n < X.m + needF X.st l f (-1) (-1)) := Lib.hid (by
          have := needF_mono X.st l (k + 1) f (-1) (-1) (by omega)
          omega)
        obtain ⟨p, hp⟩ : ∃ y, f + k = y := ⟨_, rfl⟩
        rw [hp] at HPT i1 i0 hwi ⊢
        clear hst hsp hlen hS hrm hp
        go_wp2_with fail
        refine HPT.out.mono ?_
        rintro e w5 ⟨rfl, b5, p5⟩
        have X4 := p5 _ _ HL.out.b4
        have X8 := p5 _ _ HL.out.b8
        have HB5 : Hid (Below w.heap.size w w5) := Lib.hid (HL.out.k.trans (b5.mono (by have := HL.out.hB; omega)))
        have k4 : w5.cell? ⟨w.heap.size, 0, none⟩ = some (.int .i64 m) := by rw [cell_of_block X4]; rfl
        have k5 : w5.cell? ⟨w.heap.size, 1, none⟩ = some (.slice a n c) := by rw [cell_of_block X4]; rfl
        have r0 : w5.cell? ⟨w.heap.size + 1 + 1, 0, none⟩ = some (.int .i64 0) := by rw [cell_of_block X8]; rfl
        have r1 : w5.cell? ⟨w.heap.size + 1 + 1, 1, none⟩ = some (.slice none 0 0) := by rw [cell_of_block X8]; rfl
        have rf : ∀ k, w5.frozen? ⟨w.heap.size + 1 + 1, k, none⟩ = false := fun k => unfrozen_of_block X8 k
        clear b5 p5 HL k0 k1 HPT X4 X8
        go_wp2
        refine bodyPost_ret (v := .tuple #[.agg #[.int .i64 m, .slice a n c], .int .i64 5]) (by simp [results, Tryd.results59, go_sem, r0, r1]) rfl ?_
        exact ⟨(HB5.out.setCell (p := ⟨w.heap.size + 1 + 1, 0, none⟩) (by dsimp only; omega) _).setCell (p := ⟨w.heap.size + 1 + 1, 1, none⟩) (by dsimp only; omega) _, .inr ⟨HFU.out, rfl⟩⟩
    · obtain rfl : k = l := by omega
      have i1 : ¬ (((f + k : Nat) : Int) < (t : Int)) := by omega
      have HR := Lib.hid hr
      have r0 : wr.cell? ⟨w.heap.size + 1 + 1, 0, none⟩ = some (.int .i64 0) := by rw [cell_of_block HL.out.b8]; rfl
      have r1 : wr.cell? ⟨w.heap.size + 1 + 1, 1, none⟩ = some (.slice none 0 0) := by rw [cell_of_block HL.out.b8]; rfl
      have rf : ∀ k, wr.frozen? ⟨w.heap.size + 1 + 1, k, none⟩ = false := fun k => unfrozen_of_block HL.out.b8 k
      clear hS hr
      go_wp2
      refine bodyPost_ret (v := .tuple #[.agg #[.int .i64 m, .slice (some ⟨g, 0, none⟩) n c'], .int .i64 0]) (by simp [results, Tryd.results59, go_sem, r0, r1]) rfl ?_
      exact ⟨HL.out.give.2, .inl ⟨HR.out, g, c', rfl, HL.out.give.1⟩⟩
theorem rset_ok (h : StR w a (stS X)) (hG : RGood X) (hn : n = X.st.length) (hn2 : n ≤ 145) (f t : Int) :
    Calls Tryd.prog 59 #[.agg #[.int .i64 m, .slice a n c], .int .i64 f, .int .i64 t, dsV o s d z] w fun e w' => Below w.heap.size w w' ∧
      ((setE X f t o s d = 0 ∧ ∃ g c', e = .returned (.tuple #[.agg #[.int .i64 m, .slice (some ⟨g, 0, none⟩) n c'], .int .i64 0]) ∧ ∃ K L, OSt w' w.heap.size (.slice (some ⟨g, 0, none⟩) n c') K L (stS (setX X f t o s d z))) ∨
       (setE X f t o s d ≠ 0 ∧ e = .returned (.tuple #[.agg #[.int .i64 m, .slice a n c], .int .i64 (setE X f t o s d)]))) := by
  by_cases h1 : paE f t = 0
  · by_cases h2 : pkE o s d = 0
    · obtain ⟨p1, p2, p3⟩ := paE_zero h1
      have hv : pkV o s d z = pkW o s d z := pkV_ok h2
      have hpos : 0 < pkW o s d z := by
        unfold pkE at h2
        split at h2
        · cases h2
        · unfold pkW
          split <;> omega
      have hrun := rset_run (m := m) (c := c) (a := a) (z := z) h hG hn hn2 f.toNat (t - f).toNat (pkW o s d z).toNat (by omega) h2 (by rw [hv]; omega) (by omega)
      rw [show ((f.toNat : Nat) : Int) = f by omega, show ((f.toNat + (t - f).toNat : Nat) : Int) = t by omega] at hrun
      refine hrun.mono fun e w' ⟨hb, he⟩ => ⟨hb, ?_⟩
      rcases he with ⟨hr, g, c', e1, hs⟩ | ⟨hr, e1⟩
      · have hE : setE X f t o s d = 0 := by
          unfold setE
          rw [if_neg (by rw [h1]; decide), if_neg (by rw [h2]; decide), if_neg (by rw [← hn]; omega)]
        refine .inl ⟨hE, g, c', e1, ?_⟩
        unfold setX
        rw [if_pos hE]
        exact hs
      · have hE : setE X f t o s d = 5 := by
          unfold setE
          rw [if_neg (by rw [h1]; decide), if_neg (by rw [h2]; decide), if_pos (by rw [← hn]; omega)]
        exact .inr ⟨by rw [hE]; decide, by rw [hE]; exact e1⟩
    · have hE : setE X f t o s d = pkE o s d := by
        unfold setE
        rw [if_neg (by rw [h1]; decide), if_pos h2]
        unfold pkE at h2 ⊢
        split
        · rfl
        · rename_i h3; rw [if_neg h3] at h2; exact absurd rfl h2
      refine (rset_pack h1 h2).mono fun e w' ⟨he, hb⟩ => ⟨hb, .inr ⟨by rw [hE]; exact h2, by rw [hE]; exact he⟩⟩
  · have hE : setE X f t o s d = 7 := by
      unfold setE
      rw [if_pos h1]
    refine (rset_part h1).mono fun e w' ⟨he, hb⟩ => ⟨hb, .inr ⟨by rw [hE]; decide, by rw [hE]; exact he⟩⟩
set_option maxRecDepth 100000 in
set_option maxHeartbeats 1600000 in
theorem rclear_part {f t : Int} (hE : paE f t ≠ 0) :
    Calls Tryd.prog 56 #[.agg #[.int .i64 m, .slice a n c], .int .i64 f, .int .i64 t] w fun e w' => e = .returned (.tuple #[.agg #[.int .i64 m, .slice a n c], .int .i64 7]) ∧ Below w.heap.size w w' := by
  have hB3 : Below w.heap.size w ((w.alloc (.cells #[.int .i64 m, .slice a n c] 45)).alloc (.cells #[.int .i64 0, .slice none 0 0] 45)) :=
    ((Below.refl _ w).alloc (Nat.le_refl _) _).alloc (by simp) _
  have N0 : ∀ (W : World) (A : Array Value) (t : TypeId) (k : Nat), k = W.heap.size → (W.alloc (.cells A t)).heap[k]? = some (.cells A t (0, 0)) := fun W A t k e => by rw [e]; exact heap_alloc_new W _
  have h4 : ((w.alloc (.cells #[.int .i64 m, .slice a n c] 45)).alloc (.cells #[.int .i64 0, .slice none 0 0] 45)).heap[w.heap.size]? = some (.cells #[.int .i64 m, .slice a n c] 45 (0, 0)) := by
    refine (Below.heap_alloc _ _ _ (by simp)).trans ?_; exact heap_alloc_new w _
  have h8 : ((w.alloc (.cells #[.int .i64 m, .slice a n c] 45)).alloc (.cells #[.int .i64 0, .slice none 0 0] 45)).heap[w.heap.size + 1]? = some (.cells #[.int .i64 0, .slice none 0 0] 45 (0, 0)) := N0 _ _ _ _ (by simp)
  have HP := Lib.hid (rpart_ok f t)
  rw [decide_eq_false hE] at HP
  have HB := Lib.hid hB3
  have H4 := Lib.hid h4
  have H8 := Lib.hid h8
  clear hB3 N0 h4 h8 hE
  go_enter Tryd.func56, Tryd.ntmps56
  go_wp2_with fail
  generalize World.alloc _ _ = W0 at HB H4 H8 ⊢
  refine (HP.out _).mono ?_
  rintro e w1 ⟨rfl, rfl⟩
  have k0 : W0.cell? ⟨w.heap.size, 0, none⟩ = some (.int .i64 m) := by rw [cell_of_block H4.out]; rfl
  have k1 : W0.cell? ⟨w.heap.size, 1, none⟩ = some (.slice a n c) := by rw [cell_of_block H4.out]; rfl
  have r0 : W0.cell? ⟨w.heap.size + 1, 0, none⟩ = some (.int .i64 0) := by rw [cell_of_block H8.out]; rfl
  have r1 : W0.cell? ⟨w.heap.size + 1, 1, none⟩ = some (.slice none 0 0) := by rw [cell_of_block H8.out]; rfl
  have rf : ∀ k, W0.frozen? ⟨w.heap.size + 1, k, none⟩ = false := fun k => unfrozen_of_block H8.out k
  go_wp2
  refine bodyPost_ret (v := .tuple #[.agg #[.int .i64 m, .slice a n c], .int .i64 7]) (by simp [results, Tryd.results56, go_sem, r0, r1]) rfl ?_
  exact ⟨rfl, (HB.out.setCell (p := ⟨w.heap.size + 1, 0, none⟩) (by dsimp only; omega) _).setCell (p := ⟨w.heap.size + 1, 1, none⟩) (by dsimp only; omega) _⟩
set_option maxRecDepth 100000 in
set_option maxHeartbeats 3200000 in
theorem rclear_run (h : StR w a (stS X)) (hG : RGood X) (hn : n = X.st.length) (hn2 : n ≤ 145) (f l : Nat) (hft : f + l ≤ 1024) :
    Calls Tryd.prog 56 #[.agg #[.int .i64 m, .slice a n c], .int .i64 f, .int .i64 ((f + l : Nat) : Int)] w fun e w' => Below w.heap.size w w' ∧
      ∃ g c', e = .returned (.tuple #[.agg #[.int .i64 m, .slice (some ⟨g, 0, none⟩) n c'], .int .i64 0]) ∧ ∃ K L, OSt w' w.heap.size (.slice (some ⟨g, 0, none⟩) n c') K L (stS (clrN l X f)) := by
  have hB3 : Below w.heap.size w ((w.alloc (.cells #[.int .i64 m, .slice a n c] 45)).alloc (.cells #[.int .i64 0, .slice none 0 0] 45)) :=
    ((Below.refl _ w).alloc (Nat.le_refl _) _).alloc (by simp) _
  have N0 : ∀ (W : World) (A : Array Value) (t : TypeId) (k : Nat), k = W.heap.size → (W.alloc (.cells A t)).heap[k]? = some (.cells A t (0, 0)) := fun W A t k e => by rw [e]; exact heap_alloc_new W _
  have h4 : ((w.alloc (.cells #[.int .i64 m, .slice a n c] 45)).alloc (.cells #[.int .i64 0, .slice none 0 0] 45)).heap[w.heap.size]? = some (.cells #[.int .i64 m, .slice a n c] 45 (0, 0)) := by
    refine (Below.heap_alloc _ _ _ (by simp)).trans ?_; exact heap_alloc_new w _
  have h8 : ((w.alloc (.cells #[.int .i64 m, .slice a n c] 45)).alloc (.cells #[.int .i64 0, .slice none 0 0] 45)).heap[w.heap.size + 1]? = some (.cells #[.int .i64 0, .slice none 0 0] 45 (0, 0)) := N0 _ _ _ _ (by simp)
  have hpa : paE (f : Int) ((f + l : Nat) : Int) = 0 := by unfold paE; rw [if_neg (by omega)]
  have HP := Lib.hid (rpart_ok (f : Int) ((f + l : Nat) : Int))
  rw [decide_eq_true hpa] at HP
  have HB := Lib.hid hB3
  have H4 := Lib.hid h4
  have H8 := Lib.hid h8
  have HST := Lib.hid (h.below hB3)
  have HG := Lib.hid hG
  have HNN := Lib.hid hn
  have n1 := hG.a.i.n1
  clear hB3 N0 h4 h8 hpa h hG hn
  obtain ⟨t, ht⟩ : ∃ y, f + l = y := ⟨_, rfl⟩
  rw [ht] at HP hft ⊢
  go_enter Tryd.func56, Tryd.ntmps56
  go_wp2_with fail
  generalize World.alloc _ _ = W0 at HB H4 H8 HST ⊢
  refine (HP.out _).mono ?_
  rintro e w1 ⟨rfl, rfl⟩
  have k0 : W0.cell? ⟨w.heap.size, 0, none⟩ = some (.int .i64 m) := by rw [cell_of_block H4.out]; rfl
  have k1 : W0.cell? ⟨w.heap.size, 1, none⟩ = some (.slice a n c) := by rw [cell_of_block H4.out]; rfl
  have HC := Lib.hid (rcopy_ok (m := m) (c := c) HST.out (by rw [stS_len]; exact HNN.out) hn2 (by rw [HNN.out]; exact n1) stS_rows)
  clear HST HP
  go_wp2_with fail
  refine HC.out.mono ?_
  rintro e w3 ⟨g, c', rfl, hst, b3⟩
  have HL : Hid (StL w (w3.alloc (.cells #[.int .i64 m, .slice (some ⟨g, 0, none⟩) n c'] 45)) (w.heap.size + 1) W0.heap.size w3.heap.size m a c n g c' X) := Lib.hid (by
    have bb := below_box0 w3 (.cells #[.int .i64 m, .slice (some ⟨g, 0, none⟩) n c'] 45)
    have hl8 := blk_lt H8.out
    have e4 := (bb.block _ (by have := b3.size; have := blk_lt H4.out; omega)).trans ((b3.block _ (blk_lt H4.out)).trans H4.out)
    have e8 := (bb.block _ (by have := b3.size; omega)).trans ((b3.block _ hl8).trans H8.out)
    obtain ⟨K, L, hs⟩ := hst
    exact ⟨e4, e8, heap_alloc_new w3 _, ⟨K, L, hs.below bb⟩, HB.out.trans ((below_tr b3 bb).mono HB.out.size), hl8, by omega, b3.size⟩)
  obtain ⟨B, hB⟩ : ∃ y, W0.heap.size = y := ⟨_, rfl⟩
  obtain ⟨b, hb⟩ : ∃ y, w3.heap.size = y := ⟨_, rfl⟩
  have HHb := Lib.hid hb
  rw [hB, hb] at HL
  have HCN := Lib.hid (fun (k : Nat) (h1 : f + k ≤ 1024) => HG.out.a.clrs f k h1)
  clear hst b3 k0 k1 HC H4 H8 HB hB hb
  go_upto_region 4 with fail
  rw [HHb.out]
  generalize World.alloc _ _ = W4 at HL ⊢
  go_wp2
  go_loopw [9] (fun y wr => ∃ k : Nat, k ≤ l ∧ y = .int .i64 ((f + k : Nat) : Int) ∧ Hid (StL w wr (w.heap.size + 1) B b m a c n g c' (clrN k X f))) (fun y _ => t - (intOf y).toNat)
  case atStart => exact ⟨0, Nat.zero_le _, rfl, HL⟩
  case round =>
    clear HL
    obtain ⟨k, hk, rfl, HL⟩ := hrel
    have k0 : wr.cell? ⟨b, 0, none⟩ = some (.int .i64 m) := by rw [cell_of_block HL.out.bx]; rfl
    have k1 : wr.cell? ⟨b, 1, none⟩ = some (.slice (some ⟨g, 0, none⟩) n c') := by rw [cell_of_block HL.out.bx]; rfl
    by_cases hlt : k < l
    · obtain ⟨ha, hlen, _⟩ := HCN.out k (by omega)
      have i1 : ((f + k : Nat) : Int) < (t : Int) := by omega
      have i0 : (0 : Int) ≤ ((f + k : Nat) : Int) := by omega
      have hwi : IntKind.i64.wrap (((f + k : Nat) : Int) + 1) = ((f + k : Nat) : Int) + 1 := IntWalk.i64_in _ (by omega)
      obtain ⟨K0, L0, hst⟩ := HL.out.st
      have hBw : B ≤ wr.heap.size := by have := HL.out.hb; have := blk_lt HL.out.bx; omega
      have HPT := Lib.hid (rdrop_ok (m := m) hst ha (by rw [hlen]; exact HNN.out) hn2 (show f + k < 1024 by omega) hBw)
      obtain ⟨p, hp⟩ : ∃ y, f + k = y := ⟨_, rfl⟩
      have HPP := Lib.hid hp
      rw [hp] at HPT i1 i0 hwi ⊢
      have HX1 : Hid (clrN (k + 1) X f = clrM (clrN k X f) p) := Lib.hid (by rw [← hp]; rfl)
      clear hst hlen ha hp
      go_wp2_with fail
      refine HPT.out.mono ?_
      rintro e w5 ⟨rfl, hs5, b5, p5⟩
      rw [← HX1.out] at hs5
      have HL5 := Lib.hid (HL.out.next hs5 b5 p5)
      clear hs5 b5 p5 HL k0 k1 HPT
      go_wp2
      go_roundw
      case rel => exact ⟨k + 1, by omega, by have := HPP.out; go_num, HL5⟩
      case measure => simp [intOf]; omega
    · obtain rfl : k = l := by omega
      have i1 : ¬ (((f + k : Nat) : Int) < (t : Int)) := by omega
      have r0 : wr.cell? ⟨w.heap.size + 1, 0, none⟩ = some (.int .i64 0) := by rw [cell_of_block HL.out.b8]; rfl
      have r1 : wr.cell? ⟨w.heap.size + 1, 1, none⟩ = some (.slice none 0 0) := by rw [cell_of_block HL.out.b8]; rfl
      have rf : ∀ k, wr.frozen? ⟨w.heap.size + 1, k, none⟩ = false := fun k => unfrozen_of_block HL.out.b8 k
      go_wp2
      refine bodyPost_ret (v := .tuple #[.agg #[.int .i64 m, .slice (some ⟨g, 0, none⟩) n c'], .int .i64 0]) (by simp [results, Tryd.results56, go_sem, r0, r1]) rfl ?_
      exact ⟨HL.out.give.2, g, c', rfl, HL.out.give.1⟩
theorem rclear_ok (h : StR w a (stS X)) (hG : RGood X) (hn : n = X.st.length) (hn2 : n ≤ 145) (f t : Int) :
    Calls Tryd.prog 56 #[.agg #[.int .i64 m, .slice a n c], .int .i64 f, .int .i64 t] w fun e w' => Below w.heap.size w w' ∧
      ((paE f t = 0 ∧ ∃ g c', e = .returned (.tuple #[.agg #[.int .i64 m, .slice (some ⟨g, 0, none⟩) n c'], .int .i64 0]) ∧ ∃ K L, OSt w' w.heap.size (.slice (some ⟨g, 0, none⟩) n c') K L (stS (clrX X f t))) ∨
       (paE f t ≠ 0 ∧ e = .returned (.tuple #[.agg #[.int .i64 m, .slice a n c], .int .i64 (paE f t)]))) := by
  by_cases h1 : paE f t = 0
  · obtain ⟨p1, p2, p3⟩ := paE_zero h1
    have hrun := rclear_run (m := m) (c := c) (a := a) h hG hn hn2 f.toNat (t - f).toNat (by omega)
    rw [show ((f.toNat : Nat) : Int) = f by omega, show ((f.toNat + (t - f).toNat : Nat) : Int) = t by omega] at hrun
    refine hrun.mono fun e w' ⟨hb, g, c', e1, hs⟩ => ⟨hb, .inl ⟨h1, g, c', e1, ?_⟩⟩
    unfold clrX
    rw [if_pos h1]
    exact hs
  · have hE : paE f t = 7 := by
      unfold paE at h1 ⊢
      split
      · rfl
      · rename_i h2; rw [if_neg h2] at h1; exact absurd rfl h1
    refine (rclear_part h1).mono fun e w' ⟨he, hb⟩ => ⟨hb, .inr ⟨h1, by rw [hE]; exact he⟩⟩
end
end Go.Proofs.YtfmclbacoffdaaaDoor

namespace Go.Proofs.YtfmclbacoffdaaaDoor
open Go.RowKit Go.Sort Go.Joins
attribute [local go_sem] cell_grow frozen_grow size_grow
/-- a slice of elements of one cell reads as a list -/
def RdV (W : World) (a : Option Addr) (n : Nat) (F : Nat → Int) : Prop := n = 0 ∨ ∃ b o, a = some ⟨b, o, none⟩ ∧ b < W.heap.size ∧ ∀ j, j < n → W.cell? ⟨b, o + j, none⟩ = some (.int .i64 (F j))
theorem RdV.below {W W' : World} {a : Option Addr} {n : Nat} {F : Nat → Int} (h : RdV W a n F) (hb : Below W.heap.size W W') : RdV W' a n F := by
  rcases h with h | ⟨b, o, ha, hl, hc⟩
  · exact .inl h
  · exact .inr ⟨b, o, ha, Nat.lt_of_lt_of_le hl hb.size, fun j hj => (hb.cell (p := ⟨b, o + j, none⟩) hl).trans (hc j hj)⟩
theorem RdV.at_ {W : World} {a : Option Addr} {n : Nat} {F : Nat → Int} (h : RdV W a n F) {k : Nat} (hk : k < n) : ∃ b o, a = some ⟨b, o, none⟩ ∧ b < W.heap.size ∧ W.cell? ⟨b, o + k, none⟩ = some (.int .i64 (F k)) := by
  rcases h with h | ⟨b, o, ha, hl, hc⟩
  · omega
  · exact ⟨b, o, ha, hl, hc k hk⟩
theorem RdV.of_own {W : World} {B n c : Nat} {a : Option Addr} {L : List Nat} (h : W.ownsRow B 3 1 (.slice a n c) n (pgV L)) (hn : n = L.length) : RdV W a n (fun j => ((L.getD j 0 : Nat) : Int)) := by
  by_cases h0 : n = 0
  · exact .inl h0
  · obtain ⟨g, cap, hv⟩ := ownsRow_form h (by omega)
    cases hv
    refine .inr ⟨g, 0, rfl, (h.lt g rfl).2, fun j hj => ?_⟩
    rw [Nat.zero_add, h.cellAt j (by omega)]
    unfold pgV
    simp [List.getD, show j < L.length by omega]
set_option maxRecDepth 100000 in
set_option maxHeartbeats 1600000 in
theorem same_ok7 {w : World} {a b : Option Addr} {n c d : Nat} {F : Nat → Int} (hA : RdV w a n F) (hB : RdV w b n F) (hn : n ≤ 9223372036854775807) :
    Calls Tryd.prog 39 #[.slice a n c, .slice b n d] w fun e w' => e = .returned (.bool true) ∧ Below w.heap.size w w' := by
  have HA := Lib.hid hA
  have HB := Lib.hid hB
  have d0 : ((n : Int) != (n : Int)) = false := by simp
  clear hA hB
  go_enter Tryd.func39, Tryd.ntmps39
  go_wp2
  go_loopw [5] (fun i wr => ∃ k : Nat, k ≤ n ∧ i = .int .i64 k ∧ Hid (Below w.heap.size w wr)) (fun i _ => n - (intOf i).toNat)
  case atStart => exact ⟨0, Nat.zero_le _, rfl, Lib.hid (Below.refl _ _)⟩
  case round =>
    obtain ⟨k, hk, rfl, BR⟩ := hrel
    by_cases hlt : k < n
    · obtain ⟨b1, o1, rfl, l1, c1⟩ := (HA.out.below BR.out).at_ hlt
      obtain ⟨b2, o2, rfl, l2, c2⟩ := (HB.out.below BR.out).at_ hlt
      have i1 : (k : Int) < (n : Int) := by omega
      have i0 : (0 : Int) ≤ (k : Int) := by omega
      have dn : (F k != F k) = false := by simp
      have hwk : IntKind.i64.wrap ((k : Int) + 1) = (k : Int) + 1 := IntWalk.i64_in _ (by omega)
      go_wp2_with fail
      go_quiet (fail)
      have BD := Lib.hid (below_tr BR.out (below_draw wr nq))
      go_wp2
      go_roundw
      case rel => exact ⟨k + 1, by omega, by go_num, BD⟩
      case measure => simp [intOf]; omega
    · obtain rfl : k = n := by omega
      have i1 : ¬ ((k : Int) < (k : Int)) := by omega
      go_wp2
      go_ret
      exact ⟨rfl, BR.out⟩
theorem neq_run7 (f t o s c : Int) (g : Bool) (w : World) : Sem.run Tryd.prog (binOp .neq 56 (.agg #[.int .i64 f, .int .i64 t, .int .i64 o, .int .i64 s, .int .i64 c, .bool g]) (.agg #[.int .i64 f, .int .i64 t, .int .i64 o, .int .i64 s, .int .i64 c, .bool g])) w = .ok (.bool false) w := by
  have u3 := Tryd.underlying3
  have u2 := Tryd.underlying2
  have u4 := Tryd.underlying4
  have hS : Tryd.prog.underlying 56 = some (.struct (Tryd.prog.fieldsOf 56)) := by kernel_rfl
  have hp : Tryd.prog.stoodInHeld 56 = false := by kernel_rfl
  rw [run_neq_struct, show (10000 : Nat) = 9999 + 1 from rfl, run_equalIn_agg w 9999 56 _ _ hS hp]
  simp only [Program.fieldsOf, Tryd.underlying56]
  go_simp
/-- a run, as cells -/
structure Ru where
  f : Int
  t : Int
  o : Int
  s : Int
  c : Int
  g : Bool
structure RuAt (W : World) (b o : Nat) (x : Ru) : Prop where
  c0 : W.cell? ⟨b, o, none⟩ = some (.int .i64 x.f)
  c1 : W.cell? ⟨b, o + 1, none⟩ = some (.int .i64 x.t)
  c2 : W.cell? ⟨b, o + 2, none⟩ = some (.int .i64 x.o)
  c3 : W.cell? ⟨b, o + 3, none⟩ = some (.int .i64 x.s)
  c4 : W.cell? ⟨b, o + 4, none⟩ = some (.int .i64 x.c)
  c5 : W.cell? ⟨b, o + 5, none⟩ = some (.bool x.g)
theorem RuAt.below {W W' : World} {b o : Nat} {x : Ru} (h : RuAt W b o x) (hl : b < W.heap.size) (hb : Below W.heap.size W W') : RuAt W' b o x :=
  ⟨(hb.cell (p := ⟨b, o, none⟩) hl).trans h.c0, (hb.cell (p := ⟨b, o + 1, none⟩) hl).trans h.c1, (hb.cell (p := ⟨b, o + 2, none⟩) hl).trans h.c2, (hb.cell (p := ⟨b, o + 3, none⟩) hl).trans h.c3, (hb.cell (p := ⟨b, o + 4, none⟩) hl).trans h.c4, (hb.cell (p := ⟨b, o + 5, none⟩) hl).trans h.c5⟩
def RdU (W : World) (a : Option Addr) (n : Nat) (F : Nat → Ru) : Prop := n = 0 ∨ ∃ b o, a = some ⟨b, o, none⟩ ∧ b < W.heap.size ∧ ∀ j, j < n → RuAt W b (o + j * 6) (F j)
theorem RdU.below {W W' : World} {a : Option Addr} {n : Nat} {F : Nat → Ru} (h : RdU W a n F) (hb : Below W.heap.size W W') : RdU W' a n F := by
  rcases h with h | ⟨b, o, ha, hl, hc⟩
  · exact .inl h
  · exact .inr ⟨b, o, ha, Nat.lt_of_lt_of_le hl hb.size, fun j hj => (hc j hj).below hl hb⟩
theorem RdU.at_ {W : World} {a : Option Addr} {n : Nat} {F : Nat → Ru} (h : RdU W a n F) {k : Nat} (hk : k < n) : ∃ b o, a = some ⟨b, o, none⟩ ∧ b < W.heap.size ∧ RuAt W b (o + k * 6) (F k) := by
  rcases h with h | ⟨b, o, ha, hl, hc⟩
  · omega
  · exact ⟨b, o, ha, hl, hc k hk⟩
/-- the run j of a list -/
def ruOf (X : RM) (r : Rg) : Ru := ⟨r.1, r.2, dO X r.1, dS X r.1, dT X r.1, dH X r.1⟩
theorem RdU.of_own {W : World} {B n c : Nat} {a : Option Addr} {X : RM} {L : List Rg} (h : W.ownsRow B 56 6 (.slice a n c) n (rcL X L)) (hn : n = L.length) : RdU W a n (fun j => ruOf X (L.getD j rg0)) := by
  by_cases h0 : n = 0
  · exact .inl h0
  · obtain ⟨g, cap, hv⟩ := ownsRow_form h (by omega)
    cases hv
    refine .inr ⟨g, 0, rfl, (h.lt g rfl).2, fun j hj => ?_⟩
    have H : ∀ i, i < 6 → W.cell? ⟨g, j * 6 + i, none⟩ = (rgC X (L.getD j rg0))[i]? := fun i hi => by rw [h.cellAt _ (by omega), rcL_get X L j i (by omega) hi]
    rw [Nat.zero_add]
    exact ⟨H 0 (by omega), H 1 (by omega), H 2 (by omega), H 3 (by omega), H 4 (by omega), H 5 (by omega)⟩
set_option maxRecDepth 100000 in
set_option maxHeartbeats 1600000 in
theorem sameRuns_ok7 {w : World} {a b : Option Addr} {n c d : Nat} {F : Nat → Ru} (hA : RdU w a n F) (hB : RdU w b n F) (hn : n ≤ 9223372036854775807) :
    Calls Tryd.prog 37 #[.slice a n c, .slice b n d] w fun e w' => e = .returned (.bool true) ∧ Below w.heap.size w w' := by
  have HA := Lib.hid hA
  have HB := Lib.hid hB
  have d0 : ((n : Int) != (n : Int)) = false := by simp
  clear hA hB
  go_enter Tryd.func37, Tryd.ntmps37
  go_wp2
  go_loopw [5] (fun i wr => ∃ k : Nat, k ≤ n ∧ i = .int .i64 k ∧ Hid (Below w.heap.size w wr)) (fun i _ => n - (intOf i).toNat)
  case atStart => exact ⟨0, Nat.zero_le _, rfl, Lib.hid (Below.refl _ _)⟩
  case round =>
    obtain ⟨k, hk, rfl, BR⟩ := hrel
    by_cases hlt : k < n
    · obtain ⟨b1, o1, rfl, l1, c1⟩ := (HA.out.below BR.out).at_ hlt
      obtain ⟨b2, o2, rfl, l2, c2⟩ := (HB.out.below BR.out).at_ hlt
      have i1 : (k : Int) < (n : Int) := by omega
      have i0 : (0 : Int) ≤ (k : Int) := by omega
      obtain ⟨f, t, o, s, c', g⟩ := F k
      obtain ⟨p0, p1, p2, p3, p4, p5⟩ := c1
      obtain ⟨q0, q1, q2, q3, q4, q5⟩ := c2
      have hnq := neq_run7 f t o s c' g
      have hwk : IntKind.i64.wrap ((k : Int) + 1) = (k : Int) + 1 := IntWalk.i64_in _ (by omega)
      go_wp2_with fail
      go_quiet (fail)
      have BD := Lib.hid (below_tr BR.out (below_draw wr nq))
      go_wp2
      go_roundw
      case rel => exact ⟨k + 1, by omega, by go_num, BD⟩
      case measure => simp [intOf]; omega
    · obtain rfl : k = n := by omega
      have i1 : ¬ ((k : Int) < (k : Int)) := by omega
      go_wp2
      go_ret
      exact ⟨rfl, BR.out⟩
end Go.Proofs.YtfmclbacoffdaaaDoor

namespace Go.Proofs.YtfmclbacoffdaaaDoor
open Go.RowKit Go.Sort Go.Joins
attribute [local go_sem] cell_grow frozen_grow size_grow
/-- what Owned holds after k pages -/
structure OwR (w wr : World) (m : Int) (a : Option Addr) (n c : Nat) (X : RM) (o : Int) (k : Nat) (v : Value) : Prop where
  bx : wr.heap[w.heap.size]? = some (.cells #[.int .i64 m, .slice a n c] 45 (0, 0))
  ow : wr.ownsRow (w.heap.size + 1) 3 1 v (owL X o (wL X 0 k)).length (pgV (owL X o (wL X 0 k)))
  k : Below w.heap.size w wr
theorem OwR.below {w wr w' : World} {m : Int} {a : Option Addr} {n c : Nat} {X : RM} {o : Int} {k : Nat} {v : Value} (h : OwR w wr m a n c X o k v) (hb : Below wr.heap.size wr w') : OwR w w' m a n c X o k v :=
  ⟨(hb.block _ (blk_lt h.bx)).trans h.bx, own_belowW h.ow hb, below_tr h.k hb⟩
theorem owL_len (X : RM) (o : Int) (k : Nat) : (owL X o (wL X 0 k)).length ≤ k := by
  unfold owL wL
  exact Nat.le_trans (List.length_filter_le _ _) (Nat.le_trans (List.length_filter_le _ _) (by simp))
theorem wL_no {X : RM} {k : Nat} (h : wdI X.st k = 0) : wL X 0 (k + 1) = wL X 0 k := wL_skip 1 (fun q a b => by rw [show q = k by omega]; exact h)
theorem dO_ow {X : RM} (hw : RWk X) {q : Nat} (hq : q < 1024) (h : wdI X.st q ≠ 0) : dO X q = owI X q := by
  unfold dO owI
  rw [if_pos (by rw [getE_at hw hq, if_neg h]), if_pos (hw q hq h)]
section
variable {w : World} {a : Option Addr} {X : RM} {n c : Nat} {m : Int} {o : Int}
set_option maxRecDepth 100000 in
set_option maxHeartbeats 1600000 in
theorem rowned_bad (ho : o < 0 ∨ 4095 < o) (w : World) :
    Calls Tryd.prog 58 #[.agg #[.int .i64 m, .slice a n c], .int .i64 o] w fun e w' => e = .returned (.tuple #[.slice none 0 0, .int .i64 7]) ∧ Below w.heap.size w w' := by
  have HB := Lib.hid (below_box0 w (.cells #[.int .i64 m, .slice a n c] 45))
  have hd : (decide (0 ≤ o) && decide (o ≤ 4095)) = false := by
    rcases ho with c | c
    · rw [decide_eq_false (show ¬ 0 ≤ o by omega)]; rfl
    · rw [decide_eq_false (show ¬ o ≤ 4095 by omega), Bool.and_false]
  have HBT := Lib.hid (btw_ok o 0 4095)
  rw [hd] at HBT
  clear hd ho
  go_enter Tryd.func58, Tryd.ntmps58
  go_wp2_with fail
  generalize World.alloc _ _ = W0 at HB ⊢
  refine (HBT.out _).mono ?_
  rintro e w1 ⟨rfl, rfl⟩
  go_wp2
  go_ret2
  exact ⟨rfl, HB.out⟩
set_option maxRecDepth 100000 in
set_option maxHeartbeats 3200000 in
theorem rowned_in (h : StR w a (stS X)) (hG : RGood X) (hn : n = X.st.length) (hn2 : n ≤ 145) (h0 : 0 ≤ o) (h1 : o ≤ 4095) :
    Calls Tryd.prog 58 #[.agg #[.int .i64 m, .slice a n c], .int .i64 o] w fun e w' => ∃ b d, e = .returned (.tuple #[.slice b (owL X o (wL X 0 1024)).length d, .int .i64 0]) ∧ RdV w' b (owL X o (wL X 0 1024)).length (fun j => (((owL X o (wL X 0 1024)).getD j 0 : Nat) : Int)) ∧ Below w.heap.size w w' := by
  obtain ⟨i0, hi0, hz0, hz1, hz2'⟩ := info_parts info_int8
  have hB := below_box0 w (.cells #[.int .i64 m, .slice a n c] 45)
  have hS0 : OwR w (w.alloc (.cells #[.int .i64 m, .slice a n c] 45)) m a n c X o 0 (.slice none 0 0) := by
    refine ⟨heap_alloc_new w _, ?_, hB⟩
    rw [wL_start]
    exact World.ownsRow_nil _ _ _ _
  have HS0 := Lib.hid hS0
  have HST := Lib.hid h
  have HG := Lib.hid hG
  have HNN := Lib.hid hn
  have hd : (decide (0 ≤ o) && decide (o ≤ 4095)) = true := by rw [decide_eq_true h0, decide_eq_true h1]; rfl
  have HBT := Lib.hid (btw_ok o 0 4095)
  rw [hd] at HBT
  clear hd hB hS0 h hG hn h0 h1
  go_enter Tryd.func58, Tryd.ntmps58
  go_wp2_with fail
  generalize World.alloc _ _ = W0 at HS0 ⊢
  refine (HBT.out _).mono ?_
  rintro e w1 ⟨rfl, rfl⟩
  clear HBT
  go_wp2
  go_loopw [6, 7] (fun s y wr => ∃ (k : Nat) (v : Value), v = s ∧ k ≤ 1024 ∧ y = .int .i64 k ∧ Hid (OwR w wr m a n c X o k v)) (fun _ y _ => 1024 - (intOf y).toNat)
  case atStart => exact ⟨0, _, rfl, Nat.zero_le _, rfl, HS0⟩
  case round =>
    clear HS0
    obtain ⟨k, v, rfl, hk, rfl, HO⟩ := hrel
    have k0 : wr.cell? ⟨w.heap.size, 0, none⟩ = some (.int .i64 m) := by rw [cell_of_block HO.out.bx]; rfl
    have k1 : wr.cell? ⟨w.heap.size, 1, none⟩ = some (.slice a n c) := by rw [cell_of_block HO.out.bx]; rfl
    by_cases hlt : k < 1024
    · have i1 : (k : Int) < 1024 := by omega
      have i0' : (0 : Int) ≤ (k : Int) := by omega
      have HGE := Lib.hid (rget_ok7 (m := m) (c := c) (HST.out.below HO.out.k) HG.out HNN.out hn2 (k : Int))
      rw [getV_d] at HGE
      by_cases hw : wdI X.st k = 0
      · have hE : getE X (k : Int) = 4 := by rw [getE_at HG.out.w hlt, if_pos hw]
        rw [hE] at HGE
        have HW := Lib.hid (wL_no hw)
        clear hE hw
        go_wp2_with fail
        refine HGE.out.mono ?_
        rintro e w5 ⟨rfl, b5⟩
        have HO5 := Lib.hid (HO.out.below (below_tr b5 (below_box0 w5 (.cells #[.int .i64 (dO X k), .int .i64 (dS X k), .int .i64 (dT X k), .bool (dH X k)] 23))))
        clear b5 HGE k0 k1 HO
        go_wp2
        go_roundw
        case rel => exact ⟨k + 1, v, rfl, by omega, by go_num, Lib.hid ⟨HO5.out.bx, by rw [HW.out]; exact HO5.out.ow, HO5.out.k⟩⟩
        case measure => simp [intOf]; omega
      · have hE : getE X (k : Int) = 0 := by rw [getE_at HG.out.w hlt, if_neg hw]
        rw [hE] at HGE
        have hst := wL_step (X := X) (f := 0) (Nat.zero_le _) hw
        have hsn := owL_snoc X o (wL X 0 k) k
        rw [← dO_ow HG.out.w hlt hw, ← hst] at hsn
        have HSN := Lib.hid hsn
        obtain ⟨po, hpo⟩ : ∃ y, dO X k = y := ⟨_, rfl⟩
        rw [hpo] at HGE HSN
        clear hE hw hst hsn hpo
        have hle := owL_len X o k
        by_cases ho : po = o
        · have HSM : Hid (owL X o (wL X 0 (k + 1)) = owL X o (wL X 0 k) ++ [k]) := Lib.hid (by rw [HSN.out, if_pos ho])
          subst ho
          obtain ⟨nn, hnn⟩ : ∃ y, (owL X po (wL X 0 k)).length = y := ⟨_, rfl⟩
          have HNL := Lib.hid hnn
          rw [hnn] at hle
          go_wp2_with fail
          refine HGE.out.mono ?_
          rintro e w5 ⟨rfl, b5⟩
          have HO5 := Lib.hid (HO.out.below (below_tr b5 (below_box0 w5 (.cells #[.int .i64 po, .int .i64 (dS X k), .int .i64 (dT X k), .bool (dH X k)] 23))))
          have hO := HO5.out.ow
          rw [hnn] at hO
          obtain ⟨va, vc, rfl⟩ := own_slice' hO
          have HOW := Lib.hid hO
          have hlb := blk_lt HO5.out.bx
          clear b5 HGE k0 k1 HO HSN hO hnn
          go_upto_region 9 with fail
          generalize World.alloc _ _ = W6 at HO5 HOW hlb ⊢
          go_wp2_with (at_builtin; refine wpList_append_own _ rfl (.tmp 31) (.tmp 33) 52 rfl (w.heap.size + 1) 3 i0 (.int .i64 0) 1 8 Tryd.underlying52 hi0 hz0 hz1 hz2' rfl (by decide) _ _ _ rfl (HOW.out.alloc _) ⟨W6.heap.size, 0, none⟩ 1 1 [.int .i64 (k : Int)] rfl rfl ?c1 ?c2 ?c3 ?c4 ?c5 ?_)
          case c1 => exact World.news_of_block (heap_alloc_new W6 _)
          case c2 => intro u hu; simp at hu; subst hu; rfl
          case c3 => unfold maxLen; omega
          case c4 => omega
          case c5 => simp; omega
          intro v9 w9 hown hg _
          obtain ⟨va9, vc9, rfl⟩ := own_slice' hown
          have HON : Hid (OwR w w9 m a n c X po (k + 1) (.slice va9 (nn + 1) vc9)) := Lib.hid (by
            have hne : ∀ b, b < w.heap.size + 1 → (some b : Option Nat) ≠ (Value.slice va nn vc).ownBlock := own_ne7 HOW.out
            refine ⟨?_, ?_, ?_⟩
            · rw [hg.block _ (by simp; omega) (hne _ (by omega)), Below.heap_alloc _ _ _ hlb]
              exact HO5.out.bx
            · rw [HSM.out, List.length_append, HNL.out, show pgV (owL X po (wL X 0 k) ++ [k]) = pgV (owL X po (wL X 0 k)) ++ [.int .i64 (k : Int)] by simp [pgV]]
              exact hown
            · exact (HO5.out.k.alloc HO5.out.k.size _).grown hg (by simp; omega) (fun r e => by have := (HOW.out.lt r e).1; omega))
          clear hown hg HO5 HOW HSM
          go_wp2
          go_roundw
          case rel => exact ⟨k + 1, _, rfl, by omega, by go_num, HON⟩
          case measure => simp [intOf]; omega
        · have HSM : Hid (owL X o (wL X 0 (k + 1)) = owL X o (wL X 0 k)) := Lib.hid (by rw [HSN.out, if_neg ho])
          have d1 : (po == o) = false := by simpa using ho
          go_wp2_with fail
          refine HGE.out.mono ?_
          rintro e w5 ⟨rfl, b5⟩
          have HO5 := Lib.hid (HO.out.below (below_tr b5 (below_box0 w5 (.cells #[.int .i64 po, .int .i64 (dS X k), .int .i64 (dT X k), .bool (dH X k)] 23))))
          clear b5 HGE k0 k1 HO HSN
          go_wp2
          go_roundw
          case rel => exact ⟨k + 1, v, rfl, by omega, by go_num, Lib.hid ⟨HO5.out.bx, by rw [HSM.out]; exact HO5.out.ow, HO5.out.k⟩⟩
          case measure => simp [intOf]; omega
    · obtain rfl : k = 1024 := by omega
      have hO := HO.out.ow
      obtain ⟨va, vc, rfl⟩ := own_slice' hO
      have HRD := Lib.hid (RdV.of_own hO rfl)
      clear k0 k1 hO
      go_wp2
      go_ret2
      exact ⟨va, vc, rfl, HRD.out, HO.out.k⟩
end
end Go.Proofs.YtfmclbacoffdaaaDoor
