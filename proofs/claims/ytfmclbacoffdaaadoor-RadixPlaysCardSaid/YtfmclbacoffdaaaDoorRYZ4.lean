/- The radix map: put of the reference. -/
import Derived.Test.YtfmclbacoffdaaaDoorRYZ1
import Derived.Test.YtfmclbacoffdaaaDoorRYZ3
namespace Go.Proofs.YtfmclbacoffdaaaDoor
open Go.RowKit Go.Sort Go.Joins
attribute [local go_sem] cell_grow frozen_grow size_grow
theorem make8i (w : World) : (Instr.makeSlice 52 (.int .i64 8) (.int .i64 8)).run Tryd.prog w = .ok (.slice (some ⟨w.heap.size, 0, none⟩) 8 8) (w.alloc (.cells #[.int .i64 0, .int .i64 0, .int .i64 0, .int .i64 0, .int .i64 0, .int .i64 0, .int .i64 0, .int .i64 0] 3)) :=
  run_make_ints7 8 (by decide) w
theorem make8u (w : World) : (Instr.makeSlice 58 (.int .i64 8) (.int .i64 8)).run Tryd.prog w = .ok (.slice (some ⟨w.heap.size, 0, none⟩) 8 8) (w.alloc (.cells #[.int .u64 0, .int .u64 0, .int .u64 0, .int .u64 0, .int .u64 0, .int .u64 0, .int .u64 0, .int .u64 0] 24)) := by
  obtain ⟨i0, hi, hz0, hz1, hz2⟩ := info_parts (show (Tryd.prog.info? 24).map (fun i => (i.zero, i.size, i.bytes)) = some (some (.int .u64 0), 1, 8) by kernel_rfl)
  have h := run_make (P := Tryd.prog) w 58 24 i0 _ Tryd.underlying58 hi hz0 .i64 .i64 8 8 (by omega) (by omega) (by rw [hz2]; omega) (by omega)
  have e : madeCells #[.int .u64 0] (8 * 1) = #[.int .u64 0, .int .u64 0, .int .u64 0, .int .u64 0, .int .u64 0, .int .u64 0, .int .u64 0, .int .u64 0] := by
    apply Array.ext'
    rw [toList_madeCells_one]
    rfl
  rw [hz1] at h
  first
    | (rw [← e]; exact h)
    | (simp only [e] at h; exact h)
theorem rnOf_klen (x : Nd) : (rnOf x).ks.length = kN x.lv := by simp [rnOf]
theorem rnOf_wlen (x : Nd) : (rnOf x).ws.length = wN x.lv := by simp [rnOf]
/-- states in boxes stay -/
def KpS (w W : World) : Prop := ∀ (b : Nat) (cs : Array Value), w.heap[b]? = some (.cells cs 45 (0, 0)) → W.heap[b]? = some (.cells cs 45 (0, 0))
theorem KpS.of_below {w W : World} (h : Below w.heap.size w W) : KpS w W := fun _ _ hb => (h.block _ (blk_lt hb)).trans hb
theorem KpS.trans {a b c : World} (h : KpS a b) (k : KpS b c) : KpS a c := fun _ _ hb => k _ _ (h _ _ hb)
theorem KpS.set {w W : World} (h : KpS w W) {g o : Nat} {cs : Array Value} {T : TypeId} {fz : Nat × Nat} (hg : W.heap[g]? = some (.cells cs T fz)) (hT : T ≠ 45) (u : Value) : KpS w (W.setCell ⟨g, o, none⟩ u) := by
  unfold KpS at h ⊢
  intro b cs' hb
  have e1 := h b cs' hb
  rw [Below.heap_setCell _ _ _ _ (fun e => by dsimp only at e; rw [e, hg] at e1; simp at e1; exact hT e1.2.1)]
  exact e1
theorem row_cells {W : World} {B : Nat} {e : TypeId} {size n g c m : Nat} {xs : List Value} (h : W.ownsRow B e size (.slice (some ⟨g, 0, none⟩) n c) m xs) : ∃ cs, W.heap[g]? = some (.cells cs e (0, 0)) := by
  rcases h.2 with ⟨h1, _⟩ | ⟨g', cap, cur, hv, _, hh, _⟩
  · cases h1
  · simp only [Value.slice.injEq, Option.some.injEq, Addr.mk.injEq] at hv
    obtain ⟨⟨rfl, _⟩, _⟩ := hv
    exact ⟨_, hh⟩
/-- what lies in memory while a page is put -/
structure PtM (w W : World) (B g n c : Nat) (m : Int) (K L : Nat → Value) (S : List Rn) : Prop where
  bx : W.heap[w.heap.size]? = some (.cells #[.int .i64 m, .slice (some ⟨g, 0, none⟩) n c] 45 (0, 0))
  st : OSt W B (.slice (some ⟨g, 0, none⟩) n c) K L S
  k : Below B w W
  kb : KpS w W
section
variable {w W W' : World} {B g n c : Nat} {m : Int} {K L : Nat → Value} {S : List Rn}
theorem PtM.below (h : PtM w W B g n c m K L S) (hB : B ≤ w.heap.size) (hb : Below W.heap.size W W') : PtM w W' B g n c m K L S :=
  ⟨(hb.block _ (blk_lt h.bx)).trans h.bx, h.st.below hb, h.k.trans (hb.mono (Nat.le_trans hB h.k.size)), h.kb.trans (KpS.of_below hb)⟩
theorem PtM.k0 (h : PtM w W B g n c m K L S) : W.cell? ⟨w.heap.size, 0, none⟩ = some (.int .i64 m) := by rw [cell_of_block h.bx]; rfl
theorem PtM.k1 (h : PtM w W B g n c m K L S) : W.cell? ⟨w.heap.size, 1, none⟩ = some (.slice (some ⟨g, 0, none⟩) n c) := by rw [cell_of_block h.bx]; rfl
theorem kps3 {w W : World} {B g n c k : Nat} {xs : List Value} (h : KpS w W) (hr : W.ownsRow B 60 3 (.slice (some ⟨g, 0, none⟩) n c) k xs) (i1 i2 i3 : Nat) (a b d : Value) : KpS w (((W.setCell ⟨g, i1, none⟩ a).setCell ⟨g, i2, none⟩ b).setCell ⟨g, i3, none⟩ d) := by
  obtain ⟨cs, hcs⟩ := row_cells hr
  have h1 := h.set (o := i1) hcs t_ns a
  have g1 := setCell_block hcs (i := i1) a
  have h2 := h1.set (o := i2) g1 t_ns b
  have g2 := setCell_block g1 (i := i2) b
  exact h2.set (o := i3) g2 t_ns d
theorem PtM.node3 (h : PtM w W B g n c m K L S) (hB : B ≤ w.heap.size) {f : Nat} (hf : f < S.length) (x : Rn) {cs : Array Value} {T : TypeId} {k l : Value} (hk : (W.alloc (.cells cs T)).ownsRow W.heap.size 3 1 k x.ks.length (intsV x.ks)) (hl : (W.alloc (.cells cs T)).ownsRow W.heap.size 24 1 l x.ws.length (u64s x.ws)) :
    PtM w ((((W.setCell ⟨g, f * 3, none⟩ (.int .i64 x.lv)).setCell ⟨g, f * 3 + 1, none⟩ k).setCell ⟨g, f * 3 + 2, none⟩ l).alloc (.cells cs T)) B g n c m (updV K f k) (updV L f l) (S.set f x) := by
  have hBW : B ≤ W.heap.size := Nat.le_trans hB h.k.size
  have ha := h.below hB (below_box0 W (.cells cs T))
  obtain ⟨hgl, hgB⟩ := h.st.blk
  have hst := ha.st.setNode hf x (own_leW hk hBW) (own_leW hl hBW) (fun j hj q e e2 => by have a := ((h.st.kid j hj).lt q e).2; have b := (hk.lt q e2).1; omega) (fun j hj q e e2 => by have a := ((h.st.wrd j hj).lt q e).2; have b := (hl.lt q e2).1; omega)
  have e : (((W.alloc (.cells cs T)).setCell ⟨g, f * 3, none⟩ (.int .i64 x.lv)).setCell ⟨g, f * 3 + 1, none⟩ k).setCell ⟨g, f * 3 + 2, none⟩ l = (((W.setCell ⟨g, f * 3, none⟩ (.int .i64 x.lv)).setCell ⟨g, f * 3 + 1, none⟩ k).setCell ⟨g, f * 3 + 2, none⟩ l).alloc (.cells cs T) := by
    rw [World.setCell_alloc_past _ _ _ _ hgl, World.setCell_alloc_past _ _ _ _ (by rw [World.size_setCell]; exact hgl), World.setCell_alloc_past _ _ _ _ (by rw [World.size_setCell, World.size_setCell]; exact hgl)]
  rw [e] at hst
  have hxg : w.heap.size ≠ g := fun e => by
    have hr := h.st.row
    exact own_ty hr h.bx t_ns (by rw [e]; rfl)
  refine ⟨?_, hst, ?_, ?_⟩
  · rw [← e, Below.heap_setCell _ _ _ _ hxg, Below.heap_setCell _ _ _ _ hxg, Below.heap_setCell _ _ _ _ hxg]
    exact ha.bx
  · rw [← e]
    exact ((ha.k.setCell (p := ⟨g, f * 3, none⟩) hgB _).setCell (p := ⟨g, f * 3 + 1, none⟩) hgB _).setCell (p := ⟨g, f * 3 + 2, none⟩) hgB _
  · rw [← e]
    exact kps3 ha.kb ha.st.row _ _ _ _ _ _
theorem PtM.newKids (h : PtM w W B g n c m K L S) (hB : B ≤ w.heap.size) {f : Nat} (hf : f < S.length) :
    PtM w ((((W.setCell ⟨g, f * 3, none⟩ (.int .i64 1)).setCell ⟨g, f * 3 + 1, none⟩ (.slice (some ⟨W.heap.size, 0, none⟩) 8 8)).setCell ⟨g, f * 3 + 2, none⟩ (.slice none 0 0)).alloc (.cells #[.int .i64 0, .int .i64 0, .int .i64 0, .int .i64 0, .int .i64 0, .int .i64 0, .int .i64 0, .int .i64 0] 3)) B g n c m
      (updV K f (.slice (some ⟨W.heap.size, 0, none⟩) 8 8)) (updV L f (.slice none 0 0)) (S.set f (rnOf (nd0 1))) :=
  h.node3 hB hf (rnOf (nd0 1)) (World.ownsRow_lit W #[.int .i64 0, .int .i64 0, .int .i64 0, .int .i64 0, .int .i64 0, .int .i64 0, .int .i64 0, .int .i64 0] 8 (Nat.le_refl _) (by decide) rfl) (World.ownsRow_nil _ _ _ _)
theorem PtM.newWords (h : PtM w W B g n c m K L S) (hB : B ≤ w.heap.size) {f : Nat} (hf : f < S.length) :
    PtM w ((((W.setCell ⟨g, f * 3, none⟩ (.int .i64 2)).setCell ⟨g, f * 3 + 1, none⟩ (.slice none 0 0)).setCell ⟨g, f * 3 + 2, none⟩ (.slice (some ⟨W.heap.size, 0, none⟩) 8 8)).alloc (.cells #[.int .u64 0, .int .u64 0, .int .u64 0, .int .u64 0, .int .u64 0, .int .u64 0, .int .u64 0, .int .u64 0] 24)) B g n c m
      (updV K f (.slice none 0 0)) (updV L f (.slice (some ⟨W.heap.size, 0, none⟩) 8 8)) (S.set f (rnOf (nd0 2))) :=
  h.node3 hB hf (rnOf (nd0 2)) (World.ownsRow_nil _ _ _ _) (World.ownsRow_lit W #[.int .u64 0, .int .u64 0, .int .u64 0, .int .u64 0, .int .u64 0, .int .u64 0, .int .u64 0, .int .u64 0] 8 (Nat.le_refl _) (by decide) rfl)
/-- the kids of a node that has some -/
theorem PtM.kidAt (h : PtM w W B g n c m K L S) {i : Nat} (hi : i < S.length) {q : Nat} (hq : (S.getD i rn0).ks.length = q) (h0 : 0 < q) :
    ∃ gk ck, K i = .slice (some ⟨gk, 0, none⟩) q ck ∧ W.cell? ⟨g, i * 3 + 1, none⟩ = some (.slice (some ⟨gk, 0, none⟩) q ck) ∧ gk < W.heap.size ∧ B ≤ gk ∧ gk ≠ g ∧ (∀ k, W.frozen? ⟨gk, k, none⟩ = false) ∧ (∀ k, k < q → W.cell? ⟨gk, k, none⟩ = some (.int .i64 ((S.getD i rn0).ks.getD k 0))) := by
  obtain ⟨_, ⟨ka, kc, e1, c1⟩, _⟩ := h.st.nodeCells hi
  have hk := h.st.kid i hi
  rw [e1, hq] at hk
  rw [hq] at e1 c1
  obtain ⟨gk, ck, hv⟩ := ownsRow_form hk h0
  cases hv
  obtain ⟨l1, l2⟩ := hk.lt gk rfl
  refine ⟨gk, kc, e1, c1, l2, l1, fun e => ?_, fun k => hk.frozenAt k, fun k hkq => ?_⟩
  · have := (h.st.kne hi).1
    rw [e1] at this
    exact this (by rw [e]; rfl)
  · rw [hk.cellAt k (by omega), intsV_get _ (by omega)]
theorem PtM.wrdAt (h : PtM w W B g n c m K L S) {i : Nat} (hi : i < S.length) {q : Nat} (hq : (S.getD i rn0).ws.length = q) (h0 : 0 < q) :
    ∃ gk ck, L i = .slice (some ⟨gk, 0, none⟩) q ck ∧ W.cell? ⟨g, i * 3 + 2, none⟩ = some (.slice (some ⟨gk, 0, none⟩) q ck) ∧ gk < W.heap.size ∧ B ≤ gk ∧ gk ≠ g ∧ (∀ k, W.frozen? ⟨gk, k, none⟩ = false) ∧ (∀ k, k < q → W.cell? ⟨gk, k, none⟩ = some (.int .u64 ((S.getD i rn0).ws.getD k 0 : Nat))) := by
  obtain ⟨_, _, ⟨ka, kc, e1, c1⟩⟩ := h.st.nodeCells hi
  have hk := h.st.wrd i hi
  rw [e1, hq] at hk
  rw [hq] at e1 c1
  obtain ⟨gk, ck, hv⟩ := ownsRow_form hk h0
  cases hv
  obtain ⟨l1, l2⟩ := hk.lt gk rfl
  refine ⟨gk, kc, e1, c1, l2, l1, fun e => ?_, fun k => hk.frozenAt k, fun k hkq => ?_⟩
  · have := (h.st.kne hi).2
    rw [e1] at this
    exact this (by rw [e]; rfl)
  · rw [hk.cellAt k (by omega), u64s_getD _ (by omega)]
theorem PtM.kid (h : PtM w W B g n c m K L S) {i k gk ck q : Nat} (hi : i < S.length) (hq : (S.getD i rn0).ks.length = q) (hK : K i = .slice (some ⟨gk, 0, none⟩) q ck) (hB : B ≤ gk) (u : Int) : PtM w (W.setCell ⟨gk, k, none⟩ (.int .i64 u)) B g n c m K L (setKd S i k u) := by
  have hk := h.st.kid i hi
  rw [hK] at hk
  have hne : w.heap.size ≠ gk := fun e => own_ty hk h.bx t_is (by rw [e]; rfl)
  exact ⟨(Below.heap_setCell _ _ _ _ hne).trans h.bx, h.st.setKid hi (by rw [hq]; exact hK) u, h.k.setCell (p := ⟨gk, k, none⟩) hB _, h.kb.set (row_cells hk).choose_spec t_is _⟩
theorem PtM.wrd (h : PtM w W B g n c m K L S) {i k gk ck q : Nat} (hi : i < S.length) (hq : (S.getD i rn0).ws.length = q) (hK : L i = .slice (some ⟨gk, 0, none⟩) q ck) (hB : B ≤ gk) (u : Nat) : PtM w (W.setCell ⟨gk, k, none⟩ (.int .u64 (u : Int))) B g n c m K L (setWd S i k u) := by
  have hk := h.st.wrd i hi
  rw [hK] at hk
  have hne : w.heap.size ≠ gk := fun e => own_ty hk h.bx t_us (by rw [e]; rfl)
  exact ⟨(Below.heap_setCell _ _ _ _ hne).trans h.bx, h.st.setWrd hi (by rw [hq]; exact hK) u, h.k.setCell (p := ⟨gk, k, none⟩) hB _, h.kb.set (row_cells hk).choose_spec t_us _⟩
end
section
variable {w : World} {B g n c : Nat} {m : Int} {K L : Nat → Value} {X : RM} {p x : Nat}
set_option maxRecDepth 100000 in
set_option maxHeartbeats 3200000 in
theorem rput_both (h : OSt w B (.slice (some ⟨g, 0, none⟩) n c) K L (stS X)) (hI : RInv X) (hN : NrS X.st) (hn : n = X.st.length) (hn2 : n ≤ 145) (hp : p < 1024) (hB0 : B ≤ w.heap.size) (hmd : mdI X.st p = 0) (hr : X.m + 2 ≤ n) :
    Calls Tryd.prog 71 #[.agg #[.int .i64 m, .slice (some ⟨g, 0, none⟩) n c], .int .i64 p, .int .u64 x] w fun e w' => e = .returned (.bool true) ∧ (∃ K' L', OSt w' B (.slice (some ⟨g, 0, none⟩) n c) K' L' (stS (putM X x p))) ∧ Below B w w' ∧ KpS w w' := by
  have hB := below_box0 w (.cells #[.int .i64 m, .slice (some ⟨g, 0, none⟩) n c] 45)
  have hP : PtM w (w.alloc (.cells #[.int .i64 m, .slice (some ⟨g, 0, none⟩) n c] 45)) B g n c m K L (stS X) := ⟨heap_alloc_new w _, h.below hB, hB.mono hB0, KpS.of_below hB⟩
  have HP := Lib.hid hP
  have HI := Lib.hid hI
  have HNr := Lib.hid hN
  have HNN := Lib.hid hn
  have hlf : lfI X.st p = 0 := by unfold lfI; rw [if_pos hmd]
  have HLE := Lib.hid (rleaf_ok (m := m) (c := c) hP.st.str hI hn hn2 hp)
  rw [hmd, hlf] at HLE
  have hf := hI.room (by omega)
  have HFR : Hid (frR X = frI X) := Lib.hid (if_pos hf)
  have hf0 := (hI.fr hf).2
  have HHF := Lib.hid hf
  obtain ⟨f, hfe⟩ : ∃ f, frI X = f := ⟨_, rfl⟩
  rw [hfe] at hf hf0 HFR HHF
  have HFE := Lib.hid hfe
  have HMD := Lib.hid hmd
  have hfn : f < n := by rw [hn]; exact hf
  have hroot : (X.N 0).lv = 0 := hI.root
  have hk0 : (X.N 0).kd (p / 64) = 0 := hmd
  have h16 : p / 64 < kN (X.N 0).lv := by rw [hroot]; show p / 64 < 16; omega
  have hI1 : RInv (growM X 0 (p / 64)) := hI.grow0 (by rw [hfe]; exact hf) (by omega) hk0
  have hN1 : NrS (growM X 0 (p / 64)).st := hN.grow (by rw [hroot]; decide) (by rw [hfe]; exact hf0) (by rw [hfe]; exact hf) h16
  have hL1 : (growM X 0 (p / 64)).st.length = X.st.length := growM_len _ _ _
  have hm1 : (growM X 0 (p / 64)).m = X.m + 1 := rfl
  have hNf := growM_N (X := X) (i := 0) (k := p / 64) hI.n1 (by rw [hfe]; exact hf) (by rw [hfe]; exact hf0) f
  rw [if_neg hf0, hfe, if_pos rfl, hroot] at hNf
  have HX1 : Hid (stS (growM X 0 (p / 64)) = setKd ((stS X).set f (rnOf (nd0 1))) 0 (p / 64) ((f : Nat) : Int)) := Lib.hid (by
    have := stS_grow (X := X) (i := 0) (k := p / 64) hI.n1 (by rw [hfe]; exact hf) (by rw [hfe]; exact hf0) h16
    rw [hfe, hroot] at this
    exact this)
  have HPX : Hid (putA X p = growM X 0 (p / 64) ∧ putAI X p = f) := Lib.hid ⟨if_pos hmd, by unfold putAI; rw [if_pos hmd, hfe]⟩
  have HPB : Hid (putB X p = growM (putA X p) (putAI X p) (p / 8 % 8) ∧ putBI X p = frI (putA X p)) := Lib.hid ⟨if_pos hlf, if_pos hlf⟩
  obtain ⟨X1, hX1⟩ : ∃ Y, growM X 0 (p / 64) = Y := ⟨_, rfl⟩
  rw [hX1] at hI1 hN1 hL1 hm1 hNf HX1 HPX
  have hlv : (X1.N f).lv = 1 := by rw [hNf]; rfl
  have hg := hI1.room (by omega)
  obtain ⟨f2, hf2⟩ : ∃ f, frI X1 = f := ⟨_, rfl⟩
  have hf20 := (hI1.fr hg).2
  have hfne : frI X1 ≠ f := fun e => by
    have := (hI1.fr hg).1
    rw [e, hlv] at this
    omega
  have HX2 : Hid (stS (growM X1 f (p / 8 % 8)) = setKd ((stS X1).set f2 (rnOf (nd0 2))) f (p / 8 % 8) ((f2 : Nat) : Int)) := Lib.hid (by
    have := stS_grow (X := X1) (i := f) (k := p / 8 % 8) (by rw [hL1]; exact hf) hg hfne (by rw [hlv]; show p / 8 % 8 < 8; omega)
    rw [hf2, hlv] at this
    exact this)
  have HX3 : Hid (stS (putM X x p) = setWd (stS (growM X1 f (p / 8 % 8))) f2 (p % 8) x) := Lib.hid (by
    have := stS_put (X := X) x p (by rw [HPB.out.2, HPX.out.1, hL1.symm]; exact hg)
    rw [HPB.out.1, HPB.out.2, HPX.out.1, HPX.out.2, hf2] at this
    exact this)
  have HFR2 : Hid (frR X1 = f2) := Lib.hid (by unfold frR; rw [if_pos hg, hf2])
  rw [hf2] at hg hf20 hfne
  have hf2n : f2 < n := by rw [hn, ← hL1]; exact hg
  have HI1 := Lib.hid hI1
  have HN1 := Lib.hid hN1
  have HLV := Lib.hid hlv
  have HNN1 : Hid (n = X1.st.length) := Lib.hid (by rw [hn, hL1])
  clear hroot hk0 h16 hI1 hN1 hL1 hm1 hNf HPX HPB hX1 hlv hg hf2
  clear h hB hP hI hN hn hmd hlf hf hfe
  go_enter Tryd.func71, Tryd.ntmps71
  go_wp2_with fail
  generalize World.alloc _ _ = W0 at HP HLE ⊢
  refine HLE.out.mono ?_
  rintro e w1 ⟨rfl, b1⟩
  have P1 := Lib.hid (HP.out.below hB0 b1)
  have k0 := P1.out.k0
  have k1 := P1.out.k1
  clear b1 HP HLE
  go_wp2_with fail
  refine (rfree_ok (m := m) (c := c) P1.out.st.str HI.out HNr.out HNN.out hn2).mono ?_
  rintro e w2 ⟨rfl, b2⟩
  rw [HFR.out]
  have P2 := Lib.hid (P1.out.below hB0 b2)
  have d1 : ((f : Int) == 0) = false := by simp; omega
  obtain ⟨c0, ⟨ka, kc, e1, c1⟩, ⟨la, lc, e2, c2⟩⟩ := P2.out.st.nodeCells (j := f) (by rw [stS_len, ← HNN.out]; exact hfn)
  have fz := P2.out.st.fz
  have k1 := P2.out.k1
  have i0 : (0 : Int) ≤ (f : Int) := by omega
  have i1 : (f : Int) < (n : Int) := by omega
  have hlx := blk_lt P2.out.bx
  have hlg := P2.out.st.blk.1
  have hmk := make8i
  have P3 := Lib.hid ((P2.out.newKids hB0 (f := f) (by rw [stS_len, ← HNN.out]; exact hfn)).below hB0 (Below.refl _ _).drew)
  clear b2 P1 e1 e2 k0
  go_wp2
  go_region_with fail
  all_goals
    generalize World.drew _ = W3 at P3 ⊢
    clear P2 c0 c1 c2 fz k1 hlx hlg hmk
    have hK0 : (((stS X).set f (rnOf (nd0 1))).getD 0 rn0).ks.length = 16 := by
      rw [getD_setR (by rw [stS_len, ← HNN.out]; exact hfn), if_neg (fun e => hf0 e.symm), stS_get X HI.out.n1, rnOf_klen]
      have := HI.out.root
      rw [show (X.N 0).lv = 0 from this]; rfl
    obtain ⟨gk, ck, e1, q1, l1, b1, n1, z1, v1⟩ := P3.out.kidAt (i := 0) (by rw [List.length_set, stS_len]; exact HI.out.n1) hK0 (by decide)
    rw [Nat.zero_mul, Nat.zero_add] at q1
    have y1 := v1 (p / 64) (by omega)
    have y2 := z1 (p / 64)
    have k1 := P3.out.k1
    have hlx := blk_lt P3.out.bx
    have i2 : ((p : Int) / 64) < 16 := by omega
    have i3 : (0 : Int) ≤ (p : Int) / 64 := by omega
    have i4 : (0 : Int) < (n : Int) := by omega
    have P4 := Lib.hid (P3.out.kid (k := p / 64) (by rw [List.length_set, stS_len]; exact HI.out.n1) hK0 e1 b1 ((f : Nat) : Int))
    clear e1 v1 z1 hK0 P3
    go_upto_region 8 with fail
    generalize World.setCell _ _ _ = W4 at P4 ⊢
    rw [← HX1.out] at P4
    clear y1 y2 q1 l1 b1 n1 k1 hlx
    have k0 := P4.out.k0
    have k1 := P4.out.k1
    go_wp2_with fail
    refine (rfree_ok (m := m) (c := c) P4.out.st.str HI1.out HN1.out HNN1.out hn2).mono ?_
    rintro e w5 ⟨rfl, b5⟩
    rw [HFR2.out]
    have P5 := Lib.hid (P4.out.below hB0 b5)
    clear b5 P4 k0 k1
    have d2 : ((f2 : Int) == 0) = false := by simp; omega
    obtain ⟨c0, ⟨ka, kc, e1, c1⟩, ⟨la, lc, e2, c2⟩⟩ := P5.out.st.nodeCells (j := f2) (by rw [stS_len, ← HNN1.out]; exact hf2n)
    have fz := P5.out.st.fz
    have k1 := P5.out.k1
    have i5 : (0 : Int) ≤ (f2 : Int) := by omega
    have i6 : (f2 : Int) < (n : Int) := by omega
    have hlx := blk_lt P5.out.bx
    have hlg := P5.out.st.blk.1
    have hmk := make8u
    have P6 := Lib.hid ((P5.out.newWords hB0 (f := f2) (by rw [stS_len, ← HNN1.out]; exact hf2n)).below hB0 (Below.refl _ _).drew)
    clear e1 e2
    go_wp2
    go_region_with fail
  all_goals
    generalize World.drew _ = W6 at P6 ⊢
    clear P5 c0 c1 c2 fz k1 hlx hlg hmk
    have hK1 : (((stS X1).set f2 (rnOf (nd0 2))).getD f rn0).ks.length = 8 := by
      rw [getD_setR (by rw [stS_len, ← HNN1.out]; exact hf2n), if_neg (fun e => hfne e.symm), stS_get X1 (by rw [← HNN1.out]; exact hfn), rnOf_klen, HLV.out]; rfl
    obtain ⟨gk, ck, e1, q1, l1, b1, n1, z1, v1⟩ := P6.out.kidAt (i := f) (by rw [List.length_set, stS_len, ← HNN1.out]; exact hfn) hK1 (by decide)
    have y1 := v1 (p / 8 % 8) (by omega)
    have y2 := z1 (p / 8 % 8)
    have k1 := P6.out.k1
    have hlx := blk_lt P6.out.bx
    have i7 : ((p : Int) / 8 % 8) < 8 := by omega
    have i8 : (0 : Int) ≤ (p : Int) / 8 % 8 := by omega
    have P7 := Lib.hid (P6.out.kid (k := p / 8 % 8) (by rw [List.length_set, stS_len, ← HNN1.out]; exact hfn) hK1 e1 b1 ((f2 : Nat) : Int))
    rw [← HX2.out] at P7
    clear e1 v1 z1 hK1 P6
    go_upto_region 14 with fail
    generalize World.setCell _ _ _ = W7 at P7 ⊢
    clear y1 y2 q1 l1 b1 n1 k1 hlx
    have hW1 : ((stS (growM X1 f (p / 8 % 8))).getD f2 rn0).ws.length = 8 := by
      rw [HX2.out]
      rw [(setKd_rest (by rw [List.length_set, stS_len, ← HNN1.out]; exact hfn)).2.1, getD_setR (by rw [stS_len, ← HNN1.out]; exact hf2n), if_pos rfl]; rfl
    obtain ⟨gk, ck, e1, q1, l1, b1, n1, z1, v1⟩ := P7.out.wrdAt (i := f2) (by rw [stS_len, growM_len, ← HNN1.out]; exact hf2n) hW1 (by decide)
    have y1 := v1 (p % 8) (by omega)
    have y2 := z1 (p % 8)
    have k1 := P7.out.k1
    have hlx := blk_lt P7.out.bx
    have i9 : ((p : Int) % 8) < 8 := by omega
    have i10 : (0 : Int) ≤ (p : Int) % 8 := by omega
    have P8 := Lib.hid (P7.out.wrd (k := p % 8) (by rw [stS_len, growM_len, ← HNN1.out]; exact hf2n) hW1 e1 b1 x)
    rw [← HX3.out] at P8
    clear e1 v1 z1 hW1 P7
    go_wp2
    go_ret
    exact ⟨rfl, ⟨_, _, P8.out.st⟩, P8.out.k, P8.out.kb⟩
set_option maxRecDepth 100000 in
set_option maxHeartbeats 3200000 in
theorem rput_no0 (h : OSt w B (.slice (some ⟨g, 0, none⟩) n c) K L (stS X)) (hI : RInv X) (hN : NrS X.st) (hn : n = X.st.length) (hn2 : n ≤ 145) (hp : p < 1024) (hB0 : B ≤ w.heap.size) (hmd : mdI X.st p = 0) (hr : n ≤ X.m) :
    Calls Tryd.prog 71 #[.agg #[.int .i64 m, .slice (some ⟨g, 0, none⟩) n c], .int .i64 p, .int .u64 x] w fun e w' => e = .returned (.bool false) ∧ Below B w w' ∧ KpS w w' := by
  have hB := below_box0 w (.cells #[.int .i64 m, .slice (some ⟨g, 0, none⟩) n c] 45)
  have hP : PtM w (w.alloc (.cells #[.int .i64 m, .slice (some ⟨g, 0, none⟩) n c] 45)) B g n c m K L (stS X) := ⟨heap_alloc_new w _, h.below hB, hB.mono hB0, KpS.of_below hB⟩
  have HP := Lib.hid hP
  have HI := Lib.hid hI
  have HNr := Lib.hid hN
  have HNN := Lib.hid hn
  have hlf : lfI X.st p = 0 := by unfold lfI; rw [if_pos hmd]
  have HLE := Lib.hid (rleaf_ok (m := m) (c := c) hP.st.str hI hn hn2 hp)
  rw [hmd, hlf] at HLE
  have HFR : Hid (frR X = 0) := Lib.hid (if_neg (hI.noroom (by omega)))
  clear h hB hP hI hN hn hmd hlf
  go_enter Tryd.func71, Tryd.ntmps71
  go_wp2_with fail
  generalize World.alloc _ _ = W0 at HP HLE ⊢
  refine HLE.out.mono ?_
  rintro e w1 ⟨rfl, b1⟩
  have P1 := Lib.hid (HP.out.below hB0 b1)
  have k0 := P1.out.k0
  have k1 := P1.out.k1
  clear b1 HP HLE
  go_wp2_with fail
  refine (rfree_ok (m := m) (c := c) P1.out.st.str HI.out HNr.out HNN.out hn2).mono ?_
  rintro e w2 ⟨rfl, b2⟩
  rw [HFR.out]
  have P2 := Lib.hid (P1.out.below hB0 b2)
  go_wp2
  go_ret
  exact ⟨rfl, P2.out.k, P2.out.kb⟩
set_option maxRecDepth 100000 in
set_option maxHeartbeats 3200000 in
theorem rput_noL (h : OSt w B (.slice (some ⟨g, 0, none⟩) n c) K L (stS X)) (hI : RInv X) (hN : NrS X.st) (hn : n = X.st.length) (hn2 : n ≤ 145) (hp : p < 1024) (hB0 : B ≤ w.heap.size) (hmd : mdI X.st p ≠ 0) (hlf : lfI X.st p = 0) (hr : n ≤ X.m) :
    Calls Tryd.prog 71 #[.agg #[.int .i64 m, .slice (some ⟨g, 0, none⟩) n c], .int .i64 p, .int .u64 x] w fun e w' => e = .returned (.bool false) ∧ Below B w w' ∧ KpS w w' := by
  have hB := below_box0 w (.cells #[.int .i64 m, .slice (some ⟨g, 0, none⟩) n c] 45)
  have hP : PtM w (w.alloc (.cells #[.int .i64 m, .slice (some ⟨g, 0, none⟩) n c] 45)) B g n c m K L (stS X) := ⟨heap_alloc_new w _, h.below hB, hB.mono hB0, KpS.of_below hB⟩
  have HP := Lib.hid hP
  have HI := Lib.hid hI
  have HNr := Lib.hid hN
  have HNN := Lib.hid hn
  have HLE := Lib.hid (rleaf_ok (m := m) (c := c) hP.st.str hI hn hn2 hp)
  rw [hlf] at HLE
  have HFR : Hid (frR X = 0) := Lib.hid (if_neg (hI.noroom (by omega)))
  have d0 : ((mdI X.st p : Int) == 0) = false := by simp; omega
  obtain ⟨md, hmd'⟩ : ∃ y, mdI X.st p = y := ⟨_, rfl⟩
  rw [hmd'] at HLE d0
  clear h hB hP hI hN hn hmd hlf hmd'
  go_enter Tryd.func71, Tryd.ntmps71
  go_wp2_with fail
  generalize World.alloc _ _ = W0 at HP HLE ⊢
  refine HLE.out.mono ?_
  rintro e w1 ⟨rfl, b1⟩
  have P1 := Lib.hid (HP.out.below hB0 b1)
  have k0 := P1.out.k0
  have k1 := P1.out.k1
  clear b1 HP HLE
  go_wp2_with fail
  refine (rfree_ok (m := m) (c := c) P1.out.st.str HI.out HNr.out HNN.out hn2).mono ?_
  rintro e w2 ⟨rfl, b2⟩
  rw [HFR.out]
  have P2 := Lib.hid (P1.out.below hB0 b2)
  go_wp2
  go_ret
  exact ⟨rfl, P2.out.k, P2.out.kb⟩
set_option maxRecDepth 100000 in
set_option maxHeartbeats 3200000 in
theorem rput_no1 (h : OSt w B (.slice (some ⟨g, 0, none⟩) n c) K L (stS X)) (hI : RInv X) (hN : NrS X.st) (hn : n = X.st.length) (hn2 : n ≤ 145) (hp : p < 1024) (hB0 : B ≤ w.heap.size) (hmd : mdI X.st p = 0) (hr : X.m + 1 = n) :
    Calls Tryd.prog 71 #[.agg #[.int .i64 m, .slice (some ⟨g, 0, none⟩) n c], .int .i64 p, .int .u64 x] w fun e w' => e = .returned (.bool false) ∧ Below B w w' ∧ KpS w w' := by
  have hB := below_box0 w (.cells #[.int .i64 m, .slice (some ⟨g, 0, none⟩) n c] 45)
  have hP : PtM w (w.alloc (.cells #[.int .i64 m, .slice (some ⟨g, 0, none⟩) n c] 45)) B g n c m K L (stS X) := ⟨heap_alloc_new w _, h.below hB, hB.mono hB0, KpS.of_below hB⟩
  have HP := Lib.hid hP
  have HI := Lib.hid hI
  have HNr := Lib.hid hN
  have HNN := Lib.hid hn
  have hlf : lfI X.st p = 0 := by unfold lfI; rw [if_pos hmd]
  have HLE := Lib.hid (rleaf_ok (m := m) (c := c) hP.st.str hI hn hn2 hp)
  rw [hmd, hlf] at HLE
  have hf := hI.room (by omega)
  have HFR : Hid (frR X = frI X) := Lib.hid (if_pos hf)
  have hf0 := (hI.fr hf).2
  have HHF := Lib.hid hf
  obtain ⟨f, hfe⟩ : ∃ f, frI X = f := ⟨_, rfl⟩
  rw [hfe] at hf hf0 HFR HHF
  have HFE := Lib.hid hfe
  have HMD := Lib.hid hmd
  have hfn : f < n := by rw [hn]; exact hf
  have hroot : (X.N 0).lv = 0 := hI.root
  have hk0 : (X.N 0).kd (p / 64) = 0 := hmd
  have h16 : p / 64 < kN (X.N 0).lv := by rw [hroot]; show p / 64 < 16; omega
  have hI1 : RInv (growM X 0 (p / 64)) := hI.grow0 (by rw [hfe]; exact hf) (by omega) hk0
  have hN1 : NrS (growM X 0 (p / 64)).st := hN.grow (by rw [hroot]; decide) (by rw [hfe]; exact hf0) (by rw [hfe]; exact hf) h16
  have hL1 : (growM X 0 (p / 64)).st.length = X.st.length := growM_len _ _ _
  have hm1 : (growM X 0 (p / 64)).m = X.m + 1 := rfl
  have hNf := growM_N (X := X) (i := 0) (k := p / 64) hI.n1 (by rw [hfe]; exact hf) (by rw [hfe]; exact hf0) f
  rw [if_neg hf0, hfe, if_pos rfl, hroot] at hNf
  have HX1 : Hid (stS (growM X 0 (p / 64)) = setKd ((stS X).set f (rnOf (nd0 1))) 0 (p / 64) ((f : Nat) : Int)) := Lib.hid (by
    have := stS_grow (X := X) (i := 0) (k := p / 64) hI.n1 (by rw [hfe]; exact hf) (by rw [hfe]; exact hf0) h16
    rw [hfe, hroot] at this
    exact this)
  obtain ⟨X1, hX1⟩ : ∃ Y, growM X 0 (p / 64) = Y := ⟨_, rfl⟩
  rw [hX1] at hI1 hN1 hL1 hm1 HX1
  have HFR2 : Hid (frR X1 = 0) := Lib.hid (if_neg (hI1.noroom (by omega)))
  have HI1 := Lib.hid hI1
  have HN1 := Lib.hid hN1
  have HNN1 : Hid (n = X1.st.length) := Lib.hid (by rw [hn, hL1])
  clear hroot hk0 h16 hI1 hN1 hL1 hm1 hX1 hNf
  clear h hB hP hI hN hn hmd hlf hf hfe
  go_enter Tryd.func71, Tryd.ntmps71
  go_wp2_with fail
  generalize World.alloc _ _ = W0 at HP HLE ⊢
  refine HLE.out.mono ?_
  rintro e w1 ⟨rfl, b1⟩
  have P1 := Lib.hid (HP.out.below hB0 b1)
  have k0 := P1.out.k0
  have k1 := P1.out.k1
  clear b1 HP HLE
  go_wp2_with fail
  refine (rfree_ok (m := m) (c := c) P1.out.st.str HI.out HNr.out HNN.out hn2).mono ?_
  rintro e w2 ⟨rfl, b2⟩
  rw [HFR.out]
  have P2 := Lib.hid (P1.out.below hB0 b2)
  have d1 : ((f : Int) == 0) = false := by simp; omega
  obtain ⟨c0, ⟨ka, kc, e1, c1⟩, ⟨la, lc, e2, c2⟩⟩ := P2.out.st.nodeCells (j := f) (by rw [stS_len, ← HNN.out]; exact hfn)
  have fz := P2.out.st.fz
  have k1 := P2.out.k1
  have i0 : (0 : Int) ≤ (f : Int) := by omega
  have i1 : (f : Int) < (n : Int) := by omega
  have hlx := blk_lt P2.out.bx
  have hlg := P2.out.st.blk.1
  have hmk := make8i
  have P3 := Lib.hid ((P2.out.newKids hB0 (f := f) (by rw [stS_len, ← HNN.out]; exact hfn)).below hB0 (Below.refl _ _).drew)
  clear b2 P1 e1 e2 k0
  go_wp2
  go_region_with fail
  all_goals
    generalize World.drew _ = W3 at P3 ⊢
    clear P2 c0 c1 c2 fz k1 hlx hlg hmk
    have hK0 : (((stS X).set f (rnOf (nd0 1))).getD 0 rn0).ks.length = 16 := by
      rw [getD_setR (by rw [stS_len, ← HNN.out]; exact hfn), if_neg (fun e => hf0 e.symm), stS_get X HI.out.n1, rnOf_klen]
      have := HI.out.root
      rw [show (X.N 0).lv = 0 from this]; rfl
    obtain ⟨gk, ck, e1, q1, l1, b1, n1, z1, v1⟩ := P3.out.kidAt (i := 0) (by rw [List.length_set, stS_len]; exact HI.out.n1) hK0 (by decide)
    rw [Nat.zero_mul, Nat.zero_add] at q1
    have y1 := v1 (p / 64) (by omega)
    have y2 := z1 (p / 64)
    have k1 := P3.out.k1
    have hlx := blk_lt P3.out.bx
    have i2 : ((p : Int) / 64) < 16 := by omega
    have i3 : (0 : Int) ≤ (p : Int) / 64 := by omega
    have i4 : (0 : Int) < (n : Int) := by omega
    have P4 := Lib.hid (P3.out.kid (k := p / 64) (by rw [List.length_set, stS_len]; exact HI.out.n1) hK0 e1 b1 ((f : Nat) : Int))
    clear e1 v1 z1 hK0 P3
    go_upto_region 8 with fail
    generalize World.setCell _ _ _ = W4 at P4 ⊢
    rw [← HX1.out] at P4
    clear y1 y2 q1 l1 b1 n1 k1 hlx
    have k0 := P4.out.k0
    have k1 := P4.out.k1
    go_wp2_with fail
    refine (rfree_ok (m := m) (c := c) P4.out.st.str HI1.out HN1.out HNN1.out hn2).mono ?_
    rintro e w5 ⟨rfl, b5⟩
    rw [HFR2.out]
    have P5 := Lib.hid (P4.out.below hB0 b5)
    clear b5 P4 k0 k1
    go_wp2
    go_ret
    exact ⟨rfl, P5.out.k, P5.out.kb⟩
set_option maxRecDepth 100000 in
set_option maxHeartbeats 3200000 in
theorem rput_leaf (h : OSt w B (.slice (some ⟨g, 0, none⟩) n c) K L (stS X)) (hI : RInv X) (hN : NrS X.st) (hn : n = X.st.length) (hn2 : n ≤ 145) (hp : p < 1024) (hB0 : B ≤ w.heap.size) (hmd : mdI X.st p ≠ 0) (hlf : lfI X.st p = 0) (hr : X.m + 1 ≤ n) :
    Calls Tryd.prog 71 #[.agg #[.int .i64 m, .slice (some ⟨g, 0, none⟩) n c], .int .i64 p, .int .u64 x] w fun e w' => e = .returned (.bool true) ∧ (∃ K' L', OSt w' B (.slice (some ⟨g, 0, none⟩) n c) K' L' (stS (putM X x p))) ∧ Below B w w' ∧ KpS w w' := by
  have hB := below_box0 w (.cells #[.int .i64 m, .slice (some ⟨g, 0, none⟩) n c] 45)
  have hP : PtM w (w.alloc (.cells #[.int .i64 m, .slice (some ⟨g, 0, none⟩) n c] 45)) B g n c m K L (stS X) := ⟨heap_alloc_new w _, h.below hB, hB.mono hB0, KpS.of_below hB⟩
  have HP := Lib.hid hP
  have HI := Lib.hid hI
  have HNr := Lib.hid hN
  have HNN := Lib.hid hn
  have HLE := Lib.hid (rleaf_ok (m := m) (c := c) hP.st.str hI hn hn2 hp)
  rw [hlf] at HLE
  have hmdn := md_lt hI hp
  obtain ⟨hk1, hlv⟩ := hI.k0 (p / 64) (by omega) hmd
  have hlv : (X.N (mdI X.st p)).lv = 1 := hlv
  have hg := hI.room (by omega)
  have hfne : frI X ≠ mdI X.st p := fun e => by
    have := (hI.fr hg).1
    rw [e, hlv] at this
    omega
  have hf20 := (hI.fr hg).2
  have HPB : Hid (putB X p = growM (putA X p) (putAI X p) (p / 8 % 8) ∧ putBI X p = frI (putA X p)) := Lib.hid ⟨if_pos hlf, if_pos hlf⟩
  have HPX : Hid (putA X p = X ∧ putAI X p = mdI X.st p) := Lib.hid ⟨if_neg hmd, if_neg hmd⟩
  have d0 : ((mdI X.st p : Int) == 0) = false := by simp; omega
  obtain ⟨f2, hf2⟩ : ∃ f, frI X = f := ⟨_, rfl⟩
  have HX2 : Hid (stS (growM X (mdI X.st p) (p / 8 % 8)) = setKd ((stS X).set f2 (rnOf (nd0 2))) (mdI X.st p) (p / 8 % 8) ((f2 : Nat) : Int)) := Lib.hid (by
    have := stS_grow (X := X) (i := mdI X.st p) (k := p / 8 % 8) hmdn hg hfne (by rw [hlv]; show p / 8 % 8 < 8; omega)
    rw [hf2, hlv] at this
    exact this)
  have HX3 : Hid (stS (putM X x p) = setWd (stS (growM X (mdI X.st p) (p / 8 % 8))) f2 (p % 8) x) := Lib.hid (by
    have := stS_put (X := X) x p (by rw [HPB.out.2, HPX.out.1]; exact hg)
    rw [HPB.out.1, HPB.out.2, HPX.out.1, HPX.out.2, hf2] at this
    exact this)
  have HFR : Hid (frR X = f2) := Lib.hid (by unfold frR; rw [if_pos hg, hf2])
  rw [hf2] at hg hf20 hfne
  have hf2n : f2 < n := by rw [hn]; exact hg
  have hfn : mdI X.st p < n := by rw [hn]; exact hmdn
  obtain ⟨f, hfe⟩ : ∃ y, mdI X.st p = y := ⟨_, rfl⟩
  rw [hfe] at HLE d0 HX2 HX3 hfne hlv hfn hmd
  have HLV := Lib.hid hlv
  have i0 : (0 : Int) ≤ (f : Int) := by omega
  have i1 : (f : Int) < (n : Int) := by omega
  clear HPB HPX hlv hg hf2 hk1 hmdn hfe
  clear h hB hP hI hN hn hmd hlf
  go_enter Tryd.func71, Tryd.ntmps71
  go_wp2_with fail
  generalize World.alloc _ _ = W0 at HP HLE ⊢
  refine HLE.out.mono ?_
  rintro e w1 ⟨rfl, b1⟩
  have P1 := Lib.hid (HP.out.below hB0 b1)
  have k0 := P1.out.k0
  have k1 := P1.out.k1
  clear b1 HP HLE
  go_wp2_with fail
  refine (rfree_ok (m := m) (c := c) P1.out.st.str HI.out HNr.out HNN.out hn2).mono ?_
  rintro e w2 ⟨rfl, b2⟩
  rw [HFR.out]
  have P2 := Lib.hid (P1.out.below hB0 b2)
  clear b2 P1 k0 k1
  have d2 : ((f2 : Int) == 0) = false := by simp; omega
  obtain ⟨c0, ⟨ka, kc, e1, c1⟩, ⟨la, lc, e2, c2⟩⟩ := P2.out.st.nodeCells (j := f2) (by rw [stS_len, ← HNN.out]; exact hf2n)
  have fz := P2.out.st.fz
  have k1 := P2.out.k1
  have i5 : (0 : Int) ≤ (f2 : Int) := by omega
  have i6 : (f2 : Int) < (n : Int) := by omega
  have hlx := blk_lt P2.out.bx
  have hlg := P2.out.st.blk.1
  have hmk := make8u
  have P6 := Lib.hid ((P2.out.newWords hB0 (f := f2) (by rw [stS_len, ← HNN.out]; exact hf2n)).below hB0 (Below.refl _ _).drew)
  clear e1 e2
  go_wp2
  go_region_with fail
  all_goals
    generalize World.drew _ = W6 at P6 ⊢
    clear P2 c0 c1 c2 fz k1 hlx hlg hmk
    have hK1 : (((stS X).set f2 (rnOf (nd0 2))).getD f rn0).ks.length = 8 := by
      rw [getD_setR (by rw [stS_len, ← HNN.out]; exact hf2n), if_neg (fun e => hfne e.symm), stS_get X (by rw [← HNN.out]; exact hfn), rnOf_klen, HLV.out]; rfl
    obtain ⟨gk, ck, e1, q1, l1, b1, n1, z1, v1⟩ := P6.out.kidAt (i := f) (by rw [List.length_set, stS_len, ← HNN.out]; exact hfn) hK1 (by decide)
    have y1 := v1 (p / 8 % 8) (by omega)
    have y2 := z1 (p / 8 % 8)
    have k1 := P6.out.k1
    have hlx := blk_lt P6.out.bx
    have i7 : ((p : Int) / 8 % 8) < 8 := by omega
    have i8 : (0 : Int) ≤ (p : Int) / 8 % 8 := by omega
    have P7 := Lib.hid (P6.out.kid (k := p / 8 % 8) (by rw [List.length_set, stS_len, ← HNN.out]; exact hfn) hK1 e1 b1 ((f2 : Nat) : Int))
    rw [← HX2.out] at P7
    clear e1 v1 z1 hK1 P6
    go_upto_region 14 with fail
    generalize World.setCell _ _ _ = W7 at P7 ⊢
    clear y1 y2 q1 l1 b1 n1 k1 hlx
    have hW1 : ((stS (growM X f (p / 8 % 8))).getD f2 rn0).ws.length = 8 := by
      rw [HX2.out]
      rw [(setKd_rest (by rw [List.length_set, stS_len, ← HNN.out]; exact hfn)).2.1, getD_setR (by rw [stS_len, ← HNN.out]; exact hf2n), if_pos rfl]; rfl
    obtain ⟨gk, ck, e1, q1, l1, b1, n1, z1, v1⟩ := P7.out.wrdAt (i := f2) (by rw [stS_len, growM_len, ← HNN.out]; exact hf2n) hW1 (by decide)
    have y1 := v1 (p % 8) (by omega)
    have y2 := z1 (p % 8)
    have k1 := P7.out.k1
    have hlx := blk_lt P7.out.bx
    have i9 : ((p : Int) % 8) < 8 := by omega
    have i10 : (0 : Int) ≤ (p : Int) % 8 := by omega
    have P8 := Lib.hid (P7.out.wrd (k := p % 8) (by rw [stS_len, growM_len, ← HNN.out]; exact hf2n) hW1 e1 b1 x)
    rw [← HX3.out] at P8
    clear e1 v1 z1 hW1 P7
    go_wp2
    go_ret
    exact ⟨rfl, ⟨_, _, P8.out.st⟩, P8.out.k, P8.out.kb⟩
set_option maxRecDepth 100000 in
set_option maxHeartbeats 3200000 in
theorem rput_word (h : OSt w B (.slice (some ⟨g, 0, none⟩) n c) K L (stS X)) (hI : RInv X) (hN : NrS X.st) (hn : n = X.st.length) (hn2 : n ≤ 145) (hp : p < 1024) (hB0 : B ≤ w.heap.size) (hlf : lfI X.st p ≠ 0) :
    Calls Tryd.prog 71 #[.agg #[.int .i64 m, .slice (some ⟨g, 0, none⟩) n c], .int .i64 p, .int .u64 x] w fun e w' => e = .returned (.bool true) ∧ (∃ K' L', OSt w' B (.slice (some ⟨g, 0, none⟩) n c) K' L' (stS (putM X x p))) ∧ Below B w w' ∧ KpS w w' := by
  have hB := below_box0 w (.cells #[.int .i64 m, .slice (some ⟨g, 0, none⟩) n c] 45)
  have hP : PtM w (w.alloc (.cells #[.int .i64 m, .slice (some ⟨g, 0, none⟩) n c] 45)) B g n c m K L (stS X) := ⟨heap_alloc_new w _, h.below hB, hB.mono hB0, KpS.of_below hB⟩
  have HP := Lib.hid hP
  have HI := Lib.hid hI
  have HNr := Lib.hid hN
  have HNN := Lib.hid hn
  have HLE := Lib.hid (rleaf_ok (m := m) (c := c) hP.st.str hI hn hn2 hp)
  obtain ⟨g1, g2, g3, g4, g5, g6⟩ := hI.leaf hp hlf
  have d0 : ((mdI X.st p : Int) == 0) = false := by simp; omega
  have d1 : ((lfI X.st p : Int) == 0) = false := by simp; omega
  have HPB : Hid (putB X p = X ∧ putBI X p = lfI X.st p) := Lib.hid ⟨by unfold putB putA; rw [if_neg hlf, if_neg g1], if_neg hlf⟩
  have HX3 : Hid (stS (putM X x p) = setWd (stS X) (lfI X.st p) (p % 8) x) := Lib.hid (by
    have := stS_put (X := X) x p (by rw [HPB.out.2]; exact g5)
    rw [HPB.out.1, HPB.out.2] at this
    exact this)
  have hf2n : lfI X.st p < n := by rw [hn]; exact g5
  have HW1 : Hid (((stS X).getD (lfI X.st p) rn0).ws.length = 8) := Lib.hid (by rw [stS_get X g5, rnOf_wlen, g6]; rfl)
  obtain ⟨f2, hf2⟩ : ∃ y, lfI X.st p = y := ⟨_, rfl⟩
  obtain ⟨md, hmd⟩ : ∃ y, mdI X.st p = y := ⟨_, rfl⟩
  rw [hf2, hmd] at HLE
  rw [hf2] at d1 HX3 hf2n HW1
  rw [hmd] at d0
  have i5 : (0 : Int) ≤ (f2 : Int) := by omega
  have i6 : (f2 : Int) < (n : Int) := by omega
  clear HPB g1 g2 g3 g4 g5 g6 hf2 hmd
  clear h hB hP hI hN hn hlf
  go_enter Tryd.func71, Tryd.ntmps71
  go_wp2_with fail
  generalize World.alloc _ _ = W0 at HP HLE ⊢
  refine HLE.out.mono ?_
  rintro e w1 ⟨rfl, b1⟩
  have P1 := Lib.hid (HP.out.below hB0 b1)
  have k0 := P1.out.k0
  have k1 := P1.out.k1
  clear b1 HP HLE
  go_upto_region 14 with fail
  clear k0 k1
  obtain ⟨gk, ck, e1, q1, l1, b1, n1, z1, v1⟩ := P1.out.wrdAt (i := f2) (by rw [stS_len, ← HNN.out]; exact hf2n) HW1.out (by decide)
  have y1 := v1 (p % 8) (by omega)
  have y2 := z1 (p % 8)
  have k1 := P1.out.k1
  have hlx := blk_lt P1.out.bx
  have i9 : ((p : Int) % 8) < 8 := by omega
  have i10 : (0 : Int) ≤ (p : Int) % 8 := by omega
  have P8 := Lib.hid (P1.out.wrd (k := p % 8) (by rw [stS_len, ← HNN.out]; exact hf2n) HW1.out e1 b1 x)
  rw [← HX3.out] at P8
  clear e1 v1 z1 HW1 P1
  go_wp2
  go_ret
  exact ⟨rfl, ⟨_, _, P8.out.st⟩, P8.out.k, P8.out.kb⟩
end
end Go.Proofs.YtfmclbacoffdaaaDoor
