/- The radix map: Copy of the reference. | The radix map: drop of the reference. -/
import Derived.Test.YtfmclbacoffdaaaDoorRYZ4
import Derived.Test.YtfmclbacoffdaaaDoorRYZ5
import Derived.RegionTactic
namespace Go.Proofs.YtfmclbacoffdaaaDoor
open Go.RowKit Go.Sort Go.Joins
attribute [local go_sem] cell_grow frozen_grow size_grow
/-- an empty row of the call's own -/
def EmpV (B : Nat) (e : TypeId) (v : Value) (w : World) : Prop := ∃ b, v = .slice (some ⟨b, 0, none⟩) 0 0 ∧ w.ownsRow B e 1 (.slice (some ⟨b, 0, none⟩) 0 0) 0 []
def OwnV7 (B : Nat) (e : TypeId) (n : Nat) (xs : List Value) (v : Value) (w : World) : Prop := ∃ a k, v = .slice a n k ∧ w.ownsRow B e 1 (.slice a n k) n xs
section
variable {B : Nat} {e : TypeId} {n : Nat} {xs : List Value} {v : Value} {w w' : World}
theorem EmpV.below (h : EmpV B e v w) (hb : Below w.heap.size w w') : EmpV B e v w' := by
  obtain ⟨b, h1, h2⟩ := h
  exact ⟨b, h1, own_belowW h2 hb⟩
theorem EmpV.new (hB : B ≤ w.heap.size) : EmpV B e (.slice (some ⟨w.heap.size, 0, none⟩) 0 0) (w.alloc (.cells #[] e)) := ⟨_, rfl, World.ownsRow_lit w #[] 0 hB (by decide) rfl⟩
theorem OwnV7.mk (h : w.ownsRow B e 1 v n xs) : OwnV7 B e n xs v w := by
  obtain ⟨a, k, rfl⟩ := own_slice' h
  exact ⟨a, k, rfl, h⟩
theorem OwnV7.below (h : OwnV7 B e n xs v w) (hb : Below w.heap.size w w') : OwnV7 B e n xs v w' := by
  obtain ⟨a, k, h1, h2⟩ := h
  exact ⟨a, k, h1, own_belowW h2 hb⟩
end
/-- append to an empty row: new memory alone -/
theorem wp_append_emp7 {P : Program} {o : Oper} {a : Act} {w : World} {K : Act → World → Prop} {Q : Exit → Act → World → Prop}
    (hg : o.guard = none) (s x : Operand) (t : TypeId) (hop : o.op = Op.call { callee := Callee.builtin Builtin.append, args := #[s, x], argTypes := #[t, t] })
    (e : TypeId) (i : TypeInfo) (z : Value) (bytes : Nat) (h1 : P.underlying t = some (.slice e)) (h2 : P.info? e = some i) (h3 : i.zero = some z) (h4 : i.size = 1) (h5 : i.bytes = bytes) (h6 : z.cells.size = 1)
    (B : Nat) (hB : B ≤ w.heap.size) (b : Nat) (hs : a.eval s = .slice (some ⟨b, 0, none⟩) 0 0) (hown : w.ownsRow B e 1 (.slice (some ⟨b, 0, none⟩) 0 0) 0 [])
    (Bs : Nat) (A : Option Addr) (m c : Nat) (news : List Value) (hx : a.eval x = .slice A m c) (hr : Reads w Bs 1 A m news) (h1c : ∀ u ∈ news, u.oneCell' = true)
    (b1 : m ≤ maxLen) (b2 : m * bytes ≤ 140737488355328)
    (hK : ∀ v' w', w'.ownsRow B e 1 v' m news → Below w.heap.size w w' → K (a.put o.dst v') w') : Oper.wp P o a w K Q := by
  rcases Nat.eq_zero_or_pos m with h0 | h0
  · subst h0
    have hn : news = [] := List.eq_nil_of_length_eq_zero (by simpa using hr.1)
    subst hn
    have hrun : (Builtin.append_ #[t, t] o.type #[.slice (some ⟨b, 0, none⟩) 0 0, .slice A 0 c]).run P w = .ok (.slice (some ⟨b, 0, none⟩) 0 0) w := by
      rcases A with _ | ad
      · exact run_append_of_nil w B t o.type e i 1 h1 h2 _ 0 [] hown c
      · simp [Builtin.append_, run_underlying h1, sizeOf, typeInfo, h2, Builtin.lenOf, Builtin.firstCells, storeCells, loadCells, loadCellsFrom]
    unfold Oper.wp execOp
    simp only [hop, resolve, invoke, builtin, Sem.run_bind, Sem.run_pure, Result.andThen_ok, List.map_toArray, List.map_cons, List.map_nil, hs, hx, hrun]
    exact hK _ _ hown (Below.refl _ _)
  · obtain ⟨ad, rfl, _, hc⟩ := hr.2 h0
    exact wp_append_grows hg s x t hop e i z 1 bytes h1 h2 h3 h4 h5 h6 (by decide) _ hs ad m c news hx hr.1 hc h1c h0 b1 b2 (fun v' w' ho hgr => hK v' w' (own_leW ho hB) (below_grown hgr))
theorem intsV_one (l : List Int) : ∀ u ∈ intsV l, u.oneCell' = true := fun u hu => by unfold intsV at hu; simp at hu; obtain ⟨_, _, rfl⟩ := hu; rfl
/-- a node as a value -/
def NodeV (B : Nat) (x : Rn) (nk nw : Nat) (v : Value) (w : World) : Prop := ∃ a k b l, v = .agg #[.int .i64 x.lv, .slice a nk k, .slice b nw l] ∧ w.ownsRow B 3 1 (.slice a nk k) nk (intsV x.ks) ∧ w.ownsRow B 24 1 (.slice b nw l) nw (u64s x.ws)
/-- .. in a slice of one -/
def LitV (B : Nat) (x : Rn) (nk nw : Nat) (v : Value) (w : World) : Prop := ∃ H a k b l, v = .slice (some ⟨H, 0, none⟩) 1 1 ∧ w.heap[H]? = some (.cells #[.int .i64 x.lv, .slice a nk k, .slice b nw l] 60 (0, 0)) ∧ w.ownsRow B 3 1 (.slice a nk k) nk (intsV x.ks) ∧ w.ownsRow B 24 1 (.slice b nw l) nw (u64s x.ws)
section
variable {B : Nat} {x : Rn} {nk nw : Nat} {v : Value} {w w' : World}
theorem NodeV.below (h : NodeV B x nk nw v w) (hb : Below w.heap.size w w') : NodeV B x nk nw v w' := by
  obtain ⟨a, k, b, l, h1, h2, h3⟩ := h
  exact ⟨a, k, b, l, h1, own_belowW h2 hb, own_belowW h3 hb⟩
theorem LitV.below (h : LitV B x nk nw v w) (hb : Below w.heap.size w w') : LitV B x nk nw v w' := by
  obtain ⟨H, a, k, b, l, h1, h2, h3, h4⟩ := h
  exact ⟨H, a, k, b, l, h1, (hb.block _ (blk_lt h2)).trans h2, own_belowW h3 hb, own_belowW h4 hb⟩
theorem LitV.new {a b : Option Addr} {k l : Nat} (_hB : B ≤ w.heap.size) (h1 : w.ownsRow B 3 1 (.slice a nk k) nk (intsV x.ks)) (h2 : w.ownsRow B 24 1 (.slice b nw l) nw (u64s x.ws)) :
    LitV B x nk nw (.slice (some ⟨w.heap.size, 0, none⟩) 1 1) (w.alloc (.cells #[.int .i64 x.lv, .slice a nk k, .slice b nw l] 60)) :=
  ⟨_, a, k, b, l, rfl, heap_alloc_new w _, h1.alloc _, h2.alloc _⟩
theorem reads_lit3 {w : World} {H : Nat} {a b c : Value} {t : TypeId} (hblk : w.heap[H]? = some (.cells #[a, b, c] t (0, 0))) : Reads w w.heap.size 3 (some ⟨H, 0, none⟩) 1 [a, b, c] := by
  refine ⟨rfl, fun _ => ⟨_, rfl, blk_lt hblk, fun j x hj => ?_⟩⟩
  rw [Addr.add_lit, cell_of_block hblk]
  match j with
  | 0 => exact hj
  | 1 => exact hj
  | 2 => exact hj
  | j + 3 => simp at hj
theorem SlN.rk {a : Option Addr} {n : Nat} {x : Rn} (h : SlN w a n (kdV x)) (hn : x.ks.length = n) : Reads w w.heap.size 1 a n (intsV x.ks) := by
  refine ⟨by rw [intsV_length, hn, Nat.mul_one], fun h0 => ?_⟩
  rcases h with h | ⟨b, o, ha, hl, hc⟩
  · omega
  · refine ⟨_, ha, hl, fun j u hu => ?_⟩
    have hj : j < n := by
      have := (List.getElem?_eq_some_iff.1 hu).1
      rwa [intsV_length, hn] at this
    rw [intsV_get _ (by omega)] at hu
    cases hu
    rw [Addr.add_lit]
    exact hc j hj
theorem SlN.rw {a : Option Addr} {n : Nat} {x : Rn} (h : SlN w a n (wdV x)) (hn : x.ws.length = n) : Reads w w.heap.size 1 a n (u64s x.ws) := by
  refine ⟨by simp [u64s, hn], fun h0 => ?_⟩
  rcases h with h | ⟨b, o, ha, hl, hc⟩
  · omega
  · refine ⟨_, ha, hl, fun j u hu => ?_⟩
    have hj : j < n := by
      have := (List.getElem?_eq_some_iff.1 hu).1
      simpa [u64s, hn] using this
    rw [u64s_getD _ (by omega)] at hu
    cases hu
    rw [Addr.add_lit]
    exact hc j hj
end
/-- what Copy holds after i nodes -/
structure CyL (w wr : World) (m : Int) (a : Option Addr) (n c i : Nat) (v : Value) (K L : Nat → Value) (S : List Rn) : Prop where
  bx : wr.heap[w.heap.size]? = some (.cells #[.int .i64 m, .slice a n c] 45 (0, 0))
  rs : wr.heap[w.heap.size + 1]? = some (.cells #[.int .i64 0, .slice none 0 0] 45 (0, 0))
  out : wr.heap[w.heap.size + 1 + 1]? = some (.cells #[.int .i64 m, v] 45 (0, 0))
  st : OSt wr (w.heap.size + 3) v K L (S.take i)
  k : Below w.heap.size w wr
section
variable {w wr Wc w9 : World} {m : Int} {a : Option Addr} {n c i : Nat} {v v' kv uv : Value} {K L : Nat → Value} {S : List Rn} {x : Rn}
theorem CyL.boxAt (h : CyL w wr m a n c i v K L S) (hb : Below wr.heap.size wr Wc) (hg : Wc.grownBy w9 v.ownBlock) {k : Nat} {o : Obj} (hk : k < w.heap.size + 3) (ho : wr.heap[k]? = some o) : w9.heap[k]? = some o := by
  have hl : k < wr.heap.size := (Array.getElem?_eq_some_iff.1 ho).1
  have := hb.size
  rw [hg.block _ (by omega) (fun e => by have := (h.st.row.lt k e.symm).1; omega), hb.block _ hl]
  exact ho
theorem CyL.outAt (h : CyL w wr m a n c i v K L S) (hb : Below wr.heap.size wr Wc) (hg : Wc.grownBy w9 v.ownBlock) : w9.heap[w.heap.size + 1 + 1]? = some (.cells #[.int .i64 m, v] 45 (0, 0)) := h.boxAt hb hg (by omega) h.out
theorem CyL.next (h : CyL w wr m a n c i v K L S) (hb : Below wr.heap.size wr Wc)
    (hk : Wc.ownsRow wr.heap.size 3 1 kv x.ks.length (intsV x.ks)) (hl : Wc.ownsRow wr.heap.size 24 1 uv x.ws.length (u64s x.ws))
    (hr : w9.ownsRow (w.heap.size + 3) 60 3 v' (i + 1) (rnC K L (S.take i) ++ [.int .i64 x.lv, kv, uv])) (hg : Wc.grownBy w9 v.ownBlock) (hi : i < S.length) (hx : S.take (i + 1) = S.take i ++ [x]) :
    CyL w (w9.setCell ⟨w.heap.size + 1 + 1, 1, none⟩ v') m a n c (i + 1) v' (updV K i kv) (updV L i uv) S := by
  have hlen : (S.take i).length = i := by rw [List.length_take]; omega
  have hst := h.st.below hb
  have hlt := blk_lt h.out
  have hws := hb.size
  have hnew := OSt.snoc (w' := w9) (v' := v') (k := kv) (l := uv) (x := x) hst (own_leW hk (by omega)) (own_leW hl (by omega))
    (fun j hj g e e2 => by have a := (h.st.kid j hj).lt g e; have b := (hk.lt g e2).1; omega)
    (fun j hj g e e2 => by have a := (h.st.wrd j hj).lt g e; have b := (hl.lt g e2).1; omega)
    (by rw [hlen]; exact hr) hg
  rw [hlen, ← hx] at hnew
  refine ⟨?_, ?_, ?_, hnew.setBelow (a := ⟨w.heap.size + 1 + 1, 1, none⟩) (by dsimp only; omega) _, ?_⟩
  · rw [Below.heap_setCell _ _ _ _ (by dsimp only; omega)]; exact h.boxAt hb hg (by omega) h.bx
  · rw [Below.heap_setCell _ _ _ _ (by dsimp only; omega)]; exact h.boxAt hb hg (by omega) h.rs
  · rw [setCell_block (h.outAt hb hg)]; simp
  · have h1 : Below w.heap.size w Wc := h.k.trans (hb.mono h.k.size)
    exact (h1.grown hg (by omega) (fun k hk => by have := (h.st.row.lt k hk).1; omega)).setCell (p := ⟨w.heap.size + 1 + 1, 1, none⟩) (by dsimp only; omega) _
end
section
variable {w : World} {a : Option Addr} {n c : Nat} {m : Int} {S : List Rn}
set_option maxRecDepth 100000 in
set_option maxHeartbeats 6400000 in
theorem rcopy_ok (h : StR w a S) (hn : n = S.length) (hn2 : n ≤ 145) (h1 : 1 ≤ n) (hS : ∀ j, (S.getD j rn0).ks.length ≤ 16 ∧ (S.getD j rn0).ws.length ≤ 16) :
    Calls Tryd.prog 68 #[.agg #[.int .i64 m, .slice a n c]] w fun e w' => ∃ g c', e = .returned (.agg #[.int .i64 m, .slice (some ⟨g, 0, none⟩) n c']) ∧ (∃ K L, OSt w' w.heap.size (.slice (some ⟨g, 0, none⟩) n c') K L S) ∧ Below w.heap.size w w' := by
  obtain ⟨i0, hi0, hz0, hz1, hz2'⟩ := info_parts info_rmnode
  obtain ⟨j0, hj0, hy0, hs0, hb0⟩ := info_parts (show (Tryd.prog.info? 3).map (fun i => (i.zero, i.size, i.bytes)) = some (some (.int .i64 0), 1, 8) by kernel_rfl)
  obtain ⟨j1, hj1, hy1, hs1, hb1⟩ := info_parts (show (Tryd.prog.info? 24).map (fun i => (i.zero, i.size, i.bytes)) = some (some (.int .u64 0), 1, 8) by kernel_rfl)
  obtain ⟨b, o, rfl, hbl, hnd⟩ : ∃ b o, a = some ⟨b, o, none⟩ ∧ b < w.heap.size ∧ ∀ j, j < S.length → NdR w b (o + j * 3) (S.getD j rn0) := by
    rcases h with h | h
    · omega
    · exact h
  have HND := Lib.hid hnd
  have HNN := Lib.hid hn
  have HS := Lib.hid hS
  have hB3 : Below w.heap.size w (((w.alloc (.cells #[.int .i64 m, .slice (some ⟨b, o, none⟩) n c] 45)).alloc (.cells #[.int .i64 0, .slice none 0 0] 45)).alloc (.cells #[.int .i64 m, .slice none 0 0] 45)) :=
    (((Below.refl _ w).alloc (Nat.le_refl _) _).alloc (by simp) _).alloc (by simp; omega) _
  have N0 : ∀ (W : World) (A : Array Value) (t : TypeId) (k : Nat), k = W.heap.size → (W.alloc (.cells A t)).heap[k]? = some (.cells A t (0, 0)) := fun W A t k e => by rw [e]; exact heap_alloc_new W _
  have hCy : CyL w (((w.alloc (.cells #[.int .i64 m, .slice (some ⟨b, o, none⟩) n c] 45)).alloc (.cells #[.int .i64 0, .slice none 0 0] 45)).alloc (.cells #[.int .i64 m, .slice none 0 0] 45)) m (some ⟨b, o, none⟩) n c 0 (.slice none 0 0) (fun _ => undef) (fun _ => undef) S := by
    refine ⟨?_, ?_, ?_, OSt.nil _ _ _ _, hB3⟩
    · refine (Below.heap_alloc _ _ _ (by simp <;> omega)).trans ?_; refine (Below.heap_alloc _ _ _ (by simp <;> omega)).trans ?_; exact heap_alloc_new w _
    · refine (Below.heap_alloc _ _ _ (by simp <;> omega)).trans ?_; exact N0 _ _ _ _ (by simp)
    · exact N0 _ _ _ _ (by simp)
  have HCY := Lib.hid hCy
  clear h hnd hn hS hB3 hCy N0
  go_enter Tryd.func68, Tryd.ntmps68
  go_wp2_with fail
  generalize World.alloc _ _ = W2 at HCY ⊢
  go_loopw [4] (fun y wr => ∃ (i : Nat) (v : Value) (K0 L0 : Nat → Value), i ≤ n ∧ y = .int .i64 i ∧ Hid (CyL w wr m (some ⟨b, o, none⟩) n c i v K0 L0 S)) (fun y _ => n - (intOf y).toNat)
  case atStart => exact ⟨0, _, _, _, Nat.zero_le _, rfl, HCY⟩
  case round =>
    clear HCY
    obtain ⟨i, v, K0, L0, hi, rfl, HCy⟩ := hrel
    have k1 : wr.cell? ⟨w.heap.size, 1, none⟩ = some (.slice (some ⟨b, o, none⟩) n c) := by rw [cell_of_block HCy.out.bx]; rfl
    by_cases hlt : i < n
    · have HIS : Hid (i < S.length) := Lib.hid (by rw [← HNN.out]; exact hlt)
      have hx0 := (HND.out i HIS.out).below HCy.out.k
      have hsz := HS.out i
      have HTK : Hid (S.take (i + 1) = S.take i ++ [S.getD i rn0]) := Lib.hid (by rw [List.take_succ_eq_append_getElem HIS.out]; simp [List.getD, HIS.out])
      obtain ⟨x, hx⟩ : ∃ x, S.getD i rn0 = x := ⟨_, rfl⟩
      rw [hx] at hx0 hsz HTK
      obtain ⟨nk, hnk⟩ : ∃ k, x.ks.length = k := ⟨_, rfl⟩
      obtain ⟨nw, hnw⟩ : ∃ k, x.ws.length = k := ⟨_, rfl⟩
      obtain ⟨ka, kc, c1, r1⟩ := hx0.ks
      obtain ⟨la, lc, c2, r2⟩ := hx0.ws
      have c0 := hx0.lv
      rw [hnk] at c1 r1 hsz
      rw [hnw] at c2 r2 hsz
      have HRK0 := Lib.hid (r1.rk hnk)
      have HRW0 := Lib.hid (r2.rw hnw)
      have HLK := Lib.hid hnk
      have HLW := Lib.hid hnw
      have HTL : Hid ((S.take i).length = i) := Lib.hid (by rw [List.length_take]; have := HIS.out; omega)
      obtain ⟨hk16, hw16⟩ := hsz
      have i1 : (i : Int) < (n : Int) := by omega
      have i2 : (0 : Int) ≤ (i : Int) := by omega
      have hwi : IntKind.i64.wrap ((i : Int) + 1) = (i : Int) + 1 := IntWalk.i64_in _ (by omega)
      have hlb := blk_lt HCy.out.out
      obtain ⟨nb, hnb⟩ : ∃ k, wr.heap.size = k := ⟨_, rfl⟩
      have HNB := Lib.hid hnb
      clear hx0 hx hnk hnw r1 r2 hnb
      go_upto_region 6 with fail
      rw [HNB.out]
      refine wp_region_any (by kernel_rfl) ?_
      change wpAny _ _ _ _ _ _ _ (World.drew _)
      refine wpAny_takeD 0 21 (.pointer (some ⟨w.heap.size + 1 + 1, 1, none⟩)) rfl rfl (by kernel_rfl) (by kernel_rfl) (by kernel_rfl) (fun _ _ _ h => h) (by rfl) (fun w => by go_simp) ?_
      try simp only [Act.put, List.setIfInBounds_toArray, List.set_cons_zero, List.set_cons_succ]
      refine wpAny_takeD 2 23 (.pointer (some ⟨nb, 0, none⟩)) rfl rfl (by kernel_rfl) (by kernel_rfl) (by kernel_rfl) (fun _ _ _ h => h) (by rfl) (fun w => by go_simp) ?_
      try simp only [Act.put, List.setIfInBounds_toArray, List.set_cons_zero, List.set_cons_succ]
      refine wpAny_takeD 5 26 (.pointer (some ⟨nb, 1, none⟩)) rfl rfl (by kernel_rfl) (by kernel_rfl) (by kernel_rfl) (fun _ _ _ h => h) (by rfl) (fun w => by go_simp) ?_
      try simp only [Act.put, List.setIfInBounds_toArray, List.set_cons_zero, List.set_cons_succ]
      refine wpAny_takeD 9 30 (.pointer (some ⟨nb, 2, none⟩)) rfl rfl (by kernel_rfl) (by kernel_rfl) (by kernel_rfl) (fun _ _ _ h => h) (by rfl) (fun w => by go_simp) ?_
      try simp only [Act.put, List.setIfInBounds_toArray, List.set_cons_zero, List.set_cons_succ]
      generalize hWd : World.drew _ = W
      have HWD := Lib.hid hWd
      clear hWd
      have HKW := Lib.hid (show Below wr.heap.size wr W from by rw [← HWD.out]; exact below_tr (below_box0 wr _) ((Below.refl _ _).drew))
      have HSZ : Hid (nb < W.heap.size ∧ w.heap.size + 3 ≤ W.heap.size) := Lib.hid (by rw [← HWD.out, ← HNB.out]; have h1 := HCy.out.k.size; have h2 := blk_lt HCy.out.out; constructor <;> simp <;> omega)
      have hNBX : W.heap[nb]? = some (.cells #[.int .i64 x.lv, .slice ka nk kc, .slice la nw lc] 60 (0, 0)) := by rw [← HWD.out, ← HNB.out]; exact heap_alloc_new wr _
      have HN0 : Hid (W.cell? ⟨nb, 0, none⟩ = some (.int .i64 x.lv)) := Lib.hid (by rw [cell_of_block hNBX]; rfl)
      have HN1 : Hid (W.cell? ⟨nb, 1, none⟩ = some (.slice ka nk kc)) := Lib.hid (by rw [cell_of_block hNBX]; rfl)
      have HN2 : Hid (W.cell? ⟨nb, 2, none⟩ = some (.slice la nw lc)) := Lib.hid (by rw [cell_of_block hNBX]; rfl)
      have HQ1 : Hid (W.cell? ⟨w.heap.size + 1 + 1, 1, none⟩ = some v) := Lib.hid (by rw [cell_of_block ((HKW.out.block _ (blk_lt HCy.out.out)).trans HCy.out.out)]; rfl)
      have HRK := Lib.hid ((HRK0.out.below HKW.out).more HKW.out.size)
      have HRW := Lib.hid ((HRW0.out.below HKW.out).more HKW.out.size)
      clear hNBX
      refine wpAny_named (fun A0 hA0 => ?_)
      have HA0 := Lib.hid hA0
      clear hA0
      refine wpAny_inv (fun l a wx => ∃ (f1 f3 f4 f6 f7 f8 f10 f11 f12 f13 : Bool) (v1 v3 v4 v6 v7 v8 v10 v11 v12 v13 : Value), l = #[true, f1, true, f3, f4, true, f6, f7, f8, true, f10, f11, f12, f13, false, false, false] ∧ a = ((((((((((A0.put (some 22) v1).put (some 24) v3).put (some 25) v4).put (some 27) v6).put (some 28) v7).put (some 29) v8).put (some 31) v10).put (some 32) v11).put (some 33) v12).put (some 34) v13) ∧ (f1 = true → v1 = v) ∧ (f3 = true → v3 = (.int .i64 x.lv)) ∧ (f4 = true → EmpV W.heap.size 3 v4 wx) ∧ (f6 = true → v6 = (.slice ka nk kc)) ∧ (f7 = true → OwnV7 W.heap.size 3 nk (intsV x.ks) v7 wx) ∧ (f8 = true → EmpV W.heap.size 24 v8 wx) ∧ (f10 = true → v10 = (.slice la nw lc)) ∧ (f11 = true → OwnV7 W.heap.size 24 nw (u64s x.ws) v11 wx) ∧ (f12 = true → NodeV W.heap.size x nk nw v12 wx) ∧ (f13 = true → LitV W.heap.size x nk nw v13 wx) ∧ (f12 = true → f3 = true) ∧ (f12 = true → f7 = true) ∧ (f12 = true → f11 = true) ∧ (f13 = true → f12 = true) ∧ (f7 = true → f4 = true) ∧ (f7 = true → f6 = true) ∧ (f11 = true → f8 = true) ∧ (f11 = true → f10 = true) ∧ Below W.heap.size W wx) (by kernel_rfl) (by rintro l a wx ⟨_, _, _, _, _, _, _, _, _, _, _, _, _, _, _, _, _, _, _, _, rfl, _⟩; rfl) ?step _ _ _ _ (by kernel_rfl) ?start
      case start =>
        refine ⟨false, false, false, false, false, false, false, false, false, false, (A0.tmps[22]?.getD undef), (A0.tmps[24]?.getD undef), (A0.tmps[25]?.getD undef), (A0.tmps[27]?.getD undef), (A0.tmps[28]?.getD undef), (A0.tmps[29]?.getD undef), (A0.tmps[31]?.getD undef), (A0.tmps[32]?.getD undef), (A0.tmps[33]?.getD undef), (A0.tmps[34]?.getD undef), rfl, ?_, (fun h => by cases h), (fun h => by cases h), (fun h => by cases h), (fun h => by cases h), (fun h => by cases h), (fun h => by cases h), (fun h => by cases h), (fun h => by cases h), (fun h => by cases h), (fun h => by cases h), (fun h => by cases h), (fun h => by cases h), (fun h => by cases h), (fun h => by cases h), (fun h => by cases h), (fun h => by cases h), (fun h => by cases h), (fun h => by cases h), Below.refl _ _⟩
        simp only [put_self]
      case step =>
        rintro l a wx ⟨f1, f3, f4, f6, f7, f8, f10, f11, f12, f13, v1, v3, v4, v6, v7, v8, v10, v11, v12, v13, rfl, rfl, P1, P3, P4, P6, P7, P8, P10, P11, P12, P13, C12_3, C12_7, C12_11, C13_12, C7_4, C7_6, C11_8, C11_10, HB⟩
        have hA0 := HA0.out
        subst hA0
        clear HA0
        by_cases hdone : f1 = true ∧ f3 = true ∧ f4 = true ∧ f6 = true ∧ f7 = true ∧ f8 = true ∧ f10 = true ∧ f11 = true ∧ f12 = true ∧ f13 = true
        · left
          obtain ⟨rfl, rfl, rfl, rfl, rfl, rfl, rfl, rfl, rfl, rfl⟩ := hdone
          refine wpAny_fuel 3 (by kernel_rfl) ?_
          simp only [Act.put, List.setIfInBounds_toArray, List.set_cons_zero, List.set_cons_succ]
          have h13 := P13 rfl
          have h1 := (P1 rfl).symm
          clear P1 P3 P4 P6 P7 P8 P10 P11 P12 P13 C12_3 C12_7 C12_11 C13_12 C7_4 C7_6 C11_8 C11_10
          obtain ⟨H13, a7, k7, a11, k11, e13, hH13, o7, o11⟩ := h13
          subst e13 h1
          have HBL := Lib.hid (below_tr HKW.out HB)
          have hown0 := own_belowW HCy.out.st.row HBL.out
          rw [HTL.out] at hown0
          refine wpAny_ready (rs := [14]) (by kernel_rfl) (by simp) (AllReady.cons rfl (fun K hK => ?_) AllReady.nil)
          refine (if_pos (show Region.wanted _ _ = true from rfl)).mpr ?_
          refine wp_append_any wx (.tmp 22) (.tmp 34) 43 (by rfl) (w.heap.size + 3) 60 i0 (.agg #[.int .i64 0, .slice none 0 0, .slice none 0 0]) 3 56 Tryd.underlying43 hi0 hz0 hz1 hz2' rfl (by decide) _ i (rnC K0 L0 (S.take i)) rfl hown0 wx.heap.size (some ⟨H13, 0, none⟩) 1 1 [.int .i64 x.lv, .slice a7 nk k7, .slice a11 nw k11] rfl (reads_lit3 hH13) (one3 _ _ _ _ _ _ _) (by unfold maxLen; omega) (by omega) (by have := HBL.out.size; have := HCy.out.k.size; have := blk_lt HCy.out.out; omega) ?_
          intro v9 w9 hown9 hg9 _
          obtain ⟨va9, vc9, rfl⟩ := own_slice' hown9
          refine hK _ _ ?_
          clear hK K
          have HOUT := Lib.hid (HCy.out.outAt HBL.out hg9)
          have d1 : w9.cell? ⟨w.heap.size + 1 + 1, 1, none⟩ = some v := by rw [cell_of_block HOUT.out]; rfl
          have d2 : w9.frozen? ⟨w.heap.size + 1 + 1, 1, none⟩ = false := unfrozen_of_block HOUT.out 1
          have HNX := Lib.hid (HCy.out.next HBL.out (x := x) (by rw [HLK.out]; exact own_leW o7 HKW.out.size) (by rw [HLW.out]; exact own_leW o11 HKW.out.size) hown9 hg9 HIS.out HTK.out)
          simp only [Act.put, List.setIfInBounds_toArray, List.set_cons_zero, List.set_cons_succ]
          refine wpAny_ready (rs := [15]) (by kernel_rfl) (by simp) (AllReady.cons rfl (fun K hK => ?_) AllReady.nil)
          go_simp
          refine hK _ _ ?_
          clear hK K
          try simp only [Act.put, List.setIfInBounds_toArray, List.set_cons_zero, List.set_cons_succ]
          refine wpAny_ready (rs := [16]) (by kernel_rfl) (by simp) (AllReady.cons rfl (fun K hK => ?_) AllReady.nil)
          try simp only [Act.put, List.setIfInBounds_toArray, List.set_cons_zero, List.set_cons_succ]
          go_simp
          refine hK _ _ ?_
          clear hK K
          refine wpAny_done (by kernel_rfl) ?_ _
          go_wp2
          go_roundw
          case rel => exact ⟨i + 1, _, _, _, by omega, by go_num, HNX⟩
          case measure => simp [intOf]; omega
        · right
          refine ⟨openOps_pos (i := 16) (by decide) rfl, fun i hi => ?_⟩
          obtain ⟨ho, hlt⟩ := ready_open hi
          have hlt2 : i < 17 := hlt
          rcases (by omega : i = 0 ∨ i = 1 ∨ i = 2 ∨ i = 3 ∨ i = 4 ∨ i = 5 ∨ i = 6 ∨ i = 7 ∨ i = 8 ∨ i = 9 ∨ i = 10 ∨ i = 11 ∨ i = 12 ∨ i = 13 ∨ i = 14 ∨ i = 15 ∨ i = 16) with rfl | rfl | rfl | rfl | rfl | rfl | rfl | rfl | rfl | rfl | rfl | rfl | rfl | rfl | rfl | rfl | rfl
          · exact absurd (show true = false from ho) (by decide)
          · have q0 : wx.cell? ⟨w.heap.size + 1 + 1, 1, none⟩ = some v := (HB.cell (p := ⟨w.heap.size + 1 + 1, 1, none⟩) (by have := HSZ.out; dsimp only; omega)).trans HQ1.out
            refine wpOp_step rfl (fun K hK => ?_)
            simp only [Act.put, List.setIfInBounds_toArray, List.set_cons_zero, List.set_cons_succ]
            go_simp
            have hb1 : Below wx.heap.size wx wx := Below.refl _ _
            refine hK _ _ ⟨true, f3, f4, f6, f7, f8, f10, f11, f12, f13, v, v3, v4, v6, v7, v8, v10, v11, v12, v13, ?_, ?_, (fun _ => rfl), (fun hf => (P3 hf)), (fun hf => ((P4 hf)).below hb1), (fun hf => (P6 hf)), (fun hf => ((P7 hf)).below hb1), (fun hf => ((P8 hf)).below hb1), (fun hf => (P10 hf)), (fun hf => ((P11 hf)).below hb1), (fun hf => ((P12 hf)).below hb1), (fun hf => ((P13 hf)).below hb1), C12_3, C12_7, C12_11, C13_12, C7_4, C7_6, C11_8, C11_10, below_tr HB hb1⟩
            · rfl
            · simp only [List.getElem_toArray, List.getElem_cons_succ, List.getElem_cons_zero, Act.put, List.setIfInBounds_toArray, List.set_cons_zero, List.set_cons_succ]
          · exact absurd (show true = false from ho) (by decide)
          · have q0 : wx.cell? ⟨nb, 0, none⟩ = some (.int .i64 x.lv) := (HB.cell (p := ⟨nb, 0, none⟩) (by have := HSZ.out; dsimp only; omega)).trans HN0.out
            refine wpOp_step rfl (fun K hK => ?_)
            simp only [Act.put, List.setIfInBounds_toArray, List.set_cons_zero, List.set_cons_succ]
            go_simp
            have hb1 : Below wx.heap.size wx wx := Below.refl _ _
            refine hK _ _ ⟨f1, true, f4, f6, f7, f8, f10, f11, f12, f13, v1, (.int .i64 x.lv), v4, v6, v7, v8, v10, v11, v12, v13, ?_, ?_, (fun hf => (P1 hf)), (fun _ => rfl), (fun hf => ((P4 hf)).below hb1), (fun hf => (P6 hf)), (fun hf => ((P7 hf)).below hb1), (fun hf => ((P8 hf)).below hb1), (fun hf => (P10 hf)), (fun hf => ((P11 hf)).below hb1), (fun hf => ((P12 hf)).below hb1), (fun hf => ((P13 hf)).below hb1), (fun _ => rfl), C12_7, C12_11, C13_12, C7_4, C7_6, C11_8, C11_10, below_tr HB hb1⟩
            · rfl
            · simp only [List.getElem_toArray, List.getElem_cons_succ, List.getElem_cons_zero, Act.put, List.setIfInBounds_toArray, List.set_cons_zero, List.set_cons_succ]
          · refine wpOp_step rfl (fun K hK => ?_)
            simp only [Act.put, List.setIfInBounds_toArray, List.set_cons_zero, List.set_cons_succ]
            go_simp
            have hb1 : Below wx.heap.size wx (wx.alloc (.cells #[] 3)) := below_box0 _ _
            refine hK _ _ ⟨f1, f3, true, f6, f7, f8, f10, f11, f12, f13, v1, v3, (.slice (some ⟨wx.heap.size, 0, none⟩) 0 0), v6, v7, v8, v10, v11, v12, v13, ?_, ?_, (fun hf => (P1 hf)), (fun hf => (P3 hf)), (fun _ => EmpV.new HB.size), (fun hf => (P6 hf)), (fun hf => ((P7 hf)).below hb1), (fun hf => ((P8 hf)).below hb1), (fun hf => (P10 hf)), (fun hf => ((P11 hf)).below hb1), (fun hf => ((P12 hf)).below hb1), (fun hf => ((P13 hf)).below hb1), C12_3, C12_7, C12_11, C13_12, (fun _ => rfl), C7_6, C11_8, C11_10, below_tr HB hb1⟩
            · rfl
            · simp only [List.getElem_toArray, List.getElem_cons_succ, List.getElem_cons_zero, Act.put, List.setIfInBounds_toArray, List.set_cons_zero, List.set_cons_succ]
          · exact absurd (show true = false from ho) (by decide)
          · have q0 : wx.cell? ⟨nb, 1, none⟩ = some (.slice ka nk kc) := (HB.cell (p := ⟨nb, 1, none⟩) (by have := HSZ.out; dsimp only; omega)).trans HN1.out
            refine wpOp_step rfl (fun K hK => ?_)
            simp only [Act.put, List.setIfInBounds_toArray, List.set_cons_zero, List.set_cons_succ]
            go_simp
            have hb1 : Below wx.heap.size wx wx := Below.refl _ _
            refine hK _ _ ⟨f1, f3, f4, true, f7, f8, f10, f11, f12, f13, v1, v3, v4, (.slice ka nk kc), v7, v8, v10, v11, v12, v13, ?_, ?_, (fun hf => (P1 hf)), (fun hf => (P3 hf)), (fun hf => ((P4 hf)).below hb1), (fun _ => rfl), (fun hf => ((P7 hf)).below hb1), (fun hf => ((P8 hf)).below hb1), (fun hf => (P10 hf)), (fun hf => ((P11 hf)).below hb1), (fun hf => ((P12 hf)).below hb1), (fun hf => ((P13 hf)).below hb1), C12_3, C12_7, C12_11, C13_12, C7_4, (fun _ => rfl), C11_8, C11_10, below_tr HB hb1⟩
            · rfl
            · simp only [List.getElem_toArray, List.getElem_cons_succ, List.getElem_cons_zero, Act.put, List.setIfInBounds_toArray, List.set_cons_zero, List.set_cons_succ]
          · have n4 := P4 (needs_ready (j := 4) hi (by kernel_rfl))
            have n6 := P6 (needs_ready (j := 6) hi (by kernel_rfl))
            obtain ⟨e4, he4, ho4⟩ := n4
            subst he4
            refine wpOp_step rfl (fun K hK => ?_)
            simp only [Act.put, List.setIfInBounds_toArray, List.set_cons_zero, List.set_cons_succ]
            refine (if_pos (show Region.wanted _ _ = true from rfl)).mpr ?_
            refine wp_append_emp7 (by rfl) (.tmp 25) (.tmp 27) 52 (by rfl) 3 j0 (.int .i64 0) 8 Tryd.underlying52 hj0 hy0 hs0 hb0 rfl W.heap.size HB.size e4 rfl ho4 W.heap.size _ nk _ (intsV x.ks) n6 ((HRK.out).below HB) (intsV_one _) (by simp only [maxLen]; omega) (by omega) ?_
            intro vN wN hown hbl
            have hb1 : Below wx.heap.size wx wN := hbl
            refine hK _ _ ⟨f1, f3, f4, f6, true, f8, f10, f11, f12, f13, v1, v3, (.slice (some ⟨e4, 0, none⟩) 0 0), v6, vN, v8, v10, v11, v12, v13, ?_, ?_, (fun hf => (P1 hf)), (fun hf => (P3 hf)), (fun hf => ((P4 hf)).below hb1), (fun hf => (P6 hf)), (fun _ => OwnV7.mk hown), (fun hf => ((P8 hf)).below hb1), (fun hf => (P10 hf)), (fun hf => ((P11 hf)).below hb1), (fun hf => ((P12 hf)).below hb1), (fun hf => ((P13 hf)).below hb1), C12_3, (fun _ => rfl), C12_11, C13_12, (fun _ => needs_ready (j := 4) hi (by kernel_rfl)), (fun _ => needs_ready (j := 6) hi (by kernel_rfl)), C11_8, C11_10, below_tr HB hb1⟩
            · rfl
            · simp only [List.getElem_toArray, List.getElem_cons_succ, List.getElem_cons_zero, Act.put, List.setIfInBounds_toArray, List.set_cons_zero, List.set_cons_succ]
          · refine wpOp_step rfl (fun K hK => ?_)
            simp only [Act.put, List.setIfInBounds_toArray, List.set_cons_zero, List.set_cons_succ]
            go_simp
            have hb1 : Below wx.heap.size wx (wx.alloc (.cells #[] 24)) := below_box0 _ _
            refine hK _ _ ⟨f1, f3, f4, f6, f7, true, f10, f11, f12, f13, v1, v3, v4, v6, v7, (.slice (some ⟨wx.heap.size, 0, none⟩) 0 0), v10, v11, v12, v13, ?_, ?_, (fun hf => (P1 hf)), (fun hf => (P3 hf)), (fun hf => ((P4 hf)).below hb1), (fun hf => (P6 hf)), (fun hf => ((P7 hf)).below hb1), (fun _ => EmpV.new HB.size), (fun hf => (P10 hf)), (fun hf => ((P11 hf)).below hb1), (fun hf => ((P12 hf)).below hb1), (fun hf => ((P13 hf)).below hb1), C12_3, C12_7, C12_11, C13_12, C7_4, C7_6, (fun _ => rfl), C11_10, below_tr HB hb1⟩
            · rfl
            · simp only [List.getElem_toArray, List.getElem_cons_succ, List.getElem_cons_zero, Act.put, List.setIfInBounds_toArray, List.set_cons_zero, List.set_cons_succ]
          · exact absurd (show true = false from ho) (by decide)
          · have q0 : wx.cell? ⟨nb, 2, none⟩ = some (.slice la nw lc) := (HB.cell (p := ⟨nb, 2, none⟩) (by have := HSZ.out; dsimp only; omega)).trans HN2.out
            refine wpOp_step rfl (fun K hK => ?_)
            simp only [Act.put, List.setIfInBounds_toArray, List.set_cons_zero, List.set_cons_succ]
            go_simp
            have hb1 : Below wx.heap.size wx wx := Below.refl _ _
            refine hK _ _ ⟨f1, f3, f4, f6, f7, f8, true, f11, f12, f13, v1, v3, v4, v6, v7, v8, (.slice la nw lc), v11, v12, v13, ?_, ?_, (fun hf => (P1 hf)), (fun hf => (P3 hf)), (fun hf => ((P4 hf)).below hb1), (fun hf => (P6 hf)), (fun hf => ((P7 hf)).below hb1), (fun hf => ((P8 hf)).below hb1), (fun _ => rfl), (fun hf => ((P11 hf)).below hb1), (fun hf => ((P12 hf)).below hb1), (fun hf => ((P13 hf)).below hb1), C12_3, C12_7, C12_11, C13_12, C7_4, C7_6, C11_8, (fun _ => rfl), below_tr HB hb1⟩
            · rfl
            · simp only [List.getElem_toArray, List.getElem_cons_succ, List.getElem_cons_zero, Act.put, List.setIfInBounds_toArray, List.set_cons_zero, List.set_cons_succ]
          · have n8 := P8 (needs_ready (j := 8) hi (by kernel_rfl))
            have n10 := P10 (needs_ready (j := 10) hi (by kernel_rfl))
            obtain ⟨e8, he8, ho8⟩ := n8
            subst he8
            refine wpOp_step rfl (fun K hK => ?_)
            simp only [Act.put, List.setIfInBounds_toArray, List.set_cons_zero, List.set_cons_succ]
            refine (if_pos (show Region.wanted _ _ = true from rfl)).mpr ?_
            refine wp_append_emp7 (by rfl) (.tmp 29) (.tmp 31) 58 (by rfl) 24 j1 (.int .u64 0) 8 Tryd.underlying58 hj1 hy1 hs1 hb1 rfl W.heap.size HB.size e8 rfl ho8 W.heap.size _ nw _ (u64s x.ws) n10 ((HRW.out).below HB) (u64s_one _) (by simp only [maxLen]; omega) (by omega) ?_
            intro vN wN hown hbl
            have hb1 : Below wx.heap.size wx wN := hbl
            refine hK _ _ ⟨f1, f3, f4, f6, f7, f8, f10, true, f12, f13, v1, v3, v4, v6, v7, (.slice (some ⟨e8, 0, none⟩) 0 0), v10, vN, v12, v13, ?_, ?_, (fun hf => (P1 hf)), (fun hf => (P3 hf)), (fun hf => ((P4 hf)).below hb1), (fun hf => (P6 hf)), (fun hf => ((P7 hf)).below hb1), (fun hf => ((P8 hf)).below hb1), (fun hf => (P10 hf)), (fun _ => OwnV7.mk hown), (fun hf => ((P12 hf)).below hb1), (fun hf => ((P13 hf)).below hb1), C12_3, C12_7, (fun _ => rfl), C13_12, C7_4, C7_6, (fun _ => needs_ready (j := 8) hi (by kernel_rfl)), (fun _ => needs_ready (j := 10) hi (by kernel_rfl)), below_tr HB hb1⟩
            · rfl
            · simp only [List.getElem_toArray, List.getElem_cons_succ, List.getElem_cons_zero, Act.put, List.setIfInBounds_toArray, List.set_cons_zero, List.set_cons_succ]
          · have n3 := P3 (needs_ready (j := 3) hi (by kernel_rfl))
            have n7 := P7 (needs_ready (j := 7) hi (by kernel_rfl))
            have n11 := P11 (needs_ready (j := 11) hi (by kernel_rfl))
            obtain ⟨a7, k7, e7, o7⟩ := n7
            obtain ⟨a11, k11, e11, o11⟩ := n11
            subst n3 e7 e11
            refine wpOp_step rfl (fun K hK => ?_)
            simp only [Act.put, List.setIfInBounds_toArray, List.set_cons_zero, List.set_cons_succ]
            go_simp
            have hb1 : Below wx.heap.size wx wx := Below.refl _ _
            refine hK _ _ ⟨f1, f3, f4, f6, f7, f8, f10, f11, true, f13, v1, (.int .i64 x.lv), v4, v6, (.slice a7 nk k7), v8, v10, (.slice a11 nw k11), (.agg #[.int .i64 x.lv, .slice a7 nk k7, .slice a11 nw k11]), v13, ?_, ?_, (fun hf => (P1 hf)), (fun hf => (P3 hf)), (fun hf => ((P4 hf)).below hb1), (fun hf => (P6 hf)), (fun hf => ((P7 hf)).below hb1), (fun hf => ((P8 hf)).below hb1), (fun hf => (P10 hf)), (fun hf => ((P11 hf)).below hb1), (fun _ => ⟨a7, k7, a11, k11, rfl, o7, o11⟩), (fun hf => ((P13 hf)).below hb1), (fun _ => needs_ready (j := 3) hi (by kernel_rfl)), (fun _ => needs_ready (j := 7) hi (by kernel_rfl)), (fun _ => needs_ready (j := 11) hi (by kernel_rfl)), (fun _ => rfl), C7_4, C7_6, C11_8, C11_10, below_tr HB hb1⟩
            · rfl
            · simp only [List.getElem_toArray, List.getElem_cons_succ, List.getElem_cons_zero, Act.put, List.setIfInBounds_toArray, List.set_cons_zero, List.set_cons_succ]
          · have n12 := P12 (needs_ready (j := 12) hi (by kernel_rfl))
            obtain ⟨a7, k7, a11, k11, e12, o7, o11⟩ := n12
            subst e12
            refine wpOp_step rfl (fun K hK => ?_)
            simp only [Act.put, List.setIfInBounds_toArray, List.set_cons_zero, List.set_cons_succ]
            go_simp
            have hb1 : Below wx.heap.size wx (wx.alloc (.cells #[.int .i64 x.lv, .slice a7 nk k7, .slice a11 nw k11] 60)) := below_box0 _ _
            refine hK _ _ ⟨f1, f3, f4, f6, f7, f8, f10, f11, f12, true, v1, v3, v4, v6, v7, v8, v10, v11, (.agg #[.int .i64 x.lv, .slice a7 nk k7, .slice a11 nw k11]), (.slice (some ⟨wx.heap.size, 0, none⟩) 1 1), ?_, ?_, (fun hf => (P1 hf)), (fun hf => (P3 hf)), (fun hf => ((P4 hf)).below hb1), (fun hf => (P6 hf)), (fun hf => ((P7 hf)).below hb1), (fun hf => ((P8 hf)).below hb1), (fun hf => (P10 hf)), (fun hf => ((P11 hf)).below hb1), (fun hf => ((P12 hf)).below hb1), (fun _ => LitV.new HB.size o7 o11), C12_3, C12_7, C12_11, (fun _ => needs_ready (j := 12) hi (by kernel_rfl)), C7_4, C7_6, C11_8, C11_10, below_tr HB hb1⟩
            · rfl
            · simp only [List.getElem_toArray, List.getElem_cons_succ, List.getElem_cons_zero, Act.put, List.setIfInBounds_toArray, List.set_cons_zero, List.set_cons_succ]
          · have F1 : f1 = true := needs_ready (j := 1) hi (by kernel_rfl)
            have F13 : f13 = true := needs_ready (j := 13) hi (by kernel_rfl)
            have F12 := C13_12 F13
            have F3 := C12_3 F12
            have F7 := C12_7 F12
            have F11 := C12_11 F12
            have F4 := C7_4 F7
            have F6 := C7_6 F7
            have F8 := C11_8 F11
            have F10 := C11_10 F11
            exact absurd ⟨F1, F3, F4, F6, F7, F8, F10, F11, F12, F13⟩ hdone
          · exact absurd (show false = true from needs_ready (j := 14) hi (by kernel_rfl)) (by decide)
          · exact absurd (show false = true from needs_ready (j := 14) hi (by kernel_rfl)) (by decide)
    · obtain rfl : i = n := by omega
      have i1 : ¬ ((i : Int) < (i : Int)) := by omega
      have ht : S.take i = S := List.take_of_length_le (by rw [HNN.out]; exact Nat.le_refl _)
      have hst := HCy.out.st
      rw [ht] at hst
      have hrow := hst.row
      obtain ⟨g, c', hv⟩ := ownsRow_form hrow (by rw [← HNN.out]; omega)
      rw [← HNN.out] at hv
      subst hv
      have o0 : wr.cell? ⟨w.heap.size + 1 + 1, 0, none⟩ = some (.int .i64 m) := by rw [cell_of_block HCy.out.out]; rfl
      have o1 : wr.cell? ⟨w.heap.size + 1 + 1, 1, none⟩ = some (.slice (some ⟨g, 0, none⟩) i c') := by rw [cell_of_block HCy.out.out]; rfl
      have r0 : wr.cell? ⟨w.heap.size + 1, 0, none⟩ = some (.int .i64 0) := by rw [cell_of_block HCy.out.rs]; rfl
      have r1 : wr.cell? ⟨w.heap.size + 1, 1, none⟩ = some (.slice none 0 0) := by rw [cell_of_block HCy.out.rs]; rfl
      have fz : ∀ k, wr.frozen? ⟨w.heap.size + 1, k, none⟩ = false := fun k => unfrozen_of_block HCy.out.rs k
      have HST := Lib.hid hst
      clear ht hst hrow
      go_wp2
      refine bodyPost_ret (v := .agg #[.int .i64 m, .slice (some ⟨g, 0, none⟩) i c']) (by simp [results, Tryd.f68, go_sem, r0, r1]) rfl ?_
      refine ⟨g, c', rfl, ⟨K0, L0, ?_⟩, (HCy.out.k.setCell (p := ⟨w.heap.size + 1, 0, none⟩) (by dsimp only; omega) _).setCell (p := ⟨w.heap.size + 1, 1, none⟩) (by dsimp only; omega) _⟩
      exact ((HST.out.setBelow (a := ⟨w.heap.size + 1, 0, none⟩) (by dsimp only; omega) _).setBelow (a := ⟨w.heap.size + 1, 1, none⟩) (by dsimp only; omega) _).le (by omega)
end
end Go.Proofs.YtfmclbacoffdaaaDoor

namespace Go.Proofs.YtfmclbacoffdaaaDoor
open Go.RowKit Go.Sort Go.Joins
attribute [local go_sem] cell_grow frozen_grow size_grow
section
variable {w W : World} {B g n c : Nat} {m : Int} {K L : Nat → Value} {S : List Rn}
theorem PtM.none3 (h : PtM w W B g n c m K L S) {f : Nat} (hf : f < S.length) :
    PtM w (((W.setCell ⟨g, f * 3, none⟩ (.int .i64 (-1))).setCell ⟨g, f * 3 + 1, none⟩ (.slice none 0 0)).setCell ⟨g, f * 3 + 2, none⟩ (.slice none 0 0)) B g n c m (updV K f (.slice none 0 0)) (updV L f (.slice none 0 0)) (S.set f (rnOf (nd0 (-1)))) := by
  obtain ⟨hgl, hgB⟩ := h.st.blk
  have hst := h.st.setNode hf (rnOf (nd0 (-1))) (k := .slice none 0 0) (l := .slice none 0 0) (World.ownsRow_nil _ _ _ _) (World.ownsRow_nil _ _ _ _) (fun j hj q e e2 => by cases e2) (fun j hj q e e2 => by cases e2)
  have hxg : w.heap.size ≠ g := fun e => own_ty h.st.row h.bx t_ns (by rw [e]; rfl)
  refine ⟨?_, hst, ?_, kps3 h.kb h.st.row _ _ _ _ _ _⟩
  · rw [Below.heap_setCell _ _ _ _ hxg, Below.heap_setCell _ _ _ _ hxg, Below.heap_setCell _ _ _ _ hxg]
    exact h.bx
  · exact ((h.k.setCell (p := ⟨g, f * 3, none⟩) hgB _).setCell (p := ⟨g, f * 3 + 1, none⟩) hgB _).setCell (p := ⟨g, f * 3 + 2, none⟩) hgB _
/-- empty of a node of the state -/
theorem PtM.empty (h : PtM w W B g n c m K L S) {f : Nat} (hf : f < S.length) (lk : (S.getD f rn0).ks.length ≤ 10000) (lu : (S.getD f rn0).ws.length ≤ 10000) :
    ∃ ka kc la lc, W.cell? ⟨g, f * 3, none⟩ = some (.int .i64 (S.getD f rn0).lv) ∧ W.cell? ⟨g, f * 3 + 1, none⟩ = some (.slice ka (S.getD f rn0).ks.length kc) ∧ W.cell? ⟨g, f * 3 + 2, none⟩ = some (.slice la (S.getD f rn0).ws.length lc) ∧
      Calls Tryd.prog 64 #[.agg #[.int .i64 (S.getD f rn0).lv, .slice ka (S.getD f rn0).ks.length kc, .slice la (S.getD f rn0).ws.length lc]] W fun e w' => e = .returned (.bool (emN (S.getD f rn0))) ∧ Below W.heap.size W w' := by
  obtain ⟨c0, ⟨ka, kc, e1, c1⟩, ⟨la, lc, e2, c2⟩⟩ := h.st.nodeCells hf
  have hk := h.st.kid f hf
  have hl := h.st.wrd f hf
  rw [e1] at hk
  rw [e2] at hl
  exact ⟨ka, kc, la, lc, c0, c1, c2, empty_ok (SlN.of_own hk fun k hk => intsV_get _ hk) (SlN.of_own hl fun k hk => u64s_getD _ hk) lk lu⟩
end
section
variable {w : World} {B g n c : Nat} {m : Int} {K L : Nat → Value} {X : RM} {p : Nat}
set_option maxRecDepth 100000 in
set_option maxHeartbeats 1600000 in
theorem rdrop_none (h : OSt w B (.slice (some ⟨g, 0, none⟩) n c) K L (stS X)) (hI : RInv X) (hn : n = X.st.length) (hn2 : n ≤ 145) (hp : p < 1024) (hB0 : B ≤ w.heap.size) (hlf : lfI X.st p = 0) :
    Calls Tryd.prog 69 #[.agg #[.int .i64 m, .slice (some ⟨g, 0, none⟩) n c], .int .i64 p] w fun e w' => e = .returned (.tuple #[]) ∧ (∃ K' L', OSt w' B (.slice (some ⟨g, 0, none⟩) n c) K' L' (stS (clrM X p))) ∧ Below B w w' ∧ KpS w w' := by
  have hB := below_box0 w (.cells #[.int .i64 m, .slice (some ⟨g, 0, none⟩) n c] 45)
  have hP : PtM w (w.alloc (.cells #[.int .i64 m, .slice (some ⟨g, 0, none⟩) n c] 45)) B g n c m K L (stS X) := ⟨heap_alloc_new w _, h.below hB, hB.mono hB0, KpS.of_below hB⟩
  have HP := Lib.hid hP
  have HLE := Lib.hid (rleaf_ok (m := m) (c := c) hP.st.str hI hn hn2 hp)
  rw [hlf] at HLE
  have HX : Hid (clrM X p = X) := Lib.hid (if_pos (by unfold wdI; rw [if_pos hlf]))
  obtain ⟨md, hmd⟩ : ∃ y, mdI X.st p = y := ⟨_, rfl⟩
  rw [hmd] at HLE
  clear h hB hP hI hn hlf hmd
  go_enter Tryd.func69, Tryd.ntmps69
  go_wp2_with fail
  generalize World.alloc _ _ = W0 at HP HLE ⊢
  refine HLE.out.mono ?_
  rintro e w1 ⟨rfl, b1⟩
  have P1 := Lib.hid (HP.out.below hB0 b1)
  clear b1 HP HLE
  go_wp2
  refine bodyPost_ret (results_none rfl _ _ _) rfl ?_
  exact ⟨rfl, ⟨K, L, by rw [HX.out]; exact P1.out.st⟩, P1.out.k, P1.out.kb⟩
set_option maxRecDepth 100000 in
set_option maxHeartbeats 3200000 in
theorem rdrop_some (h : OSt w B (.slice (some ⟨g, 0, none⟩) n c) K L (stS X)) (hA : RAll X) (hn : n = X.st.length) (hn2 : n ≤ 145) (hp : p < 1024) (hB0 : B ≤ w.heap.size) (hlf : lfI X.st p ≠ 0) :
    Calls Tryd.prog 69 #[.agg #[.int .i64 m, .slice (some ⟨g, 0, none⟩) n c], .int .i64 p] w fun e w' => e = .returned (.tuple #[]) ∧ (∃ K' L', OSt w' B (.slice (some ⟨g, 0, none⟩) n c) K' L' (stS (clrM X p))) ∧ Below B w w' ∧ KpS w w' := by
  have hB := below_box0 w (.cells #[.int .i64 m, .slice (some ⟨g, 0, none⟩) n c] 45)
  have hP : PtM w (w.alloc (.cells #[.int .i64 m, .slice (some ⟨g, 0, none⟩) n c] 45)) B g n c m K L (stS X) := ⟨heap_alloc_new w _, h.below hB, hB.mono hB0, KpS.of_below hB⟩
  have HP := Lib.hid hP
  have HLE := Lib.hid (rleaf_ok (m := m) (c := c) hP.st.str hA.i hn hn2 hp)
  obtain ⟨g1, g2, g3, g4, g5, g6⟩ := hA.i.leaf hp hlf
  obtain ⟨S1, S2, S3, hS1, hS2, hS3, hways⟩ := drop_ways hA hp hlf
  have hne : lfI X.st p ≠ mdI X.st p := fun e => by rw [e, g3] at g6; omega
  have l0 : (stS X).length = n := by rw [stS_len, hn]
  have hfn : lfI X.st p < n := by rw [hn]; exact g5
  have hmn : mdI X.st p < n := by rw [hn]; exact g2
  have k0n : (0 : Nat) < n := by omega
  -- the nodes
  have w0 : ((stS X).getD (lfI X.st p) rn0).ws.length = 8 := by rw [stS_get X g5, rnOf_wlen, g6]; rfl
  have w0k : ((stS X).getD (lfI X.st p) rn0).ks.length = 0 := by rw [stS_get X g5, rnOf_klen, g6]; rfl
  have m0k : ((stS X).getD (mdI X.st p) rn0).ks.length = 8 := by rw [stS_get X g2, rnOf_klen, g3]; rfl
  have m0w : ((stS X).getD (mdI X.st p) rn0).ws.length = 0 := by rw [stS_get X g2, rnOf_wlen, g3]; rfl
  have r0k : ((stS X).getD 0 rn0).ks.length = 16 := by rw [stS_get X hA.i.n1, rnOf_klen, show (X.N 0).lv = 0 from hA.i.root]; rfl
  obtain ⟨f, hf⟩ : ∃ y, lfI X.st p = y := ⟨_, rfl⟩
  obtain ⟨md, hmd⟩ : ∃ y, mdI X.st p = y := ⟨_, rfl⟩
  obtain ⟨S0, hS0⟩ : ∃ y, stS X = y := ⟨_, rfl⟩
  obtain ⟨T, hT⟩ : ∃ y, stS (clrM X p) = y := ⟨_, rfl⟩
  rw [hf, hmd] at HLE
  rw [hS0] at HP l0 w0 w0k m0k m0w r0k hS1
  rw [hf] at hne hfn w0 w0k hS1 hS2 hways hlf
  rw [hmd] at hne hmn m0k m0w hS2 hS3 hways g1
  rw [hT] at hways ⊢
  have l1 : S1.length = n := by rw [hS1]; unfold setWd; rw [List.length_set, l0]
  have l2 : S2.length = n := by rw [hS2]; unfold setKd; rw [List.length_set, List.length_set, l1]
  have a1 : (S1.getD f rn0).ks.length = 0 ∧ (S1.getD f rn0).ws.length = 8 := by
    rw [hS1, setWd_get (by omega), if_pos rfl]
    exact ⟨w0k, by rw [List.length_set]; exact w0⟩
  have a2 : S1.getD md rn0 = S0.getD md rn0 := by rw [hS1, setWd_get (by omega), if_neg (fun e => hne e.symm)]
  have a3 : S1.getD 0 rn0 = S0.getD 0 rn0 := by rw [hS1, setWd_get (by omega), if_neg (fun e => hlf e.symm)]
  have b1 : ((S1.set f (rnOf (nd0 (-1)))).getD md rn0).ks.length = 8 := by rw [getD_setR (by omega), if_neg (fun e => hne e.symm), a2]; exact m0k
  have b2 : (S2.getD md rn0).ks.length = 8 ∧ (S2.getD md rn0).ws.length = 0 := by
    have hr := setKd_rest (S := S1.set f (rnOf (nd0 (-1)))) (i := md) (j := md) (k := p / 8 % 8) (v := 0) (by rw [List.length_set]; omega)
    rw [hS2, hr.2.1, hr.2.2]
    exact ⟨b1, by rw [getD_setR (by omega), if_neg (fun e => hne e.symm), a2]; exact m0w⟩
  have b3 : ((S2.set md (rnOf (nd0 (-1)))).getD 0 rn0).ks.length = 16 := by
    rw [getD_setR (by omega), if_neg (fun e => g1 e.symm), hS2, (setKd_rest (by rw [List.length_set]; omega)).2.2, getD_setR (by omega), if_neg (fun e => hlf e.symm), a3]
    exact r0k
  obtain ⟨x1, hx1⟩ : ∃ y, S1.getD f rn0 = y := ⟨_, rfl⟩
  obtain ⟨x2, hx2⟩ : ∃ y, S2.getD md rn0 = y := ⟨_, rfl⟩
  rw [hx1, hx2] at hways
  have HX1 := Lib.hid hx1
  have HX2 := Lib.hid hx2
  clear hx1 hx2
  have HS1 := Lib.hid hS1
  have HS2 := Lib.hid hS2
  have HS3 := Lib.hid hS3
  have HL := Lib.hid (And.intro l0 (And.intro l1 l2))
  have HA1 := Lib.hid a1
  have HB1 := Lib.hid b1
  have HB2 := Lib.hid b2
  have HB3 := Lib.hid b3
  have HW0 := Lib.hid w0
  have HWY := Lib.hid hways
  have d0 : ((f : Int) == 0) = false := by simp; omega
  clear h hB hP hA hn g2 g3 g4 g5 g6 hS1 hS2 hS3 l0 l1 l2 w0 w0k m0k m0w r0k a1 a2 a3 b1 b2 b3 hf hmd hS0 hT hways hne
  go_enter Tryd.func69, Tryd.ntmps69
  go_wp2_with fail
  generalize World.alloc _ _ = W0 at HP HLE ⊢
  refine HLE.out.mono ?_
  rintro e w1 ⟨rfl, b1⟩
  have P1 := Lib.hid (HP.out.below hB0 b1)
  clear b1 HP HLE
  go_upto_region 3 with fail
  obtain ⟨gk, ck, e1, q1, l1, b1, n1, z1, v1⟩ := P1.out.wrdAt (i := f) (by rw [HL.out.1]; exact hfn) HW0.out (by decide)
  have y1 := v1 (p % 8) (by omega)
  have y2 := z1 (p % 8)
  have k1 := P1.out.k1
  have hlx := blk_lt P1.out.bx
  have i9 : ((p : Int) % 8) < 8 := by omega
  have i10 : (0 : Int) ≤ (p : Int) % 8 := by omega
  have i5 : (0 : Int) ≤ (f : Int) := by omega
  have i6 : (f : Int) < (n : Int) := by omega
  have P2 := Lib.hid (P1.out.wrd (k := p % 8) (by rw [HL.out.1]; exact hfn) HW0.out e1 b1 0)
  rw [← HS1.out] at P2
  clear e1 v1 z1 P1
  go_upto_region 4 with fail
  generalize World.setCell _ _ _ = W2 at P2 ⊢
  clear y1 y2 q1 l1 b1 n1 k1 hlx
  obtain ⟨ka, kc, la, lc, c0, c1, c2, HE⟩ := P2.out.empty (f := f) (by rw [HL.out.2.1]; exact hfn) (by rw [HA1.out.1]; decide) (by rw [HA1.out.2]; decide)
  rw [HX1.out] at c0 c1 c2 HE
  have HEE := Lib.hid HE
  have k1 := P2.out.k1
  clear HE
  go_wp2_with fail
  refine HEE.out.mono ?_
  rintro e w3 ⟨rfl, b3⟩
  have P3 := Lib.hid (P2.out.below hB0 b3)
  clear b3 c0 c1 c2 k1 P2 HEE
  have hw : (emN x1 = false ∧ T = S1) ∨ (emN x1 = true ∧ Hid ((emN x2 = false ∧ T = S2) ∨ (emN x2 = true ∧ T = S3))) := by
    rcases HWY.out with ⟨h, h1⟩ | ⟨h, h2, h3⟩ | ⟨h, h2, h3⟩
    · exact .inl ⟨h, h1⟩
    · exact .inr ⟨h, Lib.hid (.inl ⟨h2, h3⟩)⟩
    · exact .inr ⟨h, Lib.hid (.inr ⟨h2, h3⟩)⟩
  clear HWY
  rcases hw with ⟨hE, hT⟩ | ⟨hE, HW2⟩
  · rw [hE]
    have HT := Lib.hid hT
    clear hE hT
    go_wp2
    refine bodyPost_ret (results_none rfl _ _ _) rfl ?_
    exact ⟨rfl, ⟨_, _, by rw [HT.out]; exact P3.out.st⟩, P3.out.k, P3.out.kb⟩
  rw [hE]
  clear hE
  obtain ⟨c0, ⟨ka, kc, e1, c1⟩, ⟨la, lc, e2, c2⟩⟩ := P3.out.st.nodeCells (j := f) (by rw [HL.out.2.1]; exact hfn)
  have fz := P3.out.st.fz
  have k1 := P3.out.k1
  have hlx := blk_lt P3.out.bx
  have hlg := P3.out.st.blk.1
  have hxg : w.heap.size ≠ g := fun e => own_ty P3.out.st.row P3.out.bx t_ns (by rw [e]; rfl)
  have P4 := Lib.hid (P3.out.none3 (f := f) (by rw [HL.out.2.1]; exact hfn))
  clear e1 e2
  go_upto_region 6 with fail
  generalize World.setCell _ _ _ = W4 at P4 ⊢
  clear c0 c1 c2 fz k1 hlx hlg P3
  obtain ⟨gk2, ck2, e1, q1, l1, b1, n1, z1, v1⟩ := P4.out.kidAt (i := md) (by rw [List.length_set, HL.out.2.1]; exact hmn) HB1.out (by decide)
  have y1 := v1 (p / 8 % 8) (by omega)
  have y2 := z1 (p / 8 % 8)
  have k1 := P4.out.k1
  have hlx := blk_lt P4.out.bx
  have i7 : ((p : Int) / 8 % 8) < 8 := by omega
  have i8 : (0 : Int) ≤ (p : Int) / 8 % 8 := by omega
  have j5 : (0 : Int) ≤ (md : Int) := by omega
  have j6 : (md : Int) < (n : Int) := by omega
  have P5 := Lib.hid (P4.out.kid (k := p / 8 % 8) (by rw [List.length_set, HL.out.2.1]; exact hmn) HB1.out e1 b1 0)
  rw [← HS2.out] at P5
  clear e1 v1 z1 P4
  go_upto_region 7 with fail
  generalize World.setCell _ _ _ = W5 at P5 ⊢
  clear y1 y2 q1 l1 b1 n1 k1 hlx
  obtain ⟨ka, kc, la, lc, c0, c1, c2, HE⟩ := P5.out.empty (f := md) (by rw [HL.out.2.2]; exact hmn) (by rw [HB2.out.1]; decide) (by rw [HB2.out.2]; decide)
  rw [HX2.out] at c0 c1 c2 HE
  have HEE := Lib.hid HE
  have k1 := P5.out.k1
  clear HE
  go_wp2_with fail
  refine HEE.out.mono ?_
  rintro e w6 ⟨rfl, b6⟩
  have P6 := Lib.hid (P5.out.below hB0 b6)
  clear b6 c0 c1 c2 k1 P5 HEE
  rcases HW2.out with ⟨hE, hT⟩ | ⟨hE, hT⟩
  · rw [hE]
    have HT := Lib.hid hT
    clear hE hT
    go_wp2
    go_end0
    exact ⟨rfl, ⟨_, _, by rw [HT.out]; exact P6.out.st⟩, P6.out.k, P6.out.kb⟩
  rw [hE]
  have HT := Lib.hid hT
  clear hE hT
  obtain ⟨c0, ⟨ka, kc, e1, c1⟩, ⟨la, lc, e2, c2⟩⟩ := P6.out.st.nodeCells (j := md) (by rw [HL.out.2.2]; exact hmn)
  have fz := P6.out.st.fz
  have k1 := P6.out.k1
  have hlx := blk_lt P6.out.bx
  have hlg := P6.out.st.blk.1
  have P7 := Lib.hid (P6.out.none3 (f := md) (by rw [HL.out.2.2]; exact hmn))
  clear e1 e2
  go_upto_region 9 with fail
  generalize World.setCell _ _ _ = W7 at P7 ⊢
  clear c0 c1 c2 fz k1 hlx hlg P6
  obtain ⟨gk3, ck3, e1, q1, l1, b1, n1, z1, v1⟩ := P7.out.kidAt (i := 0) (by rw [List.length_set, HL.out.2.2]; exact k0n) HB3.out (by decide)
  rw [Nat.zero_mul, Nat.zero_add] at q1
  have y1 := v1 (p / 64) (by omega)
  have y2 := z1 (p / 64)
  have k1 := P7.out.k1
  have hlx := blk_lt P7.out.bx
  have i2 : ((p : Int) / 64) < 16 := by omega
  have i3 : (0 : Int) ≤ (p : Int) / 64 := by omega
  have i4 : (0 : Int) < (n : Int) := by omega
  have P8 := Lib.hid (P7.out.kid (k := p / 64) (by rw [List.length_set, HL.out.2.2]; exact k0n) HB3.out e1 b1 0)
  rw [← HS3.out] at P8
  clear e1 v1 z1 P7
  go_wp2
  go_end0
  exact ⟨rfl, ⟨_, _, by rw [HT.out]; exact P8.out.st⟩, P8.out.k, P8.out.kb⟩
end
end Go.Proofs.YtfmclbacoffdaaaDoor
