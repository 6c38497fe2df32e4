/- Words: two texts of lists with a comma between them. No program. | Append of a slice that came from a call, nil or not (the words of the kit's howto, turned to a guarded operation): the general part of C9R and C9Q. | Words: the law of two texts with a comma between them. | WordsAppend returns true for every input, on every schedule; its arguments read afterwards as they read before. No condition beyond the row's own. -/
import Derived.Test.YtkklmljannclmaaDoorWPZ1
import Derived.Test.YtkklmljannclmaaDoorWZ9
import Derived.Below
import Derived.Laws.OwnMore
import Derived.Deep.AppendLies
import Derived.Deep.Draws
import Derived.Maps.AppendAt
import Derived.RegionTactic
import Derived.OwnWalk
import Derived.BigRegion
import Derived.Deep.RegionLaw
namespace Go.Proofs.YtkklmljannclmaaDoor
open Go.RowKit

theorem runU_app (N M : List Nat) (a : Nat) : runU a N ≤ runU a (N ++ M) := (runU_iff (N ++ M) a _).2 fun j hj => by
  have h := (runU_iff N a _).1 (Nat.le_refl _) j hj
  have hl := (List.getElem?_eq_some_iff.1 h).1
  rw [List.getElem?_append_left hl]; exact h
theorem runA_app (N M : List Nat) (a : Nat) : runA a N ≤ runA a (N ++ M) := (runA_iff a (N ++ M) _).2 fun j hj => by
  have h := (runA_iff a N _).1 (Nat.le_refl _) j hj
  have hl := (List.getElem?_eq_some_iff.1 h).1
  rw [List.getElem?_append_left hl]; exact h
theorem items_app {N : List Nat} {x : Itm} (h : x ∈ itemsL N) (M : List Nat) : x ∈ itemsL (N ++ M) := by
  cases N with
  | nil => cases h
  | cons a r =>
    have h1 := runU_app (a :: r) M a
    have h2 := runA_app (a :: r) M a
    rw [List.cons_append] at h1 h2 ⊢
    rcases mem_items.1 h with h | ⟨j, hj, h⟩ | ⟨j, hj, h⟩
    · exact mem_items.2 (.inl h)
    · exact mem_items.2 (.inr (.inl ⟨j, by omega, h⟩))
    · exact mem_items.2 (.inr (.inr ⟨j, by omega, h⟩))
theorem tc_app : ∀ {N : List Nat} {u : List UInt8}, Tc N u → ∀ {M : List Nat} {v : List UInt8}, Tc M v → Tc (N ++ M) (u ++ v)
  | _, _, .nil, _, _, h => h
  | N, _, .cons (x := x) (u := u) hx hu, M, v, h => by
    have hm := items_many hx
    have ih := tc_app hu h
    have e : (N ++ M).drop x.2 = N.drop x.2 ++ M := List.drop_append_of_le_length hm.2
    have := Tc.cons (items_app hx M) (u := u ++ v) (by rw [e]; exact ih)
    simpa using this
theorem best_app (N M : List Nat) : (bestC (N ++ M)).length ≤ (bestC N).length + (bestC M).length := by
  have h := best_least (tc_app (best_text N) (best_text M))
  rcases Nat.lt_or_ge ((bestC N).length + (bestC M).length) (bestC (N ++ M)).length with k | k
  · rw [ltS_yes.2 (.inl (by rw [List.length_append]; exact k))] at h; cases h
  · exact k
theorem bestS_app {N M : List Nat} (h1 : N ≠ []) (h2 : M ≠ []) : (bestS (N ++ M)).length ≤ (bestS N).length + 1 + (bestS M).length := by
  have h := best_app N M
  rw [bestC_S h1, bestC_S h2, bestC_S (N := N ++ M) (by simp [h1])] at h
  simp only [List.length_append, List.length_singleton] at h
  omega
theorem pl_ne {s : List UInt8} (h : plE s = 0) (h0 : s ≠ []) : plL s ≠ [] := fun e => by
  have ht := pl_tc h h0
  rw [e] at ht
  generalize hg : s ++ [44] = t at ht
  cases ht with
  | nil => simp at hg
  | cons h k => cases h
section
variable {s t : List UInt8}
theorem both_ne : s ++ 44 :: t ≠ [] := by simp
theorem pl_two (hl : s.length + t.length < 2500) (h1 : s ≠ []) (h2 : t ≠ []) (es : plE s = 0) (et : plE t = 0) :
    (500 < (plL s).length + (plL t).length → plE (s ++ 44 :: t) = 3) ∧ (¬ 500 < (plL s).length + (plL t).length → plE (s ++ 44 :: t) = 0 ∧ plL (s ++ 44 :: t) = plL s ++ plL t) := by
  obtain ⟨_, a2, a3, a4⟩ := pl_good es h1
  obtain ⟨_, b2, b3, b4⟩ := pl_good et h2
  have hlen : ¬ 2500 < (s ++ 44 :: t).length := by rw [List.length_append, List.length_cons]; omega
  have hp : ∀ p, p ∈ spl 44 (s ++ 44 :: t) → itmP p ≠ none := fun p hp => by
    rw [spl_two] at hp
    rcases List.mem_append.1 hp with hp | hp
    · exact a2 p hp
    · exact b2 p hp
  have hr : ∀ x, x ∈ plP (s ++ 44 :: t) → ¬ 9999 < x.2.1 := fun x hx => by
    rw [plP_two] at hx
    rcases List.mem_append.1 hx with hx | hx
    · exact a3 x hx
    · exact b3 x hx
  have hrest := plE_rest hlen both_ne hp hr
  have hsum : sumP (plP (s ++ 44 :: t)) = (plL s).length + (plL t).length := by
    rw [plP_two, sumP_two, plL_ok es h1, plL_ok et h2, sumP_len, sumP_len]
  rw [hsum] at hrest
  refine ⟨fun h => by rw [hrest, if_pos h], fun h => ?_⟩
  have e0 : plE (s ++ 44 :: t) = 0 := by rw [hrest, if_neg h]
  refine ⟨e0, ?_⟩
  rw [plL_ok e0 both_ne, plP_two, List.flatMap_append, plL_ok es h1, plL_ok et h2]
theorem pl_one_bad (hl : s.length + t.length < 2500) (h1 : s ≠ []) (h2 : t ≠ []) (hb : plE s ≠ 0 ∨ plE t ≠ 0) : plE (s ++ 44 :: t) ≠ 0 := fun e0 => by
  obtain ⟨_, a2, a3, a4⟩ := pl_good e0 both_ne
  rw [plP_two, sumP_two] at a4
  rcases hb with hb | hb
  · refine hb ?_
    rw [plE_rest (by omega) h1 (fun p hp => a2 p (by rw [spl_two]; exact List.mem_append_left _ hp)) (fun x hx => a3 x (by rw [plP_two]; exact List.mem_append_left _ hx)), if_neg (by omega)]
  · refine hb ?_
    rw [plE_rest (by omega) h2 (fun p hp => a2 p (by rw [spl_two]; exact List.mem_append_right _ hp)) (fun x hx => a3 x (by rw [plP_two]; exact List.mem_append_right _ hx)), if_neg (by omega)]
end
end Go.Proofs.YtkklmljannclmaaDoor

namespace Go.Proofs.YtkklmljannclmaaDoor
open Go.RowKit Go.Sort Go.Joins
theorem own_slice' {w : World} {base n size : Nat} {e : TypeId} {v : Value} {xs : List Value} (h : w.ownsRow base e size v n xs) : ∃ a cap, v = .slice a n cap := by
  rcases h.2 with ⟨hv, h0⟩ | ⟨g, cap', cur, hv, _⟩
  · exact ⟨_, _, by rw [hv, h0]⟩
  · exact ⟨_, _, hv⟩
theorem block_of_add (a : Addr) (n : Nat) : (a.add n).block = a.block := by unfold Addr.add; split <;> rfl
theorem add_of_add (a : Addr) (i j : Nat) : (a.add i).add j = a.add (i + j) := by
  unfold Addr.add
  by_cases hi : i = 0 <;> by_cases hj : j = 0 <;> simp [hi, hj, Nat.add_assoc]

def Reads (w : World) (B size : Nat) (A : Option Addr) (n : Nat) (xs : List Value) : Prop :=
  xs.length = n * size ∧ (0 < n → ∃ ad, A = some ad ∧ ad.block < B ∧ ∀ j u, xs[j]? = some u → w.cell? (ad.add j) = some u)

section
variable {w w' : World} {B B' size n : Nat} {A : Option Addr} {xs : List Value}
theorem Reads.none_ : Reads w B size A 0 [] := ⟨by simp, fun h => absurd h (by omega)⟩
theorem Reads.at_ {k : Nat} (h : Reads w B 1 A n xs) (hk : k < n) : ∃ ad u, A = some ad ∧ ad.block < B ∧ xs[k]? = some u ∧ w.cell? (ad.add k) = some u := by
  obtain ⟨ad, e, hb, hc⟩ := h.2 (by omega)
  have hl : k < xs.length := by have := h.1; omega
  exact ⟨ad, xs[k], e, hb, List.getElem?_eq_getElem hl, hc k _ (List.getElem?_eq_getElem hl)⟩
theorem Reads.keep (h : Reads w B size A n xs) (hk : ∀ p : Addr, p.block < B → w'.cell? p = w.cell? p) : Reads w' B size A n xs :=
  ⟨h.1, fun hn => by
    obtain ⟨ad, e, hb, hc⟩ := h.2 hn
    exact ⟨ad, e, hb, fun j u hu => (hk _ (by rw [block_of_add]; exact hb)).trans (hc j u hu)⟩⟩
theorem Reads.more (h : Reads w B size A n xs) (hB : B ≤ B') : Reads w B' size A n xs :=
  ⟨h.1, fun hn => by
    obtain ⟨ad, e, hb, hc⟩ := h.2 hn
    exact ⟨ad, e, by omega, hc⟩⟩
theorem Reads.below (h : Reads w B size A n xs) (hb : Below B w w') : Reads w' B size A n xs := h.keep fun _ hp => hb.cell hp
theorem Reads.drew (h : Reads w B size A n xs) : Reads w.drew B size A n xs := h
theorem Reads.drewN (h : Reads w B size A n xs) (k : Nat) : Reads (w.drewN k) B size A n xs := h
theorem Reads.alloc (h : Reads w B size A n xs) (hB : B ≤ w.heap.size) (o : Obj) : Reads (w.alloc o) B size A n xs := h.keep fun p hp => World.cell?_alloc_lt w o p (by omega)
theorem Reads.setCell (h : Reads w B size A n xs) {p : Addr} (hB : B ≤ p.block) (u : Value) : Reads (w.setCell p u) B size A n xs :=
  h.keep fun q hq => World.cell?_setCell_other w p q u (fun e => by subst e; omega)
theorem Reads.grown (h : Reads w B size A n xs) {row : Option Nat} (hg : w.grownBy w' row) (hB : B ≤ w.heap.size) (hr : ∀ g, row = some g → B ≤ g) : Reads w' B size A n xs :=
  h.keep fun p hp => World.cell?_of_block (hg.block p.block (by omega) (fun e => by have := hr _ e.symm; omega))
theorem Reads.cut (h : Reads w B size A n xs) {k cap : Nat} (hk : k ≤ n) (hc : n ≤ cap) :
    Reads w B size (if cap = k then A else A.map (·.add (k * size))) (n - k) (xs.drop (k * size)) := by
  refine ⟨by rw [List.length_drop, h.1, Nat.sub_mul], fun hn => ?_⟩
  obtain ⟨ad, rfl, hb, hcell⟩ := h.2 (by omega)
  rw [if_neg (by omega)]
  refine ⟨ad.add (k * size), rfl, by rw [block_of_add]; exact hb, fun j u hu => ?_⟩
  rw [add_of_add]
  exact hcell _ u (by rw [← hu, List.getElem?_drop])
theorem Reads.of_own {base : Nat} {e : TypeId} {c : Nat} (h : w.ownsRow base e size (.slice A n c) n xs) : Reads w w.heap.size size A n xs := by
  refine ⟨h.1, fun hn => ?_⟩
  obtain ⟨g, cap, hv, _, hlt⟩ := h.form hn
  have hA : A = some ⟨g, 0, none⟩ := by injection hv
  subst hA
  exact ⟨_, rfl, hlt, h.cells (g := g) rfl⟩
end
section
variable {P : Program} (w : World)

theorem run_append_of_nil (base : Nat) (t ty e : TypeId) (i : TypeInfo) (size : Nat) (ht : P.underlying t = some (.slice e)) (hi : P.info? e = some i)
    (v : Value) (n : Nat) (xs : List Value) (hown : w.ownsRow base e size v n xs) (c : Nat) : (Builtin.append_ #[t, t] ty #[v, .slice none 0 c]).run P w = .ok v w := by
  rcases hown.2 with ⟨rfl, rfl⟩ | ⟨g, cap, cur, rfl, _, _, hnc, _⟩
  · simp [Builtin.append_, run_underlying ht, sizeOf, typeInfo, hi, Builtin.lenOf, Builtin.firstCells]
  · simp [Builtin.append_, run_underlying ht, sizeOf, typeInfo, hi, Builtin.lenOf, Builtin.firstCells, hnc, storeCells]

theorem run_append_any (base : Nat) (t ty e : TypeId) (i : TypeInfo) (z : Value) (size bytes : Nat) (ht : P.underlying t = some (.slice e)) (hi : P.info? e = some i) (hz : i.zero = some z)
    (hsize : i.size = size) (hby : i.bytes = bytes) (hzs : z.cells.size = size) (hsz : 0 < size)
    (v : Value) (n : Nat) (xs : List Value) (hown : w.ownsRow base e size v n xs)
    (B : Nat) (A : Option Addr) (m c : Nat) (news : List Value) (hr : Reads w B size A m news) (h1 : ∀ u ∈ news, u.oneCell' = true)
    (h63 : n + m ≤ maxLen) (hbytes : (n + m) * bytes ≤ 140737488355328) (hbase : base ≤ w.heap.size) :
    ∃ v' w', (Builtin.append_ #[t, t] ty #[v, .slice A m c]).run P w = .ok v' w' ∧ w'.ownsRow base e size v' (n + m) (xs ++ news) ∧ w.grownBy w' v.ownBlock ∧
      (v'.ownBlock = v.ownBlock ∨ v'.ownBlock = some w.heap.size) := by
  rcases A with _ | ad
  · have hm : m = 0 := by
      rcases Nat.eq_zero_or_pos m with h0 | h0
      · exact h0
      · obtain ⟨ad, h, _⟩ := hr.2 h0
        cases h
    subst hm
    have hn : news = [] := List.eq_nil_of_length_eq_zero (by simpa using hr.1)
    subst hn
    exact ⟨v, w, run_append_of_nil w base t ty e i size ht hi v n xs hown c, by simpa using hown, World.grownBy.refl w _, .inl rfl⟩
  · have hcells : ∀ j u, news[j]? = some u → w.cell? (ad.add j) = some u := by
      intro j u hu
      rcases Nat.eq_zero_or_pos m with h0 | h0
      · subst h0
        have hn : news = [] := List.eq_nil_of_length_eq_zero (by simpa using hr.1)
        subst hn
        simp at hu
      · obtain ⟨ad', h, _, hc⟩ := hr.2 h0
        injection h with h
        subst h
        exact hc j u hu
    obtain ⟨v', w', hrun, h2, h3, _, h5⟩ := run_append_own_at (P := P) w base t ty e i z size bytes ht hi hz hsize hby hzs hsz v n xs hown ad m c news hr.1 hcells h1 h63 hbytes hbase
    exact ⟨v', w', hrun, h2, h3, h5⟩

theorem wp_append_any {o : Oper} {a : Act} {K : Act → World → Prop} {Q : Exit → Act → World → Prop} (s x : Operand) (t : TypeId)
    (ho : o.op = .call { callee := .builtin .append, args := #[s, x], argTypes := #[t, t] })
    (base : Nat) (e : TypeId) (i : TypeInfo) (z : Value) (size bytes : Nat) (ht : P.underlying t = some (.slice e)) (hi : P.info? e = some i) (hz : i.zero = some z)
    (hsize : i.size = size) (hby : i.bytes = bytes) (hzs : z.cells.size = size) (hsz : 0 < size)
    (v : Value) (n : Nat) (xs : List Value) (hs : a.eval s = v) (hown : w.ownsRow base e size v n xs)
    (B : Nat) (A : Option Addr) (m c : Nat) (news : List Value) (hx : a.eval x = .slice A m c) (hr : Reads w B size A m news) (h1 : ∀ u ∈ news, u.oneCell' = true)
    (h63 : n + m ≤ maxLen) (hbytes : (n + m) * bytes ≤ 140737488355328) (hbase : base ≤ w.heap.size)
    (h : ∀ v' w', w'.ownsRow base e size v' (n + m) (xs ++ news) → w.grownBy w' v.ownBlock → (v'.ownBlock = v.ownBlock ∨ v'.ownBlock = some w.heap.size) → K (a.put o.dst v') w') : o.wp P a w K Q := by
  obtain ⟨v', w', hrun, h2, h3, h4⟩ := run_append_any (P := P) w base t o.type e i z size bytes ht hi hz hsize hby hzs hsz v n xs hown B A m c news hr h1 h63 hbytes hbase
  unfold Oper.wp execOp
  simp only [ho, resolve, invoke, builtin, Sem.run_bind, Sem.run_pure, Result.andThen_ok, List.map_toArray, List.map_cons, List.map_nil, hs, hx, hrun]
  exact h v' w' h2 h3 h4

theorem wpList_append_any {ops : Array Oper} {rest : List Oper} {o : Oper} {a : Act} {Q : Exit → Act → World → Prop} (hgd : Region.wanted o (yielded ops a.tmps) = true) (s x : Operand) (t : TypeId)
    (ho : o.op = .call { callee := .builtin .append, args := #[s, x], argTypes := #[t, t] })
    (base : Nat) (e : TypeId) (i : TypeInfo) (z : Value) (size bytes : Nat) (ht : P.underlying t = some (.slice e)) (hi : P.info? e = some i) (hz : i.zero = some z)
    (hsize : i.size = size) (hby : i.bytes = bytes) (hzs : z.cells.size = size) (hsz : 0 < size)
    (v : Value) (n : Nat) (xs : List Value) (hs : a.eval s = v) (hown : w.ownsRow base e size v n xs)
    (B : Nat) (A : Option Addr) (m c : Nat) (news : List Value) (hx : a.eval x = .slice A m c) (hr : Reads w B size A m news) (h1 : ∀ u ∈ news, u.oneCell' = true)
    (h63 : n + m ≤ maxLen) (hbytes : (n + m) * bytes ≤ 140737488355328) (hbase : base ≤ w.heap.size)
    (h : ∀ v' w', w'.ownsRow base e size v' (n + m) (xs ++ news) → w.grownBy w' v.ownBlock → (v'.ownBlock = v.ownBlock ∨ v'.ownBlock = some w.heap.size) → wpList P ops Q rest (a.put o.dst v') w') : wpList P ops Q (o :: rest) a w :=
  wpList_step fun _ hK => by
    rw [if_pos hgd]
    exact wp_append_any w s x t ho base e i z size bytes ht hi hz hsize hby hzs hsz v n xs hs hown B A m c news hx hr h1 h63 hbytes hbase fun v' w' h2 h3 h4 => hK _ _ (h v' w' h2 h3 h4)

end
section
variable {P : Program} (w : World)
theorem step_append_any {ops : Array Oper} {o : Oper} {a : Act} {K : Act → World → Prop} {Q : Exit → Act → World → Prop} {E : Prop} (hgd : o.guard = none) (s x : Operand) (t : TypeId)
    (ho : o.op = .call { callee := .builtin .append, args := #[s, x], argTypes := #[t, t] })
    (base : Nat) (e : TypeId) (i : TypeInfo) (z : Value) (size bytes : Nat) (ht : P.underlying t = some (.slice e)) (hi : P.info? e = some i) (hz : i.zero = some z)
    (hsize : i.size = size) (hby : i.bytes = bytes) (hzs : z.cells.size = size) (hsz : 0 < size)
    (v : Value) (n : Nat) (xs : List Value) (hs : a.eval s = v) (hown : w.ownsRow base e size v n xs)
    (B : Nat) (A : Option Addr) (m c : Nat) (news : List Value) (hx : a.eval x = .slice A m c) (hr : Reads w B size A m news) (h1 : ∀ u ∈ news, u.oneCell' = true)
    (h63 : n + m ≤ maxLen) (hbytes : (n + m) * bytes ≤ 140737488355328) (hbase : base ≤ w.heap.size)
    (h : ∀ v' w', w'.ownsRow base e size v' (n + m) (xs ++ news) → w.grownBy w' v.ownBlock → (v'.ownBlock = v.ownBlock ∨ v'.ownBlock = some w.heap.size) → K (a.put o.dst v') w') :
    if Region.wanted o (yielded ops a.tmps) = true then Oper.wp P o a w K Q else E := by
  have hw : Region.wanted o (yielded ops a.tmps) = true := by simp [Region.wanted, hgd]
  rw [if_pos hw]
  exact wp_append_any w s x t ho base e i z size bytes ht hi hz hsize hby hzs hsz v n xs hs hown B A m c news hx hr h1 h63 hbytes hbase h
end
end Go.Proofs.YtkklmljannclmaaDoor

namespace Go.Proofs.YtkklmljannclmaaDoor
open Go.RowKit Go.Sort Go.Joins Go.Shelf
attribute [local go_sem] cell_grow frozen_grow size_grow

theorem ints_app (N M : List Nat) : ints (N ++ M) = ints N ++ ints M := by unfold ints; exact List.map_append
theorem int_one (I : List Int) : ∀ u ∈ I.map (Value.int .i64), u.oneCell' = true := by
  intro u hu
  obtain ⟨x, _, rfl⟩ := List.mem_map.1 hu
  rfl
theorem SlN.reads {w : World} {a : Option Addr} {I : List Int} (h : SlN w a I) : Reads w w.heap.size 1 a I.length (I.map (Value.int .i64)) := by
  refine ⟨by simp, fun h0 => ?_⟩
  rcases h with h | ⟨b, o, rfl, hc⟩
  · rw [h] at h0; simp at h0
  · refine ⟨⟨b, o, none⟩, rfl, World.block_lt_of_cell? _ _ (hc 0 h0), fun j u hj => ?_⟩
    rw [List.getElem?_map] at hj
    have hl : j < I.length := by
      rcases Nat.lt_or_ge j I.length with k | k
      · exact k
      · rw [List.getElem?_eq_none k] at hj; cases hj
    rw [List.getElem?_eq_getElem hl] at hj
    cases hj
    have := hc j hl
    rw [List.getD_eq_getElem?_getD, List.getElem?_eq_getElem hl] at this
    rw [Addr.add_lit]
    exact this
set_option maxRecDepth 100000 in
set_option maxHeartbeats 1600000 in
theorem law_append (s t : ByteArray) (w : World) (hT : T1 w) : Calls Tryd.prog 6 #[.string s, .string t] w fun e w' => e = .returned (.bool true) ∧ Below w.heap.size w w' := by
  obtain ⟨i0, hi0, hz0, hz1, hz2'⟩ := info_parts info_int
  have HT := Lib.hid hT
  clear hT
  have hways : (s.size = 0) ∨ (s.size ≠ 0 ∧ t.size = 0) ∨ (s.size ≠ 0 ∧ t.size ≠ 0 ∧ 3000 < s.size) ∨ (s.size ≠ 0 ∧ t.size ≠ 0 ∧ ¬ 3000 < s.size ∧ 3000 < t.size) ∨ (s.size ≠ 0 ∧ t.size ≠ 0 ∧ ¬ 3000 < s.size ∧ ¬ 3000 < t.size ∧ 2500 ≤ s.size + t.size) ∨ (s.size ≠ 0 ∧ t.size ≠ 0 ∧ ¬ 3000 < s.size ∧ ¬ 3000 < t.size ∧ ¬ 2500 ≤ s.size + t.size) := by omega
  rcases hways with k1 | ⟨k1, k2⟩ | ⟨k1, k2, k3⟩ | ⟨k1, k2, k3, k4⟩ | ⟨k1, k2, k3, k4, k5⟩ | ⟨k1, k2, k3, k4, k5⟩
  · have d1 : ((s.size : Int) == 0) = true := beq_iff_eq.2 (by omega)
    clear k1
    go_enter Tryd.func6, Tryd.ntmps6
    go_wp2_with fail
    refine (shown_ok _ (HT.out)).mono ?_
    rintro e w7 ⟨rfl, b7⟩
    have HB7 := Lib.hid b7
    clear b7
    go_wp2
    go_ret
    exact ⟨rfl, HB7.out⟩
  · have d1 : ((s.size : Int) == 0) = false := beq_eq_false_iff_ne.2 (by omega)
    have d2 : ((t.size : Int) == 0) = true := beq_iff_eq.2 (by omega)
    clear k1 k2
    go_enter Tryd.func6, Tryd.ntmps6
    go_wp2_with fail
    refine (shown_ok _ (HT.out)).mono ?_
    rintro e w7 ⟨rfl, b7⟩
    have HB7 := Lib.hid b7
    clear b7
    go_wp2
    go_ret
    exact ⟨rfl, HB7.out⟩
  · have d1 : ((s.size : Int) == 0) = false := beq_eq_false_iff_ne.2 (by omega)
    have d2 : ((t.size : Int) == 0) = false := beq_eq_false_iff_ne.2 (by omega)
    have d3 : decide ((3000 : Int) < (s.size : Int)) = true := decide_eq_true (by omega)
    clear k1 k2 k3
    go_enter Tryd.func6, Tryd.ntmps6
    go_wp2_with fail
    refine (shown_ok _ (HT.out)).mono ?_
    rintro e w7 ⟨rfl, b7⟩
    have HB7 := Lib.hid b7
    clear b7
    go_wp2
    go_ret
    exact ⟨rfl, HB7.out⟩
  · have d1 : ((s.size : Int) == 0) = false := beq_eq_false_iff_ne.2 (by omega)
    have d2 : ((t.size : Int) == 0) = false := beq_eq_false_iff_ne.2 (by omega)
    have d3 : decide ((3000 : Int) < (s.size : Int)) = false := decide_eq_false (by omega)
    have d4 : decide ((3000 : Int) < (t.size : Int)) = true := decide_eq_true (by omega)
    clear k1 k2 k3 k4
    go_enter Tryd.func6, Tryd.ntmps6
    go_wp2_with fail
    refine (shown_ok _ (HT.out)).mono ?_
    rintro e w7 ⟨rfl, b7⟩
    have HB7 := Lib.hid b7
    clear b7
    go_wp2
    go_ret
    exact ⟨rfl, HB7.out⟩
  · have d1 : ((s.size : Int) == 0) = false := beq_eq_false_iff_ne.2 (by omega)
    have d2 : ((t.size : Int) == 0) = false := beq_eq_false_iff_ne.2 (by omega)
    have d3 : decide ((3000 : Int) < (s.size : Int)) = false := decide_eq_false (by omega)
    have d4 : decide ((3000 : Int) < (t.size : Int)) = false := decide_eq_false (by omega)
    have d5 : decide ((2500 : Int) ≤ (s.size : Int) + (t.size : Int)) = true := decide_eq_true (by omega)
    have hw0 : IntKind.i64.wrap ((s.size : Int) + (t.size : Int)) = (s.size : Int) + (t.size : Int) := IntWalk.i64_in _ (by omega)
    clear k1 k2 k3 k4 k5
    go_enter Tryd.func6, Tryd.ntmps6
    go_wp2_with fail
    refine (shown_ok _ (HT.out)).mono ?_
    rintro e w7 ⟨rfl, b7⟩
    have HB7 := Lib.hid b7
    clear b7
    go_wp2
    go_ret
    exact ⟨rfl, HB7.out⟩
  · have d1 : ((s.size : Int) == 0) = false := beq_eq_false_iff_ne.2 (by omega)
    have d2 : ((t.size : Int) == 0) = false := beq_eq_false_iff_ne.2 (by omega)
    have d3 : decide ((3000 : Int) < (s.size : Int)) = false := decide_eq_false (by omega)
    have d4 : decide ((3000 : Int) < (t.size : Int)) = false := decide_eq_false (by omega)
    have d5 : decide ((2500 : Int) ≤ (s.size : Int) + (t.size : Int)) = false := decide_eq_false (by omega)
    have hw0 : IntKind.i64.wrap ((s.size : Int) + (t.size : Int)) = (s.size : Int) + (t.size : Int) := IntWalk.i64_in _ (by omega)
    have HSZ : Hid (s.size + t.size < 2500 ∧ s.size ≠ 0 ∧ t.size ≠ 0) := Lib.hid ⟨by omega, k1, k2⟩
    obtain ⟨B, hB⟩ : ∃ B : ByteArray, s ++ ⟨#[44]⟩ ++ t = B := ⟨_, rfl⟩
    have hBL : B.data.toList = s.data.toList ++ 44 :: t.data.toList := by rw [← hB, app_list, app_list]; simp
    have hBz : B.size ≤ 2501 := by
      have h1 := len_of hBL
      rw [List.length_append, List.length_cons, len_of rfl, len_of rfl] at h1; omega
    have hC1 : (9223372036854775807 < s.size + 1) = False := by simp; omega
    have hC2 : (9223372036854775807 < s.size + 1 + t.size) = False := by simp; omega
    have hls : (s.data.toList).length = s.size := len_of rfl
    have hlt : (t.data.toList).length = t.size := len_of rfl
    have hs0 : s.data.toList ≠ [] := fun e => by rw [e] at hls; simp at hls; omega
    have ht0 : t.data.toList ≠ [] := fun e => by rw [e] at hlt; simp at hlt; omega
    have HBad := Lib.hid (fun hb => pl_one_bad (s := s.data.toList) (t := t.data.toList) (by omega) hs0 ht0 hb)
    have HTwo := Lib.hid (fun es et => pl_two (s := s.data.toList) (t := t.data.toList) (by omega) hs0 ht0 es et)
    have HNs := Lib.hid (fun es => pl_ne (s := s.data.toList) es hs0)
    have HNt := Lib.hid (fun et => pl_ne (s := t.data.toList) et ht0)
    have HFs := Lib.hid (fun h => lst_pl (s := s.data.toList) h)
    have HFt := Lib.hid (fun h => lst_pl (s := t.data.toList) h)
    have HFb := Lib.hid (fun h => lst_pl (s := s.data.toList ++ 44 :: t.data.toList) h)
    have HGs := Lib.hid (fun h => pl_facts (s := s.data.toList) h)
    have HGt := Lib.hid (fun h => pl_facts (s := t.data.toList) h)
    have HGb := Lib.hid (fun h => pl_facts (s := s.data.toList ++ 44 :: t.data.toList) h)
    have ws := pl_err s.data.toList
    have wt := pl_err t.data.toList
    have wb := pl_err (s.data.toList ++ 44 :: t.data.toList)
    have HBL := Lib.hid hBL
    clear k1 k2 k3 k4 k5 hBL hls hlt hs0 ht0
    go_enter Tryd.func6, Tryd.ntmps6
    go_wp2_with fail
    refine (wparse_c s _ rfl (by have := HSZ.out.1; omega) _ HT.out.ml HT.out.tw).mono ?_
    rintro e w1 ⟨a1, c1, rfl, s1, b1, hc1⟩
    have HB1 := Lib.hid b1
    have HS1 := Lib.hid s1
    clear b1 s1
    go_wp2_with fail
    refine (wparse_c t _ rfl (by have := HSZ.out.1; omega) _ (HT.out.below HB1.out).ml (HT.out.below HB1.out).tw).mono ?_
    rintro e w2 ⟨a2, c2, rfl, s2, b2, hc2⟩
    have HB2 := Lib.hid (HB1.out.trans (b2.mono HB1.out.size))
    have HS1b := Lib.hid (HS1.out.below b2)
    have HS2 := Lib.hid s2
    clear b2 s2 HB1 HS1
    go_wp2_with fail
    refine (wparse_c B _ HBL.out (by omega) _ (HT.out.below HB2.out).ml (HT.out.below HB2.out).tw).mono ?_
    rintro e w3 ⟨a3, c3, rfl, s3, b3, hc3⟩
    have HB3 := Lib.hid (HB2.out.trans (b3.mono HB2.out.size))
    have HS1c := Lib.hid (HS1b.out.below b3)
    have HS2c := Lib.hid (HS2.out.below b3)
    have HS3 := Lib.hid s3
    clear b3 s3 HB2 HS1b HS2 hC1 hC2 hB
    obtain ⟨E1, hE1⟩ : ∃ E, plE s.data.toList = E := ⟨_, rfl⟩
    obtain ⟨E2, hE2⟩ : ∃ E, plE t.data.toList = E := ⟨_, rfl⟩
    obtain ⟨E3, hE3⟩ : ∃ E, plE (s.data.toList ++ 44 :: t.data.toList) = E := ⟨_, rfl⟩
    obtain ⟨N1, hN1⟩ : ∃ N, plL s.data.toList = N := ⟨_, rfl⟩
    obtain ⟨N2, hN2⟩ : ∃ N, plL t.data.toList = N := ⟨_, rfl⟩
    obtain ⟨N3, hN3⟩ : ∃ N, plL (s.data.toList ++ 44 :: t.data.toList) = N := ⟨_, rfl⟩
    rw [hE1, hE2, hE3] at HBad
    rw [hE1, hE2, hE3, hN1, hN2, hN3] at HTwo
    rw [hE1, hN1] at HNs HFs HGs ws
    rw [hE2, hN2] at HNt HFt HGt wt
    rw [hE3, hN3] at HFb HGb wb
    rw [hN1] at HS1c hc1
    rw [hN2] at HS2c hc2
    rw [hN3] at HS3 hc3
    rw [hE1, hE2, hE3, hN1, hN2, hN3]
    clear hE1 hE2 hE3 hN1 hN2 hN3
    by_cases z1 : E1 = 0
    · by_cases z2 : E2 = 0
      · obtain ⟨t1, t2⟩ := HTwo.out z1 z2
        subst z1 z2
        by_cases hbig : 500 < N1.length + N2.length
        · obtain rfl : E3 = 3 := t1 hbig
          have e3 : N3 = [] := (wb.resolve_left (by decide)).2
          subst e3
          have d9 : decide ((500 : Int) < (N1.length : Int) + (N2.length : Int)) = true := decide_eq_true (by omega)
          have hw5 : IntKind.i64.wrap ((N1.length : Int) + (N2.length : Int)) = (N1.length : Int) + (N2.length : Int) := IntWalk.i64_in _ (by have := (HGs.out rfl).2; have := (HGt.out rfl).2; omega)
          clear HBad HTwo HNs HNt HFs HFt HFb HGs HGt HGb ws wt wb t1 t2 hbig
          go_wp2_with fail
          refine (shown_ok _ (HT.out.below HB3.out)).mono ?_
          rintro e w7 ⟨rfl, b7⟩
          have HB7 := Lib.hid (HB3.out.trans (b7.mono HB3.out.size))
          clear b7
          go_wp2
          go_ret
          exact ⟨rfl, HB7.out⟩
        · obtain ⟨rfl, rfl⟩ := t2 hbig
          obtain ⟨f11, f12, -⟩ := HFs.out rfl
          obtain ⟨f21, f22, -⟩ := HFt.out rfl
          obtain ⟨f31, f32, -⟩ := HFb.out rfl
          have hba := bestS_app (HNs.out rfl) (HNt.out rfl)
          have l1 := bestS_len (HGs.out rfl).1 (HGs.out rfl).2
          have l2 := bestS_len (HGt.out rfl).1 (HGt.out rfl).2
          have l3 := bestS_len (HGb.out rfl).1 (HGb.out rfl).2
          have g1 := (HGs.out rfl).2
          have g2 := (HGt.out rfl).2
          have HL1 := Lib.hid (fun W (h : SlN W a1 (ints N1)) hT => wlist_ok (ints N1) a1 c1 W h (by rw [ints_len]; exact hc1) hT (by rw [ints_len]; omega))
          have HL2 := Lib.hid (fun W (h : SlN W a2 (ints N2)) hT => wlist_ok (ints N2) a2 c2 W h (by rw [ints_len]; exact hc2) hT (by rw [ints_len]; omega))
          have HL3 := Lib.hid (fun W (h : SlN W a3 (ints (N1 ++ N2))) hT => wlist_ok (ints (N1 ++ N2)) a3 c3 W h (by rw [ints_len]; exact hc3) hT (by rw [ints_len, List.length_append]; omega))
          have HII := Lib.hid (fun W b c (h : SlN W a3 (ints (N1 ++ N2))) (h1 : SlN W b (ints (N1 ++ N2))) => ints_okL a3 b c3 c (ints (N1 ++ N2)) (ints (N1 ++ N2)) W h h1 (by rw [ints_len, List.length_append]; omega))
          rw [f11, f12, ints_len] at HL1
          rw [f21, f22, ints_len] at HL2
          rw [f31, f32, ints_len] at HL3
          rw [decide_eq_true rfl, ints_len] at HII
          obtain ⟨n1, hn1⟩ : ∃ n, N1.length = n := ⟨_, rfl⟩
          obtain ⟨n2, hn2⟩ : ∃ n, N2.length = n := ⟨_, rfl⟩
          have hn3 : (N1 ++ N2).length = n1 + n2 := by rw [List.length_append, hn1, hn2]
          have HN1 := Lib.hid hn1
          have HN2 := Lib.hid hn2
          rw [hn1] at HL1 g1 hbig
          rw [hn2] at HL2 g2 hbig
          rw [hn3] at HL3 HII ⊢
          rw [hn1, hn2]
          obtain ⟨Q1, hQ1⟩ : ∃ Q, bestS N1 = Q := ⟨_, rfl⟩
          obtain ⟨Q2, hQ2⟩ : ∃ Q, bestS N2 = Q := ⟨_, rfl⟩
          obtain ⟨Q3, hQ3⟩ : ∃ Q, bestS (N1 ++ N2) = Q := ⟨_, rfl⟩
          rw [hQ1] at HL1 l1 hba
          rw [hQ2] at HL2 l2 hba
          rw [hQ3] at HL3 l3 hba
          have d9 : decide ((500 : Int) < (n1 : Int) + (n2 : Int)) = false := decide_eq_false (by omega)
          have hw5 : IntKind.i64.wrap ((n1 : Int) + (n2 : Int)) = (n1 : Int) + (n2 : Int) := IntWalk.i64_in _ (by omega)
          clear HBad HTwo HNs HNt HFs HFt HFb HGs HGt HGb ws wt wb t1 t2 f11 f12 f21 f22 f31 f32 hc1 hc2 hc3 hn1 hn2 hn3 hQ1 hQ2 hQ3 hbig hBz
          go_wp2_with fail
          refine (HL1.out _ HS1c.out (HT.out.below HB3.out)).mono ?_
          rintro e w4 ⟨S1, rfl, h1, b4⟩
          have z1 := len_of h1
          have HB4 := Lib.hid (HB3.out.trans (b4.mono HB3.out.size))
          have HS1d := Lib.hid (HS1c.out.below b4)
          have HS2d := Lib.hid (HS2c.out.below b4)
          have HS3d := Lib.hid (HS3.out.below b4)
          clear b4 h1 HB3 HS1c HS2c HS3
          go_wp2_with fail
          refine (HL2.out _ HS2d.out (HT.out.below HB4.out)).mono ?_
          rintro e w5 ⟨S2, rfl, h2, b5⟩
          have z2 := len_of h2
          have HB5 := Lib.hid (HB4.out.trans (b5.mono HB4.out.size))
          have HS1e := Lib.hid (HS1d.out.below b5)
          have HS2e := Lib.hid (HS2d.out.below b5)
          have HS3e := Lib.hid (HS3d.out.below b5)
          clear b5 h2 HB4 HS1d HS2d HS3d
          go_wp2_with fail
          refine (HL3.out _ HS3e.out (HT.out.below HB5.out)).mono ?_
          rintro e w6 ⟨S3, rfl, h3, b6⟩
          have z3 := len_of h3
          have HB6 := Lib.hid (HB5.out.trans (b6.mono HB5.out.size))
          have HS1f := Lib.hid (HS1e.out.below b6)
          have HS2f := Lib.hid (HS2e.out.below b6)
          have HS3f := Lib.hid (HS3e.out.below b6)
          clear b6 h3 HB5 HS1e HS2e HS3e
          have HO8 : Hid ((w6.alloc (.cells #[] 3)).ownsRow w6.heap.size 3 1 (.slice (some ⟨w6.heap.size, 0, none⟩) 0 0) 0 []) := Lib.hid (World.ownsRow_lit w6 #[] 0 (Nat.le_refl _) (by decide) rfl)
          have hr1 := HS1f.out.reads
          rw [ints_len, HN1.out] at hr1
          have HR8 := Lib.hid (hr1.alloc (Nat.le_refl _) (.cells #[] 3))
          have HB8 := Lib.hid (below_box0 w6 (.cells #[] 3))
          have hr2 := HS2f.out.reads
          rw [ints_len, HN2.out] at hr2
          have HR0 := Lib.hid hr2
          have hw6 : IntKind.i64.wrap ((S1.size : Int) + 1) = (S1.size : Int) + 1 := IntWalk.i64_in _ (by omega)
          have hw7 : IntKind.i64.wrap ((S1.size : Int) + 1 + (S2.size : Int)) = (S1.size : Int) + 1 + (S2.size : Int) := IntWalk.i64_in _ (by omega)
          have d10 : decide ((S3.size : Int) ≤ (S1.size : Int) + 1 + (S2.size : Int)) = true := decide_eq_true (by omega)
          clear hr1 hr2 z1 z2 z3 hba l1 l2 l3
          go_wp2_with (first
            | (at_builtin
               refine wpList_append_any _ (by simp [Region.wanted, yielded]) (.tmp 125) (.tmp 126) 39 rfl w6.heap.size 3 i0 _ 1 8 Tryd.underlying39 hi0 hz0 hz1 hz2' rfl (by decide) (.slice (some ⟨w6.heap.size, 0, none⟩) 0 0) 0 [] rfl HO8.out w6.heap.size a1 n1 c1 _ rfl HR8.out (int_one _) (by unfold maxLen; omega) (by omega) HB8.out.size ?_
               intro v9 w9 hown1 hg1 _
               have HB9 := Lib.hid (HB8.out.grown hg1 HB8.out.size (by simp [Value.ownBlock]))
               have HO9 : Hid (w9.ownsRow w6.heap.size 3 1 v9 n1 ((ints N1).map (Value.int .i64))) := Lib.hid (by
                 have e1 : 0 + n1 = n1 := by omega
                 rw [e1, List.nil_append] at hown1
                 exact hown1)
               have HR9 := Lib.hid (HR0.out.below HB9.out)
               clear hown1 hg1)
            | (at_builtin
               refine wpList_append_any _ (by simp [Region.wanted, yielded]) (.tmp 127) (.tmp 128) 39 rfl w6.heap.size 3 i0 _ 1 8 Tryd.underlying39 hi0 hz0 hz1 hz2' rfl (by decide) _ _ _ rfl HO9.out w6.heap.size a2 n2 c2 _ rfl HR9.out (int_one _) (by unfold maxLen; omega) (by omega) HB9.out.size ?_
               intro v10 w10 hown2 hg2 _
               have HB10 := Lib.hid (HB9.out.grown hg2 HB9.out.size (by intro r hr; exact (HO9.out.lt r hr).1))
               obtain ⟨va, vc, rfl⟩ := own_slice hown2
               have HO10 : Hid (w10.ownsRow w6.heap.size 3 1 (.slice va (n1 + n2) vc) (n1 + n2) ((ints (N1 ++ N2)).map (Value.int .i64))) := Lib.hid (by
                 rw [ints_app, List.map_append]; exact hown2)
               clear hown2 hg2))
          have HBx := Lib.hid (HB6.out.trans (HB10.out.mono HB6.out.size))
          have HS10 : Hid (SlN w10 va (ints (N1 ++ N2))) := Lib.hid (SlN.of_own (len := n1 + n2) (cap := vc) (by
            have e : (ints (N1 ++ N2)).length = n1 + n2 := by rw [ints_len, List.length_append, HN1.out, HN2.out]
            rw [e]; exact HO10.out))
          refine (HII.out _ _ _ (HS3f.out.below HB10.out) HS10.out).mono ?_
          rintro e w11 ⟨rfl, b11⟩
          have HB3 := Lib.hid (HBx.out.trans (b11.mono HBx.out.size))
          clear b11 HBx HS10 HB10 HO10 HS3f
          go_wp2_with fail
          refine (shown_ok _ (HT.out.below HB3.out)).mono ?_
          rintro e w7 ⟨rfl, b7⟩
          have HB7 := Lib.hid (HB3.out.trans (b7.mono HB3.out.size))
          clear b7
          go_wp2
          go_ret
          exact ⟨rfl, HB7.out⟩
      · have q3 : (E3 != 0) = true := by simpa using HBad.out (.inr z2)
        have e3 : N3 = [] := (wb.resolve_left (HBad.out (.inr z2))).2
        subst e3
        subst z1
        have q2 : (E2 != 0) = true := by simpa using z2
        clear HBad HTwo HNs HNt HFs HFt HFb HGs HGt HGb ws wt wb
        go_wp2_with fail
        refine (shown_ok _ (HT.out.below HB3.out)).mono ?_
        rintro e w7 ⟨rfl, b7⟩
        have HB7 := Lib.hid (HB3.out.trans (b7.mono HB3.out.size))
        clear b7
        go_wp2
        go_ret
        exact ⟨rfl, HB7.out⟩
    · have q3 : (E3 != 0) = true := by simpa using HBad.out (.inl z1)
      have e3 : N3 = [] := (wb.resolve_left (HBad.out (.inl z1))).2
      subst e3
      have q1 : (E1 != 0) = true := by simpa using z1
      clear HBad HTwo HNs HNt HFs HFt HFb HGs HGt HGb ws wt wb
      go_wp2_with fail
      refine (shown_ok _ (HT.out.below HB3.out)).mono ?_
      rintro e w7 ⟨rfl, b7⟩
      have HB7 := Lib.hid (HB3.out.trans (b7.mono HB3.out.size))
      clear b7
      go_wp2
      go_ret
      exact ⟨rfl, HB7.out⟩
end Go.Proofs.YtkklmljannclmaaDoor

namespace Go.Proofs.YtkklmljannclmaaDoor.wordsAppend
open Go.ChangeShapes Go.WideShapes Go.ChangeAt Go.RowKit

set_option maxRecDepth 100000 in
theorem contract (H : Type) (enc : TypeId × Value → H) (W : World) (base : Nat) (args : Array Value) (ds gs : List (DataW H)) (before : List MemPlace)
    (hval : ∀ (j : Nat) t v, Tryd.f6.params[j]? = some t → args[j]? = some v → Value.okWide Tryd.prog W .any base t v)
    (hW : DataW.Whole enc Tryd.prog Tryd.f6.params.toList Rows.wordsAppendSpec.vars false W args.toList ds gs before) (hL : laidMetH Tryd.prog Rows.wordsAppendRow.laid W) (hsh : W.ShapedOpen Tryd.prog) :
    Calls Tryd.prog 6 args W fun e W' => ∃ v, e = .returned v ∧ Rows.wordsAppendSpec.post enc Tryd.prog Tryd.f6 false true false false W args v W' := by
  have hW' := hW
  obtain ⟨p, q, hA0, hV, rfl, hfz, hnd⟩ := hW
  have hA : DataW.TrodAll enc Tryd.prog W 0 (fun _ => true) true Tryd.f6.params.toList args.toList ds p := hA0
  rw [Tryd.params6] at hA hval
  obtain ⟨v0, vs0, d0, ds0, p0, q0, hargs, rfl, rfl, h0, r0⟩ := trodAll_cons hA
  obtain ⟨v1, vs1, d1, ds1, p1, q1, rfl, rfl, rfl, h1, r1⟩ := trodAll_cons r0
  obtain ⟨rfl, rfl, rfl⟩ := trodAll_nil r1
  obtain rfl : args = #[v0, v1] := by cases args; simp_all
  obtain ⟨rfl, rfl⟩ := trodVars_none hV
  obtain ⟨s0, rfl⟩ := okWide_string Tryd.underlying9 (hval 0 9 v0 rfl rfl)
  obtain ⟨s1, rfl⟩ := okWide_string Tryd.underlying9 (hval 1 9 v1 rfl rfl)
  refine (law_append s0 s1 W (t1_of hL hsh)).mono fun e W' ⟨he, hb⟩ => ?_
  exact ⟨_, he, law_post hW' rfl (by rw [Tryd.params6]; kernel_rfl) rfl rfl rfl rfl hb⟩

theorem laid_met (os : Os) : laidMet Tryd.prog Rows.wordsAppendRow.laid ((laidWorld os).forCall (fun _ _ => 0) ⟨#[], #[.string ⟨#[]⟩, .string ⟨#[]⟩], []⟩).memory :=
  laidMet_of_run' 8 (by kernel_rfl) (by kernel_rfl)
theorem reads (os : Os) {H : Type} (enc : TypeId × Value → H) : ∃ places, DataW.whole enc Tryd.prog ((laidWorld os).forCall (fun _ _ => 0) ⟨#[], #[.string ⟨#[]⟩, .string ⟨#[]⟩], []⟩).memory Tryd.f6.params.toList Rows.wordsAppendSpec.vars false #[Value.string ⟨#[]⟩, Value.string ⟨#[]⟩].toList 8 = some ([.lit (.string []), .lit (.string [])], [], places) :=
  ⟨[], by kernel_rfl⟩

set_option maxRecDepth 100000 in
theorem lifted (os : Os) (started : os.Started) (H : Type) (enc : TypeId × Value → H) (F : Stop.Interp) :
    ReturnsInHanded {} Tryd.checked os 6 .any ((OpenSpec.ofChange Rows.wordsAppendSpec).preRow enc Tryd.prog Tryd.f6 Rows.wordsAppendRow.domain false Rows.wordsAppendRow.laid) (((OpenSpec.ofChange Rows.wordsAppendSpec).at F).post enc Tryd.prog Tryd.f6 false true false false) := by
  obtain ⟨places, hx⟩ := reads os enc
  refine returnsInHanded_of_row (C := Tryd.checked) (s := OpenSpec.ofChange Rows.wordsAppendSpec) own started (by kernel_rfl) Tryd.func6
    (witness_row_at (enc := enc) (C := Tryd.checked) false (laidWorld os) #[.string ⟨#[]⟩, .string ⟨#[]⟩] rfl (by kernel_rfl) (by kernel_rfl) (by kernel_rfl)
      (OpenSpec.preRow_of_cond 8 hx (by kernel_rfl) (fun k hk => by cases hk) (by kernel_rfl) (laid_met os))) ?_
  intro W base args ds gs before hval hW _ _ _ hL hsh _
  exact contract H enc W base args ds gs before hval hW hL hsh

theorem said : Rows.WordsAppendSaid :=
  OpenClaim.holds_of_cond 6 Tryd.f6 rfl rfl rfl rfl rfl rfl rfl ⟨rfl, rfl, rfl, rfl, rfl⟩ rfl rfl rfl rfl rfl (by kernel_rfl) Tryd.func6 (by kernel_rfl)
    (of_decide_eq_true (by kernel_rfl)) (by unfold Func.isWrapper; first | (rw [if_pos (by decide +kernel)]; kernel_rfl) | (rw [if_neg (by decide +kernel)]; exact ⟨rfl, rfl⟩))
    (fun os started H enc _ F => by rw [OpenClaim.pre_eq_preRow]; exact lifted os started H enc F)

theorem plain (f : FuncId) (fn : Func) (hf : Tryd.pinned.checked.prog.funcNamed "polder/polderlaw01.WordsAppend" = some f) (hfn : Tryd.pinned.checked.prog.funcs[f]? = some fn) :
    true = Tryd.pinned.checked.prog.looks [] ∧ ∀ (j : Nat) t, fn.params[j]? = some t → Tryd.pinned.checked.prog.wantsStandIn t = false := by
  obtain rfl : f = 6 := Option.some.inj ((show Tryd.prog.funcNamed "polder/polderlaw01.WordsAppend" = some 6 by kernel_rfl).symm.trans hf) |>.symm
  obtain rfl : fn = Tryd.f6 := (Option.some.inj (Tryd.func6.symm.trans hfn)).symm
  refine ⟨by kernel_rfl, fun j t ht => ?_⟩
  rw [Tryd.params6] at ht
  have hm : t ∈ [9, 9] := by simpa using Array.mem_of_getElem? ht
  have hall : ([9, 9].all fun u => !Tryd.prog.wantsStandIn u) = true := by kernel_rfl
  exact (show Tryd.prog.wantsStandIn t = false by simpa using List.all_eq_true.1 hall t hm)

/-- THE CARD. -/
theorem card : Rows.WordsAppendCardSaid :=
  Claim7.holds_tied_plain_at .later [] _ _ _ _ said (fun _ h => by cases h) (by kernel_rfl) (fun _ h => by cases h) wordsAppend_row_tie rfl ⟨rfl, rfl⟩ (by kernel_rfl) rfl plain (by kernel_rfl)
#print axioms card
end Go.Proofs.YtkklmljannclmaaDoor.wordsAppend
