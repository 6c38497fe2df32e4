/- Append of a slice that came from a call, nil or not (the words of the kit's howto, turned to a guarded operation): the general part of C9R and C9Q. | The radix map: states, plain; a state in memory: to be read (RdS), made by the call itself (OSt). | The radix map, plain: the levels of the nodes; after Clear of all pages the state is that of a new map. | The radix map: a map after Clear of all pages, plain; a map that lies beside another one that is changed. | The radix map, plain: what Check says of a state. | The radix map: a state in memory, to be read cell by cell. | The radix map: sizes, slices.Clone of numbers. -/
import Derived.Test.YtfmclbacoffdaaaDoorRZ3
import Derived.Below
import Derived.Laws.OwnMore
import Derived.Deep.AppendLies
import Derived.Deep.Draws
import Derived.Maps.AppendAt
import Derived.RegionTactic
import Derived.OwnWalk
import Derived.BigRegion
import Derived.Deep.RegionLaw
import Derived.Test.YtfmclbacoffdaaaDoorRZ10
import Derived.Lib.SmallJoins
namespace Go.Proofs.YtfmclbacoffdaaaDoor
open Go.RowKit Go.Sort Go.Joins
theorem own_slice' {w : World} {base n size : Nat} {e : TypeId} {v : Value} {xs : List Value} (h : w.ownsRow base e size v n xs) : ∃ a cap, v = .slice a n cap := by
  rcases h.2 with ⟨hv, h0⟩ | ⟨g, cap', cur, hv, _⟩
  · exact ⟨_, _, by rw [hv, h0]⟩
  · exact ⟨_, _, hv⟩
theorem block_of_add (a : Addr) (n : Nat) : (a.add n).block = a.block := by unfold Addr.add; split <;> rfl
theorem add_of_add (a : Addr) (i j : Nat) : (a.add i).add j = a.add (i + j) := by
  unfold Addr.add
  by_cases hi : i = 0 <;> by_cases hj : j = 0 <;> simp [hi, hj, Nat.add_assoc]

def Reads (w : World) (B size : Nat) (A : Option Addr) (n : Nat) (xs : List Value) : Prop :=
  xs.length = n * size ∧ (0 < n → ∃ ad, A = some ad ∧ ad.block < B ∧ ∀ j u, xs[j]? = some u → w.cell? (ad.add j) = some u)

section
variable {w w' : World} {B B' size n : Nat} {A : Option Addr} {xs : List Value}
theorem Reads.none_ : Reads w B size A 0 [] := ⟨by simp, fun h => absurd h (by omega)⟩
theorem Reads.at_ {k : Nat} (h : Reads w B 1 A n xs) (hk : k < n) : ∃ ad u, A = some ad ∧ ad.block < B ∧ xs[k]? = some u ∧ w.cell? (ad.add k) = some u := by
  obtain ⟨ad, e, hb, hc⟩ := h.2 (by omega)
  have hl : k < xs.length := by have := h.1; omega
  exact ⟨ad, xs[k], e, hb, List.getElem?_eq_getElem hl, hc k _ (List.getElem?_eq_getElem hl)⟩
theorem Reads.keep (h : Reads w B size A n xs) (hk : ∀ p : Addr, p.block < B → w'.cell? p = w.cell? p) : Reads w' B size A n xs :=
  ⟨h.1, fun hn => by
    obtain ⟨ad, e, hb, hc⟩ := h.2 hn
    exact ⟨ad, e, hb, fun j u hu => (hk _ (by rw [block_of_add]; exact hb)).trans (hc j u hu)⟩⟩
theorem Reads.more (h : Reads w B size A n xs) (hB : B ≤ B') : Reads w B' size A n xs :=
  ⟨h.1, fun hn => by
    obtain ⟨ad, e, hb, hc⟩ := h.2 hn
    exact ⟨ad, e, by omega, hc⟩⟩
theorem Reads.below (h : Reads w B size A n xs) (hb : Below B w w') : Reads w' B size A n xs := h.keep fun _ hp => hb.cell hp
theorem Reads.drew (h : Reads w B size A n xs) : Reads w.drew B size A n xs := h
theorem Reads.drewN (h : Reads w B size A n xs) (k : Nat) : Reads (w.drewN k) B size A n xs := h
theorem Reads.alloc (h : Reads w B size A n xs) (hB : B ≤ w.heap.size) (o : Obj) : Reads (w.alloc o) B size A n xs := h.keep fun p hp => World.cell?_alloc_lt w o p (by omega)
theorem Reads.setCell (h : Reads w B size A n xs) {p : Addr} (hB : B ≤ p.block) (u : Value) : Reads (w.setCell p u) B size A n xs :=
  h.keep fun q hq => World.cell?_setCell_other w p q u (fun e => by subst e; omega)
theorem Reads.grown (h : Reads w B size A n xs) {row : Option Nat} (hg : w.grownBy w' row) (hB : B ≤ w.heap.size) (hr : ∀ g, row = some g → B ≤ g) : Reads w' B size A n xs :=
  h.keep fun p hp => World.cell?_of_block (hg.block p.block (by omega) (fun e => by have := hr _ e.symm; omega))
theorem Reads.cut (h : Reads w B size A n xs) {k cap : Nat} (hk : k ≤ n) (hc : n ≤ cap) :
    Reads w B size (if cap = k then A else A.map (·.add (k * size))) (n - k) (xs.drop (k * size)) := by
  refine ⟨by rw [List.length_drop, h.1, Nat.sub_mul], fun hn => ?_⟩
  obtain ⟨ad, rfl, hb, hcell⟩ := h.2 (by omega)
  rw [if_neg (by omega)]
  refine ⟨ad.add (k * size), rfl, by rw [block_of_add]; exact hb, fun j u hu => ?_⟩
  rw [add_of_add]
  exact hcell _ u (by rw [← hu, List.getElem?_drop])
theorem Reads.of_own {base : Nat} {e : TypeId} {c : Nat} (h : w.ownsRow base e size (.slice A n c) n xs) : Reads w w.heap.size size A n xs := by
  refine ⟨h.1, fun hn => ?_⟩
  obtain ⟨g, cap, hv, _, hlt⟩ := h.form hn
  have hA : A = some ⟨g, 0, none⟩ := by injection hv
  subst hA
  exact ⟨_, rfl, hlt, h.cells (g := g) rfl⟩
end
section
variable {P : Program} (w : World)

theorem run_append_of_nil (base : Nat) (t ty e : TypeId) (i : TypeInfo) (size : Nat) (ht : P.underlying t = some (.slice e)) (hi : P.info? e = some i)
    (v : Value) (n : Nat) (xs : List Value) (hown : w.ownsRow base e size v n xs) (c : Nat) : (Builtin.append_ #[t, t] ty #[v, .slice none 0 c]).run P w = .ok v w := by
  rcases hown.2 with ⟨rfl, rfl⟩ | ⟨g, cap, cur, rfl, _, _, hnc, _⟩
  · simp [Builtin.append_, run_underlying ht, sizeOf, typeInfo, hi, Builtin.lenOf, Builtin.firstCells]
  · simp [Builtin.append_, run_underlying ht, sizeOf, typeInfo, hi, Builtin.lenOf, Builtin.firstCells, hnc, storeCells]

theorem run_append_any (base : Nat) (t ty e : TypeId) (i : TypeInfo) (z : Value) (size bytes : Nat) (ht : P.underlying t = some (.slice e)) (hi : P.info? e = some i) (hz : i.zero = some z)
    (hsize : i.size = size) (hby : i.bytes = bytes) (hzs : z.cells.size = size) (hsz : 0 < size)
    (v : Value) (n : Nat) (xs : List Value) (hown : w.ownsRow base e size v n xs)
    (B : Nat) (A : Option Addr) (m c : Nat) (news : List Value) (hr : Reads w B size A m news) (h1 : ∀ u ∈ news, u.oneCell' = true)
    (h63 : n + m ≤ maxLen) (hbytes : (n + m) * bytes ≤ 140737488355328) (hbase : base ≤ w.heap.size) :
    ∃ v' w', (Builtin.append_ #[t, t] ty #[v, .slice A m c]).run P w = .ok v' w' ∧ w'.ownsRow base e size v' (n + m) (xs ++ news) ∧ w.grownBy w' v.ownBlock ∧
      (v'.ownBlock = v.ownBlock ∨ v'.ownBlock = some w.heap.size) := by
  rcases A with _ | ad
  · have hm : m = 0 := by
      rcases Nat.eq_zero_or_pos m with h0 | h0
      · exact h0
      · obtain ⟨ad, h, _⟩ := hr.2 h0
        cases h
    subst hm
    have hn : news = [] := List.eq_nil_of_length_eq_zero (by simpa using hr.1)
    subst hn
    exact ⟨v, w, run_append_of_nil w base t ty e i size ht hi v n xs hown c, by simpa using hown, World.grownBy.refl w _, .inl rfl⟩
  · have hcells : ∀ j u, news[j]? = some u → w.cell? (ad.add j) = some u := by
      intro j u hu
      rcases Nat.eq_zero_or_pos m with h0 | h0
      · subst h0
        have hn : news = [] := List.eq_nil_of_length_eq_zero (by simpa using hr.1)
        subst hn
        simp at hu
      · obtain ⟨ad', h, _, hc⟩ := hr.2 h0
        injection h with h
        subst h
        exact hc j u hu
    obtain ⟨v', w', hrun, h2, h3, _, h5⟩ := run_append_own_at (P := P) w base t ty e i z size bytes ht hi hz hsize hby hzs hsz v n xs hown ad m c news hr.1 hcells h1 h63 hbytes hbase
    exact ⟨v', w', hrun, h2, h3, h5⟩

theorem wp_append_any {o : Oper} {a : Act} {K : Act → World → Prop} {Q : Exit → Act → World → Prop} (s x : Operand) (t : TypeId)
    (ho : o.op = .call { callee := .builtin .append, args := #[s, x], argTypes := #[t, t] })
    (base : Nat) (e : TypeId) (i : TypeInfo) (z : Value) (size bytes : Nat) (ht : P.underlying t = some (.slice e)) (hi : P.info? e = some i) (hz : i.zero = some z)
    (hsize : i.size = size) (hby : i.bytes = bytes) (hzs : z.cells.size = size) (hsz : 0 < size)
    (v : Value) (n : Nat) (xs : List Value) (hs : a.eval s = v) (hown : w.ownsRow base e size v n xs)
    (B : Nat) (A : Option Addr) (m c : Nat) (news : List Value) (hx : a.eval x = .slice A m c) (hr : Reads w B size A m news) (h1 : ∀ u ∈ news, u.oneCell' = true)
    (h63 : n + m ≤ maxLen) (hbytes : (n + m) * bytes ≤ 140737488355328) (hbase : base ≤ w.heap.size)
    (h : ∀ v' w', w'.ownsRow base e size v' (n + m) (xs ++ news) → w.grownBy w' v.ownBlock → (v'.ownBlock = v.ownBlock ∨ v'.ownBlock = some w.heap.size) → K (a.put o.dst v') w') : o.wp P a w K Q := by
  obtain ⟨v', w', hrun, h2, h3, h4⟩ := run_append_any (P := P) w base t o.type e i z size bytes ht hi hz hsize hby hzs hsz v n xs hown B A m c news hr h1 h63 hbytes hbase
  unfold Oper.wp execOp
  simp only [ho, resolve, invoke, builtin, Sem.run_bind, Sem.run_pure, Result.andThen_ok, List.map_toArray, List.map_cons, List.map_nil, hs, hx, hrun]
  exact h v' w' h2 h3 h4

theorem wpList_append_any {ops : Array Oper} {rest : List Oper} {o : Oper} {a : Act} {Q : Exit → Act → World → Prop} (hgd : Region.wanted o (yielded ops a.tmps) = true) (s x : Operand) (t : TypeId)
    (ho : o.op = .call { callee := .builtin .append, args := #[s, x], argTypes := #[t, t] })
    (base : Nat) (e : TypeId) (i : TypeInfo) (z : Value) (size bytes : Nat) (ht : P.underlying t = some (.slice e)) (hi : P.info? e = some i) (hz : i.zero = some z)
    (hsize : i.size = size) (hby : i.bytes = bytes) (hzs : z.cells.size = size) (hsz : 0 < size)
    (v : Value) (n : Nat) (xs : List Value) (hs : a.eval s = v) (hown : w.ownsRow base e size v n xs)
    (B : Nat) (A : Option Addr) (m c : Nat) (news : List Value) (hx : a.eval x = .slice A m c) (hr : Reads w B size A m news) (h1 : ∀ u ∈ news, u.oneCell' = true)
    (h63 : n + m ≤ maxLen) (hbytes : (n + m) * bytes ≤ 140737488355328) (hbase : base ≤ w.heap.size)
    (h : ∀ v' w', w'.ownsRow base e size v' (n + m) (xs ++ news) → w.grownBy w' v.ownBlock → (v'.ownBlock = v.ownBlock ∨ v'.ownBlock = some w.heap.size) → wpList P ops Q rest (a.put o.dst v') w') : wpList P ops Q (o :: rest) a w :=
  wpList_step fun _ hK => by
    rw [if_pos hgd]
    exact wp_append_any w s x t ho base e i z size bytes ht hi hz hsize hby hzs hsz v n xs hs hown B A m c news hx hr h1 h63 hbytes hbase fun v' w' h2 h3 h4 => hK _ _ (h v' w' h2 h3 h4)

end
section
variable {P : Program} (w : World)
theorem step_append_any {ops : Array Oper} {o : Oper} {a : Act} {K : Act → World → Prop} {Q : Exit → Act → World → Prop} {E : Prop} (hgd : o.guard = none) (s x : Operand) (t : TypeId)
    (ho : o.op = .call { callee := .builtin .append, args := #[s, x], argTypes := #[t, t] })
    (base : Nat) (e : TypeId) (i : TypeInfo) (z : Value) (size bytes : Nat) (ht : P.underlying t = some (.slice e)) (hi : P.info? e = some i) (hz : i.zero = some z)
    (hsize : i.size = size) (hby : i.bytes = bytes) (hzs : z.cells.size = size) (hsz : 0 < size)
    (v : Value) (n : Nat) (xs : List Value) (hs : a.eval s = v) (hown : w.ownsRow base e size v n xs)
    (B : Nat) (A : Option Addr) (m c : Nat) (news : List Value) (hx : a.eval x = .slice A m c) (hr : Reads w B size A m news) (h1 : ∀ u ∈ news, u.oneCell' = true)
    (h63 : n + m ≤ maxLen) (hbytes : (n + m) * bytes ≤ 140737488355328) (hbase : base ≤ w.heap.size)
    (h : ∀ v' w', w'.ownsRow base e size v' (n + m) (xs ++ news) → w.grownBy w' v.ownBlock → (v'.ownBlock = v.ownBlock ∨ v'.ownBlock = some w.heap.size) → K (a.put o.dst v') w') :
    if Region.wanted o (yielded ops a.tmps) = true then Oper.wp P o a w K Q else E := by
  have hw : Region.wanted o (yielded ops a.tmps) = true := by simp [Region.wanted, hgd]
  rw [if_pos hw]
  exact wp_append_any w s x t ho base e i z size bytes ht hi hz hsize hby hzs hsz v n xs hs hown B A m c news hx hr h1 h63 hbytes hbase h
end
end Go.Proofs.YtfmclbacoffdaaaDoor

namespace Go.Proofs.YtfmclbacoffdaaaDoor
open Go.RowKit Go.Sort Go.Joins
/-- a node of a state -/
structure Rn where
  lv : Int
  ks : List Int
  ws : List Nat
def rn0 : Rn := ⟨0, [], []⟩
def intsV (l : List Int) : List Value := l.map fun x => .int .i64 x
theorem intsV_length (l : List Int) : (intsV l).length = l.length := List.length_map ..
/-- how many kids and words a node of a level has -/
def kN (l : Int) : Nat := if l = 0 then 16 else if l = 1 then 8 else 0
def wN (l : Int) : Nat := if l = 2 then 8 else 0
/-- a node of a map as one of its state -/
def rnOf (x : Nd) : Rn := ⟨x.lv, (List.range (kN x.lv)).map fun k => (x.kd k : Int), (List.range (wN x.lv)).map x.wd⟩
/-- the state of a map -/
def stS (X : RM) : List Rn := X.st.map rnOf
theorem stS_len (X : RM) : (stS X).length = X.st.length := List.length_map ..
theorem stS_get (X : RM) {i : Nat} (hi : i < X.st.length) : (stS X).getD i rn0 = rnOf (X.N i) := by
  unfold stS RM.N
  simp [List.getD, hi]
theorem stS_take (X : RM) {i : Nat} (hi : i < X.st.length) : (stS X).take (i + 1) = (stS X).take i ++ [rnOf (X.N i)] := by
  rw [List.take_succ_eq_append_getElem (by rw [stS_len]; exact hi), ← stS_get X hi, List.getD_eq_getElem?_getD, List.getElem?_eq_getElem (by rw [stS_len]; exact hi)]
  rfl
/-- a node at an address -/
structure RdN (w : World) (b o : Nat) (x : Rn) : Prop where
  lv : w.cell? ⟨b, o, none⟩ = some (.int .i64 x.lv)
  ks : ∃ a c, w.cell? ⟨b, o + 1, none⟩ = some (.slice a x.ks.length c) ∧ Reads w w.heap.size 1 a x.ks.length (intsV x.ks)
  ws : ∃ a c, w.cell? ⟨b, o + 2, none⟩ = some (.slice a x.ws.length c) ∧ Reads w w.heap.size 1 a x.ws.length (u64s x.ws)
/-- the nodes of a state -/
def RdS (w : World) (a : Option Addr) (S : List Rn) : Prop := S.length = 0 ∨ ∃ b o, a = some ⟨b, o, none⟩ ∧ b < w.heap.size ∧ ∀ j, j < S.length → RdN w b (o + j * 3) (S.getD j rn0)
section
variable {w w' : World}
theorem Reads.belowR {B size n : Nat} {A : Option Addr} {xs : List Value} (h : Reads w w.heap.size size A n xs) (hb : Below w.heap.size w w') : Reads w' w'.heap.size size A n xs := (h.below hb).more hb.size
theorem RdN.below {b o : Nat} {x : Rn} (h : RdN w b o x) (hb : Below w.heap.size w w') : RdN w' b o x := by
  have hl : b < w.heap.size := World.block_lt_of_cell? _ _ h.lv
  obtain ⟨a1, c1, e1, r1⟩ := h.ks
  obtain ⟨a2, c2, e2, r2⟩ := h.ws
  exact ⟨(hb.cell (p := ⟨b, o, none⟩) hl).trans h.lv, ⟨a1, c1, (hb.cell (p := ⟨b, o + 1, none⟩) hl).trans e1, (r1.below hb).more hb.size⟩, ⟨a2, c2, (hb.cell (p := ⟨b, o + 2, none⟩) hl).trans e2, (r2.below hb).more hb.size⟩⟩
theorem RdS.below {a : Option Addr} {S : List Rn} (h : RdS w a S) (hb : Below w.heap.size w w') : RdS w' a S := by
  rcases h with h | ⟨b, o, ha, hl, hc⟩
  · exact .inl h
  · exact .inr ⟨b, o, ha, Nat.lt_of_lt_of_le hl hb.size, fun j hj => (hc j hj).below hb⟩
theorem own_belowW {base size n : Nat} {e : TypeId} {v : Value} {xs : List Value} (h : w.ownsRow base e size v n xs) (hb : Below w.heap.size w w') : w'.ownsRow base e size v n xs := by
  obtain ⟨h1, h2⟩ := h
  refine ⟨h1, ?_⟩
  rcases h2 with h2 | ⟨g, cap, cur, hv, hg, hh, r⟩
  · exact Or.inl h2
  · exact Or.inr ⟨g, cap, cur, hv, hg, by rw [hb.block _ (blk_lt hh)]; exact hh, r⟩
theorem own_leW {base base' size n : Nat} {e : TypeId} {v : Value} {xs : List Value} (h : w.ownsRow base e size v n xs) (hb : base' ≤ base) : w.ownsRow base' e size v n xs := by
  obtain ⟨h1, h2⟩ := h
  refine ⟨h1, ?_⟩
  rcases h2 with h2 | ⟨g, cap, cur, hv, hg, hh, r⟩
  · exact Or.inl h2
  · exact Or.inr ⟨g, cap, cur, hv, Nat.le_trans hb hg, hh, r⟩
/-- rows of two types lie apart -/
theorem own_apartW {b1 b2 s1 s2 n1 n2 : Nat} {e1 e2 : TypeId} {v1 v2 : Value} {x1 x2 : List Value} (h1 : w.ownsRow b1 e1 s1 v1 n1 x1) (h2 : w.ownsRow b2 e2 s2 v2 n2 x2) (hne : e1 ≠ e2) : v1.ownBlock = none ∨ v1.ownBlock ≠ v2.ownBlock := by
  rcases h1.2 with ⟨rfl, _⟩ | ⟨g, cap, cur, rfl, _, hh, _⟩
  · exact .inl rfl
  · rcases h2.2 with ⟨rfl, _⟩ | ⟨g2, cap2, cur2, rfl, _, hh2, _⟩
    · exact .inr (by simp [Value.ownBlock])
    · refine .inr fun e => ?_
      have : g = g2 := by simpa [Value.ownBlock] using e
      subst this
      rw [hh2] at hh
      simp at hh
      exact hne hh.2.symm
end
/-- the cells of nodes whose kids and words lie in slices K and L -/
def rnC (K L : Nat → Value) (S : List Rn) : List Value := (List.range S.length).flatMap fun j => [.int .i64 (S.getD j rn0).lv, K j, L j]
theorem rnC_length (K L : Nat → Value) (S : List Rn) : (rnC K L S).length = S.length * 3 := by
  unfold rnC
  generalize S.length = n
  induction n with
  | zero => rfl
  | succ n ih => rw [List.range_succ, List.flatMap_append, List.length_append, ih]; simp; omega
theorem flat3_get (f : Nat → List Value) (hf : ∀ j, (f j).length = 3) : ∀ n j k, j < n → k < 3 → ((List.range n).flatMap f)[j * 3 + k]? = (f j)[k]?
  | 0, j, k, h, _ => by omega
  | n + 1, j, k, h, hk => by
    have hl : ((List.range n).flatMap f).length = n * 3 := by
      clear h
      induction n with
      | zero => rfl
      | succ n ih => rw [List.range_succ, List.flatMap_append, List.length_append, ih]; simp [hf]; omega
    rw [List.range_succ, List.flatMap_append]
    by_cases e : j < n
    · rw [List.getElem?_append_left (by rw [hl]; omega)]
      exact flat3_get f hf n j k e hk
    · obtain rfl : j = n := by omega
      rw [List.getElem?_append_right (by rw [hl]; omega), hl, show j * 3 + k - j * 3 = k by omega]
      simp
theorem rnC_get (K L : Nat → Value) (S : List Rn) {j : Nat} (hj : j < S.length) : (rnC K L S)[j * 3]? = some (.int .i64 (S.getD j rn0).lv) ∧ (rnC K L S)[j * 3 + 1]? = some (K j) ∧ (rnC K L S)[j * 3 + 2]? = some (L j) := by
  unfold rnC
  exact ⟨flat3_get (fun j => [.int .i64 (S.getD j rn0).lv, K j, L j]) (fun _ => rfl) _ j 0 hj (by decide), flat3_get (fun j => [.int .i64 (S.getD j rn0).lv, K j, L j]) (fun _ => rfl) _ j 1 hj (by decide), flat3_get (fun j => [.int .i64 (S.getD j rn0).lv, K j, L j]) (fun _ => rfl) _ j 2 hj (by decide)⟩
def updV (f : Nat → Value) (k : Nat) (v : Value) : Nat → Value := fun j => if j = k then v else f j
theorem rnC_snoc (K L : Nat → Value) (S : List Rn) (x : Rn) (k l : Value) : rnC (updV K S.length k) (updV L S.length l) (S ++ [x]) = rnC K L S ++ [.int .i64 x.lv, k, l] := by
  unfold rnC
  rw [List.length_append, List.length_singleton, List.range_succ, List.flatMap_append]
  congr 1
  · unfold List.flatMap
    refine congrArg List.flatten (List.map_congr_left fun j hj => ?_)
    have hj' : j < S.length := by simpa using hj
    have e : (S ++ [x]).getD j rn0 = S.getD j rn0 := by simp [List.getD, List.getElem?_append_left hj']
    rw [e]
    simp [updV, Nat.ne_of_lt hj']
  · simp [updV, List.getD]
/-- a state that the call itself has made: its nodes v; their kids K, their words L -/
structure OSt (w : World) (B : Nat) (v : Value) (K L : Nat → Value) (S : List Rn) : Prop where
  row : w.ownsRow B 60 3 v S.length (rnC K L S)
  kid : ∀ j, j < S.length → w.ownsRow B 3 1 (K j) (S.getD j rn0).ks.length (intsV (S.getD j rn0).ks)
  wrd : ∀ j, j < S.length → w.ownsRow B 24 1 (L j) (S.getD j rn0).ws.length (u64s (S.getD j rn0).ws)
  kk : ∀ i j, i < S.length → j < S.length → i ≠ j → ∀ g, (K i).ownBlock = some g → (K j).ownBlock ≠ some g
  ll : ∀ i j, i < S.length → j < S.length → i ≠ j → ∀ g, (L i).ownBlock = some g → (L j).ownBlock ≠ some g
theorem u_ri : 3 ≠ 60 := by decide
theorem u_ru : 24 ≠ 60 := by decide
theorem u_iu : 3 ≠ 24 := by decide
section
variable {w w' : World} {B : Nat} {v : Value} {K L : Nat → Value} {S : List Rn}
theorem OSt.nil (w : World) (B : Nat) (K L : Nat → Value) : OSt w B (.slice none 0 0) K L [] :=
  ⟨World.ownsRow_nil _ _ _ _, fun j h => by simp at h, fun j h => by simp at h, fun i j h => by simp at h, fun i j h => by simp at h⟩
theorem OSt.below (h : OSt w B v K L S) (hb : Below w.heap.size w w') : OSt w' B v K L S :=
  ⟨own_belowW h.row hb, fun j hj => own_belowW (h.kid j hj) hb, fun j hj => own_belowW (h.wrd j hj) hb, h.kk, h.ll⟩
theorem OSt.le {B' : Nat} (h : OSt w B v K L S) (hb : B' ≤ B) : OSt w B' v K L S :=
  ⟨own_leW h.row hb, fun j hj => own_leW (h.kid j hj) hb, fun j hj => own_leW (h.wrd j hj) hb, h.kk, h.ll⟩
theorem OSt.setBelow (h : OSt w B v K L S) {a : Addr} (ha : a.block < B) (u : Value) : OSt (w.setCell a u) B v K L S :=
  ⟨ownsRow_setCell_below h.row ha u, fun j hj => ownsRow_setCell_below (h.kid j hj) ha u, fun j hj => ownsRow_setCell_below (h.wrd j hj) ha u, h.kk, h.ll⟩
/-- a node is appended -/
theorem OSt.snoc {v' k l : Value} {x : Rn} (h : OSt w B v K L S) (hk : w.ownsRow B 3 1 k x.ks.length (intsV x.ks)) (hl : w.ownsRow B 24 1 l x.ws.length (u64s x.ws))
    (hkn : ∀ j, j < S.length → ∀ g, (K j).ownBlock = some g → k.ownBlock ≠ some g) (hln : ∀ j, j < S.length → ∀ g, (L j).ownBlock = some g → l.ownBlock ≠ some g)
    (hr : w'.ownsRow B 60 3 v' (S.length + 1) (rnC K L S ++ [.int .i64 x.lv, k, l])) (hg : w.grownBy w' v.ownBlock) : OSt w' B v' (updV K S.length k) (updV L S.length l) (S ++ [x]) := by
  have hlen : (S ++ [x]).length = S.length + 1 := by simp
  have e1 : ∀ j, j < S.length → (S ++ [x]).getD j rn0 = S.getD j rn0 := fun j hj => by simp [List.getD, List.getElem?_append_left hj]
  have e2 : (S ++ [x]).getD S.length rn0 = x := by simp [List.getD]
  have f1 : ∀ (f : Nat → Value) (u : Value) j, j < S.length → updV f S.length u j = f j := fun f u j hj => by unfold updV; rw [if_neg (by omega)]
  have f2 : ∀ (f : Nat → Value) (u : Value), updV f S.length u S.length = u := fun f u => by unfold updV; rw [if_pos rfl]
  refine ⟨by rw [rnC_snoc, hlen]; exact hr, fun j hj => ?_, fun j hj => ?_, fun i j hi hj hne g he => ?_, fun i j hi hj hne g he => ?_⟩
  · rw [hlen] at hj
    by_cases c : j < S.length
    · rw [e1 j c, f1 _ _ j c]
      exact (h.kid j c).kept hg (own_apartW (h.kid j c) h.row u_ri)
    · obtain rfl : j = S.length := by omega
      rw [e2, f2]
      exact hk.kept hg (own_apartW hk h.row u_ri)
  · rw [hlen] at hj
    by_cases c : j < S.length
    · rw [e1 j c, f1 _ _ j c]
      exact (h.wrd j c).kept hg (own_apartW (h.wrd j c) h.row u_ru)
    · obtain rfl : j = S.length := by omega
      rw [e2, f2]
      exact hl.kept hg (own_apartW hl h.row u_ru)
  · rw [hlen] at hi hj
    by_cases c : i < S.length
    · rw [f1 _ _ i c] at he
      by_cases d : j < S.length
      · rw [f1 _ _ j d]; exact h.kk i j c d hne g he
      · obtain rfl : j = S.length := by omega
        rw [f2]; exact hkn i c g he
    · obtain rfl : i = S.length := by omega
      rw [f2] at he
      rw [f1 _ _ j (by omega)]
      exact fun e => hkn j (by omega) g e he
  · rw [hlen] at hi hj
    by_cases c : i < S.length
    · rw [f1 _ _ i c] at he
      by_cases d : j < S.length
      · rw [f1 _ _ j d]; exact h.ll i j c d hne g he
      · obtain rfl : j = S.length := by omega
        rw [f2]; exact hln i c g he
    · obtain rfl : i = S.length := by omega
      rw [f2] at he
      rw [f1 _ _ j (by omega)]
      exact fun e => hln j (by omega) g e he
/-- .. and is read -/
theorem OSt.rd {a : Option Addr} {n c : Nat} (h : OSt w B (.slice a n c) K L S) : RdS w a S := by
  rcases h.row.2 with ⟨hv, h0⟩ | ⟨g, cap, cur, hv, hg, hh, hnc, hcm, hcs, htake⟩
  · exact .inl h0
  · simp only [Value.slice.injEq] at hv
    obtain ⟨rfl, rfl, rfl⟩ := hv
    refine .inr ⟨g, 0, rfl, blk_lt hh, fun j hj => ?_⟩
    obtain ⟨c0, c1, c2⟩ := rnC_get K L S hj
    obtain ⟨ka, kc, hk⟩ := own_slice' (h.kid j hj)
    obtain ⟨la, lc, hl⟩ := own_slice' (h.wrd j hj)
    have hc := fun k (hk : k < S.length * 3) => h.row.cellAt k hk
    rw [Nat.zero_add]
    refine ⟨(hc _ (by omega)).trans c0, ⟨ka, kc, (hc _ (by omega)).trans (by rw [c1, hk]), ?_⟩, ⟨la, lc, (hc _ (by omega)).trans (by rw [c2, hl]), ?_⟩⟩
    · have := h.kid j hj
      rw [hk] at this
      exact Reads.of_own this
    · have := h.wrd j hj
      rw [hl] at this
      exact Reads.of_own this
end
end Go.Proofs.YtfmclbacoffdaaaDoor

namespace Go.Proofs.YtfmclbacoffdaaaDoor
def LvS (st : List Nd) : Prop := ∀ j, -1 ≤ (st.getD j ndZ).lv
theorem LvS.set {st : List Nd} (h : LvS st) (i : Nat) {y : Nd} (hy : -1 ≤ y.lv) : LvS (st.set i y) := fun j => by
  by_cases hi : i < st.length
  · rw [N_set hi]; split
    · exact hy
    · exact h j
  · rw [List.set_eq_of_length_le (by omega)]; exact h j
theorem LvS.grow {X : RM} (h : LvS X.st) (i k : Nat) : LvS (growM X i k).st := by
  have h1 : LvS (X.st.set (frI X) (nd0 ((X.st.getD i ndZ).lv + 1))) := h.set _ (by show -1 ≤ (X.st.getD i ndZ).lv + 1; have := h i; omega)
  exact h1.set _ (h1 i)
theorem LvS.putA {X : RM} (h : LvS X.st) (p : Nat) : LvS (putA X p).st := by
  unfold Go.Proofs.YtfmclbacoffdaaaDoor.putA; split
  · exact h.grow _ _
  · exact h
theorem LvS.putB {X : RM} (h : LvS X.st) (p : Nat) : LvS (putB X p).st := by
  unfold Go.Proofs.YtfmclbacoffdaaaDoor.putB; split
  · exact (h.putA p).grow _ _
  · exact h.putA p
theorem LvS.put {X : RM} (h : LvS X.st) (x p : Nat) : LvS (putM X x p).st := (h.putB p).set _ ((h.putB p) _)
theorem LvS.setN {X : RM} (h : LvS X.st) (x p : Nat) : ∀ n, LvS (setM x n X p).st
  | 0 => h
  | n + 1 => (h.setN x p n).put _ _
theorem LvS.give {X : RM} (h : LvS X.st) (i k : Nat) : LvS (giveM X i k).st := by
  have h1 : LvS (X.st.set ((X.N i).kd k) (nd0 (-1))) := h.set _ (Int.le_refl _)
  exact h1.set _ (h1 i)
theorem LvS.clrW {X : RM} (h : LvS X.st) (p : Nat) : LvS (clrW X p).st := h.set _ (h _)
theorem LvS.clr {X : RM} (h : LvS X.st) (p : Nat) : LvS (clrM X p).st := by
  have h1 := h.clrW p
  have h2 : LvS (clrL X p).st := h1.give _ _
  unfold clrM
  split
  · exact h
  · split
    · exact h1
    · split
      · exact h2
      · exact h2.give _ _
theorem LvS.clrs {X : RM} (h : LvS X.st) (p : Nat) : ∀ n, LvS (clrN n X p).st
  | 0 => h
  | n + 1 => (h.clrs p n).clr _
theorem LvS.step {X : RM} (h : LvS X.st) (c : Cl) : LvS (stepC X c).st := by
  unfold stepC
  split
  · unfold clrX; split
    · exact h.clrs _ _
    · exact h
  · unfold setX; split
    · exact h.setN _ _ _
    · exact h
theorem LvS.newM (n : Nat) : LvS (newM n).st := by
  refine LvS.set (fun j => ?_) 0 (by decide)
  simp only [List.getD, List.getElem?_replicate]
  split
  · exact Int.le_refl _
  · exact (by decide : (-1 : Int) ≤ 0)
theorem LvS.mkM (N : Nat) (C : Nat → Cl) (n : Nat) : LvS (mkM N C n).st := by
  show LvS (stepsC C (Go.Proofs.YtfmclbacoffdaaaDoor.newM N) n).st
  induction n with
  | zero => exact LvS.newM N
  | succ k ih => exact ih.step _
theorem cnt_pos {r : Nat → Bool} {a : Nat} (h : r a = true) : ∀ n, a < n → 1 ≤ cnt r 0 n
  | 0, h => absurd h (Nat.not_lt_zero _)
  | n + 1, ha => by
    have e2 : cnt r 0 (n + 1) = cnt r 0 n + if r n = true then 1 else 0 := by simp [cnt]
    rw [e2]
    by_cases e : a = n
    · subst e; rw [if_pos h]; omega
    · have := cnt_pos h n (by omega); omega
theorem cnt_two {r : Nat → Bool} {i : Nat} (hi0 : 0 < i) (h0 : r 0 = true) (h : r i = true) : ∀ n, i < n → 2 ≤ cnt r 0 n
  | 0, h => absurd h (Nat.not_lt_zero _)
  | n + 1, ha => by
    have e2 : cnt r 0 (n + 1) = cnt r 0 n + if r n = true then 1 else 0 := by simp [cnt]
    rw [e2]
    by_cases e : i = n
    · subst e; rw [if_pos h]; have := cnt_pos h0 i hi0; omega
    · have := cnt_two hi0 h0 h n (by omega); omega
/-- a map without words has the state of a new one -/
theorem stS_empty {X : RM} (h : RAll X) (hl : LvS X.st) (hz : ∀ q, q < 1024 → wdI X.st q = 0) : stS X = stS (newM X.st.length) := by
  obtain ⟨h1, h2⟩ := h.empty hz
  have hn := h.i.n1
  refine List.ext_getElem (by rw [stS_len, stS_len, newM_len]) fun i q1 q2 => ?_
  have hi : i < X.st.length := by rwa [stS_len] at q1
  have e1 := stS_get X hi
  have e2 := stS_get (newM X.st.length) (i := i) (by rw [newM_len]; exact hi)
  simp only [List.getD, List.getElem?_eq_getElem q1, Option.getD_some] at e1
  simp only [List.getD, List.getElem?_eq_getElem q2, Option.getD_some] at e2
  rw [e1, e2]
  show rnOf (X.N i) = rnOf ((newM X.st.length).N i)
  rw [newM_N hn hi]
  by_cases e : i = 0
  · subst e
    rw [if_pos rfl]
    have hr := h.i.root
    unfold rnOf
    rw [hr]
    show (⟨0, _, _⟩ : Rn) = ⟨0, _, _⟩
    congr 1
    refine List.map_congr_left fun k hk => ?_
    have hk' : k < 16 := List.mem_range.1 hk
    rw [h2 k hk']
    rfl
  · rw [if_neg e]
    have hneg : (X.N i).lv < 0 := by
      refine Classical.byContradiction fun hge => ?_
      have hri : X.r i = true := by rw [h.i.rt i hi]; exact decide_eq_true (by omega)
      have hr0 : X.r 0 = true := by rw [h.i.rt 0 (by omega), h.i.root]; rfl
      have hc := h.i.cn
      rw [h1] at hc
      have : 2 ≤ cnt X.r 0 X.st.length := cnt_two (by omega) hr0 hri _ hi
      omega
    have hlv : (X.N i).lv = -1 := by have := hl i; unfold RM.N at hneg ⊢; omega
    unfold rnOf
    rw [hlv]
    rfl
end Go.Proofs.YtfmclbacoffdaaaDoor

namespace Go.Proofs.YtfmclbacoffdaaaDoor
theorem u_mn : 95 ≠ 90 := by decide
/-- a call on one map leaves another one -/
theorem TM.other {w w' : World} {B B' p q p' q' m m' : Nat} {st st' : List Nd} {r r' : Nat → Bool} (k : TM w B' p' q' st' m' r') (h : TM w B p q st m r) (f : Fr p q w w') (hp : p ≠ p') (hq : q ≠ q') : TM w' B' p' q' st' m' r' := by
  obtain ⟨ra, rcap, h1, h2⟩ := k.tbl
  obtain ⟨sa, scap, g1, g2⟩ := h.tbl
  have e1 : q ≠ p' := fun e => by
    subst e
    have := h.nodes.symm.trans h1
    simp at this
  have e2 : p ≠ q' := fun e => by
    subst e
    have := g1.symm.trans k.nodes
    simp at this
  refine ⟨k.hp, k.hq, k.ne, k.n1, k.n2, ⟨ra, rcap, ?_, ?_⟩, ?_, k.rb⟩
  · rw [f.block _ (blk_lt h1) (Ne.symm hp) (Ne.symm e1)]; exact h1
  · have o1 := own_ne h2 g1 u_map
    have o2 := own_ne h2 h.nodes u_node
    obtain ⟨z1, z2⟩ := h2
    refine ⟨z1, ?_⟩
    rcases z2 with z2 | ⟨g, cap, cur, hv, hg, hh, rr⟩
    · exact Or.inl z2
    · rw [hv] at o1 o2
      refine Or.inr ⟨g, cap, cur, hv, hg, ?_, rr⟩
      rw [f.block _ (blk_lt hh) (fun e => o1 (by rw [e]; rfl)) (fun e => o2 (by rw [e]; rfl))]
      exact hh
  · rw [f.block _ k.lq (Ne.symm e2) (Ne.symm hq)]; exact k.nodes
/-- after Clear of all pages -/
theorem clr_all {X : RM} (h : RAll X) (hl : LvS X.st) : RAll (clrX X 0 1024) ∧ (clrX X 0 1024).m = 1 ∧ (clrX X 0 1024).st.length = X.st.length ∧ stS (clrX X 0 1024) = stS (newM X.st.length) := by
  have e : clrX X 0 1024 = clrN 1024 X 0 := by
    unfold clrX
    rw [if_pos (by decide)]
    rfl
  rw [e]
  obtain ⟨g1, g2, g3⟩ := h.clrs 0 1024 (by omega)
  have hz : ∀ q, q < 1024 → wdI (clrN 1024 X 0).st q = 0 := fun q hq => by rw [g3 q hq, if_pos (by omega)]
  refine ⟨g1, (g1.empty hz).1, g2, ?_⟩
  have := stS_empty g1 (hl.clrs 0 1024) hz
  rw [this, g2]
end Go.Proofs.YtfmclbacoffdaaaDoor

namespace Go.Proofs.YtfmclbacoffdaaaDoor
/-- the level of a kid, as the machine reckons it -/
def lv1 (x : Rn) : Int := IntKind.i64.wrap (x.lv + 1)
def lvA (S : List Rn) (k : Int) : Int := (S.getD k.toNat rn0).lv
/-- a kid that is wrong -/
def badK (S : List Rn) (x : Rn) (k : Int) : Bool := decide (k < 0) || decide ((S.length : Int) ≤ k) || (decide (0 < k) && (lvA S k != lv1 x))
def badW (u : Nat) : Bool := u != 0 && unE (u : Int) != 0
def szBad (x : Rn) (i : Nat) : Bool := decide (x.lv < -1) || decide (2 < x.lv) || ((x.lv == 0) != ((i : Int) == 0)) || ((x.ks.length : Int) != (kN x.lv : Int)) || ((x.ws.length : Int) != (wN x.lv : Int))
def emN (x : Rn) : Bool := x.ks.all (fun k => k == 0) && x.ws.all (fun u => u == 0)
/-- is a node wrong that is so many times a kid? -/
def wrN (S : List Rn) (i : Nat) (t : Int) : Bool :=
  szBad (S.getD i rn0) i || (S.getD i rn0).ks.any (badK S (S.getD i rn0)) || (S.getD i rn0).ws.any badW || (decide (0 < (S.getD i rn0).lv) && (emN (S.getD i rn0) || (t != 1)))
/-- is that kid one of a node of the level below? -/
def isK (S : List Rn) (x : Rn) (k : Int) : Bool := decide (0 ≤ x.lv) && decide (0 ≤ k) && decide (k < (S.length : Int)) && (lvA S k == lv1 x)
/-- how many times a number is a kid: of one node; of all -/
def tmK (S : List Rn) (x : Rn) (l : List Int) (i : Nat) : Nat := l.countP fun k => isK S x k && (k == (i : Int))
def tmS (S : List Rn) (l : List Rn) (i : Nat) : Nat := (l.map fun x => tmK S x x.ks i).sum
theorem tmS_snoc (S l : List Rn) (x : Rn) (i : Nat) : tmS S (l ++ [x]) i = tmS S l i + tmK S x x.ks i := by simp [tmS]
theorem tmK_snoc (S : List Rn) (x : Rn) (l : List Int) (k : Int) (i : Nat) : tmK S x (l ++ [k]) i = tmK S x l i + if (isK S x k && (k == (i : Int))) = true then 1 else 0 := by
  unfold tmK
  rw [List.countP_append, List.countP_singleton]
theorem tmK_le (S : List Rn) (x : Rn) (l : List Int) (i : Nat) : tmK S x l i ≤ l.length := List.countP_le_length
theorem tmS_le {S : List Rn} {c : Nat} : ∀ {l : List Rn}, (∀ x ∈ l, x.ks.length ≤ c) → ∀ i, tmS S l i ≤ l.length * c
  | [], _, _ => by simp [tmS]
  | x :: l, h, i => by
    have h1 := tmS_le (l := l) (S := S) (c := c) (fun y hy => h y (List.mem_cons_of_mem _ hy)) i
    have h2 := h x (List.mem_cons_self)
    have h3 := tmK_le S x x.ks i
    unfold tmS at h1 ⊢
    rw [List.map_cons, List.sum_cons, List.length_cons, Nat.succ_mul]
    omega
/-- the first wrong node -/
def wrI (S : List Rn) (i : Nat) : Bool := wrN S i (tmS S S i : Nat)
def ckI (S : List Rn) : Nat := nxt (wrI S) 0 S.length
def ckE (m : Int) (S : List Rn) : Int := if m < 1 ∨ 145 < m then 7 else if (S.length : Int) ≠ m then 6 else if ckI S < S.length then 6 else 0
def ckV (m : Int) (S : List Rn) : Int := if m < 1 ∨ 145 < m then 0 else if (S.length : Int) ≠ m then 0 else if ckI S < S.length then (ckI S : Int) else 0
end Go.Proofs.YtfmclbacoffdaaaDoor

namespace Go.Proofs.YtfmclbacoffdaaaDoor
open Go.RowKit Go.Sort Go.Joins
/-- a slice of one-cell values, cell by cell -/
def SlN (w : World) (a : Option Addr) (n : Nat) (f : Nat → Value) : Prop := n = 0 ∨ ∃ b o, a = some ⟨b, o, none⟩ ∧ b < w.heap.size ∧ ∀ j, j < n → w.cell? ⟨b, o + j, none⟩ = some (f j)
abbrev kdV (x : Rn) : Nat → Value := fun j => .int .i64 (x.ks.getD j 0)
abbrev wdV (x : Rn) : Nat → Value := fun j => .int .u64 (x.ws.getD j 0 : Nat)
/-- a node at an address -/
structure NdR (w : World) (b o : Nat) (x : Rn) : Prop where
  lv : w.cell? ⟨b, o, none⟩ = some (.int .i64 x.lv)
  ks : ∃ a c, w.cell? ⟨b, o + 1, none⟩ = some (.slice a x.ks.length c) ∧ SlN w a x.ks.length (kdV x)
  ws : ∃ a c, w.cell? ⟨b, o + 2, none⟩ = some (.slice a x.ws.length c) ∧ SlN w a x.ws.length (wdV x)
/-- the nodes of a state -/
def StR (w : World) (a : Option Addr) (S : List Rn) : Prop := S.length = 0 ∨ ∃ b o, a = some ⟨b, o, none⟩ ∧ b < w.heap.size ∧ ∀ j, j < S.length → NdR w b (o + j * 3) (S.getD j rn0)
section
variable {w w' : World}
theorem SlN.below {a : Option Addr} {n : Nat} {f : Nat → Value} (h : SlN w a n f) (hb : Below w.heap.size w w') : SlN w' a n f := by
  rcases h with h | ⟨b, o, ha, hl, hc⟩
  · exact .inl h
  · exact .inr ⟨b, o, ha, Nat.lt_of_lt_of_le hl hb.size, fun j hj => (hb.cell (p := ⟨b, o + j, none⟩) hl).trans (hc j hj)⟩
theorem NdR.below {b o : Nat} {x : Rn} (h : NdR w b o x) (hb : Below w.heap.size w w') : NdR w' b o x := by
  have hl : b < w.heap.size := World.block_lt_of_cell? _ _ h.lv
  obtain ⟨a1, c1, e1, r1⟩ := h.ks
  obtain ⟨a2, c2, e2, r2⟩ := h.ws
  exact ⟨(hb.cell (p := ⟨b, o, none⟩) hl).trans h.lv, ⟨a1, c1, (hb.cell (p := ⟨b, o + 1, none⟩) hl).trans e1, r1.below hb⟩, ⟨a2, c2, (hb.cell (p := ⟨b, o + 2, none⟩) hl).trans e2, r2.below hb⟩⟩
theorem NdR.lt {b o : Nat} {x : Rn} (h : NdR w b o x) : b < w.heap.size := World.block_lt_of_cell? _ _ h.lv
theorem StR.below {a : Option Addr} {S : List Rn} (h : StR w a S) (hb : Below w.heap.size w w') : StR w' a S := by
  rcases h with h | ⟨b, o, ha, hl, hc⟩
  · exact .inl h
  · exact .inr ⟨b, o, ha, Nat.lt_of_lt_of_le hl hb.size, fun j hj => (hc j hj).below hb⟩
theorem SlN.of_own {base : Nat} {e : TypeId} {a : Option Addr} {n c : Nat} {xs : List Value} {f : Nat → Value} (h : w.ownsRow base e 1 (.slice a n c) n xs) (hf : ∀ j, j < n → xs[j]? = some (f j)) : SlN w a n f := by
  rcases Nat.eq_zero_or_pos n with h0 | h0
  · exact .inl h0
  · obtain ⟨g, cap, hv, _, hlt⟩ := h.form h0
    have hA : a = some ⟨g, 0, none⟩ := by injection hv
    subst hA
    refine .inr ⟨g, 0, rfl, hlt, fun j hj => ?_⟩
    have := h.cells (g := g) rfl j (f j) (hf j hj)
    rwa [Addr.add_lit] at this
theorem intsV_get (l : List Int) {j : Nat} (hj : j < l.length) : (intsV l)[j]? = some (.int .i64 (l.getD j 0)) := by
  unfold intsV
  simp [hj]
theorem u64s_getD (l : List Nat) {j : Nat} (hj : j < l.length) : (u64s l)[j]? = some (.int .u64 (l.getD j 0 : Nat)) := by
  unfold u64s
  simp [hj]
/-- a state of the call's own is read -/
theorem OSt.str {B : Nat} {K L : Nat → Value} {S : List Rn} {a : Option Addr} {n c : Nat} (h : OSt w B (.slice a n c) K L S) : StR w a S := by
  rcases h.row.2 with ⟨hv, h0⟩ | ⟨g, cap, cur, hv, hg, hh, hnc, hcm, hcs, htake⟩
  · exact .inl h0
  · simp only [Value.slice.injEq] at hv
    obtain ⟨rfl, rfl, rfl⟩ := hv
    refine .inr ⟨g, 0, rfl, blk_lt hh, fun j hj => ?_⟩
    obtain ⟨c0, c1, c2⟩ := rnC_get K L S hj
    obtain ⟨ka, kc, hk⟩ := own_slice' (h.kid j hj)
    obtain ⟨la, lc, hl⟩ := own_slice' (h.wrd j hj)
    have hc := fun k (hk : k < S.length * 3) => h.row.cellAt k hk
    rw [Nat.zero_add]
    refine ⟨(hc _ (by omega)).trans c0, ⟨ka, kc, (hc _ (by omega)).trans (by rw [c1, hk]), ?_⟩, ⟨la, lc, (hc _ (by omega)).trans (by rw [c2, hl]), ?_⟩⟩
    · have := h.kid j hj
      rw [hk] at this
      exact SlN.of_own this fun k hk => intsV_get _ hk
    · have := h.wrd j hj
      rw [hl] at this
      exact SlN.of_own this fun k hk => u64s_getD _ hk
end
end Go.Proofs.YtfmclbacoffdaaaDoor

namespace Go.Proofs.YtfmclbacoffdaaaDoor
open Go.RowKit Go.Sort Go.Joins
attribute [local go_sem] cell_grow frozen_grow size_grow Oper.semAt_some
theorem info_int7 : (Tryd.prog.info? 3).map (fun i => (i.zero, i.size, i.bytes)) = some (some (.int .i64 0), 1, 8) := by kernel_rfl
theorem info_u647 : (Tryd.prog.info? 24).map (fun i => (i.zero, i.size, i.bytes)) = some (some (.int .u64 0), 1, 8) := by kernel_rfl
theorem sizes_ok (l : Int) (w : World) : Calls Tryd.prog 47 #[.int .i64 l] w fun e w' => e = .returned (.tuple #[.int .i64 (kN l), .int .i64 (wN l)]) ∧ w = w' := by
  by_cases h0 : l = 0
  · subst h0
    go_enter Tryd.func47, Tryd.ntmps47
    go_wp2
    go_ret2
    exact ⟨rfl, rfl⟩
  · by_cases h1 : l = 1
    · subst h1
      go_enter Tryd.func47, Tryd.ntmps47
      go_wp2
      go_ret2
      exact ⟨rfl, rfl⟩
    · by_cases h2 : l = 2
      · subst h2
        go_enter Tryd.func47, Tryd.ntmps47
        go_wp2
        go_ret2
        exact ⟨rfl, rfl⟩
      · have e : kN l = 0 ∧ wN l = 0 := ⟨by unfold kN; rw [if_neg h0, if_neg h1], by unfold wN; rw [if_neg h2]⟩
        rw [e.1, e.2]
        have d0 : (l == 0) = false := by simpa using h0
        have d1 : (l == 1) = false := by simpa using h1
        have d2 : (l == 2) = false := by simpa using h2
        clear h0 h1 h2 e
        go_enter Tryd.func47, Tryd.ntmps47
        go_wp2
        go_ret2
        exact ⟨rfl, rfl⟩
set_option maxRecDepth 100000 in
theorem cloneI_ok {w : World} {ad : Addr} {n c : Nat} {xs : List Value} (hS : Reads w w.heap.size 1 (some ad) n xs) (h1 : ∀ u ∈ xs, u.oneCell' = true) (hn : n ≤ 10000) :
    Calls Tryd.prog 48 #[.slice (some ad) n c] w fun e w' => ∃ v, e = .returned v ∧ w'.ownsRow w.heap.size 3 1 v n xs ∧ Below w.heap.size w w' := by
  obtain ⟨i0, hi0, hz0, hz1, hz2'⟩ := info_parts info_int7
  have hq := fun (w : World) => Lib.run_eql_slice_nil (P := Tryd.prog) w 52 3 (some ad) n c 0 0 Tryd.underlying52
  have HO8 : Hid ((w.alloc (.cells #[] 3)).ownsRow w.heap.size 3 1 (.slice (some ⟨w.heap.size, 0, none⟩) 0 0) 0 []) := Lib.hid (World.ownsRow_lit w #[] 0 (Nat.le_refl _) (by decide) rfl)
  have HRD8 := Lib.hid (hS.alloc (Nat.le_refl _) (.cells #[] 3))
  have HB8 := Lib.hid (below_box0 w (.cells #[] 3))
  clear hS
  go_enter Tryd.func48, Tryd.ntmps48
  go_wp2_with (at_builtin
               refine wpList_append_any _ (by simp [Region.wanted]) (.tmp 5) (.tmp 6) 52 rfl w.heap.size 3 i0 _ 1 8 Tryd.underlying52 hi0 hz0 hz1 hz2' rfl (by decide) (.slice (some ⟨w.heap.size, 0, none⟩) 0 0) 0 [] rfl
                 HO8.out w.heap.size (some ad) n c xs rfl HRD8.out h1 (by unfold maxLen; omega) (by omega) HB8.out.size ?_
               intro v1 w9 hown1 hg1 _
               have HB9 := Lib.hid (HB8.out.grown hg1 HB8.out.size (by simp [Value.ownBlock]))
               have HO9 : Hid (w9.ownsRow w.heap.size 3 1 v1 n xs) := Lib.hid (by
                 have e1 : 0 + n = n := by omega
                 rw [e1, List.nil_append] at hown1
                 exact hown1)
               clear hown1 hg1)
  go_ret
  exact ⟨v1, rfl, HO9.out, HB9.out⟩
set_option maxRecDepth 100000 in
theorem cloneU_ok {w : World} {ad : Addr} {n c : Nat} {xs : List Value} (hS : Reads w w.heap.size 1 (some ad) n xs) (h1 : ∀ u ∈ xs, u.oneCell' = true) (hn : n ≤ 10000) :
    Calls Tryd.prog 49 #[.slice (some ad) n c] w fun e w' => ∃ v, e = .returned v ∧ w'.ownsRow w.heap.size 24 1 v n xs ∧ Below w.heap.size w w' := by
  obtain ⟨i0, hi0, hz0, hz1, hz2'⟩ := info_parts info_u647
  have hq := fun (w : World) => Lib.run_eql_slice_nil (P := Tryd.prog) w 58 24 (some ad) n c 0 0 Tryd.underlying58
  have HO8 : Hid ((w.alloc (.cells #[] 24)).ownsRow w.heap.size 24 1 (.slice (some ⟨w.heap.size, 0, none⟩) 0 0) 0 []) := Lib.hid (World.ownsRow_lit w #[] 0 (Nat.le_refl _) (by decide) rfl)
  have HRD8 := Lib.hid (hS.alloc (Nat.le_refl _) (.cells #[] 24))
  have HB8 := Lib.hid (below_box0 w (.cells #[] 24))
  clear hS
  go_enter Tryd.func49, Tryd.ntmps49
  go_wp2_with (at_builtin
               refine wpList_append_any _ (by simp [Region.wanted]) (.tmp 5) (.tmp 6) 58 rfl w.heap.size 24 i0 _ 1 8 Tryd.underlying58 hi0 hz0 hz1 hz2' rfl (by decide) (.slice (some ⟨w.heap.size, 0, none⟩) 0 0) 0 [] rfl
                 HO8.out w.heap.size (some ad) n c xs rfl HRD8.out h1 (by unfold maxLen; omega) (by omega) HB8.out.size ?_
               intro v1 w9 hown1 hg1 _
               have HB9 := Lib.hid (HB8.out.grown hg1 HB8.out.size (by simp [Value.ownBlock]))
               have HO9 : Hid (w9.ownsRow w.heap.size 24 1 v1 n xs) := Lib.hid (by
                 have e1 : 0 + n = n := by omega
                 rw [e1, List.nil_append] at hown1
                 exact hown1)
               clear hown1 hg1)
  go_ret
  exact ⟨v1, rfl, HO9.out, HB9.out⟩
end Go.Proofs.YtfmclbacoffdaaaDoor
