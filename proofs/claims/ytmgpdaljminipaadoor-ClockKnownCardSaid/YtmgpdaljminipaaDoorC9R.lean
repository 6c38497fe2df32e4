/- Clocks: append of a slice that came from a call, nil or not (the words of the kit's howto, turned to a guarded operation); a run in two parts. -/
import Derived.Test.YtmgpdaljminipaaDoorC9L
import Derived.Below
import Derived.Laws.OwnMore
import Derived.Deep.AppendLies
import Derived.Deep.Draws
import Derived.Maps.AppendAt
import Derived.RegionTactic
import Derived.OwnWalk
namespace Go.Proofs.YtmgpdaljminipaaDoor
open Go.RowKit Go.Sort Go.Joins Go.Shelf
theorem block_of_add (a : Addr) (n : Nat) : (a.add n).block = a.block := by unfold Addr.add; split <;> rfl
theorem add_of_add (a : Addr) (i j : Nat) : (a.add i).add j = a.add (i + j) := by
  unfold Addr.add
  by_cases hi : i = 0 <;> by_cases hj : j = 0 <;> simp [hi, hj, Nat.add_assoc]

def Reads (w : World) (B size : Nat) (A : Option Addr) (n : Nat) (xs : List Value) : Prop :=
  xs.length = n * size ∧ (0 < n → ∃ ad, A = some ad ∧ ad.block < B ∧ ∀ j u, xs[j]? = some u → w.cell? (ad.add j) = some u)

section
variable {w w' : World} {B B' size n : Nat} {A : Option Addr} {xs : List Value}
theorem Reads.none_ : Reads w B size A 0 [] := ⟨by simp, fun h => absurd h (by omega)⟩
theorem Reads.at_ {k : Nat} (h : Reads w B 1 A n xs) (hk : k < n) : ∃ ad u, A = some ad ∧ ad.block < B ∧ xs[k]? = some u ∧ w.cell? (ad.add k) = some u := by
  obtain ⟨ad, e, hb, hc⟩ := h.2 (by omega)
  have hl : k < xs.length := by have := h.1; omega
  exact ⟨ad, xs[k], e, hb, List.getElem?_eq_getElem hl, hc k _ (List.getElem?_eq_getElem hl)⟩
theorem Reads.keep (h : Reads w B size A n xs) (hk : ∀ p : Addr, p.block < B → w'.cell? p = w.cell? p) : Reads w' B size A n xs :=
  ⟨h.1, fun hn => by
    obtain ⟨ad, e, hb, hc⟩ := h.2 hn
    exact ⟨ad, e, hb, fun j u hu => (hk _ (by rw [block_of_add]; exact hb)).trans (hc j u hu)⟩⟩
theorem Reads.more (h : Reads w B size A n xs) (hB : B ≤ B') : Reads w B' size A n xs :=
  ⟨h.1, fun hn => by
    obtain ⟨ad, e, hb, hc⟩ := h.2 hn
    exact ⟨ad, e, by omega, hc⟩⟩
theorem Reads.below (h : Reads w B size A n xs) (hb : Below B w w') : Reads w' B size A n xs := h.keep fun _ hp => hb.cell hp
theorem Reads.drew (h : Reads w B size A n xs) : Reads w.drew B size A n xs := h
theorem Reads.drewN (h : Reads w B size A n xs) (k : Nat) : Reads (w.drewN k) B size A n xs := h
theorem Reads.alloc (h : Reads w B size A n xs) (hB : B ≤ w.heap.size) (o : Obj) : Reads (w.alloc o) B size A n xs := h.keep fun p hp => World.cell?_alloc_lt w o p (by omega)
theorem Reads.setCell (h : Reads w B size A n xs) {p : Addr} (hB : B ≤ p.block) (u : Value) : Reads (w.setCell p u) B size A n xs :=
  h.keep fun q hq => World.cell?_setCell_other w p q u (fun e => by subst e; omega)
theorem Reads.grown (h : Reads w B size A n xs) {row : Option Nat} (hg : w.grownBy w' row) (hB : B ≤ w.heap.size) (hr : ∀ g, row = some g → B ≤ g) : Reads w' B size A n xs :=
  h.keep fun p hp => World.cell?_of_block (hg.block p.block (by omega) (fun e => by have := hr _ e.symm; omega))
theorem Reads.cut (h : Reads w B size A n xs) {k cap : Nat} (hk : k ≤ n) (hc : n ≤ cap) :
    Reads w B size (if cap = k then A else A.map (·.add (k * size))) (n - k) (xs.drop (k * size)) := by
  refine ⟨by rw [List.length_drop, h.1, Nat.sub_mul], fun hn => ?_⟩
  obtain ⟨ad, rfl, hb, hcell⟩ := h.2 (by omega)
  rw [if_neg (by omega)]
  refine ⟨ad.add (k * size), rfl, by rw [block_of_add]; exact hb, fun j u hu => ?_⟩
  rw [add_of_add]
  exact hcell _ u (by rw [← hu, List.getElem?_drop])
theorem Reads.of_own {base : Nat} {e : TypeId} {c : Nat} (h : w.ownsRow base e size (.slice A n c) n xs) : Reads w w.heap.size size A n xs := by
  refine ⟨h.1, fun hn => ?_⟩
  obtain ⟨g, cap, hv, _, hlt⟩ := h.form hn
  have hA : A = some ⟨g, 0, none⟩ := by injection hv
  subst hA
  exact ⟨_, rfl, hlt, h.cells (g := g) rfl⟩
end
section
variable {P : Program} (w : World)

theorem run_append_of_nil (base : Nat) (t ty e : TypeId) (i : TypeInfo) (size : Nat) (ht : P.underlying t = some (.slice e)) (hi : P.info? e = some i)
    (v : Value) (n : Nat) (xs : List Value) (hown : w.ownsRow base e size v n xs) (c : Nat) : (Builtin.append_ #[t, t] ty #[v, .slice none 0 c]).run P w = .ok v w := by
  rcases hown.2 with ⟨rfl, rfl⟩ | ⟨g, cap, cur, rfl, _, _, hnc, _⟩
  · simp [Builtin.append_, run_underlying ht, sizeOf, typeInfo, hi, Builtin.lenOf, Builtin.firstCells]
  · simp [Builtin.append_, run_underlying ht, sizeOf, typeInfo, hi, Builtin.lenOf, Builtin.firstCells, hnc, storeCells]

theorem run_append_any (base : Nat) (t ty e : TypeId) (i : TypeInfo) (z : Value) (size bytes : Nat) (ht : P.underlying t = some (.slice e)) (hi : P.info? e = some i) (hz : i.zero = some z)
    (hsize : i.size = size) (hby : i.bytes = bytes) (hzs : z.cells.size = size) (hsz : 0 < size)
    (v : Value) (n : Nat) (xs : List Value) (hown : w.ownsRow base e size v n xs)
    (B : Nat) (A : Option Addr) (m c : Nat) (news : List Value) (hr : Reads w B size A m news) (h1 : ∀ u ∈ news, u.oneCell' = true)
    (h63 : n + m ≤ maxLen) (hbytes : (n + m) * bytes ≤ 140737488355328) (hbase : base ≤ w.heap.size) :
    ∃ v' w', (Builtin.append_ #[t, t] ty #[v, .slice A m c]).run P w = .ok v' w' ∧ w'.ownsRow base e size v' (n + m) (xs ++ news) ∧ w.grownBy w' v.ownBlock ∧
      (v'.ownBlock = v.ownBlock ∨ v'.ownBlock = some w.heap.size) := by
  rcases A with _ | ad
  · have hm : m = 0 := by
      rcases Nat.eq_zero_or_pos m with h0 | h0
      · exact h0
      · obtain ⟨ad, h, _⟩ := hr.2 h0
        cases h
    subst hm
    have hn : news = [] := List.eq_nil_of_length_eq_zero (by simpa using hr.1)
    subst hn
    exact ⟨v, w, run_append_of_nil w base t ty e i size ht hi v n xs hown c, by simpa using hown, World.grownBy.refl w _, .inl rfl⟩
  · have hcells : ∀ j u, news[j]? = some u → w.cell? (ad.add j) = some u := by
      intro j u hu
      rcases Nat.eq_zero_or_pos m with h0 | h0
      · subst h0
        have hn : news = [] := List.eq_nil_of_length_eq_zero (by simpa using hr.1)
        subst hn
        simp at hu
      · obtain ⟨ad', h, _, hc⟩ := hr.2 h0
        injection h with h
        subst h
        exact hc j u hu
    obtain ⟨v', w', hrun, h2, h3, _, h5⟩ := run_append_own_at (P := P) w base t ty e i z size bytes ht hi hz hsize hby hzs hsz v n xs hown ad m c news hr.1 hcells h1 h63 hbytes hbase
    exact ⟨v', w', hrun, h2, h3, h5⟩

theorem wp_append_any {o : Oper} {a : Act} {K : Act → World → Prop} {Q : Exit → Act → World → Prop} (s x : Operand) (t : TypeId)
    (ho : o.op = .call { callee := .builtin .append, args := #[s, x], argTypes := #[t, t] })
    (base : Nat) (e : TypeId) (i : TypeInfo) (z : Value) (size bytes : Nat) (ht : P.underlying t = some (.slice e)) (hi : P.info? e = some i) (hz : i.zero = some z)
    (hsize : i.size = size) (hby : i.bytes = bytes) (hzs : z.cells.size = size) (hsz : 0 < size)
    (v : Value) (n : Nat) (xs : List Value) (hs : a.eval s = v) (hown : w.ownsRow base e size v n xs)
    (B : Nat) (A : Option Addr) (m c : Nat) (news : List Value) (hx : a.eval x = .slice A m c) (hr : Reads w B size A m news) (h1 : ∀ u ∈ news, u.oneCell' = true)
    (h63 : n + m ≤ maxLen) (hbytes : (n + m) * bytes ≤ 140737488355328) (hbase : base ≤ w.heap.size)
    (h : ∀ v' w', w'.ownsRow base e size v' (n + m) (xs ++ news) → w.grownBy w' v.ownBlock → (v'.ownBlock = v.ownBlock ∨ v'.ownBlock = some w.heap.size) → K (a.put o.dst v') w') : o.wp P a w K Q := by
  obtain ⟨v', w', hrun, h2, h3, h4⟩ := run_append_any (P := P) w base t o.type e i z size bytes ht hi hz hsize hby hzs hsz v n xs hown B A m c news hr h1 h63 hbytes hbase
  unfold Oper.wp execOp
  simp only [ho, resolve, invoke, builtin, Sem.run_bind, Sem.run_pure, Result.andThen_ok, List.map_toArray, List.map_cons, List.map_nil, hs, hx, hrun]
  exact h v' w' h2 h3 h4

theorem wpList_append_any {ops : Array Oper} {rest : List Oper} {o : Oper} {a : Act} {Q : Exit → Act → World → Prop} (hgd : Region.wanted o (yielded ops a.tmps) = true) (s x : Operand) (t : TypeId)
    (ho : o.op = .call { callee := .builtin .append, args := #[s, x], argTypes := #[t, t] })
    (base : Nat) (e : TypeId) (i : TypeInfo) (z : Value) (size bytes : Nat) (ht : P.underlying t = some (.slice e)) (hi : P.info? e = some i) (hz : i.zero = some z)
    (hsize : i.size = size) (hby : i.bytes = bytes) (hzs : z.cells.size = size) (hsz : 0 < size)
    (v : Value) (n : Nat) (xs : List Value) (hs : a.eval s = v) (hown : w.ownsRow base e size v n xs)
    (B : Nat) (A : Option Addr) (m c : Nat) (news : List Value) (hx : a.eval x = .slice A m c) (hr : Reads w B size A m news) (h1 : ∀ u ∈ news, u.oneCell' = true)
    (h63 : n + m ≤ maxLen) (hbytes : (n + m) * bytes ≤ 140737488355328) (hbase : base ≤ w.heap.size)
    (h : ∀ v' w', w'.ownsRow base e size v' (n + m) (xs ++ news) → w.grownBy w' v.ownBlock → (v'.ownBlock = v.ownBlock ∨ v'.ownBlock = some w.heap.size) → wpList P ops Q rest (a.put o.dst v') w') : wpList P ops Q (o :: rest) a w :=
  wpList_step fun _ hK => by
    rw [if_pos hgd]
    exact wp_append_any w s x t ho base e i z size bytes ht hi hz hsize hby hzs hsz v n xs hs hown B A m c news hx hr h1 h63 hbytes hbase fun v' w' h2 h3 h4 => hK _ _ (h v' w' h2 h3 h4)

end

theorem SlG.reads {w : World} {a : Option Addr} {n : Nat} {G : Nat → Rn} (h : SlG w a n G) : Reads w w.heap.size 2 a n (rgc ((List.range n).map G)) := by
  have hl : (rgc ((List.range n).map G)).length = n * 2 := by rw [rgc_length]; simp
  refine ⟨hl, fun hn => ?_⟩
  obtain ⟨b, o, rfl, hc⟩ := h.resolve_left (by omega)
  refine ⟨_, rfl, World.block_lt_of_cell? _ _ (hc 0 hn).1, fun j u hu => ?_⟩
  have hj : j < n * 2 := by rw [← hl]; exact (List.getElem?_eq_some_iff.1 hu).1
  have hk : j / 2 < ((List.range n).map G).length := by simp; omega
  obtain ⟨e0, e1⟩ := rgc_get _ (j / 2) hk
  have hg : ((List.range n).map G).getD (j / 2) rn0 = G (j / 2) := by
    have : j / 2 < n := by omega
    simp [List.getD, this]
  rw [hg] at e0 e1
  obtain ⟨c0, c1⟩ := hc (j / 2) (by omega)
  rw [Go.WideShapes.add_plain]
  rcases Nat.mod_two_eq_zero_or_one j with hm | hm
  · have ej : j = j / 2 * 2 := by omega
    rw [ej, e0] at hu
    rw [ej, ← hu]
    simpa using c0
  · have ej : j = j / 2 * 2 + 1 := by omega
    rw [ej, e1] at hu
    rw [ej, ← hu, ← Nat.add_assoc]
    simpa using c1
section
variable {n : Nat} {R : Nat → Alm} {f u : Int}
theorem alB_of {x : Al} (h : nmB x.1 = true) (ha : AlOk x.2) : AlB x := by
  have hs := nmB_size h
  have a0 := ha.a0
  have a1 := ha.a1
  have e0 := ha.e0
  have e1 := ha.e1
  rw [MT_eq] at *
  have hm : maxLen = 9223372036854775807 := by decide
  unfold AlB I64r
  refine ⟨?_, ⟨?_, ?_⟩, ?_, ?_⟩ <;> omega
/-- the plan that is left -/
def rsR (R : Nat → Alm) (f : Int) (n : Nat) (j : Nat) : Alm := (rstA R f n).getD j al0
theorem rsR_al (h : PlOk n R) (h0 : 0 ≤ f) (h1 : f ≤ MT) {j : Nat} (hj : j < (rstA R f n).length) : AlB (rsR R f n j) := by
  have hp := rst_ok h h0 h1
  exact alB_of (hp.nm j hj) (hp.ok j hj)
/-- both runs are done -/
theorem parts_E (h : rnE n R u = 0) (h0 : 0 ≤ f) (h1 : f ≤ u) : rnE n R f = 0 ∧ rnE (rstA R f n).length (rsR R f n) u = 0 := by
  obtain ⟨hct, hsum⟩ := rnE_zero h
  obtain ⟨hce, hu0, hu1⟩ := ctE_zero hct
  have hp := cE_zero hce
  have hfM : f ≤ MT := by rw [MT_eq]; omega
  have huM : u ≤ MT := by rw [MT_eq]; omega
  have hq := rst_ok hp h0 hfM
  have s1 := sum_rst h1 h0 huM hp.ok
  have s2 := sumA_list (u := u) (rstA R f n)
  have g1 := sumA_ge huM hq.ok
  have g2 := sumA_ge hfM hp.ok
  have e : sumA (rsR R f n) u (rstA R f n).length = sumA (fun j => (rstA R f n).getD j alm0) u (rstA R f n).length := rfl
  refine ⟨rnE_of (ctE_of hce h0 (by omega)) (by omega), rnE_of (ctE_of hq.zero hu0 hu1) (by rw [e]; omega)⟩
/-- THE LAW: the rings of a run in two parts -/
theorem parts_rings (h : rnE n R u = 0) (h0 : 0 ≤ f) (h1 : f ≤ u) {K L M : List (Int × Nat)} (hK : RunOk n R u K) (hL : RunOk n R f L) (hM : RunOk (rstA R f n).length (rsR R f n) u M) :
    L.map (rgN R) ++ M.map (rgN (rsR R f n)) = K.map (rgN R) ∧ rstA (rsR R f n) u (rstA R f n).length = rstA R u n := by
  obtain ⟨hct, hsum⟩ := rnE_zero h
  obtain ⟨hce, hu0, hu1⟩ := ctE_zero hct
  have hp := cE_zero hce
  have huM : u ≤ MT := by rw [MT_eq]; omega
  have e := (run_two hp h1 h0 huM hL hM).eq hK
  refine ⟨?_, rst_rst h1 h0 huM hp.ok⟩
  rw [← e, List.map_append, List.map_map]
  congr 1
  refine List.map_congr_left fun x hx => ?_
  obtain ⟨hx2, _⟩ := (hM.mem x).1 hx
  unfold rgN rsR
  dsimp only [Function.comp]
  have := rst_at (R := R) (f := f) (n := n) hx2
  unfold alm0 at this
  rw [this]
  rfl
end
theorem range_getD {α : Type} (d : α) (l : List α) : (List.range l.length).map (fun j => l.getD j d) = l := by
  refine List.ext_getElem (by simp) fun i h1 h2 => ?_
  simp [List.getD, h2]
theorem SlG.readsL {w : World} {a : Option Addr} {l : List Rn} (h : SlG w a l.length (fun j => l.getD j rn0)) : Reads w w.heap.size 2 a l.length (rgc l) := by
  have := h.reads
  rwa [range_getD] at this
/-- Run of a plan that is done, in lists -/
theorem run_list {a : Option Addr} {n c : Nat} {R : Nat → Al} {u : Int} {w : World} (hS : SlA w a n R) (hn : n ≤ 9223372036854775807) (hR : ∀ j, j < n → AlB (R j)) (hE : rnE n R u = 0) :
    Calls Tryd.prog 19 #[pV a n c, .int .i64 u] w fun e w' => ∃ (aL : Option Addr) (cL : Nat) (aR : Option Addr) (cR : Nat) (L : List Rn) (nR : Nat), e = .returned (.tuple #[.slice aL L.length cL, .agg #[.slice aR nR cR], .int .i64 0]) ∧
      SlG w' aL L.length (fun j => L.getD j rn0) ∧ SlA w' aR nR (rsR R u n) ∧ Hid (nR = (rstA R u n).length) ∧ Hid (∃ K, RunOk n R u K ∧ L = K.map (rgN R)) ∧ L.length ≤ 1000 ∧ nR ≤ n ∧ Below w.heap.size w w' := by
  refine (run_good (c := c) hS hn hR hE).mono ?_
  rintro e w' ⟨aL, cL, aR, cR, L, rfl, h1, h2, h3, h4, h5⟩
  have hl : (L.map (rgN R)).length = L.length := by simp
  exact ⟨aL, cL, aR, cR, L.map (rgN R), _, by rw [hl], by rw [hl]; exact h1, h2, Lib.hid rfl, Lib.hid ⟨L, h3, rfl⟩, by rw [hl]; exact h4, rstA_len R u n, h5⟩
/-- the times of a plan's alarms -/
abbrev tmsA (R : Nat → Al) (j : Nat) : Int := (R j).2.1
end Go.Proofs.YtmgpdaljminipaaDoor
