/- Regions that draw their order: an invariant of what is done; chains of operations that end with an append. No program. -/
import Derived.Test.YtfmclbacoffdaaaDoorRZ3
import Derived.Deep.AppendLies
import Derived.Deep.RegionLawGrows
namespace Go.Proofs.YtfmclbacoffdaaaDoor
open Go.RowKit Go.Sort Go.Joins

theorem countP_step {i : Nat} {p p' : Nat → Bool} (h1 : p i = true) (h2 : p' i = false) (h3 : ∀ j, j ≠ i → p' j = p j) : ∀ l : List Nat, l.Nodup → i ∈ l → l.countP p = l.countP p' + 1
  | [], _, h => by cases h
  | x :: l, hn, h => by
    rw [List.nodup_cons] at hn
    by_cases hx : x = i
    · subst hx
      have e : l.countP p' = l.countP p := List.countP_congr fun j hj => by rw [h3 j (fun e => hn.1 (e ▸ hj))]
      rw [List.countP_cons, List.countP_cons, h1, h2, e]; simp
    · have hi : i ∈ l := by
        rcases List.mem_cons.1 h with e | e
        · exact absurd e.symm hx
        · exact e
      rw [List.countP_cons, List.countP_cons, h3 x hx, countP_step h1 h2 h3 l hn.2 hi]; omega

/-- how many operations are open -/
def openOps (ops : Array Oper) (l : Array Bool) : Nat := (List.range ops.size).countP fun i => !l.getD i true
/-- does operation i wait for j? -/
def needs (ops : Array Oper) (i j : Nat) : Bool :=
  match ops[i]? with
  | some o => o.after.toList.any fun e => Region.binds .any e && e.on == j
  | none => false
/-- nothing waits for a later one -/
def inOrder (ops : Array Oper) : Bool := (List.range ops.size).all fun i => match ops[i]? with | some o => o.after.all fun e => decide (e.on < i) | none => true

section
variable {P : Program} {ops : Array Oper} {Q : Exit → Act → World → Prop} {l : Array Bool} {a : Act} {w : World}

theorem openOps_set {i : Nat} (hi : i < ops.size) (h : l.getD i true = false) : openOps ops l = openOps ops (l.setIfInBounds i true) + 1 := by
  have hlt : i < l.size := by
    rcases Nat.lt_or_ge i l.size with h' | h'
    · exact h'
    · simp [Array.getElem?_eq_none h'] at h
  refine countP_step (i := i) (by rw [h]; rfl) (by simp [hlt]) (fun j hj => ?_) _ List.nodup_range (List.mem_range.2 hi)
  rw [getD_set_ne true (Ne.symm hj)]
theorem openOps_pos {i : Nat} (hi : i < ops.size) (h : l.getD i true = false) : 0 < openOps ops l := by rw [openOps_set hi h]; omega
theorem inOrder_lt (h : inOrder ops = true) {i : Nat} {o : Oper} (ho : ops[i]? = some o) : ∀ e ∈ o.after, e.on < i := by
  intro e he
  have hi : i < ops.size := (Array.getElem?_eq_some_iff.1 ho).1
  have := List.all_eq_true.1 h i (List.mem_range.2 hi)
  rw [ho] at this
  have := Array.all_eq_true_iff_forall_mem.1 this e he
  simpa using this
theorem ready_some (h : inOrder ops = true) (hs : l.size = ops.size) : ∀ (n i : Nat), i ≤ n → i < ops.size → l.getD i true = false → Region.ready .any ops l ≠ []
  | n, i, hn, hi, ho => by
    by_cases hex : ∃ j, j < i ∧ l.getD j true = false
    · obtain ⟨j, hj, hjo⟩ := hex
      match n with
      | 0 => omega
      | n + 1 => exact ready_some h hs n j (by omega) (by omega) hjo
    · intro hr
      have hm : i ∈ Region.ready .any ops l := by
        rw [mem_ready]
        refine ⟨ho, _, Array.getElem?_eq_getElem hi, fun e he _ => ?_⟩
        have hlt := inOrder_lt h (Array.getElem?_eq_getElem hi) e he
        have hx : l.getD e.on true = true := by
          cases hb : l.getD e.on true with
          | true => rfl
          | false => exact absurd ⟨_, hlt, hb⟩ hex
        have hes : e.on < l.size := by omega
        simpa [Array.getD_eq_getD_getElem?, hes] using hx
      rw [hr] at hm; cases hm
theorem openOps_zero (h : 0 < openOps ops l) : ∃ i, i < ops.size ∧ l.getD i true = false := by
  unfold openOps at h
  obtain ⟨i, hi, hp⟩ := List.countP_pos_iff.1 h
  exact ⟨i, List.mem_range.1 hi, by simpa using hp⟩
theorem needs_ready {i j : Nat} (hi : i ∈ Region.ready .any ops l) (h : needs ops i j = true) : l.getD j false = true := by
  obtain ⟨_, o, ho, hall⟩ := mem_ready.1 hi
  unfold needs at h
  rw [ho] at h
  obtain ⟨e, he, hb⟩ := List.any_eq_true.1 h
  rw [Bool.and_eq_true, beq_iff_eq] at hb
  rw [← hb.2]
  exact hall e (Array.mem_toList_iff.1 he) hb.1
theorem ready_open {i : Nat} (hi : i ∈ Region.ready .any ops l) : l.getD i true = false ∧ i < ops.size := by
  obtain ⟨h, o, ho, _⟩ := mem_ready.1 hi
  exact ⟨h, (Array.getElem?_eq_some_iff.1 ho).1⟩

/-- what is done keeps an invariant, whichever comes next; or the rest is known -/
theorem wpAny_inv (INV : Array Bool → Act → World → Prop) (hacyc : inOrder ops = true) (hsz : ∀ l a w, INV l a w → l.size = ops.size)
    (H : ∀ l a w, INV l a w → wpAny P .any ops Q (openOps ops l) l a w ∨ (0 < openOps ops l ∧ ∀ i ∈ Region.ready .any ops l, wpOp P ops Q i (fun a' w' => INV (l.setIfInBounds i true) a' w') a w)) :
    ∀ (n : Nat) (l : Array Bool) (a : Act) (w : World), openOps ops l = n → INV l a w → wpAny P .any ops Q n l a w
  | 0, l, a, w, hn, h => by
    rcases H l a w h with h1 | ⟨h1, _⟩
    · rwa [hn] at h1
    · omega
  | n + 1, l, a, w, hn, h => by
    rcases H l a w h with h1 | ⟨h1, h2⟩
    · rwa [hn] at h1
    · obtain ⟨i, hi, ho⟩ := openOps_zero h1
      refine ⟨fun hr => absurd hr (ready_some hacyc (hsz l a w h) i i (Nat.le_refl _) hi ho), fun j hj => ?_⟩
      obtain ⟨o1, o2⟩ := ready_open hj
      exact wpOp_mono (fun a' w' h' => wpAny_inv INV hacyc hsz H n _ a' w' (by have := openOps_set o2 o1; omega) h') (h2 j hj)
theorem wpAny_fuel (n : Nat) (h : openOps ops l = n) (hw : wpAny P .any ops Q n l a w) : wpAny P .any ops Q (openOps ops l) l a w := h ▸ hw
theorem put_self (a : Act) (t : Tmp) : a.put (some t) (a.tmps[t]?.getD undef) = a := by
  cases a with
  | mk tmps defers =>
    simp only [Act.put, Act.mk.injEq, and_true]
    apply Array.ext_getElem?
    intro j
    rw [Array.getElem?_setIfInBounds]
    by_cases hj : t = j
    · subst hj
      by_cases hlt : t < tmps.size
      · simp [hlt]
      · simp [hlt]
    · simp [hj]
theorem wpAny_takeD {md : Region.Mode} (i : Nat) (d : Tmp) (v : Value) {oi : Oper} {fuel : Nat} {listed : Array Bool} (hi : ops[i]? = some oi) (hd : oi.dst = some d) (hs : Region.noSelect ops = true) (hf : Region.free md ops listed i = true) (hr : (Region.ready md ops listed).contains i = true)
    (hQ : ∀ c a w, Q (.panic c) (a.put (some d) v) w → Q (.panic c) a w) (hw : Region.wanted oi (yielded ops a.tmps) = true) (hy : ∀ w, (execOp a.eval oi).run P w = .ok (.value v) w)
    (h : wpAny P md ops Q fuel (listed.setIfInBounds i true) (a.put (some d) v) w) : wpAny P md ops Q (fuel + 1) listed a w :=
  wpAny_take hi hs hf hr (by rw [hd]; exact hQ) (.inl ⟨hw, hy⟩) (by rw [hd]; exact h)
/-- a name for the frame -/
theorem wpAny_named {n : Nat} (h : ∀ a0, a0 = a → wpAny P .any ops Q n l a0 w) : wpAny P .any ops Q n l a w := h a rfl
end

theorem wp_append_grows {P : Program} {o : Oper} {a : Act} {w : World} {K : Act → World → Prop} {Q : Exit → Act → World → Prop}
    (hg : o.guard = none) (s x : Operand) (t : TypeId) (hop : o.op = Op.call { callee := Callee.builtin Builtin.append, args := #[s, x], argTypes := #[t, t] })
    (e : TypeId) (i : TypeInfo) (z : Value) (size bytes : Nat) (h1 : P.underlying t = some (.slice e)) (h2 : P.info? e = some i) (h3 : i.zero = some z) (h4 : i.size = size) (h5 : i.bytes = bytes) (h6 : z.cells.size = size) (h7 : 0 < size)
    (ao : Option Addr) (hs : a.eval s = .slice ao 0 0) (ad : Addr) (m c : Nat) (news : List Value) (hx : a.eval x = .slice (some ad) m c) (hn : news.length = m * size) (hc : ∀ j u, news[j]? = some u → w.cell? (ad.add j) = some u) (h1c : ∀ u ∈ news, u.oneCell' = true)
    (hm : 0 < m) (b1 : m ≤ maxLen) (b2 : m * bytes ≤ 140737488355328)
    (hK : ∀ v' w', w'.ownsRow w.heap.size e size v' m news → w.grownBy w' none → K (a.put o.dst v') w') : Oper.wp P o a w K Q := by
  have hw : Region.wanted o (yielded #[o] a.tmps) = true := by simp [Region.wanted, hg]
  have h := step_append_grows (P := P) (ops := #[o]) (E := True) (Q := Q) (K := K) hg s x t hop e i z size bytes h1 h2 h3 h4 h5 h6 h7 ao 0 0 [] hs (fun _ => ⟨rfl, rfl⟩) (by simp) (fun b _ j u h => by simp at h) ad m c news hx hn hc h1c (by omega) (by omega) (by rw [Nat.zero_add]; exact b2) (fun v' w' ho hg => hK v' w' (by simpa using ho) hg)
  rwa [if_pos hw] at h
theorem below_grown {w w' : World} (h : w.grownBy w' none) : Below w.heap.size w w' := (Below.refl _ _).grown h (Nat.le_refl _) (fun r e => by cases e)

/-- a chain: 'append(row, x)' -/
structure ChSpec where
  B : Nat
  e : TypeId
  t : TypeId
  row : Value
  n : Nat
  xs : List Value
  x : Value
  xc : List Value
/-- what of it is done: the row is read, the value is read, it lies in a slice of its own, it is appended -/
structure ChDyn where
  r : Bool
  y : Bool
  b : Bool
  a : Bool
  vr : Value
  vx : Value
  vb : Value
  va : Value
  u : List Nat

structure ChainAt (S : ChSpec) (d : ChDyn) (w : World) : Prop where
  row : d.r = true → d.vr = S.row
  val : d.y = true → d.vx = S.x
  own : d.a = false → w.ownsRow S.B S.e S.xc.length S.row S.n S.xs
  ob : ∀ g, S.row.ownBlock = some g → g ∈ d.u
  bd : d.b = true → d.y = true
  lit : d.b = true → d.a = false → ∃ g, d.vb = .slice (some ⟨g, 0, none⟩) 1 1 ∧ g ∈ d.u ∧ w.heap[g]? = some (.cells S.xc.toArray S.t (0, 0))
  done : d.a = true → d.r = true ∧ d.y = true ∧ d.b = true ∧ ∃ g cap, d.va = .slice (some ⟨g, 0, none⟩) (S.n + 1) cap ∧ g ∈ d.u ∧ w.ownsRow S.B S.e S.xc.length d.va (S.n + 1) (S.xs ++ S.xc)
  lt : ∀ g ∈ d.u, g < w.heap.size

theorem own_same {w w' : World} {base : Nat} {e : TypeId} {size : Nat} {v : Value} {n : Nat} {xs : List Value} (h : w.ownsRow base e size v n xs) (hb : ∀ g, v.ownBlock = some g → w'.heap[g]? = w.heap[g]?) : w'.ownsRow base e size v n xs := by
  refine ⟨h.1, ?_⟩
  rcases h.2 with hn | ⟨g, cap, cur, rfl, hbs, hgg, rest⟩
  · exact .inl hn
  · exact .inr ⟨g, cap, cur, rfl, hbs, by rw [hb g rfl]; exact hgg, rest⟩
theorem ChainAt.keep {S : ChSpec} {d : ChDyn} {w w' : World} (h : ChainAt S d w) (hs : w.heap.size ≤ w'.heap.size) (hb : ∀ g ∈ d.u, w'.heap[g]? = w.heap[g]?) : ChainAt S d w' := by
  refine ⟨h.row, h.val, fun ha => own_same (h.own ha) fun g hg => hb g (h.ob g hg), h.ob, h.bd, fun h1 h2 => ?_, fun ha => ?_, fun g hg => Nat.lt_of_lt_of_le (h.lt g hg) hs⟩
  · obtain ⟨g, e1, e2, e3⟩ := h.lit h1 h2
    exact ⟨g, e1, e2, by rw [hb g e2]; exact e3⟩
  · obtain ⟨e0, e1, e2, g, cap, e3, e4, e5⟩ := h.done ha
    refine ⟨e0, e1, e2, g, cap, e3, e4, own_same e5 fun k hk => ?_⟩
    rw [e3] at hk
    have : g = k := by simpa [Value.ownBlock] using hk
    exact hb k (this ▸ e4)

structure Chains (w0 : World) (L : List (ChSpec × ChDyn)) (w : World) : Prop where
  each : ∀ c ∈ L, ChainAt c.1 c.2 w
  apart : L.Pairwise fun c d => ∀ g ∈ c.2.u, g ∉ d.2.u
  os : w.os = w0.os
  tape : w.tape = w0.tape
  output : w.output = w0.output
  size : w0.heap.size ≤ w.heap.size
  block : ∀ k, k < w0.heap.size → (∀ c ∈ L, c.1.row.ownBlock ≠ some k) → w.heap[k]? = w0.heap[k]?

theorem grown_refl (w : World) (row : Option Nat) : w.grownBy w row := ⟨rfl, rfl, rfl, Nat.le_refl _, fun _ _ _ => rfl⟩

section
variable {w0 w w' : World} {S : ChSpec} {d d' : ChDyn} {pre post : List (ChSpec × ChDyn)}
theorem Chains.at_ (h : Chains w0 (pre ++ (S, d) :: post) w) : ChainAt S d w := h.each (S, d) (by simp)
theorem Chains.upd (h : Chains w0 (pre ++ (S, d) :: post) w) (hc : ChainAt S d' w') (hg : w.grownBy w' S.row.ownBlock) (hu : ∀ g ∈ d'.u, g ∈ d.u ∨ w.heap.size ≤ g) : Chains w0 (pre ++ (S, d') :: post) w' := by
  have hS := h.at_
  have hap := List.pairwise_append.1 h.apart
  have hcp := List.pairwise_cons.1 hap.2.1
  have far : ∀ c ∈ pre ++ post, ∀ g ∈ c.2.u, g < w.heap.size ∧ g ∉ d.u := by
    intro c hc g hg'
    refine ⟨(h.each c (by rcases List.mem_append.1 hc with h1 | h1 <;> simp [h1])).lt g hg', ?_⟩
    rcases List.mem_append.1 hc with h1 | h1
    · exact hap.2.2 c h1 (S, d) (by simp) g hg'
    · exact fun hd => hcp.1 c h1 g hd hg'
  have keepc : ∀ c ∈ pre ++ post, ChainAt c.1 c.2 w' := by
    intro c hc
    refine (h.each c (by rcases List.mem_append.1 hc with h1 | h1 <;> simp [h1])).keep hg.size fun g hg' => ?_
    obtain ⟨f1, f2⟩ := far c hc g hg'
    exact hg.block g f1 fun e => f2 (hS.ob g e.symm)
  refine ⟨fun c hc' => ?_, ?_, hg.os.trans h.os, hg.tape.trans h.tape, hg.output.trans h.output, Nat.le_trans h.size hg.size, fun k hk hn => ?_⟩
  · rcases List.mem_append.1 hc' with h1 | h1
    · exact keepc c (List.mem_append.2 (.inl h1))
    · rcases List.mem_cons.1 h1 with rfl | h2
      · exact hc
      · exact keepc c (List.mem_append.2 (.inr h2))
  · refine List.pairwise_append.2 ⟨hap.1, List.pairwise_cons.2 ⟨fun c hc' g hg' hgc => ?_, hcp.2⟩, fun c hc' x hx g hg' => ?_⟩
    · obtain ⟨f1, f2⟩ := far c (List.mem_append.2 (.inr hc')) g hgc
      rcases hu g hg' with e | e
      · exact f2 e
      · omega
    · rcases List.mem_cons.1 hx with rfl | h2
      · obtain ⟨f1, f2⟩ := far c (List.mem_append.2 (.inl hc')) g hg'
        intro hd
        rcases hu g hd with e | e
        · exact f2 e
        · omega
      · exact hap.2.2 c hc' x (by simp [h2]) g hg'
  · have hn0 : ∀ c ∈ pre ++ (S, d) :: post, c.1.row.ownBlock ≠ some k := by
      intro c hc'
      rcases List.mem_append.1 hc' with h1 | h1
      · exact hn c (List.mem_append.2 (.inl h1))
      · rcases List.mem_cons.1 h1 with rfl | h2
        · exact hn (S, d') (by simp)
        · exact hn c (by simp [h2])
    rw [← h.block k hk hn0]
    exact hg.block k (Nat.lt_of_lt_of_le hk h.size) fun e => hn (S, d') (by simp) e.symm
theorem Chains.r_ (h : Chains w0 (pre ++ (S, d) :: post) w) : Chains w0 (pre ++ (S, { d with r := true, vr := S.row }) :: post) w := by
  have hS := h.at_
  exact h.upd ⟨fun _ => rfl, hS.val, hS.own, hS.ob, hS.bd, hS.lit, fun ha => ⟨rfl, (hS.done ha).2⟩, hS.lt⟩ (grown_refl _ _) fun g hg => .inl hg
theorem Chains.y_ (h : Chains w0 (pre ++ (S, d) :: post) w) : Chains w0 (pre ++ (S, { d with y := true, vx := S.x }) :: post) w := by
  have hS := h.at_
  exact h.upd ⟨hS.row, fun _ => rfl, hS.own, hS.ob, fun _ => rfl, hS.lit, fun ha => ⟨(hS.done ha).1, rfl, (hS.done ha).2.2⟩, hS.lt⟩ (grown_refl _ _) fun g hg => .inl hg
theorem Chains.b_ (h : Chains w0 (pre ++ (S, d) :: post) w) (ha : d.a = false) (hy : d.y = true) {H : Nat} (hH : w.heap.size = H) : Chains w0 (pre ++ (S, { d with b := true, vb := .slice (some ⟨H, 0, none⟩) 1 1, u := H :: d.u }) :: post) (w.alloc (.cells S.xc.toArray S.t)) := by
  subst hH
  have hS := h.at_
  have hk : ChainAt S d (w.alloc (.cells S.xc.toArray S.t)) := hS.keep (by simp) fun g hg => Below.heap_alloc w _ g (hS.lt g hg)
  refine h.upd ⟨hk.row, hk.val, hk.own, fun g hg => List.mem_cons_of_mem _ (hk.ob g hg), fun _ => hy, fun _ _ => ⟨_, rfl, by simp, heap_alloc_new w _⟩, fun h1 => ?_, fun g hg => ?_⟩ (World.grownBy_alloc w _ _) fun g hg => ?_
  · rw [ha] at h1; cases h1
  · rcases List.mem_cons.1 hg with rfl | h1
    · simp
    · exact hk.lt g h1
  · rcases List.mem_cons.1 hg with rfl | h1
    · exact .inr (Nat.le_refl _)
    · exact .inl h1
theorem Chains.a_ (h : Chains w0 (pre ++ (S, d) :: post) w) (hr : d.r = true) (hb : d.b = true) {g cap : Nat}
    (own : w'.ownsRow S.B S.e S.xc.length (.slice (some ⟨g, 0, none⟩) (S.n + 1) cap) (S.n + 1) (S.xs ++ S.xc)) (hg : w.grownBy w' S.row.ownBlock) (hat : S.row.ownBlock = some g ∨ g = w.heap.size) (hlt : g < w'.heap.size) :
    Chains w0 (pre ++ (S, { d with a := true, va := .slice (some ⟨g, 0, none⟩) (S.n + 1) cap, u := g :: d.u }) :: post) w' := by
  have hS := h.at_
  refine h.upd ⟨hS.row, hS.val, fun h1 => (by cases h1), fun k hk => List.mem_cons_of_mem _ (hS.ob k hk), hS.bd, fun _ h1 => (by cases h1), fun _ => ⟨hr, hS.bd hb, hb, g, cap, rfl, by simp, own⟩, fun k hk => ?_⟩ hg fun k hk => ?_
  · rcases List.mem_cons.1 hk with rfl | h1
    · exact hlt
    · exact Nat.lt_of_lt_of_le (hS.lt k h1) hg.size
  · rcases List.mem_cons.1 hk with rfl | h1
    · rcases hat with e | e
      · exact .inl (hS.ob k e)
      · exact .inr (by omega)
    · exact .inl h1
end
section
variable {w0 w w' : World} {S : ChSpec} {r y b a : Bool} {vr vx vb va : Value} {u : List Nat} {L : List (ChSpec × ChDyn)}
theorem Chains.r0 (h : Chains w0 ((S, ⟨r, y, b, a, vr, vx, vb, va, u⟩) :: L) w) : Chains w0 ((S, ⟨true, y, b, a, S.row, vx, vb, va, u⟩) :: L) w := Chains.r_ (pre := []) (S := S) (d := ⟨r, y, b, a, vr, vx, vb, va, u⟩) (post := L) h
theorem Chains.y0 (h : Chains w0 ((S, ⟨r, y, b, a, vr, vx, vb, va, u⟩) :: L) w) : Chains w0 ((S, ⟨r, true, b, a, vr, S.x, vb, va, u⟩) :: L) w := Chains.y_ (pre := []) (S := S) (d := ⟨r, y, b, a, vr, vx, vb, va, u⟩) (post := L) h
theorem Chains.at0 (h : Chains w0 ((S, ⟨r, y, b, a, vr, vx, vb, va, u⟩) :: L) w) : ChainAt S ⟨r, y, b, a, vr, vx, vb, va, u⟩ w := Chains.at_ (pre := []) (S := S) (d := ⟨r, y, b, a, vr, vx, vb, va, u⟩) (post := L) h
theorem Chains.b0 (h : Chains w0 ((S, ⟨r, y, b, a, vr, vx, vb, va, u⟩) :: L) w) (ha : a = false) (hy : y = true) : Chains w0 ((S, ⟨r, y, true, a, vr, vx, .slice (some ⟨w.heap.size, 0, none⟩) 1 1, va, w.heap.size :: u⟩) :: L) (w.alloc (.cells S.xc.toArray S.t)) := Chains.b_ (pre := []) (S := S) (d := ⟨r, y, b, a, vr, vx, vb, va, u⟩) (post := L) h ha hy rfl
theorem Chains.a0 (h : Chains w0 ((S, ⟨r, y, b, a, vr, vx, vb, va, u⟩) :: L) w) (hr : r = true) (hb : b = true) {g cap : Nat} (own : w'.ownsRow S.B S.e S.xc.length (.slice (some ⟨g, 0, none⟩) (S.n + 1) cap) (S.n + 1) (S.xs ++ S.xc)) (hg : w.grownBy w' S.row.ownBlock) (hat : S.row.ownBlock = some g ∨ g = w.heap.size) (hlt : g < w'.heap.size) : Chains w0 ((S, ⟨r, y, b, true, vr, vx, vb, .slice (some ⟨g, 0, none⟩) (S.n + 1) cap, g :: u⟩) :: L) w' := Chains.a_ (pre := []) (S := S) (d := ⟨r, y, b, a, vr, vx, vb, va, u⟩) (post := L) h hr hb own hg hat hlt
theorem Chains.r1 {c0 : ChSpec × ChDyn} (h : Chains w0 (c0 :: (S, ⟨r, y, b, a, vr, vx, vb, va, u⟩) :: L) w) : Chains w0 (c0 :: (S, ⟨true, y, b, a, S.row, vx, vb, va, u⟩) :: L) w := Chains.r_ (pre := [c0]) (S := S) (d := ⟨r, y, b, a, vr, vx, vb, va, u⟩) (post := L) h
theorem Chains.y1 {c0 : ChSpec × ChDyn} (h : Chains w0 (c0 :: (S, ⟨r, y, b, a, vr, vx, vb, va, u⟩) :: L) w) : Chains w0 (c0 :: (S, ⟨r, true, b, a, vr, S.x, vb, va, u⟩) :: L) w := Chains.y_ (pre := [c0]) (S := S) (d := ⟨r, y, b, a, vr, vx, vb, va, u⟩) (post := L) h
theorem Chains.at1 {c0 : ChSpec × ChDyn} (h : Chains w0 (c0 :: (S, ⟨r, y, b, a, vr, vx, vb, va, u⟩) :: L) w) : ChainAt S ⟨r, y, b, a, vr, vx, vb, va, u⟩ w := Chains.at_ (pre := [c0]) (S := S) (d := ⟨r, y, b, a, vr, vx, vb, va, u⟩) (post := L) h
theorem Chains.b1 {c0 : ChSpec × ChDyn} (h : Chains w0 (c0 :: (S, ⟨r, y, b, a, vr, vx, vb, va, u⟩) :: L) w) (ha : a = false) (hy : y = true) : Chains w0 (c0 :: (S, ⟨r, y, true, a, vr, vx, .slice (some ⟨w.heap.size, 0, none⟩) 1 1, va, w.heap.size :: u⟩) :: L) (w.alloc (.cells S.xc.toArray S.t)) := Chains.b_ (pre := [c0]) (S := S) (d := ⟨r, y, b, a, vr, vx, vb, va, u⟩) (post := L) h ha hy rfl
theorem Chains.a1 {c0 : ChSpec × ChDyn} (h : Chains w0 (c0 :: (S, ⟨r, y, b, a, vr, vx, vb, va, u⟩) :: L) w) (hr : r = true) (hb : b = true) {g cap : Nat} (own : w'.ownsRow S.B S.e S.xc.length (.slice (some ⟨g, 0, none⟩) (S.n + 1) cap) (S.n + 1) (S.xs ++ S.xc)) (hg : w.grownBy w' S.row.ownBlock) (hat : S.row.ownBlock = some g ∨ g = w.heap.size) (hlt : g < w'.heap.size) : Chains w0 (c0 :: (S, ⟨r, y, b, true, vr, vx, vb, .slice (some ⟨g, 0, none⟩) (S.n + 1) cap, g :: u⟩) :: L) w' := Chains.a_ (pre := [c0]) (S := S) (d := ⟨r, y, b, a, vr, vx, vb, va, u⟩) (post := L) h hr hb own hg hat hlt
theorem Chains.r2 {c0 c1 : ChSpec × ChDyn} (h : Chains w0 (c0 :: c1 :: (S, ⟨r, y, b, a, vr, vx, vb, va, u⟩) :: L) w) : Chains w0 (c0 :: c1 :: (S, ⟨true, y, b, a, S.row, vx, vb, va, u⟩) :: L) w := Chains.r_ (pre := [c0, c1]) (S := S) (d := ⟨r, y, b, a, vr, vx, vb, va, u⟩) (post := L) h
theorem Chains.y2 {c0 c1 : ChSpec × ChDyn} (h : Chains w0 (c0 :: c1 :: (S, ⟨r, y, b, a, vr, vx, vb, va, u⟩) :: L) w) : Chains w0 (c0 :: c1 :: (S, ⟨r, true, b, a, vr, S.x, vb, va, u⟩) :: L) w := Chains.y_ (pre := [c0, c1]) (S := S) (d := ⟨r, y, b, a, vr, vx, vb, va, u⟩) (post := L) h
theorem Chains.at2 {c0 c1 : ChSpec × ChDyn} (h : Chains w0 (c0 :: c1 :: (S, ⟨r, y, b, a, vr, vx, vb, va, u⟩) :: L) w) : ChainAt S ⟨r, y, b, a, vr, vx, vb, va, u⟩ w := Chains.at_ (pre := [c0, c1]) (S := S) (d := ⟨r, y, b, a, vr, vx, vb, va, u⟩) (post := L) h
theorem Chains.b2 {c0 c1 : ChSpec × ChDyn} (h : Chains w0 (c0 :: c1 :: (S, ⟨r, y, b, a, vr, vx, vb, va, u⟩) :: L) w) (ha : a = false) (hy : y = true) : Chains w0 (c0 :: c1 :: (S, ⟨r, y, true, a, vr, vx, .slice (some ⟨w.heap.size, 0, none⟩) 1 1, va, w.heap.size :: u⟩) :: L) (w.alloc (.cells S.xc.toArray S.t)) := Chains.b_ (pre := [c0, c1]) (S := S) (d := ⟨r, y, b, a, vr, vx, vb, va, u⟩) (post := L) h ha hy rfl
theorem Chains.a2 {c0 c1 : ChSpec × ChDyn} (h : Chains w0 (c0 :: c1 :: (S, ⟨r, y, b, a, vr, vx, vb, va, u⟩) :: L) w) (hr : r = true) (hb : b = true) {g cap : Nat} (own : w'.ownsRow S.B S.e S.xc.length (.slice (some ⟨g, 0, none⟩) (S.n + 1) cap) (S.n + 1) (S.xs ++ S.xc)) (hg : w.grownBy w' S.row.ownBlock) (hat : S.row.ownBlock = some g ∨ g = w.heap.size) (hlt : g < w'.heap.size) : Chains w0 (c0 :: c1 :: (S, ⟨r, y, b, true, vr, vx, vb, .slice (some ⟨g, 0, none⟩) (S.n + 1) cap, g :: u⟩) :: L) w' := Chains.a_ (pre := [c0, c1]) (S := S) (d := ⟨r, y, b, a, vr, vx, vb, va, u⟩) (post := L) h hr hb own hg hat hlt
end
theorem Chains.nil (w : World) : Chains w [] w := ⟨fun _ h => by (cases h), List.Pairwise.nil, rfl, rfl, rfl, Nat.le_refl _, fun _ _ _ => rfl⟩
/-- a chain of which nothing is done -/
def ChDyn.new (S : ChSpec) (vr vx vb va : Value) : ChDyn := ⟨false, false, false, false, vr, vx, vb, va, S.row.ownBlock.toList⟩
theorem Chains.add {w : World} {L : List (ChSpec × ChDyn)} (h : Chains w L w) (S : ChSpec) (vr vx vb va : Value) (own : w.ownsRow S.B S.e S.xc.length S.row S.n S.xs) (hne : ∀ g, S.row.ownBlock = some g → ∀ c ∈ L, g ∉ c.2.u) :
    Chains w ((S, ChDyn.new S vr vx vb va) :: L) w := by
  have hu : ∀ g, g ∈ (ChDyn.new S vr vx vb va).u ↔ S.row.ownBlock = some g := fun g => by simp [ChDyn.new]
  refine ⟨fun c hc => ?_, List.pairwise_cons.2 ⟨fun c hc g hg => hne g ((hu g).1 hg) c hc, h.apart⟩, rfl, rfl, rfl, Nat.le_refl _, fun _ _ _ => rfl⟩
  rcases List.mem_cons.1 hc with rfl | h1
  · exact ⟨fun h1 => (by cases h1), fun h1 => (by cases h1), fun _ => own, fun g hg => (hu g).2 hg, fun h1 => (by cases h1), fun h1 => (by cases h1), fun h1 => (by cases h1), fun g hg => (own.lt g ((hu g).1 hg)).2⟩
  · exact h.each c h1
end Go.Proofs.YtfmclbacoffdaaaDoor
