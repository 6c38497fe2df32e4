/- Handles: what lies in memory while calls are made on a table and on a state. | Handles: what lies in memory while the same is done on a table of ints and on one of Things. | Handles: the reference's calls, on states of n slots in rows of their own. -/
import Derived.Test.YtpaecmpiokkdnaaDoorTypesZ22
import Derived.Test.YtpaecmpiokkdnaaDoorTypesZ8
import Derived.Test.YtpaecmpiokkdnaaDoorTypesZ10
namespace Go.Proofs.YtpaecmpiokkdnaaDoor
open Go.RowKit Go.Sort Go.Joins

/-- what is known of the slots -/
structure PS (n : Nat) (st : List Slt) : Prop where
  len : st.length = n
  gb : ∀ j, j < st.length → (st.getD j (0, false, undef)).1 ≤ 65535
  one : ∀ j, j < st.length → (st.getD j (0, false, undef)).2.1 = true → 1 ≤ (st.getD j (0, false, undef)).1
  iv : IV st
  dz : DZ st
theorem PS.set {n i : Nat} {st : List Slt} {s : Slt} (h : PS n st) (hi : i < st.length) (h1 : s.1 ≤ 65535) (h2 : s.2.1 = true → 1 ≤ s.1) (h3 : ∃ z : Int, s.2.2 = .int .i64 z) (h4 : s.2.1 = false → s.2.2 = .int .i64 0) : PS n (st.set i s) := by
  refine ⟨by rw [List.length_set]; exact h.len, fun j hj => ?_, fun j hj => ?_, h.iv.set hi h3, h.dz.set hi h4⟩
  · rw [List.length_set] at hj
    rw [getD_set hi]
    by_cases e : i = j
    · rw [if_pos e]; exact h1
    · rw [if_neg e]; exact h.gb j hj
  · rw [List.length_set] at hj
    rw [getD_set hi]
    by_cases e : i = j
    · rw [if_pos e]; exact h2
    · rw [if_neg e]; exact h.one j hj
/-- what lies in memory: the table has the slots st, the state has the slots su -/
structure PL (w W : World) (B p q n : Nat) (st su : List Slt) (K : List Kn) (a0 : Option Addr) (k0 : Nat) (a1 : Option Addr) (k1 : Nat) (a2 : Option Addr) (k2 : Nat) (r : Value) : Prop where
  t : Int.TT W B p q st
  tab : Tab W
  bx : W.heap[w.heap.size]? = some (.cells #[.slice a0 n k0, .slice a1 n k1, .slice a2 n k2] 35 (0, 0))
  oa : OA W 0 n (zI (gF su)) (zB (aF su)) (vF su) (.slice a0 n k0) (.slice a1 n k1) (.slice a2 n k2)
  row : W.ownsRow w.heap.size 2 1 r K.length (kH K)
  rb : W.heap[w.heap.size + 1]? = some (.cells #[.slice none 0 0, .slice none 0 0, .slice none 0 0] 35 (0, 0))
  fr : Fr p q w W
  pw : p < w.heap.size
  qw : q < w.heap.size
  tw : 0 < B
  bp : B ≤ p ∧ B ≤ q
section
variable {w W W' : World} {B p q n : Nat} {st st' su su' : List Slt} {K : List Kn} {a0 a1 a2 b0 b1 b2 : Option Addr} {k0 k1 k2 l0 l1 l2 : Nat} {r : Value}
theorem OA.base {w : World} {B n : Nat} {f0 f1 f2 : Nat → Value} {r0 r1 r2 : Value} (h : OA w B n f0 f1 f2 r0 r1 r2) : OA w 0 n f0 f1 f2 r0 r1 r2 :=
  ⟨ownsRow_le h.o0 (Nat.zero_le _), ownsRow_le h.o1 (Nat.zero_le _), ownsRow_le h.o2 (Nat.zero_le _), h.n02⟩
theorem PL.below (h : PL w W B p q n st su K a0 k0 a1 k1 a2 k2 r) (hb : Below W.heap.size W W') : PL w W' B p q n st su K a0 k0 a1 k1 a2 k2 r :=
  ⟨Tg.below h.t hb, h.tab.below hb, (hb.block _ (blk_lt h.bx)).trans h.bx, h.oa.below hb, own_below h.row hb, (hb.block _ (blk_lt h.rb)).trans h.rb, h.fr.trans (Fr.of_below hb), h.pw, h.qw, h.tw, h.bp⟩
theorem PL.table (h : PL w W B p q n st su K a0 k0 a1 k1 a2 k2 r) (ht : Int.TT W' B p q st') (f : Fr p q W W') : PL w W' B p q n st' su K a0 k0 a1 k1 a2 k2 r := by
  obtain ⟨ra, rcap, h1, _⟩ := Tb.tbl h.t
  have h2 := h.t.slots
  have hp := h.pw
  have hq := h.qw
  refine ⟨ht, h.tab.fr f (by have := h.tw; have := h.bp.1; omega) (by have := h.tw; have := h.bp.2; omega), (f.block _ (blk_lt h.bx) (by omega) (by omega)).trans h.bx, ⟨own_fr h.oa.o0 f h1 h2 (by decide) (by decide), own_fr h.oa.o1 f h1 h2 (by decide) (by decide), own_fr h.oa.o2 f h1 h2 (by decide) (by decide), h.oa.n02⟩,
    own_fr h.row f h1 h2 (by decide) (by decide), (f.block _ (blk_lt h.rb) (by omega) (by omega)).trans h.rb, h.fr.trans f, h.pw, h.qw, h.tw, h.bp⟩
/-- the state's box is stored anew -/
theorem PL.box (h : PL w W B p q n st su K a0 k0 a1 k1 a2 k2 r) (ho : OA W 0 n (zI (gF su')) (zB (aF su')) (vF su') (.slice b0 n l0) (.slice b1 n l1) (.slice b2 n l2)) :
    PL w (((W.setCell ⟨w.heap.size, 0, none⟩ (.slice b0 n l0)).setCell ⟨w.heap.size, 1, none⟩ (.slice b1 n l1)).setCell ⟨w.heap.size, 2, none⟩ (.slice b2 n l2)) B p q n st su' K b0 l0 b1 l1 b2 l2 r := by
  have hb := h.bx
  have hp := h.pw
  have hq := h.qw
  have hb1 : (W.setCell ⟨w.heap.size, 0, none⟩ (.slice b0 n l0)).heap[w.heap.size]? = some (.cells #[.slice b0 n l0, .slice a1 n k1, .slice a2 n k2] 35 (0, 0)) := by rw [setCell_block hb]; rfl
  have hb2 : ((W.setCell ⟨w.heap.size, 0, none⟩ (.slice b0 n l0)).setCell ⟨w.heap.size, 1, none⟩ (.slice b1 n l1)).heap[w.heap.size]? = some (.cells #[.slice b0 n l0, .slice b1 n l1, .slice a2 n k2] 35 (0, 0)) := by rw [setCell_block hb1]; rfl
  have keep : ∀ {bs : Nat} {e : TypeId} {v : Value} {m : Nat} {xs : List Value}, W.ownsRow bs e 1 v m xs → e ≠ 35 → (((W.setCell ⟨w.heap.size, 0, none⟩ (.slice b0 n l0)).setCell ⟨w.heap.size, 1, none⟩ (.slice b1 n l1)).setCell ⟨w.heap.size, 2, none⟩ (.slice b2 n l2)).ownsRow bs e 1 v m xs := fun ho hne =>
    ownsRow_setCell_other (ownsRow_setCell_other (ownsRow_setCell_other ho (a := ⟨w.heap.size, 0, none⟩) (own_ne ho hb hne) _) (a := ⟨w.heap.size, 1, none⟩) (own_ne ho hb hne) _) (a := ⟨w.heap.size, 2, none⟩) (own_ne ho hb hne) _
  refine ⟨Tb.set_other (Tb.set_other (Tb.set_other h.t hb (by decide) (by omega) (by omega) _) hb1 (by decide) (by omega) (by omega) _) hb2 (by decide) (by omega) (by omega) _, ?_, ?_, ⟨keep ho.o0 (by decide), keep ho.o1 (by decide), keep ho.o2 (by decide), ho.n02⟩, keep h.row (by decide), ?_, ?_, h.pw, h.qw, h.tw, h.bp⟩
  · have e1 : 0 ≠ w.heap.size := by have := h.tw; have := h.bp.1; omega
    exact ((h.tab.blk e1 _).blk e1 _).blk e1 _
  · rw [setCell_block hb2]; rfl
  · exact (Below.heap_setCell _ _ _ _ (by dsimp only; omega)).trans ((Below.heap_setCell _ _ _ _ (by dsimp only; omega)).trans ((Below.heap_setCell _ _ _ _ (by dsimp only; omega)).trans h.rb))
  · have f := h.fr
    refine ⟨f.os, f.tape, f.output, by simp only [World.size_setCell]; exact f.size, fun k hk h1 h2 => ?_⟩
    exact (Below.heap_setCell _ _ _ _ (by dsimp only; omega)).trans ((Below.heap_setCell _ _ _ _ (by dsimp only; omega)).trans ((Below.heap_setCell _ _ _ _ (by dsimp only; omega)).trans (f.block k hk h1 h2)))
/-- a handle more -/
theorem PL.give {W1 : World} {h : Int} {N c g : Nat} (H : PL w W B p q n st su K a0 k0 a1 k1 a2 k2 r) (hN : K.length = N) (ho : W1.ownsRow w.heap.size 2 1 (.slice (some ⟨g, 0, none⟩) (N + 1) c) (N + 1) (kH K ++ [.int .i64 h])) (hg : (W.alloc (.cells #[.int .i64 h] 2)).grownBy W1 r.ownBlock) :
    PL w W1 B p q n st su (K ++ [(h, false, 0)]) a0 k0 a1 k1 a2 k2 (.slice (some ⟨g, 0, none⟩) (N + 1) c) := by
  have N1 : ∀ {k : Nat} {cs : Array Value} {t : TypeId}, W.heap[k]? = some (.cells cs t (0, 0)) → 2 ≠ t → W1.heap[k]? = some (.cells cs t (0, 0)) := fun hk hne =>
    (hg.block _ (by simp; have := blk_lt hk; omega) (fun e => own_ne H.row hk hne e.symm)).trans ((Below.heap_alloc _ _ _ (blk_lt hk)).trans hk)
  have keep : ∀ {bs : Nat} {e : TypeId} {v : Value} {m : Nat} {xs : List Value}, W.ownsRow bs e 1 v m xs → 2 ≠ e → W1.ownsRow bs e 1 v m xs := fun ho hne => by
    refine ⟨ho.1, ?_⟩
    rcases ho.2 with h3 | ⟨g, cap, cur, e1, e2, e3, e4⟩
    · exact .inl h3
    · exact .inr ⟨g, cap, cur, e1, e2, N1 e3 hne, e4⟩
  have hsz := H.fr.size
  have low : ∀ k, k < w.heap.size → W1.heap[k]? = W.heap[k]? := fun k hk =>
    (hg.block k (by simp; omega) (fun e => by have := (H.row.lt k e.symm).1; omega)).trans (Below.heap_alloc _ _ _ (by omega))
  obtain ⟨ra, rcap, h1, h2⟩ := Tb.tbl H.t
  refine ⟨⟨H.t.hp, H.t.hq, H.t.ne, H.t.n1, H.t.n2, ⟨ra, rcap, N1 h1 (by decide), keep h2 (by decide)⟩, N1 H.t.slots (by decide), H.t.rb⟩, fun i hi => ?_, N1 H.bx (by decide), ⟨keep H.oa.o0 (by decide), keep H.oa.o1 (by decide), keep H.oa.o2 (by decide), H.oa.n02⟩, ?_, N1 H.rb (by decide), ?_, H.pw, H.qw, H.tw, H.bp⟩
  · rw [World.cell?_of_block (w := W) (low 0 (by have := H.tw; have := H.bp.1; have := H.pw; omega))]
    exact H.tab i hi
  · rw [List.length_append, hN, show kH (K ++ [(h, false, 0)]) = kH K ++ [.int .i64 h] by simp [kH]]
    exact ho
  · have f := H.fr
    refine ⟨hg.os.trans f.os, hg.tape.trans f.tape, hg.output.trans f.output, Nat.le_trans hsz (by have := hg.size; simp at this; omega), fun k hk h1 h2 => (low k hk).trans (f.block k hk h1 h2)⟩
end
end Go.Proofs.YtpaecmpiokkdnaaDoor

namespace Go.Proofs.YtpaecmpiokkdnaaDoor.Thing
open Go.RowKit Go.Sort Go.Joins

def thing : ByteArray := ⟨#[116, 104, 105, 110, 103]⟩
def zOf : Value → Int
  | .int _ z => z
  | _ => 0
/-- the slot of Things that belongs to a slot of ints -/
def thS (s : Slt) : Slt := (s.1, s.2.1, if s.2.1 = true then tv thing (zOf s.2.2) else zT)
def tS (st : List Slt) : List Slt := st.map thS
section
variable {st : List Slt} {i : Nat} {h : Int}
theorem tS_len : (tS st).length = st.length := by simp [tS]
theorem tS_get (hi : i < st.length) : (tS st).getD i (0, false, undef) = thS (st.getD i (0, false, undef)) := by simp [tS, List.getD_eq_getElem?_getD, hi]
theorem tS_1 (i : Nat) : ((tS st).getD i (0, false, undef)).1 = (st.getD i (0, false, undef)).1 := by
  by_cases hi : i < st.length
  · rw [tS_get hi]; rfl
  · simp [tS, List.getD_eq_getElem?_getD, List.getElem?_eq_none (show st.length ≤ i by omega)]
theorem tS_2 (i : Nat) : ((tS st).getD i (0, false, undef)).2.1 = (st.getD i (0, false, undef)).2.1 := by
  by_cases hi : i < st.length
  · rw [tS_get hi]; rfl
  · simp [tS, List.getD_eq_getElem?_getD, List.getElem?_eq_none (show st.length ≤ i by omega)]
theorem tS_find : findE (tS st) h = findE st h := by
  unfold findE atH
  rw [tS_len, tS_1, tS_2]
theorem tS_rdy : rdyF (tS st) = rdyF st := by
  funext j
  unfold rdyF rdy
  rw [tS_len, tS_1, tS_2]
theorem tS_cnt : (tS st).countP alv = st.countP alv := by
  unfold tS
  rw [List.countP_map]
  rfl
theorem tS_set (s : Slt) : tS (st.set i s) = (tS st).set i (thS s) := by unfold tS; rw [List.map_set]
theorem tS_rep (n : Nat) : tS (List.replicate n (0, false, .int .i64 0)) = List.replicate n (0, false, zT) := by
  unfold tS
  rw [List.map_replicate]
  rfl
theorem tS_gF : gF (tS st) = gF st := by funext j; unfold gF; rw [tS_1]
theorem tS_aF : aF (tS st) = aF st := by funext j; unfold aF; rw [tS_2]
/-- every value is a Thing -/
theorem tS_tv (hi : i < st.length) : ∃ (xs : ByteArray) (x : Int), ((tS st).getD i (0, false, undef)).2.2 = tv xs x := by
  rw [tS_get hi]
  unfold thS
  by_cases h : (st.getD i (0, false, undef)).2.1 = true
  · simp only [h, ↓reduceIte]; exact ⟨_, _, rfl⟩
  · simp only [h]; exact ⟨_, _, rfl⟩
theorem tS_alive {z : Int} (hi : i < st.length) (ha : (st.getD i (0, false, undef)).2.1 = true) (hz : (st.getD i (0, false, undef)).2.2 = .int .i64 z) : ((tS st).getD i (0, false, undef)).2.2 = tv thing z := by
  rw [tS_get hi]
  unfold thS
  rw [ha, hz]
  rfl
/-- a state whose dead slots hold nothing is laid as it is -/
theorem stP_self {n : Nat} {Z : Value} (hl : st.length = n) (hz : ∀ j, j < st.length → (st.getD j (0, false, undef)).2.1 = false → (st.getD j (0, false, undef)).2.2 = Z) : stP n (gF st) (aF st) (vF st) Z n = st := by
  apply List.ext_getElem?
  intro j
  by_cases hj : j < n
  · have e1 := stP_get (n := n) (G := gF st) (A := aF st) (V := vF st) (Z := Z) (i := n) (d := (0, false, undef)) hj
    rw [if_pos hj, List.getD_eq_getElem?_getD, List.getElem?_eq_getElem (by rw [stP_length]; exact hj)] at e1
    rw [List.getElem?_eq_getElem (by rw [stP_length]; exact hj), List.getElem?_eq_getElem (by omega)]
    simp only [Option.getD_some] at e1
    rw [e1]
    have e2 : st.getD j (0, false, undef) = st[j] := by rw [List.getD_eq_getElem?_getD, List.getElem?_eq_getElem (by omega)]; rfl
    have hz' := hz j (by omega)
    unfold gF aF vF
    rw [e2] at hz' ⊢
    obtain ⟨⟨g, al, v⟩, hs⟩ : ∃ s, s = st[j] := ⟨_, rfl⟩
    rw [← hs] at hz' ⊢
    dsimp only at hz' ⊢
    cases al with
    | true => simp
    | false => simp [hz']
  · rw [List.getElem?_eq_none (by rw [stP_length]; omega), List.getElem?_eq_none (by omega)]
theorem tS_dz (j : Nat) (hj : j < (tS st).length) (h : ((tS st).getD j (0, false, undef)).2.1 = false) : ((tS st).getD j (0, false, undef)).2.2 = zT := by
  rw [tS_len] at hj
  rw [tS_get hj] at h ⊢
  unfold thS at *
  dsimp only at h ⊢
  rw [h]; rfl
theorem hc_ps {n : Nat} (hp : PS n st) (h1 : 1 ≤ n) (h2 : n ≤ 1024) : hcE n n n (gF st) (aF st) = 0 := by
  refine (hc_good (by omega) fun j hj => ?_).2.symm
  have hj' : j < st.length := by rw [hp.len]; exact hj
  have a := hp.gb j hj'
  have b := hp.one j hj'
  unfold badS gF aF
  obtain ⟨⟨g, al, v⟩, hS⟩ : ∃ s, st.getD j (0, false, undef) = s := ⟨_, rfl⟩
  rw [hS] at a b ⊢
  dsimp only at a b ⊢
  cases al with
  | true =>
    have := b rfl
    simp
    omega
  | false => simp; omega
end

/-- what lies in memory: the int table has the slots st, the Things' table those of su -/
structure TL (w W : World) (p q p' q' : Nat) (st su : List Slt) (K : List Kn) (r : Value) : Prop where
  t : Int.TT W w.heap.size p q st
  u : TT W w.heap.size p' q' (tS su)
  tab : Tab W
  row : W.ownsRow w.heap.size 2 1 r K.length (kH K)
  k : Below w.heap.size w W
  tw : 0 < w.heap.size
  n1 : p ≠ p' ∧ p ≠ q' ∧ q ≠ p' ∧ q ≠ q'
section
variable {w W W' : World} {p q p' q' : Nat} {st st' su su' : List Slt} {K : List Kn} {r : Value}
theorem TL.below (h : TL w W p q p' q' st su K r) (hb : Below W.heap.size W W') : TL w W' p q p' q' st su K r :=
  ⟨Go.Proofs.YtpaecmpiokkdnaaDoor.Tg.below h.t hb, Tg.below h.u hb, h.tab.below hb, own_below h.row hb, h.k.trans (hb.mono h.k.size), h.tw, h.n1⟩
theorem TL.int (h : TL w W p q p' q' st su K r) (ht : Int.TT W' w.heap.size p q st') (f : Fr p q W W') : TL w W' p q p' q' st' su K r := by
  obtain ⟨ra, rcap, h1, _⟩ := Go.Proofs.YtpaecmpiokkdnaaDoor.Tb.tbl h.t
  have h2 := Go.Proofs.YtpaecmpiokkdnaaDoor.Tb.slots h.t
  have hp := Go.Proofs.YtpaecmpiokkdnaaDoor.Tb.hp h.t
  have hq := Go.Proofs.YtpaecmpiokkdnaaDoor.Tb.hq h.t
  obtain ⟨rb, rc, u1, u2⟩ := Tb.tbl h.u
  have u3 := Tb.slots h.u
  have n1 := h.n1
  have tw := h.tw
  refine ⟨ht, ⟨Tb.hp h.u, Tb.hq h.u, Tb.ne h.u, Tb.n1 h.u, Tb.n2 h.u, ⟨rb, rc, (f.block _ (blk_lt u1) (by omega) (by omega)).trans u1, own_fr u2 f h1 h2 (by decide) (by decide)⟩, (f.block _ (blk_lt u3) (by omega) (by omega)).trans u3, Tb.rb h.u⟩,
    h.tab.fr f (by omega) (by omega), own_fr h.row f h1 h2 (by decide) (by decide), ?_, tw, n1⟩
  exact h.k.trans ⟨f.os, f.tape, f.output, f.size, fun k hk => f.block k (by have := h.k.size; omega) (by omega) (by omega)⟩
theorem TL.things (h : TL w W p q p' q' st su K r) (hu : TT W' w.heap.size p' q' (tS su')) (f : Fr p' q' W W') : TL w W' p q p' q' st su' K r := by
  obtain ⟨ra, rcap, h1, _⟩ := Tb.tbl h.u
  have h2 := Tb.slots h.u
  have hp := Tb.hp h.u
  have hq := Tb.hq h.u
  obtain ⟨rb, rc, u1, u2⟩ := Go.Proofs.YtpaecmpiokkdnaaDoor.Tb.tbl h.t
  have u3 := Go.Proofs.YtpaecmpiokkdnaaDoor.Tb.slots h.t
  have n1 := h.n1
  have tw := h.tw
  refine ⟨⟨Go.Proofs.YtpaecmpiokkdnaaDoor.Tb.hp h.t, Go.Proofs.YtpaecmpiokkdnaaDoor.Tb.hq h.t, Go.Proofs.YtpaecmpiokkdnaaDoor.Tb.ne h.t, Go.Proofs.YtpaecmpiokkdnaaDoor.Tb.n1 h.t, Go.Proofs.YtpaecmpiokkdnaaDoor.Tb.n2 h.t, ⟨rb, rc, (f.block _ (blk_lt u1) (by omega) (by omega)).trans u1, own_fr u2 f h1 h2 (by decide) (by decide)⟩, (f.block _ (blk_lt u3) (by omega) (by omega)).trans u3, Go.Proofs.YtpaecmpiokkdnaaDoor.Tb.rb h.t⟩, hu,
    h.tab.fr f (by omega) (by omega), own_fr h.row f h1 h2 (by decide) (by decide), ?_, tw, n1⟩
  exact h.k.trans ⟨f.os, f.tape, f.output, f.size, fun k hk => f.block k (by have := h.k.size; omega) (by omega) (by omega)⟩
/-- a handle more -/
theorem TL.give {W1 : World} {h : Int} {N c g : Nat} (H : TL w W p q p' q' st su K r) (hN : K.length = N) (ho : W1.ownsRow w.heap.size 2 1 (.slice (some ⟨g, 0, none⟩) (N + 1) c) (N + 1) (kH K ++ [.int .i64 h])) (hg : (W.alloc (.cells #[.int .i64 h] 2)).grownBy W1 r.ownBlock) :
    TL w W1 p q p' q' st su (K ++ [(h, false, 0)]) (.slice (some ⟨g, 0, none⟩) (N + 1) c) := by
  have N1 : ∀ {k : Nat} {cs : Array Value} {t : TypeId}, W.heap[k]? = some (.cells cs t (0, 0)) → 2 ≠ t → W1.heap[k]? = some (.cells cs t (0, 0)) := fun hk hne =>
    (hg.block _ (by simp; have := blk_lt hk; omega) (fun e => own_ne H.row hk hne e.symm)).trans ((Below.heap_alloc _ _ _ (blk_lt hk)).trans hk)
  have keep : ∀ {bs : Nat} {e : TypeId} {v : Value} {m : Nat} {xs : List Value}, W.ownsRow bs e 1 v m xs → 2 ≠ e → W1.ownsRow bs e 1 v m xs := fun ho hne => by
    refine ⟨ho.1, ?_⟩
    rcases ho.2 with h3 | ⟨g, cap, cur, e1, e2, e3, e4⟩
    · exact .inl h3
    · exact .inr ⟨g, cap, cur, e1, e2, N1 e3 hne, e4⟩
  have hsz := H.k.size
  have low : ∀ k, k < w.heap.size → W1.heap[k]? = W.heap[k]? := fun k hk =>
    (hg.block k (by simp; omega) (fun e => by have := (H.row.lt k e.symm).1; omega)).trans (Below.heap_alloc _ _ _ (by omega))
  obtain ⟨ra, rcap, h1, h2⟩ := Go.Proofs.YtpaecmpiokkdnaaDoor.Tb.tbl H.t
  obtain ⟨rb, rc, u1, u2⟩ := Tb.tbl H.u
  refine ⟨⟨Go.Proofs.YtpaecmpiokkdnaaDoor.Tb.hp H.t, Go.Proofs.YtpaecmpiokkdnaaDoor.Tb.hq H.t, Go.Proofs.YtpaecmpiokkdnaaDoor.Tb.ne H.t, Go.Proofs.YtpaecmpiokkdnaaDoor.Tb.n1 H.t, Go.Proofs.YtpaecmpiokkdnaaDoor.Tb.n2 H.t, ⟨ra, rcap, N1 h1 (by decide), keep h2 (by decide)⟩, N1 (Go.Proofs.YtpaecmpiokkdnaaDoor.Tb.slots H.t) (by decide), Go.Proofs.YtpaecmpiokkdnaaDoor.Tb.rb H.t⟩,
    ⟨Tb.hp H.u, Tb.hq H.u, Tb.ne H.u, Tb.n1 H.u, Tb.n2 H.u, ⟨rb, rc, N1 u1 (by decide), keep u2 (by decide)⟩, N1 (Tb.slots H.u) (by decide), Tb.rb H.u⟩, fun i hi => ?_, ?_, ?_, H.tw, H.n1⟩
  · rw [World.cell?_of_block (w := W) (low 0 H.tw)]
    exact H.tab i hi
  · rw [List.length_append, hN, show kH (K ++ [(h, false, 0)]) = kH K ++ [.int .i64 h] by simp [kH]]
    exact ho
  · exact H.k.trans ⟨hg.os, hg.tape, hg.output, by have := hg.size; simp at this; omega, fun k hk => low k hk⟩
end
end Go.Proofs.YtpaecmpiokkdnaaDoor.Thing

namespace Go.Proofs.YtpaecmpiokkdnaaDoor
open Go.RowKit Go.Sort Go.Joins

/-- rows of their own that read as a list of slots -/
abbrev OS (w : World) (n : Nat) (st : List Slt) (a0 : Option Addr) (k0 : Nat) (a1 : Option Addr) (k1 : Nat) (a2 : Option Addr) (k2 : Nat) : Prop := OA w 0 n (zI (gF st)) (zB (aF st)) (vF st) (.slice a0 n k0) (.slice a1 n k1) (.slice a2 n k2)
section
variable {w : World} {n : Nat} {st : List Slt} {a0 a1 a2 : Option Addr} {k0 k1 k2 : Nat}
theorem OS.ra (h : OS w n st a0 k0 a1 k1 a2 k2) (hn : st.length = n) : RA w st a0 a1 a2 := by subst hn; exact ⟨SlF.of_row h.o0, SlF.of_row h.o1, SlF.of_row h.o2⟩
theorem ROA.os {x : Value} (h : ROA w x st) (hn : st.length = n) : ∃ a0 k0 a1 k1 a2 k2, x = .agg #[.slice a0 n k0, .slice a1 n k1, .slice a2 n k2] ∧ OS w n st a0 k0 a1 k1 a2 k2 := by
  subst hn
  obtain ⟨B, a0, k0, a1, k1, a2, k2, e, h⟩ := h
  exact ⟨a0, k0, a1, k1, a2, k2, e, h.base⟩
theorem pget (h : Int) (W : World) (hp : PS n st) (ho : OS W n st a0 k0 a1 k1 a2 k2) (hn : n ≤ 1024) :
    Calls Tryd.prog 48 #[.agg #[.slice a0 n k0, .slice a1 n k1, .slice a2 n k2], .int .i64 h] W fun e w' => e = .returned (.tuple #[getV st h, .int .i64 (findE st h)]) ∧ Below W.heap.size W w' := by
  obtain rfl := hp.len
  exact rget_ok h W (ho.ra rfl) hn hp.iv
theorem pset_err (h v : Int) (W : World) (hp : PS n st) (ho : OS W n st a0 k0 a1 k1 a2 k2) (hn : n ≤ 1024) (he : findE st h ≠ 0) :
    Calls Tryd.prog 70 #[.agg #[.slice a0 n k0, .slice a1 n k1, .slice a2 n k2], .int .i64 h, .int .i64 v] W fun e w' => e = .returned (.tuple #[.agg #[.slice a0 n k0, .slice a1 n k1, .slice a2 n k2], .int .i64 (findE st h)]) ∧ Below W.heap.size W w' := by
  obtain rfl := hp.len
  exact rset_err h v W (ho.ra rfl) hn he
theorem pset_ok (h v : Int) (i : Nat) (W : World) (hp : PS n st) (ho : OS W n st a0 k0 a1 k1 a2 k2) (h1 : 1 ≤ n) (hn : n ≤ 1024) (he : findE st h = 0) (hi : slotI h = i) :
    Calls Tryd.prog 70 #[.agg #[.slice a0 n k0, .slice a1 n k1, .slice a2 n k2], .int .i64 h, .int .i64 v] W fun e w' => ∃ b0 l0 b1 l1 b2 l2, e = .returned (.tuple #[.agg #[.slice b0 n l0, .slice b1 n l1, .slice b2 n l2], .int .i64 0]) ∧
      OS w' n (st.set i ((st.getD i (0, false, undef)).1, (st.getD i (0, false, undef)).2.1, .int .i64 v)) b0 l0 b1 l1 b2 l2 ∧ Below W.heap.size W w' := by
  obtain rfl := hp.len
  refine (rset_ok h v i W (ho.ra rfl) hp.iv hp.dz h1 hn he hi).mono ?_
  rintro e w' ⟨x, rfl, hr, hb⟩
  obtain ⟨b0, l0, b1, l1, b2, l2, rfl, hr2⟩ := hr.os (List.length_set ..)
  exact ⟨b0, l0, b1, l1, b2, l2, rfl, hr2, hb⟩
theorem pdrop_err (h : Int) (W : World) (hp : PS n st) (ho : OS W n st a0 k0 a1 k1 a2 k2) (hn : n ≤ 1024) (he : findE st h ≠ 0) :
    Calls Tryd.prog 71 #[.agg #[.slice a0 n k0, .slice a1 n k1, .slice a2 n k2], .int .i64 h] W fun e w' => e = .returned (.tuple #[.agg #[.slice a0 n k0, .slice a1 n k1, .slice a2 n k2], .int .i64 0, .int .i64 (findE st h)]) ∧ Below W.heap.size W w' := by
  obtain rfl := hp.len
  exact rdrop_err h W (ho.ra rfl) hn he
theorem pdrop_ok (h : Int) (i : Nat) (W : World) (hp : PS n st) (ho : OS W n st a0 k0 a1 k1 a2 k2) (h1 : 1 ≤ n) (hn : n ≤ 1024) (he : findE st h = 0) (hi : slotI h = i) :
    Calls Tryd.prog 71 #[.agg #[.slice a0 n k0, .slice a1 n k1, .slice a2 n k2], .int .i64 h] W fun e w' => ∃ b0 l0 b1 l1 b2 l2, e = .returned (.tuple #[.agg #[.slice b0 n l0, .slice b1 n l1, .slice b2 n l2], (st.getD i (0, false, undef)).2.2, .int .i64 0]) ∧
      OS w' n (st.set i ((st.getD i (0, false, undef)).1, false, .int .i64 0)) b0 l0 b1 l1 b2 l2 ∧ Below W.heap.size W w' := by
  obtain rfl := hp.len
  refine (rdrop_ok h i W (ho.ra rfl) hp.iv hp.dz h1 hn he hi).mono ?_
  rintro e w' ⟨x, rfl, hr, hb⟩
  obtain ⟨b0, l0, b1, l1, b2, l2, rfl, hr2⟩ := hr.os (List.length_set ..)
  exact ⟨b0, l0, b1, l1, b2, l2, rfl, hr2, hb⟩
theorem pput_full (v : Int) (W : World) (hp : PS n st) (ho : OS W n st a0 k0 a1 k1 a2 k2) (hn : n ≤ 1024) (hf : ¬ nxt (rdyF st) 0 st.length < st.length) :
    Calls Tryd.prog 72 #[.agg #[.slice a0 n k0, .slice a1 n k1, .slice a2 n k2], .int .i64 v] W fun e w' => e = .returned (.tuple #[.agg #[.slice a0 n k0, .slice a1 n k1, .slice a2 n k2], .int .i64 0, .int .i64 5]) ∧ Below W.heap.size W w' := by
  obtain rfl := hp.len
  obtain ⟨_, s2, s3, _⟩ := nxt_spec (p := rdyF st) (a := 0) (n := st.length) (Nat.zero_le _)
  exact rput_full v W (ho.ra rfl) hn hp.gb (fun j hj => s3 j (Nat.zero_le _) (by omega))
theorem pput_ok (v : Int) (i : Nat) (W : World) (hp : PS n st) (ho : OS W n st a0 k0 a1 k1 a2 k2) (h1 : 1 ≤ n) (hn : n ≤ 1024) (hi : nxt (rdyF st) 0 st.length = i) (hlt : i < st.length) :
    Calls Tryd.prog 72 #[.agg #[.slice a0 n k0, .slice a1 n k1, .slice a2 n k2], .int .i64 v] W fun e w' => ∃ b0 l0 b1 l1 b2 l2, e = .returned (.tuple #[.agg #[.slice b0 n l0, .slice b1 n l1, .slice b2 n l2], .int .i64 ((((st.getD i (0, false, undef)).1 : Int) + 1) * 65536 + i), .int .i64 0]) ∧
      OS w' n (st.set i ((st.getD i (0, false, undef)).1 + 1, true, .int .i64 v)) b0 l0 b1 l1 b2 l2 ∧ Below W.heap.size W w' := by
  obtain rfl := hp.len
  obtain ⟨_, s2, s3, _⟩ := nxt_spec (p := rdyF st) (a := 0) (n := st.length) (Nat.zero_le _)
  refine (rput_ok v i W (ho.ra rfl) hp.iv hp.dz h1 hn hp.gb (Int.next_at hi hlt) (fun j hj => s3 j (Nat.zero_le _) (by omega))).mono ?_
  rintro e w' ⟨x, rfl, hr, hb⟩
  obtain ⟨b0, l0, b1, l1, b2, l2, rfl, hr2⟩ := hr.os (List.length_set ..)
  exact ⟨b0, l0, b1, l1, b2, l2, rfl, hr2, hb⟩
theorem plen (W : World) (hp : PS n st) (ho : OS W n st a0 k0 a1 k1 a2 k2) (hn : n ≤ 1024) :
    Calls Tryd.prog 73 #[.agg #[.slice a0 n k0, .slice a1 n k1, .slice a2 n k2]] W fun e w' => e = .returned (.int .i64 ((st.countP alv : Nat) : Int)) ∧ Below W.heap.size W w' := by
  obtain rfl := hp.len
  exact rlen_ok W (ho.ra rfl) hn
theorem proom (W : World) (hp : PS n st) (ho : OS W n st a0 k0 a1 k1 a2 k2) (hn : n ≤ 1024) :
    Calls Tryd.prog 74 #[.agg #[.slice a0 n k0, .slice a1 n k1, .slice a2 n k2]] W fun e w' => e = .returned (.int .i64 ((cnt (rdyF st) 0 st.length : Nat) : Int)) ∧ Below W.heap.size W w' := by
  have e : cnt (rdyF st) 0 st.length = st.countP rdy := by
    rw [← cnt_st rdy st]
    exact cnt_congr _ fun i hi => by unfold rdyF; simp [hi]
  rw [e]
  obtain rfl := hp.len
  exact rroom_ok W (ho.ra rfl) hn
end
end Go.Proofs.YtpaecmpiokkdnaaDoor
