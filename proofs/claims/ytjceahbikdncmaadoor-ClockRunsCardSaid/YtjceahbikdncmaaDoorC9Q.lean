/- Clocks: the reference's Run. -/
import Derived.Test.YtjceahbikdncmaaDoorC9Z
import Derived.BigRegion
import Derived.Deep.RegionLaw
import Derived.Deep.Cut
namespace Go.Proofs.YtjceahbikdncmaaDoor
open Go.RowKit Go.Sort Go.Joins Go.Shelf
attribute [local go_sem] cell_grow frozen_grow size_grow Oper.semAt_some
section
variable {P : Program} (w : World)
theorem step_append_any {ops : Array Oper} {o : Oper} {a : Act} {K : Act → World → Prop} {Q : Exit → Act → World → Prop} {E : Prop} (hgd : o.guard = none) (s x : Operand) (t : TypeId)
    (ho : o.op = .call { callee := .builtin .append, args := #[s, x], argTypes := #[t, t] })
    (base : Nat) (e : TypeId) (i : TypeInfo) (z : Value) (size bytes : Nat) (ht : P.underlying t = some (.slice e)) (hi : P.info? e = some i) (hz : i.zero = some z)
    (hsize : i.size = size) (hby : i.bytes = bytes) (hzs : z.cells.size = size) (hsz : 0 < size)
    (v : Value) (n : Nat) (xs : List Value) (hs : a.eval s = v) (hown : w.ownsRow base e size v n xs)
    (B : Nat) (A : Option Addr) (m c : Nat) (news : List Value) (hx : a.eval x = .slice A m c) (hr : Reads w B size A m news) (h1 : ∀ u ∈ news, u.oneCell' = true)
    (h63 : n + m ≤ maxLen) (hbytes : (n + m) * bytes ≤ 140737488355328) (hbase : base ≤ w.heap.size)
    (h : ∀ v' w', w'.ownsRow base e size v' (n + m) (xs ++ news) → w.grownBy w' v.ownBlock → (v'.ownBlock = v.ownBlock ∨ v'.ownBlock = some w.heap.size) → K (a.put o.dst v') w') :
    if Region.wanted o (yielded ops a.tmps) = true then Oper.wp P o a w K Q else E := by
  have hw : Region.wanted o (yielded ops a.tmps) = true := by simp [Region.wanted, hgd]
  rw [if_pos hw]
  exact wp_append_any w s x t ho base e i z size bytes ht hi hz hsize hby hzs hsz v n xs hs hown B A m c news hx hr h1 h63 hbytes hbase h
end
theorem pos_nextR {a : Int × Int} (h : AlOk a) {c : Nat} (hp : 0 ≤ pos a c) : pos a (c + 1) = if a.2 = 0 ∨ 1000000000000 < pos a c + a.2 then -1 else pos a c + a.2 := by
  obtain ⟨e1, e2, e3⟩ := pos_nonneg h hp
  rw [e1]
  have hm : ((c + 1 : Nat) : Int) * a.2 = (c : Int) * a.2 + a.2 := by rw [Int.natCast_add, Int.add_mul]; simp
  by_cases h0 : a.2 = 0
  · rw [if_pos (.inl h0)]
    unfold pos
    rw [if_pos h0, if_neg (by omega)]
  · have hd : pos a (c + 1) = if a.1 + ((c + 1 : Nat) : Int) * a.2 ≤ MT then a.1 + ((c + 1 : Nat) : Int) * a.2 else -1 := by unfold pos; rw [if_neg h0]
    rw [hd, hm, MT_eq]
    by_cases h1 : 1000000000000 < a.1 + (c : Int) * a.2 + a.2
    · rw [if_neg (by omega), if_pos (Or.inr h1)]
    · rw [if_pos (by omega), if_neg (by omega)]; omega
/-- the next times of a plan -/
abbrev fc (R : Nat → Al) (c : Nat → Nat) (i : Nat) : Int := pos (alP R i) (c i)
theorem SlA.grown {w w' : World} {a : Option Addr} {n : Nat} {R : Nat → Al} {row : Option Nat} (h : SlA w a n R) (hg : w.grownBy w' row) (hr : ∀ q, a = some q → some q.block ≠ row) : SlA w' a n R := by
  rcases h with h | ⟨b, o, ha, hc⟩
  · exact .inl h
  · refine .inr ⟨b, o, ha, fun j hj => ?_⟩
    obtain ⟨h0, h1, h2⟩ := hc j hj
    have hl := World.block_lt_of_cell? _ _ h0
    dsimp only at hl
    have hne := hr _ ha
    have hb := hg.block b hl hne
    exact ⟨(World.cell?_of_block hb).trans h0, (World.cell?_of_block hb).trans h1, (World.cell?_of_block hb).trans h2⟩
/-- what the loop of the reference's Run keeps -/
structure RR (w : World) (B n : Nat) (R : Nat → Al) (u : Int) (c : Nat → Nat) (L : List (Int × Nat)) (v : Value) (ap : Option Addr) (cp : Nat) (W : World) : Prop where
  k : Below w.heap.size w W
  rg : RgAt n (alP R) u c L
  own : W.ownsRow B 45 2 v L.length (rgc (L.map (rgN R)))
  p : BoxA W w.heap.size ap (curL R (fc R c) 0 n).length cp
  sl : SlA W ap (curL R (fc R c) 0 n).length (fun j => (curL R (fc R c) 0 n).getD j al0)
  b5 : BoxA W (w.heap.size + 1) none 0 0
  ne : ∀ r, v.ownBlock = some r → ∀ q, ap = some q → q.block ≠ r
  hB : w.heap.size + 2 ≤ B
  hW : B ≤ W.heap.size
  le : L.length ≤ 1000
section
variable {w W W' : World} {B n cp : Nat} {R : Nat → Al} {u : Int} {c : Nat → Nat} {L : List (Int × Nat)} {v : Value} {ap : Option Addr}
theorem RR.below (h : RR w B n R u c L v ap cp W) (hb : Below W.heap.size W W') : RR w B n R u c L v ap cp W' :=
  ⟨below_tr h.k hb, h.rg, own_below h.own hb, (hb.block _ (blk_lt h.p)).trans h.p, h.sl.below hb, (hb.block _ (blk_lt h.b5)).trans h.b5, h.ne, h.hB, Nat.le_trans h.hW hb.size, h.le⟩
theorem cur_ok (hP : PlOk n R) {j : Nat} (hj : j < (curL R (fc R c) 0 n).length) : AlOk ((curL R (fc R c) 0 n).getD j al0).2 := by
  have e : (curL R (fc R c) 0 n).getD j al0 = (curL R (fc R c) 0 n)[j] := by simp [List.getD, hj]
  rw [e]
  obtain ⟨k, _, hk, hk0, hy⟩ := cur_mem.1 (List.getElem_mem hj)
  rw [hy]
  have ha := hP.ok k (by omega)
  obtain ⟨_, p2, _⟩ := pos_nonneg (a := alP R k) ha hk0
  exact ⟨hk0, p2, ha.e0, ha.e1⟩
end
/-- what the reference's Run hands back -/
def RRunPost (w : World) (n : Nat) (R : Nat → Al) (u : Int) (e : Ending) (w' : World) : Prop :=
  (rnE n R u = 0 ∧ RunPost w n R u e w') ∨ (rnE n R u ≠ 0 ∧ e = .returned (.tuple #[.slice none 0 0, .agg #[.slice none 0 0], .int .i64 (rnE n R u)]) ∧ Below w.heap.size w w')
section
variable {w : World} {a : Option Addr} {n c : Nat} {R : Nat → Al} {u : Int}
set_option maxRecDepth 100000 in
set_option maxHeartbeats 3200000 in
theorem rrun_bad (hS : SlA w a n R) (hn : n ≤ 9223372036854775807) (hR : ∀ j, j < n → AlB (R j)) (hE : ctE n R u ≠ 0) :
    Calls Tryd.prog 12 #[pV a n c, .int .i64 u] w (RRunPost w n R u) := by
  have b1 : Below w.heap.size w ((w.alloc (.cells #[.slice a n c] 24)).alloc (.cells #[.slice none 0 0] 24)) := ((Below.refl _ w).alloc (Nat.le_refl _) _).alloc (by simp) _
  have h5 : BoxA ((w.alloc (.cells #[.slice a n c] 24)).alloc (.cells #[.slice none 0 0] 24)) (w.heap.size + 1) none 0 0 := by
    have := heap_alloc_new (w.alloc (.cells #[.slice a n c] 24)) (.cells #[.slice none 0 0] 24)
    rwa [World.size_alloc] at this
  have HC := Lib.hid (rCheck_ok (c := c) (hS.below b1) hn hR)
  have HB := Lib.hid b1
  have H5 := Lib.hid h5
  have HT := Lib.hid (rtime_ok u)
  have hrn : rnE n R u = ctE n R u := by unfold rnE; rw [if_pos hE]
  have hw : (cE n R ≠ 0 ∧ ctE n R u = cE n R) ∨ (cE n R = 0 ∧ tmB u = false ∧ ctE n R u = 7) := by
    unfold ctE at hE ⊢
    by_cases h0 : cE n R = 0
    · right
      rw [if_neg (by simpa using h0)] at hE ⊢
      cases ht : tmB u with
      | true => rw [ht] at hE; simp at hE
      | false => exact ⟨h0, rfl, by simp⟩
    · exact .inl ⟨h0, if_pos h0⟩
  clear hS hR b1 h5
  rcases hw with ⟨h0, he⟩ | ⟨h0, ht, he⟩
  · rw [he] at hrn
    obtain ⟨e0, he0⟩ : ∃ e, cE n R = e := ⟨_, rfl⟩
    rw [he0] at HC h0 hrn
    have d0 := bne0_true h0
    have d1 : (e0 == 0) = false := by simpa using h0
    have HR := Lib.hid hrn
    have H0 := Lib.hid h0
    clear he he0 h0 hrn hE
    go_enter Tryd.func12, Tryd.ntmps12
    go_wp2_with fail
    refine HC.out.mono ?_
    rintro e w1 ⟨rfl, b1⟩
    have h51 := (b1.block _ (blk_lt H5.out)).trans H5.out
    have k5 : w1.cell? ⟨w.heap.size + 1, 0, none⟩ = some (.slice none 0 0) := by rw [cell_of_block h51]; rfl
    have f5 := unfrozen_of_block h51
    have l5 := blk_lt h51
    have HB1 := Lib.hid (below_tr HB.out b1)
    clear b1 h51
    go_wp2
    refine bodyPost_ret (v := .tuple #[.slice none 0 0, .agg #[.slice none 0 0], .int .i64 e0]) (by simp [results, Tryd.results12, go_sem, k5, f5]) rfl (.inr ⟨by rw [HR.out]; exact H0.out, by rw [HR.out], HB1.out.setCell (p := ⟨w.heap.size + 1, 0, none⟩) (by dsimp only; omega) _⟩)
  · rw [he] at hrn
    rw [h0] at HC
    rw [ht] at HT
    have HR := Lib.hid hrn
    clear he h0 hrn hE ht
    go_enter Tryd.func12, Tryd.ntmps12
    go_wp2_with fail
    refine HC.out.mono ?_
    rintro e w1 ⟨rfl, b1⟩
    have h51 := (b1.block _ (blk_lt H5.out)).trans H5.out
    have k5 : w1.cell? ⟨w.heap.size + 1, 0, none⟩ = some (.slice none 0 0) := by rw [cell_of_block h51]; rfl
    have f5 := unfrozen_of_block h51
    have l5 := blk_lt h51
    have HB1 := Lib.hid (below_tr HB.out b1)
    clear b1 h51
    go_wp2_with (go_at_call 35; refine (HT.out _).mono ?_; rintro e w2 ⟨rfl, rfl⟩)
    refine bodyPost_ret (v := .tuple #[.slice none 0 0, .agg #[.slice none 0 0], .int .i64 7]) (by simp [results, Tryd.results12, go_sem, k5, f5]) rfl (.inr ⟨by rw [HR.out]; decide, by rw [HR.out], HB1.out.setCell (p := ⟨w.heap.size + 1, 0, none⟩) (by dsimp only; omega) _⟩)
end
end Go.Proofs.YtjceahbikdncmaaDoor
