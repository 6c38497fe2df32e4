/- Package bits: fill. | slices.Clone of words; package bits: New, Set. | Package bits: New. | Package bits: Set. | Handles: slots as lists; tables in memory; what a method leaves alone. -/
import Derived.Test.YtfmclbacoffdaaaDoorRZ2
import Derived.Lib.SmallJoins
import Derived.Deep.OwnRows
import Derived.OneCell
import Derived.Deep.RegionHeld3
import Derived.Deep.DeepCutAuto
namespace Go.Proofs.YtfmclbacoffdaaaDoor
open Go.RowKit Go.Sort Go.Joins
attribute [local go_sem] cell_grow frozen_grow size_grow

theorem gb_drewN {a w : World} {row : Option Nat} (h : a.grownBy w row) (n : Nat) : a.grownBy (w.drewN n) row := ⟨h.os, h.tape, h.output, h.size, h.block⟩
theorem gb_setCell {a w : World} {g : Nat} (h : a.grownBy w (some g)) (o : Nat) (u : Value) : a.grownBy (w.setCell ⟨g, o, none⟩ u) (some g) :=
  ⟨h.os, h.tape, h.output, by simpa [World.setCell] using h.size, fun i hi hne => (Below.heap_setCell w ⟨g, o, none⟩ u i (fun e => hne (by rw [e]))).trans (h.block i hi hne)⟩
theorem own_drewN {w : World} {base : Nat} {e : TypeId} {size : Nat} {v : Value} {n : Nat} {xs : List Value} (h : w.ownsRow base e size v n xs) (k : Nat) : (w.drewN k).ownsRow base e size v n xs := h
/-- words as values -/
def u64s (ws : List Nat) : List Value := ws.map fun (x : Nat) => Value.int .u64 (x : Int)
theorem u64s_length (ws : List Nat) : (u64s ws).length = ws.length := by simp [u64s]
theorem u64s_get (ws : List Nat) (k : Nat) (h : k < ws.length) : (u64s ws)[k]? = some (.int .u64 (ws.getD k 0 : Nat)) := by
  simp [u64s, h]
theorem u64s_set (ws : List Nat) (k v : Nat) : (u64s ws).set k (.int .u64 (v : Int)) = u64s (ws.set k v) := by simp [u64s, List.map_set]

theorem or_val (x m : Nat) (hx : x < 18446744073709551616) (hm : m < 18446744073709551616) : bits BinOp.or IntKind.u64 (x : Int) (m : Int) = ((x ||| m : Nat) : Int) := u64_or_nat x m hx hm
theorem andNot_val (x m : Nat) (hx : x < 18446744073709551616) (hm : m < 18446744073709551616) : bits BinOp.andNot IntKind.u64 (x : Int) (m : Int) = ((x &&& (18446744073709551615 - m) : Nat) : Int) := u64_andNot_nat x m hx hm

/-- the store of a round -/
theorem fill_store {w wr : World} {base g cap len k m2 x v : Nat} {e : TypeId} {P L : List Nat} {op : BinOp} {m : Nat} (ho : wr.ownsRow base e 1 (.slice (some ⟨g, 0, none⟩) len cap) len (u64s P)) (hg : w.grownBy wr (some g))
    (hv : bits op IntKind.u64 (x : Int) (m : Int) = (v : Int)) (hS : P.set k v = L) :
    ((wr.drewN m2).setCell ⟨g, k, none⟩ (.int .u64 (bits op IntKind.u64 (x : Int) (m : Int)))).ownsRow base e 1 (.slice (some ⟨g, 0, none⟩) len cap) len (u64s L) ∧
    w.grownBy ((wr.drewN m2).setCell ⟨g, k, none⟩ (.int .u64 (bits op IntKind.u64 (x : Int) (m : Int)))) (some g) := by
  have h := (own_drewN ho m2).stored k (.int .u64 (v : Int))
  rw [hv]
  rw [u64s_set, hS] at h
  exact ⟨h.1, gb_setCell (gb_drewN hg _) _ _⟩

set_option maxHeartbeats 800000 in
theorem bfill_ok (base : Nat) (v : Value) (len f t : Nat) (on : Bool) (ws : List Nat) (w : World) (ho : w.ownsRow base 24 1 v len (u64s ws)) (hw : ∀ x ∈ ws, x < 18446744073709551616) (hl : ws.length = len) (ht : t ≤ 64 * len) (hlen : len ≤ 64) (hf : f ≤ t) :
    Calls Tryd.prog 61 #[v, .int .i64 f, .int .i64 t, .bool on] w fun e w' => e = .returned (.tuple #[]) ∧ w'.ownsRow base 24 1 v len (u64s (pack (filled (bat ws) f t on) len)) ∧ w.grownBy w' v.ownBlock := by
  go_enter Tryd.func61, Tryd.ntmps61
  go_wp2
  go_loopw [8] (fun i wr => ∃ k : Nat, f / 64 ≤ k ∧ k ≤ (t + 63) / 64 ∧ i = .int .i64 k ∧ wr.ownsRow base 24 1 v len (u64s (pack (filled (bat ws) f (min t (64 * k)) on) len)) ∧ w.grownBy wr v.ownBlock) (fun i _ => len - (intOf i).toNat)
  case atStart => exact ⟨f / 64, Nat.le_refl _, by omega, by go_num, by have := fill_start ws hw f t on; rw [hl] at this; rw [← this]; exact ho, World.grownBy.refl _ _⟩
  case round =>
    obtain ⟨k, hk1, hk2, rfl, hown, hg⟩ := hrel
    by_cases hlt : 64 * k < t
    · obtain ⟨g, cap, rfl⟩ := ownsRow_form hown (by omega)
      have S := Lib.hid (fill_step (bat ws) on hlt hk1 (by omega : k < len))
      have hcell := hown.cellAt k (by omega)
      rw [u64s_get _ _ (by rw [pack_length]; omega)] at hcell
      have hfz := hown.frozenAt k
      have hx := getD_lt (pack_lt (filled (bat ws) f (min t (64 * k)) on) len) (by decide) k
      generalize hPd : pack (filled (bat ws) f (min t (64 * k)) on) len = P at *
      obtain ⟨X, hX⟩ : ∃ X, X = P.getD k 0 := ⟨_, rfl⟩
      rw [← hX] at hcell hx S
      have hm := mk_lt (f - 64 * k) (min 64 (t - 64 * k))
      have e1 := lo_nat f k
      have e2 := hi_nat t k
      have HO := Lib.hid hown
      have HG := Lib.hid hg
      have hk0 : (0 : Int) ≤ (k : Int) := by omega
      have hk3 : (k : Int) < (len : Int) := by omega
      clear hown hg hX hPd ho hw hl
      cases on
      all_goals
        go_wp2_with (go_at_call 72; refine (mask_int _ _ _ (by omega) (by omega) (by omega) (by omega)).mono ?_; rintro e w1 ⟨rfl, m2, rfl⟩)
        go_roundw
        case rel =>
          have Q := fill_store (k := k) (m2 := m2) HO.out HG.out (by first | exact or_val X _ hx hm | exact andNot_val X _ hx hm) (S.out)
          exact ⟨k + 1, by omega, by omega, by go_num, Q.1, Q.2⟩
        case measure => simp [intOf]; omega
    · have HO := Lib.hid hown
      have HG := Lib.hid hg
      clear hown hg ho
      go_wp2
      go_end0
      have e := fill_end (bat ws) (f := f) (t := t) (k := k) on len (by omega)
      exact ⟨rfl, by rw [← e]; exact HO.out, HG.out⟩
end Go.Proofs.YtfmclbacoffdaaaDoor

namespace Go.Proofs.YtfmclbacoffdaaaDoor
open Go.RowKit Go.Sort Go.Joins
attribute [local go_sem] cell_grow frozen_grow size_grow

theorem info_u64 : (Tryd.prog.info? 24).map (fun i => (i.zero, i.size, i.bytes)) = some (some (.int .u64 0), 1, 8) := by kernel_rfl

theorem SlK.news {w : World} {ad : Addr} {len : Nat} {ws : List Nat} (h : SlK .u64 w (some ad) len ws) : ∀ j u, (u64s ws)[j]? = some u → w.cell? (ad.add j) = some u := by
  intro j u hu
  have hj : j < ws.length := by
    have := (List.getElem?_eq_some_iff.1 hu).1
    simpa [u64s] using this
  rcases h.cells with h0 | ⟨b, off, ha, hc⟩
  · rw [h.length, h0] at hj; omega
  · obtain rfl := Option.some.inj ha
    rw [Addr.add_lit, hc j (by rw [← h.length]; exact hj), ← hu, u64s_get _ _ hj]
theorem u64s_one (ws : List Nat) : ∀ u ∈ u64s ws, u.oneCell' = true := by
  intro u hu
  obtain ⟨_, _, rfl⟩ := List.mem_map.1 hu
  rfl

set_option maxHeartbeats 800000 in
theorem clone_ok (a : Option Addr) (len cap : Nat) (ws : List Nat) (w : World) (hs : SlK .u64 w a len ws) (hlen : len ≤ 100000) :
    Calls Tryd.prog 49 #[.slice a len cap] w fun e w' => ∃ v, e = .returned v ∧ w'.ownsRow w.heap.size 24 1 v len (u64s ws) ∧ Below w.heap.size w w' := by
  obtain ⟨i0, hi, hz0, hz1, hz2⟩ := info_parts info_u64
  cases a with
  | none =>
    have h0 : len = 0 := by rcases hs.cells with h | ⟨_, _, h, _⟩; exact h; cases h
    subst h0
    have hq := fun (w : World) => Lib.run_eql_slice_nil (P := Tryd.prog) w 58 24 none 0 cap 0 0 Tryd.underlying58
    go_enter Tryd.func49, Tryd.ntmps49
    go_wp2
    go_ret
    have hws : ws = [] := List.eq_nil_of_length_eq_zero hs.length
    subst hws
    exact ⟨_, rfl, World.ownsRow_nil _ _ _ _, Below.refl _ _⟩
  | some ad =>
    have hq := fun (w : World) => Lib.run_eql_slice_nil (P := Tryd.prog) w 58 24 (some ad) len cap 0 0 Tryd.underlying58
    go_enter Tryd.func49, Tryd.ntmps49
    go_wp2_with (at_builtin; refine wpList_append_own _ rfl (.tmp 5) (.tmp 6) 58 rfl w.heap.size 24 i0 (.int .u64 0) 1 8 Tryd.underlying58 hi hz0 hz1 hz2 rfl (by decide) _ _ _ rfl (World.ownsRow_lit w #[] 0 (Nat.le_refl _) (by decide) rfl) ad len cap (u64s ws) rfl ?c1 (hs.alloc _).news (u64s_one ws) ?c2 ?c3 ?c4 ?_)
    case c1 => rw [u64s_length, hs.length, Nat.mul_one]
    case c2 => unfold maxLen; omega
    case c3 => omega
    case c4 => simp
    intro v' w1 hown hg _
    go_wp2
    go_ret
    exact ⟨v', rfl, by simpa using hown, ((below_box0 _ _).grown hg (by simp) (by intro k hk; simp [Value.ownBlock] at hk; omega))⟩
end Go.Proofs.YtfmclbacoffdaaaDoor

namespace Go.Proofs.YtfmclbacoffdaaaDoor
open Go.RowKit Go.Sort Go.Joins
attribute [local go_sem] cell_grow frozen_grow size_grow

theorem SlK.of_own {w : World} {base len : Nat} {e : TypeId} {a : Option Addr} {cap : Nat} {ws : List Nat} (h : w.ownsRow base e 1 (.slice a len cap) len (u64s ws)) : SlK .u64 w a len ws := by
  have hl : ws.length = len := by have := h.1; rw [u64s_length] at this; omega
  refine ⟨hl, ?_⟩
  rcases Nat.eq_zero_or_pos len with h0 | hp
  · exact .inl h0
  · obtain ⟨g, cap', he⟩ := ownsRow_form h hp
    simp only [Value.slice.injEq] at he
    obtain ⟨rfl, _, rfl⟩ := he
    exact .inr ⟨g, 0, rfl, fun j hj => by rw [Nat.zero_add, h.cellAt j (by omega), u64s_get _ _ (by omega)]⟩

theorem zeros_own (w : World) (len : Nat) (h : len ≤ 100000) : (w.alloc (.cells (madeCells #[.int .u64 0] len) 24)).ownsRow w.heap.size 24 1 (.slice (some ⟨w.heap.size, 0, none⟩) len len) len (u64s (pack (fun _ => false) len)) := by
  have h1 := World.ownsRow_lit (base := w.heap.size) (e := 24) (size := 1) w (madeCells #[.int .u64 0] len) len (Nat.le_refl _) (by unfold maxLen; omega) (by simp [madeCells])
  rw [toList_madeCells_one] at h1
  have e : List.replicate len (0 : Nat) = pack (fun _ => false) len := pack_unique (by simp) (by intro x hx; rw [List.eq_of_mem_replicate hx]; decide) fun i hi => by
    unfold bat
    rw [List.getD_eq_getElem?_getD, List.getElem?_replicate]
    split <;> simp
  rw [← e]
  have e2 : u64s (List.replicate len 0) = List.replicate len (.int .u64 0) := by simp [u64s]
  rw [e2]
  exact h1

theorem filled_new (n len : Nat) : pack (filled (bat (pack (fun _ => false) len)) 0 n true) len = pack (fun i => decide (i < n)) len :=
  pack_congr fun i hi => by unfold filled; rw [pack_bat _ _ _ hi]; by_cases h : i < n <;> simp [h]

set_option maxHeartbeats 800000 in
theorem bNew_bad (N : Int) (on : Bool) (w : World) (h : N < 0 ∨ 4096 < N) :
    Calls Tryd.prog 43 #[.int .i64 N, .bool on] w fun e w' => e = .returned (.tuple #[.agg #[.int .i64 0, .slice none 0 0], .int .i64 7]) ∧ Below w.heap.size w w' := by
  by_cases h1 : N < 0
  · go_enter Tryd.func43, Tryd.ntmps43
    go_wp2
    exact bodyPost_ret (v := .tuple #[.agg #[.int .i64 0, .slice none 0 0], .int .i64 7]) (by simp [results, Tryd.results43, go_sem]) rfl ⟨rfl, (Below.refl _ _).alloc (Nat.le_refl _) _⟩
  · have h2 : 4096 < N := by omega
    clear h
    go_enter Tryd.func43, Tryd.ntmps43
    go_wp2
    exact bodyPost_ret (v := .tuple #[.agg #[.int .i64 0, .slice none 0 0], .int .i64 7]) (by simp [results, Tryd.results43, go_sem]) rfl ⟨rfl, (Below.refl _ _).alloc (Nat.le_refl _) _⟩

set_option maxHeartbeats 1600000 in
theorem bNew_ok (n : Nat) (on : Bool) (w : World) (hn : n ≤ 4096) :
    Calls Tryd.prog 43 #[.int .i64 n, .bool on] w fun e w' => ∃ a cap, e = .returned (.tuple #[.agg #[.int .i64 n, .slice a ((n + 63) / 64) cap], .int .i64 0]) ∧
      w'.ownsRow w.heap.size 24 1 (.slice a ((n + 63) / 64) cap) ((n + 63) / 64) (u64s (pack (fun i => on && decide (i < n)) ((n + 63) / 64))) ∧ Below w.heap.size w w' := by
  obtain ⟨len, hlen⟩ : ∃ len, len = (n + 63) / 64 := ⟨_, rfl⟩
  have hmk := fun W => run_make_row' (P := Tryd.prog) 58 24 (.int .u64 0) 8 Tryd.underlying58 info_u64 rfl .i64 .i64 len (by omega) (by omega) W
  have hli : ((len : Nat) : Int) = ((n : Int) + 63) / 64 := by omega
  rw [hli] at hmk
  rw [← hlen]
  have HL := Lib.hid hlen
  clear hlen hli
  have Z0 : ((w.alloc (.cells #[.int .i64 0, .slice none 0 0] 93)).alloc (.cells (madeCells #[.int .u64 0] len) 24)).ownsRow w.heap.size 24 1 (.slice (some ⟨w.heap.size + 1, 0, none⟩) len len) len (u64s (pack (fun _ => false) len)) := by
    have := zeros_own (w.alloc (.cells #[.int .i64 0, .slice none 0 0] 93)) len (by have := HL.out; omega)
    rw [World.size_alloc] at this
    exact ownsRow_le this (by omega)
  have Z1 := Z0.alloc (.cells #[.int .i64 n, .slice (some ⟨w.heap.size + 1, 0, none⟩) len len] 93)
  have HB : Below w.heap.size w (((w.alloc (.cells #[.int .i64 0, .slice none 0 0] 93)).alloc (.cells (madeCells #[.int .u64 0] len) 24)).alloc (.cells #[.int .i64 n, .slice (some ⟨w.heap.size + 1, 0, none⟩) len len] 93)) :=
    below_alloc3 w _ _ _
  have HZ := Lib.hid Z1
  have HH := Lib.hid HB
  clear Z0 Z1 HB
  cases on
  · go_enter Tryd.func43, Tryd.ntmps43
    go_wp2_with (go_at_call 60; refine (words_ok _ _ (by omega) (by omega)).mono ?_; rintro e w1 ⟨rfl, rfl⟩)
    refine bodyPost_ret (v := .tuple #[.agg #[.int .i64 n, .slice (some ⟨w.heap.size + 1, 0, none⟩) len len], .int .i64 0]) (by simp [results, Tryd.results43, go_sem]) rfl ?_
    refine ⟨_, _, rfl, ?_, below_alloc3 w _ _ _⟩
    have Z := zeros_own (w.alloc (.cells #[.int .i64 n, .slice (some ⟨w.heap.size + 1, 0, none⟩) len len] 93)) len (by have := HL.out; omega)
    rw [World.size_alloc] at Z
    have Z2 := (ownsRow_le Z (by omega : w.heap.size ≤ w.heap.size + 1)).alloc (.cells #[.int .i64 n, .slice (some ⟨w.heap.size + 1, 0, none⟩) len len] 93)
    simpa using Z2
  · have F := bfill_ok w.heap.size (.slice (some ⟨w.heap.size + 1, 0, none⟩) len len) len 0 n true (pack (fun _ => false) len) _ HZ.out (pack_lt _ _) (pack_length _ _) (by have := HL.out; omega) (by have := HL.out; omega) (by omega)
    rw [show ((0 : Nat) : Int) = 0 from rfl, filled_new] at F
    have HF := Lib.hid F
    clear F
    go_enter Tryd.func43, Tryd.ntmps43
    go_wp2_with (go_at_call 60; refine (words_ok _ _ (by omega) (by omega)).mono ?_; rintro e w1 ⟨rfl, rfl⟩)
    refine HF.out.mono ?_
    rintro e w1 ⟨rfl, hown, hg⟩
    have c0 : w1.cell? ⟨w.heap.size, 0, none⟩ = some (.int .i64 0) := hg.cell (by simp [go_sem]) (by simp [Value.ownBlock])
    have c1 : w1.cell? ⟨w.heap.size, 1, none⟩ = some (.slice none 0 0) := hg.cell (by simp [go_sem]) (by simp [Value.ownBlock])
    have c2 : w1.cell? ⟨w.heap.size + 1 + 1, 0, none⟩ = some (.int .i64 n) := hg.cell (by simp [go_sem]) (by simp [Value.ownBlock])
    have c3 : w1.cell? ⟨w.heap.size + 1 + 1, 1, none⟩ = some (.slice (some ⟨w.heap.size + 1, 0, none⟩) len len) := hg.cell (by simp [go_sem]) (by simp [Value.ownBlock])
    have f0 : ∀ j, w1.frozen? ⟨w.heap.size, j, none⟩ = false := fun j => by
      rw [World.frozen?_of_block (hg.block w.heap.size (by simp; omega) (by simp [Value.ownBlock]))]; simp [go_sem]
    have HB2 : Below w.heap.size w w1 := HH.out.grown hg (by simp; omega) (by intro k hk; simp [Value.ownBlock] at hk; omega)
    have HO := Lib.hid hown
    have HB3 := Lib.hid HB2
    clear hown hg HB2
    go_wp2
    refine bodyPost_ret (v := .tuple #[.agg #[.int .i64 n, .slice (some ⟨w.heap.size + 1, 0, none⟩) len len], .int .i64 0]) (by simp [results, Tryd.results43, go_sem, c0, c1]) rfl ?_
    exact ⟨_, _, rfl, by simpa using ownsRow_setCell_other (ownsRow_setCell_other HO.out (by simp [Value.ownBlock]) _) (by simp [Value.ownBlock]) _, (HB3.out.setCell (Nat.le_refl _) _).setCell (Nat.le_refl _) _⟩
end Go.Proofs.YtfmclbacoffdaaaDoor

namespace Go.Proofs.YtfmclbacoffdaaaDoor
open Go.RowKit Go.Sort Go.Joins
attribute [local go_sem] cell_grow frozen_grow size_grow

theorem keepN {W nxt : World} {C : World → Prop} (hC : Hid (∀ w', Below W.heap.size W w' → C w')) (h : Below W.heap.size W nxt) : Below W.heap.size W nxt ∧ C nxt := ⟨h, hC _ h⟩
theorem lay_alloc {G : Prop} {W w' : World} {a b : Value} {T : TypeId} {g : Nat} (hb : Below (W.alloc (.cells #[a, b] T)).drew.heap.size (W.alloc (.cells #[a, b] T)).drew w') (hg : g = W.heap.size)
    (k : w'.cell? ⟨g, 0, none⟩ = some a → w'.cell? ⟨g, 1, none⟩ = some b → (∀ j, w'.frozen? ⟨g, j, none⟩ = false) → G) : G := by
  subst hg
  refine k ?_ ?_ fun j => ?_
  · rw [hb.cell (p := ⟨W.heap.size, 0, none⟩) (by simp)]; exact (World.cell?_alloc_at (w := W) _ _ _ _ rfl).trans rfl
  · rw [hb.cell (p := ⟨W.heap.size, 1, none⟩) (by simp)]; exact (World.cell?_alloc_at (w := W) _ _ _ _ rfl).trans rfl
  · rw [hb.frozen (p := ⟨W.heap.size, j, none⟩) (by simp)]; exact World.frozen?_alloc_at (w := W) _ _ _ _ rfl
theorem own_slice {w : World} {base len : Nat} {e : TypeId} {v : Value} {xs : List Value} (h : w.ownsRow base e 1 v len xs) : ∃ a cap, v = .slice a len cap := by
  rcases ownsRow_forms h with ⟨rfl, rfl⟩ | ⟨g, cap, rfl⟩
  · exact ⟨_, _, rfl⟩
  · exact ⟨_, _, rfl⟩
theorem bel_alloc {W cur : World} {C : Prop} (h : Below W.heap.size W cur ∧ C) (o : Obj) : Below W.heap.size W (cur.alloc o) := h.1.alloc h.1.size o
theorem bel_realloc {W cur : World} {o : Obj} {C : Prop} (h : Below W.heap.size W (cur.alloc o) ∧ C) (hle : W.heap.size ≤ cur.heap.size) (o' : Obj) : Below W.heap.size W (cur.alloc o') :=
  ⟨h.1.os, h.1.tape, h.1.output, by simp; omega, fun k hk => by rw [Below.heap_alloc _ _ _ (by omega), ← h.1.block k hk, Below.heap_alloc _ _ _ (by omega)]⟩
theorem bel_call {W cur nxt : World} {C : Prop} (h : Below W.heap.size W cur ∧ C) (hb : Below cur.heap.size cur nxt) : Below W.heap.size W nxt := below_tr h.1 hb
theorem bel_set2 {W cur : World} {C : Prop} (h : Below W.heap.size W cur ∧ C) {g i j : Nat} (hg : W.heap.size ≤ g) (u v : Value) : Below W.heap.size W ((cur.setCell ⟨g, i, none⟩ u).setCell ⟨g, j, none⟩ v) := (h.1.setCell (p := ⟨g, i, none⟩) hg u).setCell (p := ⟨g, j, none⟩) hg v

set_option maxHeartbeats 1600000 in
theorem bSet_ok (n f t : Nat) (on : Bool) (a : Option Addr) (len cap : Nat) (ws : List Nat) (w : World) (hs : SlK .u64 w a len ws) (hw : ∀ x ∈ ws, x < 18446744073709551616) (hc : chk n ws = 0) (hft : f ≤ t) (ht : t ≤ n) :
    Calls Tryd.prog 62 #[.agg #[.int .i64 n, .slice a len cap], .int .i64 f, .int .i64 t, .bool on] w fun e w' => ∃ a' cap', e = .returned (.tuple #[.agg #[.int .i64 n, .slice a' len cap'], .int .i64 0]) ∧
      w'.ownsRow w.heap.size 24 1 (.slice a' len cap') len (u64s (pack (filled (bat ws) f t on) len)) ∧ Below w.heap.size w w' := by
  have hp : prt n ws f t = 0 := prt_ok hc (by omega)
  obtain ⟨_, hN, hl, _⟩ := chk_zero hc
  have hL := hs.length
  have hlen : len ≤ 64 := by omega
  have htl : t ≤ 64 * len := by omega
  clear hl hc
  have P1 := bpart_ok w.heap.size n f t a len cap ws _ ((AtBits.new w n a len cap 93).below (below_box0 _ (.cells #[.int .i64 0, .slice none 0 0] 93))) ((hs.alloc _).alloc _) hw (by omega)
  rw [hp] at P1
  have HP := Lib.hid P1
  clear P1 hp
  go_enter Tryd.func62, Tryd.ntmps62
  go_wp2_with fail
  refine HP.out.mono ?_
  rintro e W ⟨rfl, hb⟩
  have hz : w.heap.size + 1 < W.heap.size := by have := hb.size; simp at this; omega
  have c0 : W.cell? ⟨w.heap.size, 0, none⟩ = some (.int .i64 n) := by rw [hb.cell (p := ⟨w.heap.size, 0, none⟩) (by simp; omega)]; simp [go_sem]
  have c1 : W.cell? ⟨w.heap.size, 1, none⟩ = some (.slice a len cap) := by rw [hb.cell (p := ⟨w.heap.size, 1, none⟩) (by simp; omega)]; simp [go_sem]
  have d0 : W.cell? ⟨w.heap.size + 1, 0, none⟩ = some (.int .i64 0) := by rw [hb.cell (p := ⟨w.heap.size + 1, 0, none⟩) (by simp)]; simp [go_sem]
  have d1 : W.cell? ⟨w.heap.size + 1, 1, none⟩ = some (.slice none 0 0) := by rw [hb.cell (p := ⟨w.heap.size + 1, 1, none⟩) (by simp)]; simp [go_sem]
  have d2 : ∀ j, W.frozen? ⟨w.heap.size + 1, j, none⟩ = false := fun j => by rw [hb.frozen (p := ⟨w.heap.size + 1, j, none⟩) (by simp)]; simp [go_sem]
  have hsW : SlK .u64 W a len ws := ((hs.alloc _).alloc _).below hb
  have hB : Below w.heap.size w W := (below_alloc2 w _ _).trans (hb.mono (by simp; omega))
  have HB := Lib.hid hB
  clear hb hB hs HP
  go_upto_region 4 with fail
  go_cut [11] (fun s11 wx => ∃ g a' cap', s11 = .pointer (some ⟨g, 0, none⟩) ∧ wx.cell? ⟨g, 0, none⟩ = some (.int .i64 n) ∧ wx.cell? ⟨g, 1, none⟩ = some (.slice a' len cap') ∧ wx.ownsRow W.heap.size 24 1 (.slice a' len cap') len (u64s ws) ∧
    (∀ h, a' = some h → h.block ≠ g) ∧ Below W.heap.size W wx)
  case first =>
    have HC : Hid (∀ w', Below W.heap.size W w' → w'.cell? ⟨w.heap.size, 0, none⟩ = some (.int .i64 n) ∧ w'.cell? ⟨w.heap.size, 1, none⟩ = some (.slice a len cap)) := fun w' h => ⟨cell_later h c0, cell_later h c1⟩
    go_region_held3 (fun w' => Below W.heap.size W w' ∧ w'.cell? ⟨w.heap.size, 0, none⟩ = some (.int .i64 n) ∧ w'.cell? ⟨w.heap.size, 1, none⟩ = some (.slice a len cap))
      ((refine keepN HC ?_; first | exact (Below.refl _ _).drew | exact bel_alloc (by assumption) _ | exact bel_call (by assumption) (by assumption) | exact bel_realloc (by assumption) (by first | omega | (simp; omega) | simp) _ | exact bel_set2 (by assumption) (by first | omega | (simp; omega) | simp) _ _))
      (first | (go_at_call 49; refine (clone_ok a len cap ws _ (hsW.below (And.left (by assumption))) (by omega)).mono ?_; rintro e w' ⟨v, rfl, hown, hb⟩; have hbW : Below W.heap.size W w' := bel_call (W := W) (by assumption) hb; have hsz : W.heap.size ≤ w'.heap.size := hbW.size; obtain ⟨va, vcap, rfl⟩ : ∃ va vcap, v = .slice va len vcap := own_slice hown; first | (refine lay_alloc (g := W.heap.size) hb rfl (fun q0 q1 q2 => ?_)) | skip))
    · go_wp2_with fail
      go_meet
      exact ⟨w'.heap.size, va, vcap, rfl, by simp [go_sem], by simp [go_sem], hown.alloc _, fun h e => by have := (hown.lt h.block (by rw [e]; rfl)).2; omega, hbW.alloc hsz _⟩
    · go_wp2_with fail
      go_meet
      have hne : ∀ h, va = some h → h.block ≠ W.heap.size := fun h e => by have := (hown.lt h.block (by rw [e]; rfl)).1; simp at this; omega
      have hob : ∀ j, (Value.slice va len vcap).ownBlock ≠ some (⟨W.heap.size, j, none⟩ : Addr).block := fun j e => by
        cases va with
        | none => cases e
        | some h => exact hne h rfl (by simpa [Value.ownBlock] using e)
      exact ⟨W.heap.size, va, vcap, rfl, by simp [go_sem, q0], by simp [go_sem, q1], ownsRow_setCell_other (ownsRow_setCell_other (ownsRow_le hown (by simp)) (hob 0) _) (hob 1) _, hne, (hbW.setCell (p := ⟨W.heap.size, 0, none⟩) (Nat.le_refl _) _).setCell (p := ⟨W.heap.size, 1, none⟩) (Nat.le_refl _) _⟩
  case rest =>
    obtain ⟨g, a', cap', rfl, e0, e1, ho, hne, hb⟩ := hcut
    have hob : (some g : Option Nat) ≠ (Value.slice a' len cap').ownBlock := fun e => by
      cases a' with
      | none => cases e
      | some h => exact hne h rfl (by simpa [Value.ownBlock] using e.symm)
    have hoH : (some (w.heap.size + 1) : Option Nat) ≠ (Value.slice a' len cap').ownBlock := fun e => by
      have := (ho.lt _ e.symm).1; omega
    have q0 : wc.cell? ⟨w.heap.size + 1, 0, none⟩ = some (.int .i64 0) := cell_later hb d0
    have q1 : wc.cell? ⟨w.heap.size + 1, 1, none⟩ = some (.slice none 0 0) := cell_later hb d1
    have q2 : ∀ j, wc.frozen? ⟨w.heap.size + 1, j, none⟩ = false := fun j => by rw [hb.frozen (p := ⟨w.heap.size + 1, j, none⟩) (by dsimp only; omega)]; exact d2 j
    have F := Lib.hid (bfill_ok W.heap.size (.slice a' len cap') len f t on ws wc ho hw hL htl hlen hft)
    have HBX := Lib.hid (HB.out.trans (hb.mono (by omega)))
    have HO := Lib.hid ho
    have HN := Lib.hid hob
    have HN2 := Lib.hid hoH
    have hzx : w.heap.size + 1 < wc.heap.size := by have := hb.size; omega
    have hgx : g < wc.heap.size := World.block_lt_of_cell? _ _ e0
    clear hb ho hob hoH hne c0 c1 d0 d1 d2 hsW hL
    go_wp2_with fail
    refine F.out.mono ?_
    rintro e w2 ⟨rfl, hown, hg⟩
    have r0 : w2.cell? ⟨w.heap.size + 1, 0, none⟩ = some (.int .i64 0) := hg.cell q0 HN2.out
    have r1 : w2.cell? ⟨w.heap.size + 1, 1, none⟩ = some (.slice none 0 0) := hg.cell q1 HN2.out
    have r2 : ∀ j, w2.frozen? ⟨w.heap.size + 1, j, none⟩ = false := fun j => by rw [World.frozen?_of_block (hg.block (w.heap.size + 1) hzx HN2.out)]; exact q2 j
    have r3 : w2.cell? ⟨g, 0, none⟩ = some (.int .i64 n) := hg.cell e0 HN.out
    have r4 : w2.cell? ⟨g, 1, none⟩ = some (.slice a' len cap') := hg.cell e1 HN.out
    have HB2 := Lib.hid (HBX.out.grown hg (by omega) (fun k hk => by have := (HO.out.lt k hk).1; omega))
    have HO2 := Lib.hid hown
    clear hown hg q0 q1 q2 e0 e1
    go_wp2
    refine bodyPost_ret (v := .tuple #[.agg #[.int .i64 n, .slice a' len cap'], .int .i64 0]) (by simp [results, Tryd.results62, go_sem, r0, r1]) rfl ?_
    have hob : ∀ j, (Value.slice a' len cap').ownBlock ≠ some (⟨w.heap.size + 1, j, none⟩ : Addr).block := fun j e => HN2.out e.symm
    exact ⟨_, _, rfl, ownsRow_le (ownsRow_setCell_other (ownsRow_setCell_other HO2.out (hob 0) _) (hob 1) _) (by omega), (HB2.out.setCell (p := ⟨w.heap.size + 1, 0, none⟩) (by simp) _).setCell (p := ⟨w.heap.size + 1, 1, none⟩) (by simp) _⟩
end Go.Proofs.YtfmclbacoffdaaaDoor

namespace Go.Proofs.YtfmclbacoffdaaaDoor
open Go.RowKit Go.Sort Go.Joins

/-- a slot: how many handles, alive, value -/
abbrev Slt := Nat × Bool × Value
def sc (s : Slt) : List Value := [.int .i64 (s.1 : Int), .bool s.2.1, s.2.2]
def slotCells : List Slt → List Value
  | [] => []
  | s :: l => sc s ++ slotCells l
theorem slotCells_length : ∀ st : List Slt, (slotCells st).length = 3 * st.length
  | [] => rfl
  | s :: l => by simp only [slotCells, List.length_append, slotCells_length l, sc, List.length_cons, List.length_nil]; omega
theorem slotCells_get : ∀ (st : List Slt) (i j : Nat) (_ : i < st.length) (_ : j < 3), (slotCells st)[i * 3 + j]? = (sc (st.getD i (0, false, undef)))[j]?
  | [], i, _, h, _ => by simp at h
  | s :: l, 0, j, _, hj => by
    simp only [slotCells, Nat.zero_mul, Nat.zero_add]
    rw [List.getElem?_append_left (by simp [sc]; omega)]; rfl
  | s :: l, i + 1, j, h, hj => by
    simp only [slotCells]
    rw [List.getElem?_append_right (by simp [sc]; omega), show (i + 1) * 3 + j - (sc s).length = i * 3 + j by simp [sc]; omega, slotCells_get l i j (by simpa using h) hj]
    rfl
theorem slotCells_set : ∀ (st : List Slt) (i : Nat) (_ : i < st.length) (s : Slt), slotCells (st.set i s) = (((slotCells st).set (i * 3) (.int .i64 (s.1 : Int))).set (i * 3 + 1) (.bool s.2.1)).set (i * 3 + 2) s.2.2
  | [], i, h, _ => by simp at h
  | t :: l, 0, _, s => by simp [slotCells, sc]
  | t :: l, i + 1, h, s => by
    simp only [List.set_cons_succ, slotCells]
    rw [slotCells_set l i (by simpa using h) s, show (i + 1) * 3 = (i * 3) + 3 by omega]
    simp [sc]
theorem set_get {α : Type} (l : List α) (i : Nat) (d : α) (_ : i < l.length) : l.set i (l.getD i d) = l := by
  apply List.ext_getElem?
  intro j
  rw [List.getElem?_set]
  by_cases h : i = j
  · subst h
    rw [if_pos rfl, if_pos (by assumption)]
    simp [*]
  · rw [if_neg h]

/-- can the slot give a handle? -/
def rdy (s : Slt) : Bool := !s.2.1 && decide (s.1 < 65535)
/-- a table at block p, its slots at block q; the bits r say which slots can give a handle -/
structure Tb (TBL SLOT : TypeId) (w : World) (B p q : Nat) (st : List Slt) (m : Nat) (r : Nat → Bool) : Prop where
  hp : B ≤ p
  hq : B ≤ q
  ne : p ≠ q
  n1 : 1 ≤ st.length
  n2 : st.length ≤ 1024
  tbl : ∃ ra rcap, w.heap[p]? = some (.cells #[.slice (some ⟨q, 0, none⟩) st.length st.length, .int .i64 (st.length : Int), .slice ra ((st.length + 63) / 64) rcap, .int .i64 (m : Int)] TBL (0, 0)) ∧
    w.ownsRow B 24 1 (.slice ra ((st.length + 63) / 64) rcap) ((st.length + 63) / 64) (u64s (pack r ((st.length + 63) / 64)))
  slots : w.heap[q]? = some (.cells (slotCells st).toArray SLOT (0, 0))
  rb : ∀ i, st.length ≤ i → r i = false

/-- all but the blocks p and q is as it was -/
structure Fr (p q : Nat) (w w' : World) : Prop where
  os : w'.os = w.os
  tape : w'.tape = w.tape
  output : w'.output = w.output
  size : w.heap.size ≤ w'.heap.size
  block : ∀ k, k < w.heap.size → k ≠ p → k ≠ q → w'.heap[k]? = w.heap[k]?
theorem Fr.refl (p q : Nat) (w : World) : Fr p q w w := ⟨rfl, rfl, rfl, Nat.le_refl _, fun _ _ _ _ => rfl⟩
theorem Fr.trans {p q : Nat} {a b c : World} (h : Fr p q a b) (k : Fr p q b c) : Fr p q a c :=
  ⟨k.os.trans h.os, k.tape.trans h.tape, k.output.trans h.output, Nat.le_trans h.size k.size, fun i hi h1 h2 => (k.block i (Nat.lt_of_lt_of_le hi h.size) h1 h2).trans (h.block i hi h1 h2)⟩
theorem Fr.of_below {p q : Nat} {w w' : World} (h : Below w.heap.size w w') : Fr p q w w' := ⟨h.os, h.tape, h.output, h.size, fun k hk _ _ => h.block k hk⟩
theorem Fr.setP {p q : Nat} (w : World) (j : Nat) (v : Value) : Fr p q w (w.setCell ⟨p, j, none⟩ v) :=
  ⟨rfl, rfl, rfl, by simp [World.setCell], fun k _ h1 _ => Below.heap_setCell _ _ _ _ h1⟩
theorem Fr.setQ {p q : Nat} (w : World) (j : Nat) (v : Value) : Fr p q w (w.setCell ⟨q, j, none⟩ v) :=
  ⟨rfl, rfl, rfl, by simp [World.setCell], fun k _ _ h2 => Below.heap_setCell _ _ _ _ h2⟩
theorem Fr.below {p q B : Nat} {a w w' : World} (h : Below B a w) (k : Fr p q w w') (hp : B ≤ p) (hq : B ≤ q) (hB : B ≤ w.heap.size) : Below B a w' :=
  h.trans ⟨k.os, k.tape, k.output, k.size, fun i hi => k.block i (by omega) (by omega) (by omega)⟩

theorem blk_lt {w : World} {k : Nat} {o : Obj} (h : w.heap[k]? = some o) : k < w.heap.size := by
  rcases Nat.lt_or_ge k w.heap.size with h' | h'
  · exact h'
  · rw [Array.getElem?_eq_none h'] at h; cases h
theorem own_below {w w' : World} {base : Nat} {e : TypeId} {size : Nat} {v : Value} {n : Nat} {xs : List Value} (h : w.ownsRow base e size v n xs) (hb : Below w.heap.size w w') : w'.ownsRow base e size v n xs := by
  obtain ⟨h1, h2⟩ := h
  refine ⟨h1, ?_⟩
  rcases h2 with h2 | ⟨g, cap, cur, hv, hg, hh, r⟩
  · exact Or.inl h2
  · exact Or.inr ⟨g, cap, cur, hv, hg, by rw [hb.block _ (blk_lt hh)]; exact hh, r⟩
/-- an owned row is not in a block of another type -/
theorem own_ne {w : World} {base : Nat} {e t : TypeId} {v : Value} {n : Nat} {xs : List Value} {k : Nat} {cs : Array Value} {fz : Nat × Nat} (h : w.ownsRow base e 1 v n xs) (hk : w.heap[k]? = some (.cells cs t fz)) (hne : e ≠ t) : v.ownBlock ≠ some k := by
  rcases h.2 with ⟨h2, _⟩ | ⟨g, cap, cur, hv, hg, hh, _⟩
  · rw [h2]; intro e; cases e
  · rw [hv]
    intro e'
    have : g = k := by simpa [Value.ownBlock] using e'
    subst this
    rw [hh] at hk
    simp only [Option.some.injEq, Obj.cells.injEq] at hk
    exact hne hk.2.1

section
variable {TBL SLOT : TypeId} {w w' : World} {B p q : Nat} {st : List Slt} {m : Nat} {r : Nat → Bool}

theorem Tb.below (h : Tb TBL SLOT w B p q st m r) (hb : Below w.heap.size w w') : Tb TBL SLOT w' B p q st m r := by
  obtain ⟨ra, rcap, h1, h2⟩ := h.tbl
  exact ⟨h.hp, h.hq, h.ne, h.n1, h.n2, ⟨ra, rcap, by rw [hb.block _ (blk_lt h1)]; exact h1, own_below h2 hb⟩, by rw [hb.block _ (blk_lt h.slots)]; exact h.slots, h.rb⟩

theorem setCell_block {w : World} {g i : Nat} {cs : Array Value} {t : TypeId} (h : w.heap[g]? = some (.cells cs t (0, 0))) (v : Value) : (w.setCell ⟨g, i, none⟩ v).heap[g]? = some (.cells (cs.setIfInBounds i v) t (0, 0)) := by
  have := block_setCell h (i := i) v; exact this

/-- the three cells of a slot are stored, and the number of those alive -/
theorem Tb.stored (h : Tb TBL SLOT w B p q st m r) (hs : 24 ≠ SLOT) (ht : 24 ≠ TBL) {i : Nat} (hi : i < st.length) (s : Slt) (m' : Nat) :
    Tb TBL SLOT ((((w.setCell ⟨q, i * 3, none⟩ (.int .i64 (s.1 : Int))).setCell ⟨q, i * 3 + 1, none⟩ (.bool s.2.1)).setCell ⟨q, i * 3 + 2, none⟩ s.2.2).setCell ⟨p, 3, none⟩ (.int .i64 (m' : Int))) B p q (st.set i s) m' r := by
  obtain ⟨ra, rcap, h1, h2⟩ := h.tbl
  have o1 := own_ne h2 h.slots hs
  have o2 := own_ne h2 h1 ht
  have hq0 := h.slots
  have hne := h.ne
  refine ⟨h.hp, h.hq, h.ne, by simpa using h.n1, by simpa using h.n2, ⟨ra, rcap, ?_, ?_⟩, ?_, by simpa using h.rb⟩
  · have e : ((((w.setCell ⟨q, i * 3, none⟩ (.int .i64 (s.1 : Int))).setCell ⟨q, i * 3 + 1, none⟩ (.bool s.2.1)).setCell ⟨q, i * 3 + 2, none⟩ s.2.2)).heap[p]? = some (.cells #[.slice (some ⟨q, 0, none⟩) st.length st.length, .int .i64 (st.length : Int), .slice ra ((st.length + 63) / 64) rcap, .int .i64 (m : Int)] TBL (0, 0)) := by
      rw [Below.heap_setCell _ _ _ _ hne, Below.heap_setCell _ _ _ _ hne, Below.heap_setCell _ _ _ _ hne]; exact h1
    rw [setCell_block e]; simp
  · rw [List.length_set]
    exact ownsRow_setCell_other (ownsRow_setCell_other (ownsRow_setCell_other (ownsRow_setCell_other h2 (by simpa using o1) _) (by simpa using o1) _) (by simpa using o1) _) (by simpa using o2) _
  · rw [Below.heap_setCell _ _ _ _ hne.symm, setCell_block (setCell_block (setCell_block hq0 _) _) _, slotCells_set st i hi s]; simp

/-- the bits are stored anew -/
theorem Tb.noted {ra' : Option Addr} {rcap' : Nat} {r' : Nat → Bool} (h : Tb TBL SLOT w B p q st m r) (ht : 24 ≠ TBL) (hb : Below w.heap.size w w') (ho : w'.ownsRow B 24 1 (.slice ra' ((st.length + 63) / 64) rcap') ((st.length + 63) / 64) (u64s (pack r' ((st.length + 63) / 64))))
    (hr : ∀ i, st.length ≤ i → r' i = false) :
    Tb TBL SLOT ((w'.setCell ⟨p, 1, none⟩ (.int .i64 (st.length : Int))).setCell ⟨p, 2, none⟩ (.slice ra' ((st.length + 63) / 64) rcap')) B p q st m r' := by
  have h' := h.below hb
  obtain ⟨ra, rcap, h1, h2⟩ := h'.tbl
  have o2 := own_ne ho h1 ht
  have hne := h.ne
  refine ⟨h.hp, h.hq, h.ne, h.n1, h.n2, ⟨ra', rcap', ?_, ?_⟩, ?_, hr⟩
  · rw [setCell_block (setCell_block h1 _) _]; simp
  · exact ownsRow_setCell_other (ownsRow_setCell_other ho (by simpa using o2) _) (by simpa using o2) _
  · rw [Below.heap_setCell _ _ _ _ hne.symm, Below.heap_setCell _ _ _ _ hne.symm]; exact h'.slots

theorem pack_filled (r : Nat → Bool) (len f t : Nat) (b : Bool) : pack (filled (bat (pack r len)) f t b) len = pack (filled r f t b) len :=
  pack_congr fun i hi => by unfold filled; rw [pack_bat _ _ _ hi]
/-- .. as note leaves them -/
theorem Tb.noted' {ra' : Option Addr} {rcap' i : Nat} {b c : Bool} (h : Tb TBL SLOT w B p q st m r) (ht : 24 ≠ TBL) (hi : i < st.length) (hB : B ≤ w.heap.size) (hbc : b = c) (hb : Below w.drew.heap.size w.drew w')
    (ho : w'.ownsRow w.drew.heap.size 24 1 (.slice ra' ((st.length + 63) / 64) rcap') ((st.length + 63) / 64) (u64s (pack (filled (bat (pack r ((st.length + 63) / 64))) i (i + 1) b) ((st.length + 63) / 64)))) :
    Tb TBL SLOT ((w'.setCell ⟨p, 1, none⟩ (.int .i64 (st.length : Int))).setCell ⟨p, 2, none⟩ (.slice ra' ((st.length + 63) / 64) rcap')) B p q st m (filled r i (i + 1) c) ∧
    Fr p q w ((w'.setCell ⟨p, 1, none⟩ (.int .i64 (st.length : Int))).setCell ⟨p, 2, none⟩ (.slice ra' ((st.length + 63) / 64) rcap')) := by
  subst hbc
  have hb' : Below w.heap.size w w' := ⟨hb.os, hb.tape, hb.output, hb.size, hb.block⟩
  rw [pack_filled] at ho
  refine ⟨h.noted ht hb' (ownsRow_le ho hB) fun j hj => ?_, ((Fr.of_below hb').trans (Fr.setP _ _ _)).trans (Fr.setP _ _ _)⟩
  unfold filled
  rw [if_neg (by omega)]
  exact h.rb j hj

/-- the cells that the methods read -/
theorem Tb.c0 (h : Tb TBL SLOT w B p q st m r) : w.cell? ⟨p, 0, none⟩ = some (.slice (some ⟨q, 0, none⟩) st.length st.length) := by
  obtain ⟨ra, rcap, h1, h2⟩ := h.tbl; rw [cell_of_block h1]; rfl
theorem Tb.c1 (h : Tb TBL SLOT w B p q st m r) : w.cell? ⟨p, 1, none⟩ = some (.int .i64 (st.length : Int)) := by
  obtain ⟨ra, rcap, h1, h2⟩ := h.tbl; rw [cell_of_block h1]; rfl
theorem Tb.c2 (h : Tb TBL SLOT w B p q st m r) : ∃ ra rcap, w.cell? ⟨p, 2, none⟩ = some (.slice ra ((st.length + 63) / 64) rcap) ∧ SlK .u64 w ra ((st.length + 63) / 64) (pack r ((st.length + 63) / 64)) := by
  obtain ⟨ra, rcap, h1, h2⟩ := h.tbl; exact ⟨ra, rcap, by rw [cell_of_block h1]; rfl, SlK.of_own h2⟩
theorem Tb.c3 (h : Tb TBL SLOT w B p q st m r) : w.cell? ⟨p, 3, none⟩ = some (.int .i64 (m : Int)) := by
  obtain ⟨ra, rcap, h1, h2⟩ := h.tbl; rw [cell_of_block h1]; rfl
theorem Tb.fp (h : Tb TBL SLOT w B p q st m r) (j : Nat) : w.frozen? ⟨p, j, none⟩ = false := by
  obtain ⟨ra, rcap, h1, h2⟩ := h.tbl; exact unfrozen_of_block h1 j
theorem Tb.fq (h : Tb TBL SLOT w B p q st m r) (j : Nat) : w.frozen? ⟨q, j, none⟩ = false := unfrozen_of_block h.slots j
theorem Tb.s0 (h : Tb TBL SLOT w B p q st m r) {i : Nat} (hi : i < st.length) : w.cell? ⟨q, i * 3, none⟩ = some (.int .i64 ((st.getD i (0, false, undef)).1 : Int)) := by
  rw [cell_of_block h.slots, List.getElem?_toArray]; exact (slotCells_get st i 0 hi (by decide)).trans rfl
theorem Tb.s1 (h : Tb TBL SLOT w B p q st m r) {i : Nat} (hi : i < st.length) : w.cell? ⟨q, i * 3 + 1, none⟩ = some (.bool (st.getD i (0, false, undef)).2.1) := by
  rw [cell_of_block h.slots, List.getElem?_toArray]; exact (slotCells_get st i 1 hi (by decide)).trans rfl
theorem Tb.s2 (h : Tb TBL SLOT w B p q st m r) {i : Nat} (hi : i < st.length) : w.cell? ⟨q, i * 3 + 2, none⟩ = some (st.getD i (0, false, undef)).2.2 := by
  rw [cell_of_block h.slots, List.getElem?_toArray]; exact (slotCells_get st i 2 hi (by decide)).trans rfl
theorem Tb.chk0 (h : Tb TBL SLOT w B p q st m r) : chk st.length (pack r ((st.length + 63) / 64)) = 0 := by
  have := h.n2
  refine chk_ok (by omega) (by rw [pack_length]; omega) fun i hi hn => ?_
  rw [pack_length] at hi
  rw [pack_bat _ _ _ hi]
  exact h.rb i (by omega)
end
end Go.Proofs.YtfmclbacoffdaaaDoor
