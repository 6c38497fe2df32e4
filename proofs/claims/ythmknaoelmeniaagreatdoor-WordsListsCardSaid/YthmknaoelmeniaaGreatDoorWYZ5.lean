/- strings.Builder: the writing methods at this program (their copy check ends in a refusal here, so the kit's contracts do not lie). | Package-level tables: what a row lists, read out; kept by growth. | Words: Int of the program. | Words: an item is read, by the program. | Words: numbers and parts in memory. -/
import Derived.Test.YthmknaoelmeniaaGreatDoorWYZ3
import Derived.Test.YthmknaoelmeniaaGreatDoorShelf
import Derived.Shelf.Strings.BuilderK
import Derived.Lib.LaidTab
import Derived.Lib.AtoiErrMem
import Derived.Test.YthmknaoelmeniaaGreatDoorWYZ4
import Derived.Deep.Cut
namespace Go.Proofs.YthmknaoelmeniaaGreatDoor
open Go.RowKit Go.Sort Go.Joins Go.Shelf

theorem szBuilder : (Tryz.prog.info? 49).map (·.size) = some 2 := by kernel_rfl
theorem liesBuilder : liesAt Tryz.prog Tryz.prog.depth 49 (2 / Tryz.prog.cellsOf 49) 0 49 1 = true := by kernel_rfl
theorem infoByte : (Tryz.prog.info? 5).map (fun i => (i.zero, i.size, i.bytes)) = some (some (.int .u8 0), 1, 1) := by kernel_rfl
set_option maxHeartbeats 1000000 in
set_option maxRecDepth 100000 in
theorem bldUsed (b : Nat) (w : World) (h0 : w.cell? ⟨b, 0, none⟩ = some (.pointer (some ⟨b, 0, none⟩))) :
    Calls Tryz.prog 34 #[.pointer (some ⟨b, 0, none⟩)] w fun e w' => e = .returned (.tuple #[]) ∧ w' = w := by
  obtain ⟨j, hj, _⟩ := Option.map_eq_some_iff.1 szBuilder
  go_enter Tryz.func34, Tryz.ntmps34
  go_wp2
  rw [Lib.run_neq_ptr_same w _ Tryz.underlying46 hj]
  go_wp2
  go_end0
  exact ⟨rfl, rfl⟩
set_option maxHeartbeats 1000000 in
set_option maxRecDepth 100000 in
theorem bldFresh (b : Nat) (w : World) (h0 : w.cell? ⟨b, 0, none⟩ = some (.pointer none)) (hsh : w.shape? b = some (49, 2)) (hfz : w.frozen? ⟨b, 0, none⟩ = false) :
    Calls Tryz.prog 34 #[.pointer (some ⟨b, 0, none⟩)] w fun e w' => e = .returned (.tuple #[]) ∧ w' = w.setCell ⟨b, 0, none⟩ (.pointer (some ⟨b, 0, none⟩)) := by
  obtain ⟨j, hj, hjs⟩ := Option.map_eq_some_iff.1 szBuilder
  go_enter Tryz.func34, Tryz.ntmps34
  go_wp2
  rw [Lib.run_to_unsafe w ⟨b, 0, none⟩ Tryz.underlying46 Tryz.underlying92 hj (by rw [hjs]; decide) hsh (Nat.zero_lt_succ 1)]
  simp only [Result.andThen]
  rw [Oper.upon_value]
  go_wp2
  rw [run_callFunc_extern Tryz.func49 (by kernel_rfl) (by kernel_rfl) (by kernel_rfl) (e := Extern.AbiNoEscape.same) (by kernel_rfl)]
  rw [Lib.run_noEscape]
  simp only [Result.andThen]
  rw [Oper.upon_value]
  go_wp2
  rw [Lib.run_from_unsafe w ⟨b, 0, none⟩ Tryz.underlying92 Tryz.underlying46 hj hsh liesBuilder]
  simp only [Result.andThen]
  rw [Oper.upon_value]
  go_wp2
  go_end0
  exact ⟨rfl, rfl⟩
theorem bldCheck (B b : Nat) (bs : List Value) (w : World) (h : Lib.IsBuilderF 49 5 B b bs w) :
    Calls Tryz.prog 34 #[.pointer (some ⟨b, 0, none⟩)] w fun e w' => e = .returned (.tuple #[]) ∧ (Lib.BuilderAtF 49 5 B b (.pointer (some ⟨b, 0, none⟩)) bs w' ∧ Below B w w' ∧ Lib.OthersKept 5 (some b) w w') := by
  rcases h with h | h
  · refine (bldFresh b w h.cell0 h.shape h.frozen0).mono ?_
    rintro e w' ⟨rfl, rfl⟩
    exact ⟨rfl, h.used _, (Below.refl B w).setCell (p := ⟨b, 0, none⟩) h.1 _, (Lib.OthersKept.refl _ _ w).setCell ⟨b, 0, none⟩ rfl _⟩
  · refine (bldUsed b w h.cell0).mono ?_
    rintro e w' ⟨rfl, rfl⟩
    exact ⟨rfl, h, Below.refl B _, Lib.OthersKept.refl _ _ _⟩
set_option maxHeartbeats 2000000 in
set_option maxRecDepth 100000 in
theorem bldByte (B b : Nat) (bs : List Value) (c : Int) (w : World) (h : Lib.IsBuilderF 49 5 B b bs w) (hlen : bs.length + 1 ≤ 140737488355328) (hBw : B ≤ w.heap.size) :
    Calls Tryz.prog 16 #[.pointer (some ⟨b, 0, none⟩), .int .u8 c] w fun e w' => e = .returned .nilIface ∧ (Lib.BuilderAtF 49 5 B b (.pointer (some ⟨b, 0, none⟩)) (bs ++ [.int .u8 c]) w' ∧ Below B w w' ∧ Lib.OthersKept 5 (some b) w w') := by
  obtain ⟨i0, hi, hz0, hz1, hz2⟩ := info_parts infoByte
  go_enter Tryz.func16, Tryz.ntmps16
  go_wp2_with (go_at_call 34; refine (bldCheck B b bs _ h).mono ?_)
  rintro e w1 ⟨rfl, h1, hb1, hk1⟩
  obtain ⟨hB, v, hbk, hown, hne⟩ := h1
  have c0 : w1.cell? ⟨b, 0, none⟩ = some (.pointer (some ⟨b, 0, none⟩)) := by rw [Lib.cell_of_heap hbk]; rfl
  have c1 : w1.cell? ⟨b, 1, none⟩ = some v := by rw [Lib.cell_of_heap hbk]; rfl
  go_wp2_with (at_builtin; refine wpList_append_ownF _ rfl _ _ 47 rfl B 5 i0 (.int .u8 0) 1 1 Tryz.underlying47 hi hz0 hz1 hz2 rfl (by decide) _ _ _ rfl (hown.alloc _) ⟨w1.heap.size, 0, none⟩ 1 1 [.int .u8 c] rfl rfl ?c1 ?c2 ?c3 ?c4 ?c5 ?_)
  case c1 =>
    intro j u hj
    match j, hj with
    | 0, hj => simp at hj; subst hj; simp [Addr.add]
  case c2 => intro u hu; simp at hu; subst hu; rfl
  case c3 => unfold maxLen; omega
  case c4 => omega
  case c5 => have := hb1.size; simp; omega
  intro v' w2 hown' hgrow _
  have hlt : b < w1.heap.size := by
    rcases Nat.lt_or_ge b w1.heap.size with h' | h'
    · exact h'
    · simp [Array.getElem?_eq_none h'] at hbk
  have hb2 : w2.heap[b]? = some (.cells #[.pointer (some ⟨b, 0, none⟩), v] 49 (0, 0)) := by
    rw [hgrow.block b (by simp; omega) (fun e => hne e.symm), Lib.alloc_old w1 _ b hlt]
    exact hbk
  have d0 : w2.cell? ⟨b, 0, none⟩ = some (.pointer (some ⟨b, 0, none⟩)) := by rw [Lib.cell_of_heap hb2]; rfl
  have d1 : w2.cell? ⟨b, 1, none⟩ = some v := by rw [Lib.cell_of_heap hb2]; rfl
  have f1 : w2.frozen? ⟨b, 1, none⟩ = false := Lib.frozen_of_heap hb2 1
  obtain ⟨g, cap, rfl⟩ : ∃ g cap, v' = .slice (some ⟨g, 0, none⟩) (bs.length + 1) cap := by
    rcases hown'.2 with ⟨_, h0⟩ | ⟨g, cap, cur, fz, hv, _⟩
    · omega
    · exact ⟨g, cap, hv⟩
  go_wp2
  go_ret
  refine ⟨rfl, ?_, ?_, ((hk1.alloc _).grown hgrow (Lib.ownsRowF_kind (hown.alloc _))).setCell ⟨b, 1, none⟩ rfl _⟩
  · exact Lib.BuilderAtF.put (T := 49) (e := 5) hB hb2 (bs' := bs ++ [.int .u8 c]) (by simpa using hown') (by decide)
  · exact ((hb1.alloc (by have := hb1.size; omega) _).grown hgrow (by have := hb1.size; simp; omega) (fun k hk => (hown.lt k hk).1)).setCell (p := ⟨b, 1, none⟩) hB _
set_option maxHeartbeats 2000000 in
set_option maxRecDepth 100000 in
theorem bldString (B b : Nat) (bs : List Value) (s : ByteArray) (w : World) (h : Lib.IsBuilderF 49 5 B b bs w) (hlen : bs.length + s.size ≤ 140737488355328) (hBw : B ≤ w.heap.size) :
    Calls Tryz.prog 17 #[.pointer (some ⟨b, 0, none⟩), .string s] w fun e w' => e = .returned (.tuple #[.int .i64 s.size, .nilIface]) ∧ (Lib.BuilderAtF 49 5 B b (.pointer (some ⟨b, 0, none⟩)) (bs ++ Lib.strCells s) w' ∧ Below B w w' ∧ Lib.OthersKept 5 (some b) w w') := by
  obtain ⟨i0, hi, hz0, hz1, hz2⟩ := info_parts infoByte
  go_enter Tryz.func17, Tryz.ntmps17
  go_wp2_with (go_at_call 34; refine (bldCheck B b bs _ h).mono ?_)
  rintro e w1 ⟨rfl, h1, hb1, hk1⟩
  obtain ⟨hB, v, hbk, hown, hne⟩ := h1
  have c0 : w1.cell? ⟨b, 0, none⟩ = some (.pointer (some ⟨b, 0, none⟩)) := by rw [Lib.cell_of_heap hbk]; rfl
  have c1 : w1.cell? ⟨b, 1, none⟩ = some v := by rw [Lib.cell_of_heap hbk]; rfl
  go_wp2_with (at_builtin; refine Lib.wpList_append_own_stringF _ rfl _ _ 47 9 rfl B 5 i0 Tryz.underlying47 Tryz.underlying9 hi hz0 hz1 hz2 _ _ _ rfl hown s rfl ?c3 ?c4 ?c5 ?_)
  case c3 => unfold maxLen; omega
  case c4 => omega
  case c5 => have := hb1.size; omega
  intro v' w2 hown' hgrow _
  have hlt : b < w1.heap.size := by
    rcases Nat.lt_or_ge b w1.heap.size with h' | h'
    · exact h'
    · simp [Array.getElem?_eq_none h'] at hbk
  have hb2 : w2.heap[b]? = some (.cells #[.pointer (some ⟨b, 0, none⟩), v] 49 (0, 0)) := by
    rw [hgrow.block b hlt (fun e => hne e.symm)]
    exact hbk
  have d0 : w2.cell? ⟨b, 0, none⟩ = some (.pointer (some ⟨b, 0, none⟩)) := by rw [Lib.cell_of_heap hb2]; rfl
  have d1 : w2.cell? ⟨b, 1, none⟩ = some v := by rw [Lib.cell_of_heap hb2]; rfl
  have f1 : w2.frozen? ⟨b, 1, none⟩ = false := Lib.frozen_of_heap hb2 1
  obtain ⟨ao, n', cap, rfl⟩ : ∃ ao n' cap, v' = .slice ao n' cap := by
    rcases hown'.2 with ⟨hv, _⟩ | ⟨g, cap, cur, fz, hv, _⟩
    · exact ⟨_, _, _, hv⟩
    · exact ⟨_, _, _, hv⟩
  go_wp2
  go_ret2
  refine ⟨rfl, ?_, ?_, (hk1.grown hgrow (Lib.ownsRowF_kind hown)).setCell ⟨b, 1, none⟩ rfl _⟩
  · exact Lib.BuilderAtF.put (T := 49) (e := 5) hB hb2 (bs' := bs ++ Lib.strCells s) (by simpa [Lib.strCells_length] using hown') (by decide)
  · exact (hb1.grown hgrow (by have := hb1.size; omega) (fun k hk => (hown.lt k hk).1)).setCell (p := ⟨b, 1, none⟩) hB _
/-- a builder that is new -/
theorem bldNew (w : World) (B : Nat) (hB : B ≤ w.heap.size) : Lib.IsBuilderF 49 5 B w.heap.size [] (w.alloc (.cells #[.pointer none, .slice none 0 0] 49)) := by
  refine .inl ⟨hB, .slice none 0 0, heap_alloc_new w _, World.ownsRowF_of (World.ownsRow_nil _ _ _ _), by simp [Value.ownBlock]⟩
end Go.Proofs.YthmknaoelmeniaaGreatDoor

namespace Go.Proofs.YthmknaoelmeniaaGreatDoor
open Go.RowKit Go.Sort Go.Joins Go.Lib
theorem tabIs_below {P : Program} {w w' : World} {nm : String} {k : IntKind} {zs : List Int} (h : TabIs P w nm k zs) (hb : Below w.heap.size w w') : TabIs P w' nm k zs := by
  unfold TabIs World.var? at *
  cases hg : P.globalNamed nm with
  | none => rw [hg] at h; cases h
  | some g =>
    rw [hg] at h
    simp only [Option.bind_some] at h ⊢
    cases hh : w.heap[g]? with
    | none => rw [hh] at h; cases h
    | some o =>
      rw [hh] at h
      rw [hb.block g (blk_lt hh), hh]
      exact h
/-- an array of strings that reads as the table holds its strings, cell for cell -/
theorem cells_of_strs {H : Type} {enc : TypeId × Value → H} {P : Program} {w : World} {base : Nat} {sp : Nat → Bool} {held : Bool} {fuel : Nat} {t e : TypeId} {n : Nat} {cs : List Value} {ss : List (List UInt8)} {p : List MemPlace}
    (ht : P.underlying t = some (.array n e)) (he : P.underlying e = some .string) (hce : P.cellsOf e = 1) (hct : P.cellsOf t = n)
    (h : DataW.trod enc P w base sp held fuel t cs = some (.agg (ss.map fun s => .lit (.string s)), p)) : cs = ss.map fun s => Value.string ⟨s.toArray⟩ := by
  cases fuel with
  | zero => simp [DataW.trod] at h
  | succ fuel =>
    simp only [DataW.trod, ht, hce, hct, Nat.mul_one] at h
    split at h
    · rename_i hl
      obtain ⟨xs, hm, hx⟩ := Option.map_eq_some_iff.1 h
      have hxs : xs.map (·.1) = ss.map fun s => (DataW.lit (.string s) : DataW H) := by
        have := congrArg Prod.fst hx
        simpa using this
      have hxl : xs.length = n := by simpa using mapM_length hm
      have hzl : ss.length = n := by
        have := congrArg List.length hxs
        simp at this
        omega
      apply List.ext_getElem?
      intro i
      by_cases hi : i < n
      · obtain ⟨b, hb, hf⟩ := mapM_at hm i i (by simp [hi])
        obtain ⟨z, hc, rfl, _⟩ := DataW.trod_string he hf
        have h1 : cs[i]? = some (.string z) := by
          have := congrArg (·[0]?) hc
          simpa [List.getElem?_take, List.getElem?_drop] using this
        have h2 : (xs.map (·.1))[i]? = some (DataW.lit (.string z.data.toList) : DataW H) := by simp [hb]
        rw [hxs] at h2
        simp only [List.getElem?_map, Option.map_eq_some_iff, DataW.lit.injEq, Lit.string.injEq] at h2
        obtain ⟨z', hz', rfl⟩ := h2
        simp [h1, hz']
      · rw [List.getElem?_eq_none (by omega), List.getElem?_eq_none (by simp; omega)]
    · cases h
theorem nD_le : ∀ (k u : Nat), u < 10 ^ (k + 1) → Lib.nDigits u ≤ k + 1
  | 0, u, h => by rw [Lib.nDigits_small (by simpa using h)]; exact Nat.le_refl _
  | k + 1, u, h => by
    by_cases hu : u < 10
    · rw [Lib.nDigits_small hu]; omega
    · rw [Lib.nDigits_big hu]
      have := nD_le k (u / 10) (by rw [Nat.div_lt_iff_lt_mul (by decide)]; rw [Nat.pow_succ] at h; exact h)
      omega
theorem itoa_len {n : Int} {k : Nat} (h0 : 0 ≤ n) (h1 : n < (10 ^ (k + 1) : Nat)) : (Lib.itoa n).length ≤ k + 1 := by
  unfold Lib.itoa
  rw [if_neg (by omega), Lib.decDigits_length]
  exact nD_le k _ (by omega)
theorem bldAt_below {T e : TypeId} {B b : Nat} {p : Value} {bs : List Value} {w w' : World} (h : Lib.BuilderAtF T e B b p bs w) (hb : Below w.heap.size w w') : Lib.BuilderAtF T e B b p bs w' := by
  obtain ⟨h1, v, h2, h3, h4⟩ := h
  refine ⟨h1, v, (hb.block _ (blk_lt h2)).trans h2, ⟨h3.1, ?_⟩, h4⟩
  rcases h3.2 with h5 | ⟨g, cap, cur, fz, hv, hB, hh, r⟩
  · exact .inl h5
  · exact .inr ⟨g, cap, cur, fz, hv, hB, (hb.block _ (blk_lt hh)).trans hh, r⟩
theorem bld_below {T e : TypeId} {B b : Nat} {bs : List Value} {w w' : World} (h : Lib.IsBuilderF T e B b bs w) (hb : Below w.heap.size w w') : Lib.IsBuilderF T e B b bs w' :=
  h.elim (fun h => .inl (bldAt_below h hb)) (fun h => .inr (bldAt_below h hb))
/-- strings one behind the other, as lists -/
theorem cat2 (a b : List UInt8) : (⟨a.toArray⟩ ++ ⟨b.toArray⟩ : ByteArray).data.toList = a ++ b := by simp
theorem cat3 (a b c : List UInt8) : (⟨a.toArray⟩ ++ ⟨b.toArray⟩ ++ ⟨c.toArray⟩ : ByteArray).data.toList = a ++ b ++ c := by simp
theorem cell_kept_o {e : TypeId} {b : Nat} {w w' : World} {k : Nat} {cs : Array Value} {t : TypeId} {fz : Nat × Nat} (h : Lib.OthersKept e (some b) w w') (hk : w.heap[k]? = some (.cells cs t fz)) (hb : k ≠ b) (ht : t ≠ e) : w'.heap[k]? = some (.cells cs t fz) :=
  h k _ hk (fun e' => hb (by simpa using e')) (fun c fz' e' => by cases e'; exact ht rfl)
end Go.Proofs.YthmknaoelmeniaaGreatDoor

namespace Go.Proofs.YthmknaoelmeniaaGreatDoor
open Go.RowKit Go.Sort Go.Joins Go.Shelf
attribute [local go_sem] cell_grow frozen_grow size_grow

/-- the tables that numbers need -/
structure TW (w : World) : Prop where
  pow : Lib.TabIs Tryz.prog w "internal/strconv.uint64pow10" .u64 Lib.pow10Tab
  rng : ∃ tp p, w.var? Tryz.prog "strconv.ErrRange" = some #[.iface tp p]
theorem var_below {P : Program} {w w' : World} {nm : String} {cs : Array Value} (h : w.var? P nm = some cs) (hb : Below w.heap.size w w') : w'.var? P nm = some cs := by
  unfold World.var? at *
  cases hg : P.globalNamed nm with
  | none => rw [hg] at h; cases h
  | some g =>
    rw [hg] at h
    simp only [Option.bind_some] at h ⊢
    cases hh : w.heap[g]? with
    | none => rw [hh] at h; cases h
    | some o =>
      rw [hh] at h
      rw [hb.block g (blk_lt hh), hh]
      exact h
theorem TW.below {w w' : World} (h : TW w) (hb : Below w.heap.size w w') : TW w' := ⟨tabIs_below h.pow hb, h.rng.elim fun tp h => h.elim fun p h => ⟨tp, p, var_below h hb⟩⟩
theorem pref45 (l : List UInt8) : Lib.hasPrefix l [45] = ngB l := by
  cases l with
  | nil => rfl
  | cons c r =>
    rw [ngB_cons]
    unfold Lib.hasPrefix
    rw [Bool.eq_iff_iff]
    simp only [List.isPrefixOf, Bool.and_true, beq_iff_eq, decide_eq_true_eq]
    constructor
    · intro h; rw [← h]; rfl
    · intro h; exact (UInt8.toNat_inj.1 h).symm
theorem trim45 (l : List UInt8) : Lib.trimPrefix l [45] = absL l := by
  unfold Lib.trimPrefix absL
  rw [pref45]
  cases ngB l
  · rfl
  · cases l <;> rfl
theorem whole_bad {A : List UInt8} {g : Bool} (h : A = [] ∨ (bt A 0 = 48 ∧ (1 < A.length ∨ g = true))) : (natB A && !(g && decide (A = [48]))) = false := by
  rcases h with rfl | ⟨h1, h2⟩
  · rfl
  · cases hn : natB A
    · rfl
    · have hne := natB_ne hn
      cases A with
      | nil => exact absurd rfl hne
      | cons c r =>
        have hc : c = 48 := h1
        subst hc
        by_cases hr : r = []
        · subst hr
          have hg : g = true := h2.resolve_left (by simp)
          subst hg; rfl
        · have := natB_head hn (by have := List.length_pos_iff.2 hr; simp only [List.length_cons]; omega)
          exact absurd rfl this
theorem whole_good {A : List UInt8} {g : Bool} (h : A.all dgC = true) (h0 : A ≠ []) (h1 : bt A 0 = 48 → A.length = 1 ∧ g = false) : (natB A && !(g && decide (A = [48]))) = true := by
  cases A with
  | nil => exact absurd rfl h0
  | cons c r =>
    have hb : bt (c :: r) 0 = c := rfl
    rw [hb] at h1
    by_cases hc : c = 48
    · obtain ⟨h2, rfl⟩ := h1 hc
      rw [natB_of h h0 (.inl h2)]; rfl
    · rw [natB_of h h0 (.inr (by rw [List.head?_cons]; intro e; exact hc (Option.some.inj e)))]
      rw [decide_eq_false (fun e => hc (List.cons.inj e).1)]; simp
/-- ParseInt of a whole number -/
theorem parseInt_ok (s : ByteArray) (L : List UInt8) (hL : s.data.toList = L) (hw : wholeB L = true) (hs : s.size ≤ 281474976710656) (w : World) (hT : TW w) :
    Calls Tryz.prog 71 #[.string s, .int .i64 10, .int .i64 64] w fun e w' => Below w.heap.size w w' ∧ ((-9223372036854775808 ≤ valZ L ∧ valZ L ≤ 9223372036854775807 ∧ e = .returned (.tuple #[.int .i64 (valZ L), .nilIface])) ∨ (¬ (-9223372036854775808 ≤ valZ L ∧ valZ L ≤ 9223372036854775807) ∧ ∃ v N, e = .returned (.tuple #[.int .i64 v, .iface 136 (.pointer (some ⟨N, 0, none⟩))]))) := by
  have hp := pi64 hw
  by_cases h : -9223372036854775808 ≤ valZ L ∧ valZ L ≤ 9223372036854775807
  · rw [if_pos h] at hp
    refine (Tryz.strconv_ParseInt_10_at64_ok s (by omega) _ (by rw [hL]; exact hp) w).mono ?_
    rintro e w' ⟨rfl, h1⟩
    refine ⟨?_, .inl ⟨h.1, h.2, rfl⟩⟩
    rcases h1 with rfl | ⟨t, rfl⟩
    · exact Below.refl _ _
    · exact Lib.bytesWorld_below _ _ _
  · rw [if_neg h] at hp
    obtain ⟨tp, p, hv⟩ := hT.rng
    refine (Tryz.strconv_ParseInt_10_at64_range_var s hs (by rw [hL]; exact hp) tp p w hv).mono ?_
    rintro e w' ⟨N, rfl, _, _, h1⟩
    exact ⟨h1, .inr ⟨h, _, N, rfl⟩⟩
set_option maxRecDepth 100000 in
set_option maxHeartbeats 1000000 in
theorem wint_ok (s : ByteArray) (L : List UInt8) (hL : s.data.toList = L) (hs : s.size ≤ 281474976710656) (lo hi : Int) (hlo0 : -9223372036854775808 ≤ lo) (hhi0 : hi ≤ 9223372036854775807) (w : World) (hT : TW w) : Calls Tryz.prog 57 #[.string s, .int .i64 lo, .int .i64 hi] w fun e w' => e = .returned (.tuple #[.int .i64 (intV L lo hi), .int .i64 (intE L lo hi)]) ∧ Below w.heap.size w w' := by
  have hlen := len_of hL
  by_cases hlo : hi < lo
  · have d1 : decide (hi < lo) = true := decide_eq_true hlo
    have HE := Lib.hid (intE_arg (l := L) hlo)
    clear hL hT
    go_enter Tryz.func57, Tryz.ntmps57
    go_wp2
    go_ret2
    exact ⟨ret_two (intV_no (by rw [HE.out]; decide)).symm HE.out.symm, Below.refl _ _⟩
  · have d1 : decide (hi < lo) = false := decide_eq_false hlo
    have hc := Tryz.strings_CutPrefix s ⟨#[45]⟩
    rw [hL, show (⟨#[45]⟩ : ByteArray).data.toList = [45] from rfl, trim45, pref45] at hc
    have HC := Lib.hid hc
    clear hc
    obtain ⟨g, hg⟩ : ∃ g, ngB L = g := ⟨_, rfl⟩
    obtain ⟨A, hA⟩ : ∃ A, absL L = A := ⟨_, rfl⟩
    rw [hg, hA] at HC
    obtain ⟨t, ht⟩ : ∃ t : ByteArray, ⟨A.toArray⟩ = t := ⟨_, rfl⟩
    rw [ht] at HC
    have htl : t.data.toList = A := by rw [← ht]
    have hAl := len_of htl
    have hAd := absL_drop L
    rw [hA] at hAd
    have hAs : A.length ≤ L.length := by rw [hAd, List.length_drop]; omega
    have hts : t.size ≤ 281474976710656 := by omega
    clear ht
    have HF := Lib.hid (intE_form (l := L) (lo := lo) (hi := hi) (by omega))
    have HWH := Lib.hid (intE_whole (l := L) (lo := lo) (hi := hi) (by omega))
    have hwd : wholeB L = (natB A && !(g && decide (A = [48]))) := by unfold wholeB; rw [hA, hg]
    have HWD := Lib.hid hwd
    have HTL := Lib.hid htl
    have HT := Lib.hid hT
    have HL := Lib.hid hL
    clear hwd htl hg hA hAd hT hL
    go_enter Tryz.func57, Tryz.ntmps57
    go_wp2_with fail
    refine (HC.out _).mono ?_
    rintro e w1 ⟨rfl, rfl⟩
    clear HC
    go_wp2_with fail
    go_loop [10, 23] (fun _ i => ∃ k : Nat, i = .int .i64 k ∧ k ≤ t.size ∧ Hid (∀ j, j < k → dgC (bt A j) = true)) (fun _ i => t.size - (intOf i).toNat)
    case atStart => exact ⟨0, rfl, Nat.zero_le _, Lib.hid (fun j hj => by omega)⟩
    case round =>
      obtain ⟨k, rfl, hk, HA⟩ := hrel
      by_cases hlt : k < t.size
      · have hb := bt_get HTL.out hlt
        have hb2 := (bt A k).toNat_lt
        have HD := Lib.hid (wdig_ok (bt A k))
        obtain ⟨c, hc⟩ : ∃ c, bt A k = c := ⟨_, rfl⟩
        rw [hc] at hb hb2 HD
        obtain ⟨r, hr⟩ : ∃ r, dgC c = r := ⟨_, rfl⟩
        rw [hr] at HD
        have HCR := Lib.hid (And.intro hc hr)
        clear hc hr
        cases r
        · go_wp2_with fail
          refine (HD.out _).mono ?_
          rintro e w1 ⟨rfl, rfl⟩
          go_wp2_with fail
          go_ret2
          have h6 := HF.out (by
            rw [HWD.out]
            have : natB A = false := by
              cases h : natB A
              · rfl
              · have := List.all_eq_true.1 (natB_dig h) (bt A k) (by rw [List.mem_iff_getElem?]; exact ⟨k, bt_at (by omega)⟩)
                rw [HCR.out.1, HCR.out.2] at this; cases this
            rw [this]; rfl)
          exact ⟨ret_two (intV_no (by rw [h6]; decide)).symm h6.symm, Below.refl _ _⟩
        · go_wp2_with fail
          refine (HD.out _).mono ?_
          rintro e w1 ⟨rfl, rfl⟩
          go_wp2_with fail
          go_roundw
          case rel => exact ⟨k + 1, by go_num, by omega, Lib.hid (fun j hj => by
            by_cases ej : j = k
            · rw [ej, HCR.out.1, HCR.out.2]
            · exact HA.out j (by omega))⟩
          case measure => simp [intOf]; omega
      · obtain rfl : k = t.size := by omega
        have hall : A.all dgC = true := by
          rw [List.all_eq_true]
          intro x hx
          obtain ⟨i, hi⟩ := List.mem_iff_getElem?.1 hx
          have hlt : i < A.length := by
            rcases Nat.lt_or_ge i A.length with h' | h'
            · exact h'
            · rw [List.getElem?_eq_none h'] at hi; cases hi
          rw [bt_at hlt] at hi
          cases hi
          exact HA.out i (by omega)
        have hem := empty_nil HTL.out
        have HWB := Lib.hid (whole_bad (A := A) (g := g))
        have HWG := Lib.hid (whole_good (A := A) (g := g) hall)
        clear HA hall
        by_cases hz : t.size = 0
        · have hAn : A = [] := List.length_eq_zero_iff.1 (by omega)
          rw [decide_eq_true hAn] at hem
          have h6 := HF.out (by rw [HWD.out]; exact HWB.out (.inl hAn))
          have H6 := Lib.hid h6
          clear h6 HTL HWB HWG hAn
          go_wp2_with fail
          go_ret2
          exact ⟨ret_two (intV_no (by rw [H6.out]; decide)).symm H6.out.symm, Below.refl _ _⟩
        · have hp : 0 < t.size := by omega
          have hAn : A ≠ [] := by intro e; rw [e] at hAl; simp at hAl; omega
          rw [decide_eq_false hAn] at hem
          have hb0 := bt_get HTL.out hp
          have hb02 := (bt A 0).toNat_lt
          have h48 := c48 (c := bt A 0)
          obtain ⟨c, hc⟩ : ∃ c, bt A 0 = c := ⟨_, rfl⟩
          rw [hc] at hb0 hb02 h48
          have HC0 := Lib.hid hc
          clear hc
          by_cases hbad : c = 48 ∧ (1 < A.length ∨ g = true)
          · have h6 := HF.out (by rw [HWD.out]; exact HWB.out (.inr (by rw [HC0.out]; exact hbad)))
            have H6 := Lib.hid h6
            rw [decide_eq_true hbad.1] at h48
            have hor : decide ((1 : Int) < (t.size : Int)) = true ∨ decide ((1 : Int) < (t.size : Int)) = false ∧ g = true := by
              rcases hbad.2 with h | h
              · left; exact decide_eq_true (by omega)
              · by_cases h1 : (1 : Int) < (t.size : Int)
                · left; exact decide_eq_true h1
                · right; exact ⟨decide_eq_false h1, h⟩
            clear h6 HTL HWB HWG hAn hbad
            rcases hor with h1 | ⟨h1, rfl⟩
            all_goals
              go_wp2_with fail
              go_ret2
              exact ⟨ret_two (intV_no (by rw [H6.out]; decide)).symm H6.out.symm, Below.refl _ _⟩
          · have hgood : c = 48 → A.length = 1 ∧ g = false := by
              intro h
              refine ⟨?_, ?_⟩
              · rcases Nat.lt_or_ge 1 A.length with h1 | h1
                · exact absurd ⟨h, .inl h1⟩ hbad
                · omega
              · cases g
                · rfl
                · exact absurd ⟨h, .inr rfl⟩ hbad
            have hwt : wholeB L = true := by rw [HWD.out]; exact HWG.out hAn (by rw [HC0.out]; exact hgood)
            have HE := Lib.hid (HWH.out hwt)
            have hV := intV_ok (l := L) (lo := lo) (hi := hi)
            have HV := Lib.hid hV
            have HP := Lib.hid (parseInt_ok s L HL.out hwt hs _ HT.out)
            have hor : decide (c = 48) = false ∨ (decide (c = 48) = true ∧ decide ((1 : Int) < (t.size : Int)) = false ∧ g = false) := by
              by_cases h : c = 48
              · right
                obtain ⟨h1, h2⟩ := hgood h
                exact ⟨decide_eq_true h, decide_eq_false (by omega), h2⟩
              · left; exact decide_eq_false h
            clear HTL HWB HWG hAn hbad hgood hwt HF HWH HWD HT HL hV
            rcases hor with h1 | ⟨h1, h2, rfl⟩
            all_goals
              rw [h1] at h48
              clear h1
              go_wp2_with fail
              refine HP.out.mono ?_
              rintro e w1 ⟨b1, ⟨v0, v1, rfl⟩ | ⟨v0, v, N, rfl⟩⟩
              · obtain ⟨v, hv⟩ : ∃ v, valZ L = v := ⟨_, rfl⟩
                rw [hv] at HE HV v0 v1 ⊢
                clear HP hv
                go_wp2
                all_goals go_ret2
                all_goals
                  have hE := HE.out
                  first
                    | (rw [if_pos (by omega)] at hE; exact ⟨ret_two (HV.out hE).symm hE.symm, b1⟩)
                    | (rw [if_neg (by omega)] at hE; exact ⟨ret_two (intV_no (by rw [hE]; decide)).symm hE.symm, b1⟩)
              · have h7 : intE L lo hi = 7 := by
                  rw [HE.out, if_neg]
                  intro h
                  exact v0 ⟨by omega, by omega⟩
                have H7 := Lib.hid h7
                clear h7 HE HV HP v0
                go_wp2
                all_goals go_ret2
                all_goals exact ⟨ret_two (intV_no (by rw [H7.out]; decide)).symm H7.out.symm, b1⟩
end Go.Proofs.YthmknaoelmeniaaGreatDoor

namespace Go.Proofs.YthmknaoelmeniaaGreatDoor
open Go.RowKit Go.Sort Go.Joins Go.Shelf
attribute [local go_sem] cell_grow frozen_grow size_grow

theorem bless_eq : ∀ (x y : List UInt8), Op.bytesLess x y = decide (x < y)
  | [], [] => by simp [Op.bytesLess]
  | _ :: _, [] => by simp [Op.bytesLess]
  | [], _ :: _ => by simp [Op.bytesLess]
  | a :: x, b :: y => by
    have ih := bless_eq x y
    rw [Op.bytesLess, ih]
    simp only [List.cons_lt_cons_iff]
    by_cases h1 : a < b <;> by_cases h2 : a = b <;> by_cases h3 : x < y <;> simp [h1, h2, h3]
theorem d45 (c : UInt8) : ((c.toNat : Int) != 45) = !decide (c = 45) := by
  rw [Bool.eq_iff_iff]
  simp only [bne_iff_ne, ne_eq, Bool.not_eq_true', decide_eq_false_iff_not]
  refine not_congr ⟨fun h => UInt8.toNat_inj.1 ?_, fun h => by rw [h]; rfl⟩
  rw [show (45 : UInt8).toNat = 45 from rfl]; omega
theorem head_bt {l : List UInt8} (h : l ≠ []) : l.head? = some (bt l 0) := by
  cases l with
  | nil => exact absurd rfl h
  | cons c r => rfl
set_option maxRecDepth 100000 in
set_option maxHeartbeats 1600000 in
theorem natural_ok (s : ByteArray) (L : List UInt8) (hL : s.data.toList = L) (hs : s.size ≤ 281474976710656) (w : World) (hT : TW w) :
    Calls Tryz.prog 37 #[.string s] w fun e w' => e = .returned (.tuple #[.int .i64 (natV L), .bool (natB L)]) ∧ Below w.heap.size w w' := by
  have hlen := len_of hL
  have HI := Lib.hid (wint_ok s L hL hs 0 1099511627776 (by decide) (by decide) w hT)
  have hw := nat_ways L
  obtain ⟨E, hE⟩ : ∃ E, intE L 0 1099511627776 = E := ⟨_, rfl⟩
  obtain ⟨V, hV⟩ : ∃ V, intV L 0 1099511627776 = V := ⟨_, rfl⟩
  rw [hE, hV] at HI hw
  clear hE hV hT
  rcases hw with ⟨h1, h2, h3⟩ | ⟨h1, h2, h3, h4, h5⟩ | ⟨h1, h2, h3, h4⟩ | ⟨h1, h2, h3, h4⟩
  · subst h2
    rw [h1, ← h3]
    clear hL h1 h3
    go_enter Tryz.func37, Tryz.ntmps37
    go_wp2_with fail
    refine HI.out.mono ?_
    rintro e w1 ⟨rfl, b1⟩
    go_wp2_with fail
    go_ret2
    exact ⟨rfl, b1⟩
  · subst h2
    have hp : 0 < s.size := by
      rcases Nat.eq_zero_or_pos s.size with h | h
      · exact absurd (List.length_eq_zero_iff.1 (by omega)) h5
      · exact h
    have hb := bt_get hL hp
    rw [head_bt h5] at h4
    have hc := d45 (bt L 0)
    rw [decide_eq_false (fun e => h4 (by rw [e]))] at hc
    obtain ⟨c, hcd⟩ : ∃ c, bt L 0 = c := ⟨_, rfl⟩
    rw [hcd] at hb hc
    rw [h1, h3]
    clear hL h1 h3 h4 hcd
    go_enter Tryz.func37, Tryz.ntmps37
    go_wp2_with fail
    refine HI.out.mono ?_
    rintro e w1 ⟨rfl, b1⟩
    go_wp2_with fail
    go_ret2
    exact ⟨rfl, b1⟩
  · subst h2
    have h5 : L ≠ [] := by rintro rfl; simp at h3
    have hp : 0 < s.size := by
      rcases Nat.eq_zero_or_pos s.size with h | h
      · exact absurd (List.length_eq_zero_iff.1 (by omega)) h5
      · exact h
    have hb := bt_get hL hp
    rw [head_bt h5] at h3
    have hc := d45 (bt L 0)
    rw [decide_eq_true (Option.some.inj h3)] at hc
    obtain ⟨c, hcd⟩ : ∃ c, bt L 0 = c := ⟨_, rfl⟩
    rw [hcd] at hb hc
    have hnv : natV L = 0 := by unfold natV; rw [h1]; rfl
    subst h4
    rw [h1, hnv]
    clear hL h1 h3 hcd hnv
    go_enter Tryz.func37, Tryz.ntmps37
    go_wp2_with fail
    refine HI.out.mono ?_
    rintro e w1 ⟨rfl, b1⟩
    go_wp2_with fail
    go_ret2
    exact ⟨rfl, b1⟩
  · have hnv : natV L = 0 := by unfold natV; rw [h1]; rfl
    have d0 : (E == 0) = false := beq_eq_false_iff_ne.2 h2
    have d7 : (E == 7) = false := beq_eq_false_iff_ne.2 h3
    subst h4
    rw [h1, hnv]
    clear hL h1 h2 h3 hnv
    go_enter Tryz.func37, Tryz.ntmps37
    go_wp2_with fail
    refine HI.out.mono ?_
    rintro e w1 ⟨rfl, b1⟩
    go_wp2_with fail
    go_ret2
    exact ⟨rfl, b1⟩
/-- a number, but no more than that -/
def capN (n : Nat) : Int := (min n CAP : Nat)
theorem natV_cap {l : List UInt8} (h : natB l = true) : natV l = capN (valN 0 l) := by unfold natV capN; rw [if_pos h]
theorem natV_two {l : List UInt8} (h : natB l = true) : (2 ≤ natV l) = (2 ≤ valN 0 l) := by
  unfold natV CAP
  rw [if_pos h]
  exact propext ⟨fun h => by omega, fun h => by omega⟩
/-- what read hands back -/
def RdPost (w : World) (L : List UInt8) (x : Ending) (w' : World) : Prop :=
  ∃ f l k : Int, x = .returned (.tuple #[.agg #[.int .i64 f, .int .i64 l, .int .i64 k], .bool (itmP L).isSome]) ∧ (∀ y, itmP L = some y → f = capN y.1 ∧ l = capN y.2.1 ∧ k = capN y.2.2) ∧ Below w.heap.size w w'
abbrev PtB (W : World) (g : Nat) (f l k : Int) : Prop := W.heap[g]? = some (.cells #[.int .i64 f, .int .i64 l, .int .i64 k] 61 (0, 0))
theorem put3 {W : World} {g : Nat} {a b c : Int} (h : PtB W g a b c) (f l k : Int) : PtB (((W.setCell ⟨g, 0, none⟩ (.int .i64 f)).setCell ⟨g, 1, none⟩ (.int .i64 l)).setCell ⟨g, 2, none⟩ (.int .i64 k)) g f l k := by
  have h1 : PtB (W.setCell ⟨g, 0, none⟩ (.int .i64 f)) g f b c := (setCell_block h _).trans (by simp)
  have h2 : PtB ((W.setCell ⟨g, 0, none⟩ (.int .i64 f)).setCell ⟨g, 1, none⟩ (.int .i64 l)) g f l c := (setCell_block h1 _).trans (by simp)
  exact (setCell_block h2 _).trans (by simp)
theorem put3c {W : World} {g : Nat} {a b c : Int} (h : PtB W g a b c) (f l k : Int) :
    (((W.setCell ⟨g, 0, none⟩ (.int .i64 f)).setCell ⟨g, 1, none⟩ (.int .i64 l)).setCell ⟨g, 2, none⟩ (.int .i64 k)).cell? ⟨g, 0, none⟩ = some (.int .i64 f) ∧
    (((W.setCell ⟨g, 0, none⟩ (.int .i64 f)).setCell ⟨g, 1, none⟩ (.int .i64 l)).setCell ⟨g, 2, none⟩ (.int .i64 k)).cell? ⟨g, 1, none⟩ = some (.int .i64 l) ∧
    (((W.setCell ⟨g, 0, none⟩ (.int .i64 f)).setCell ⟨g, 1, none⟩ (.int .i64 l)).setCell ⟨g, 2, none⟩ (.int .i64 k)).cell? ⟨g, 2, none⟩ = some (.int .i64 k) := by
  have hp := put3 h f l k
  exact ⟨by rw [cell_of_block hp]; rfl, by rw [cell_of_block hp]; rfl, by rw [cell_of_block hp]; rfl⟩
theorem below3 {w W : World} (h : Below w.heap.size w W) (f l k : Value) : Below w.heap.size w (((W.setCell ⟨w.heap.size, 0, none⟩ f).setCell ⟨w.heap.size, 1, none⟩ l).setCell ⟨w.heap.size, 2, none⟩ k) :=
  ((h.setCell (p := ⟨w.heap.size, 0, none⟩) (Nat.le_refl _) _).setCell (p := ⟨w.heap.size, 1, none⟩) (Nat.le_refl _) _).setCell (p := ⟨w.heap.size, 2, none⟩) (Nat.le_refl _) _
/-- the ways of an item that is parted -/
theorem itm_ways {L A B : List UInt8} {C : UInt8} (hL : L = A ++ C :: B) (hp : pcut L = A.length) :
    (natB A = false → itmP L = none) ∧ (natB A = true → natB B = false → itmP L = none) ∧
    (natB A = true → natB B = true → C = 45 → itmP L = if lessB A B = true then some (valN 0 A, valN 0 B, 1) else none) ∧
    (natB A = true → natB B = true → C ≠ 45 → itmP L = if 2 ≤ natV A then some (valN 0 B, valN 0 B, valN 0 A) else none) := by
  subst hL
  have h := itm_cut hp
  refine ⟨fun h1 => ?_, fun h1 h2 => ?_, fun h1 h2 h3 => ?_, fun h1 h2 h3 => ?_⟩
  · rw [h, if_neg]; rintro ⟨k, _⟩; rw [h1] at k; cases k
  · rw [h, if_neg]; rintro ⟨_, k⟩; rw [h2] at k; cases k
  · rw [h, if_pos ⟨h1, h2⟩, if_pos h3, natB_less h1 h2]
    simp only [decide_eq_true_eq]
  · rw [h, if_pos ⟨h1, h2⟩, if_neg h3]
    simp only [natV_two h1]
set_option maxRecDepth 100000 in
set_option maxHeartbeats 6400000 in
theorem read_ok (s : ByteArray) (L : List UInt8) (hL : s.data.toList = L) (hs : s.size ≤ 4294967280) (w : World) (hT : TW w) :
    Calls Tryz.prog 21 #[.string s] w (RdPost w L) := by
  have hlen := len_of hL
  have b0 := below_box0 w (.cells #[.int .i64 0, .int .i64 0, .int .i64 0] 61)
  have HX0 : Hid (PtB (w.alloc (.cells #[.int .i64 0, .int .i64 0, .int .i64 0] 61)) w.heap.size 0 0 0) := Lib.hid (heap_alloc_new w _)
  have HIA := Lib.hid (ixa_ok s L hL hs (w.alloc (.cells #[.int .i64 0, .int .i64 0, .int .i64 0] 61)))
  have HB0 := Lib.hid b0
  have HT := Lib.hid hT
  have hxa : ixA L = if pcut L < L.length then (pcut L : Int) else -1 := rfl
  have HL := Lib.hid hL
  by_cases hlt : pcut L < L.length
  · rw [if_pos hlt] at hxa
    have hcut : L = L.take (pcut L) ++ bt L (pcut L) :: L.drop (pcut L + 1) := by
      have := drop_bt hlt
      rw [← this, List.take_append_drop]
    have htl : (L.take (pcut L)).length = pcut L := by rw [List.length_take]; omega
    have hw := itm_ways (L := L) hcut (by rw [htl])
    have HEA : Hid ((s.extract 0 (pcut L)).data.toList = L.take (pcut L)) := Lib.hid (by rw [Lib.extract_from_zero, hL])
    have HEB : Hid ((s.extract (pcut L + 1) s.size).data.toList = L.drop (pcut L + 1)) := Lib.hid (by rw [ext_list hL, List.take_of_length_le (by rw [List.length_drop]; omega)])
    have hc := d45 (bt L (pcut L))
    have hal : (L.take (pcut L)).length = pcut L := htl
    have hbl : (L.drop (pcut L + 1)).length = s.size - (pcut L + 1) := by rw [List.length_drop, hlen]
    have hsb : (s.extract (pcut L + 1) s.size).size = s.size - (pcut L + 1) := by rw [ByteArray.size_extract]; omega
    have hsa : (s.extract 0 (pcut L)).size = pcut L := by rw [ByteArray.size_extract]; omega
    obtain ⟨p, hp⟩ : ∃ p, pcut L = p := ⟨_, rfl⟩
    rw [hp] at HEA HEB hc hal hbl hsb hsa hw hlt hxa
    have hp2 : p < s.size := by omega
    have hb := bt_get hL hp2
    obtain ⟨A, hA⟩ : ∃ A, L.take p = A := ⟨_, rfl⟩
    obtain ⟨B, hB⟩ : ∃ B, L.drop (p + 1) = B := ⟨_, rfl⟩
    obtain ⟨C, hC⟩ : ∃ C, bt L p = C := ⟨_, rfl⟩
    rw [hA] at HEA hw hal
    rw [hB] at HEB hw hbl
    rw [hC] at hw hb hc
    rw [hxa] at HIA
    have HNA := Lib.hid (fun W h => natural_ok (s.extract 0 p) A HEA.out (by rw [hsa]; omega) W h)
    have HNB := Lib.hid (fun W h => natural_ok (s.extract (p + 1) s.size) B HEB.out (by rw [hsb]; omega) W h)
    obtain ⟨O, hO⟩ : ∃ O, itmP L = O := ⟨_, rfl⟩
    rw [hO] at hw
    have HW := Lib.hid hw
    have hps : p ≤ s.size := by omega
    have hp1 : p + 1 ≤ s.size := by omega
    have d0 : decide ((p : Int) < 0) = false := decide_eq_false (by omega)
    have HS : Hid (itmP L = O) := Lib.hid hO
    have hstr : Op.bytesLess (s.extract 0 p).toList (s.extract (p + 1) s.size).toList = decide (A < B) := by rw [bless_eq, Lib.toList_data, Lib.toList_data, HEA.out, HEB.out]
    clear hL hxa hcut htl hw hlt b0 hp hA hB hC hO hT
    obtain ⟨VA, hVA⟩ : ∃ x, natV A = x := ⟨_, rfl⟩
    obtain ⟨VB, hVB⟩ : ∃ x, natV B = x := ⟨_, rfl⟩
    obtain ⟨qa, hqa⟩ : ∃ x, natB A = x := ⟨_, rfl⟩
    obtain ⟨qb, hqb⟩ : ∃ x, natB B = x := ⟨_, rfl⟩
    rw [hVA, hqa] at HNA
    rw [hVB, hqb] at HNB
    rw [hqa, hqb, hVA] at HW
    have HCA : Hid (qa = true → VA = capN (valN 0 A)) := Lib.hid (fun h => by rw [← hVA]; exact natV_cap (hqa.trans h))
    have HCB : Hid (qb = true → VB = capN (valN 0 B)) := Lib.hid (fun h => by rw [← hVB]; exact natV_cap (hqb.trans h))
    clear hVA hVB hqa hqb
    have hor : (decide ((A.length : Int) < (B.length : Int)) = true ∧ lessB A B = true) ∨ (decide ((A.length : Int) < (B.length : Int)) = false ∧ ((A.length : Int) == (B.length : Int)) = true ∧ lessB A B = decide (A < B)) ∨ (decide ((A.length : Int) < (B.length : Int)) = false ∧ ((A.length : Int) == (B.length : Int)) = false ∧ lessB A B = false) := by
      unfold lessB
      rcases Nat.lt_trichotomy A.length B.length with h | h | h
      · left; simp [h]
      · right; left; rw [h]; simp
      · right; right
        have h1 : ¬ A.length < B.length := by omega
        have h2 : ¬ A.length = B.length := by omega
        simp [h1, h2]; omega
    rw [hal, hbl] at hor
    have hbi : ((s.size - (p + 1) : Nat) : Int) = (s.size : Int) - ((p : Int) + 1) := by omega
    clear hal hbl hsa hsb
    go_enter Tryz.func21, Tryz.ntmps21
    go_wp2_with fail
    refine HIA.out.mono ?_
    rintro e w1 ⟨rfl, b1⟩
    have HX1 := Lib.hid ((b1.block _ (blk_lt HX0.out)).trans HX0.out)
    have HB1 := Lib.hid (below_tr HB0.out b1)
    clear b1 HIA HX0 HB0
    go_wp2_with fail
    go_quiet (fail)
    have HBq := Lib.hid (HB1.out.trans ((below_draw w1 nq).mono HB1.out.size))
    have HXq : Hid (PtB (w1.drewN nq) w.heap.size 0 0 0) := Lib.hid HX1.out
    obtain ⟨w2, hw2⟩ : ∃ w2, w1.drewN nq = w2 := ⟨_, rfl⟩
    rw [hw2] at HBq HXq ⊢
    clear hw2 HB1 HX1
    go_wp2_with fail
    refine (HNA.out _ (HT.out.below HBq.out)).mono ?_
    rintro e w3 ⟨rfl, b3⟩
    have HX3 := Lib.hid ((b3.block _ (blk_lt HXq.out)).trans HXq.out)
    have HB3 := Lib.hid (below_tr HBq.out b3)
    clear b3 HXq HBq HNA
    go_wp2_with fail
    refine (HNB.out _ (HT.out.below HB3.out)).mono ?_
    rintro e w4 ⟨rfl, b4⟩
    have HX4 : Hid (PtB w4 w.heap.size 0 0 0) := Lib.hid ((b4.block _ (blk_lt HX3.out)).trans HX3.out)
    have HB4 := Lib.hid (below_tr HB3.out b4)
    clear b4 HX3 HB3 HNB
    have x0 : w4.cell? ⟨w.heap.size, 0, none⟩ = some (.int .i64 0) := by rw [cell_of_block HX4.out]; rfl
    have x1 : w4.cell? ⟨w.heap.size, 1, none⟩ = some (.int .i64 0) := by rw [cell_of_block HX4.out]; rfl
    have x2 : w4.cell? ⟨w.heap.size, 2, none⟩ = some (.int .i64 0) := by rw [cell_of_block HX4.out]; rfl
    have fx := unfrozen_of_block HX4.out
    have lx := blk_lt HX4.out
    obtain ⟨y0, y1, y2⟩ := put3c HX4.out VA VB 1
    obtain ⟨z0, z1, z2⟩ := put3c HX4.out VB VB VA
    obtain ⟨r, hr⟩ : ∃ r, lessB A B = r := ⟨_, rfl⟩
    rw [hr] at hor HW
    -- what is handed back, by the tests
    have fin1 : C = 45 → ∀ u, u = (qa && (qb && r)) → RdPost w L (.returned (.tuple #[.agg #[.int .i64 VA, .int .i64 VB, .int .i64 1], .bool u])) (((w4.setCell ⟨w.heap.size, 0, none⟩ (.int .i64 VA)).setCell ⟨w.heap.size, 1, none⟩ (.int .i64 VB)).setCell ⟨w.heap.size, 2, none⟩ (.int .i64 1)) := by
      intro hC u hu
      obtain ⟨h1, h2, h3, _⟩ := HW.out
      refine ⟨VA, VB, 1, ?_, ?_, below3 HB4.out _ _ _⟩
      · rw [HS.out, hu]
        cases qa
        · rw [h1 rfl]; rfl
        · cases qb
          · rw [h2 rfl rfl]; rfl
          · rw [h3 rfl rfl hC]; cases r <;> rfl
      · intro y hy
        rw [HS.out] at hy
        cases qa
        · rw [h1 rfl] at hy; cases hy
        · cases qb
          · rw [h2 rfl rfl] at hy; cases hy
          · rw [h3 rfl rfl hC] at hy
            cases r
            · cases hy
            · cases hy; exact ⟨HCA.out rfl, HCB.out rfl, rfl⟩
    have fin2 : C ≠ 45 → ∀ u, u = (qa && (qb && decide (2 ≤ VA))) → RdPost w L (.returned (.tuple #[.agg #[.int .i64 VB, .int .i64 VB, .int .i64 VA], .bool u])) (((w4.setCell ⟨w.heap.size, 0, none⟩ (.int .i64 VB)).setCell ⟨w.heap.size, 1, none⟩ (.int .i64 VB)).setCell ⟨w.heap.size, 2, none⟩ (.int .i64 VA)) := by
      intro hC u hu
      obtain ⟨h1, h2, _, h3⟩ := HW.out
      refine ⟨VB, VB, VA, ?_, ?_, below3 HB4.out _ _ _⟩
      · rw [HS.out, hu]
        cases qa
        · rw [h1 rfl]; rfl
        · cases qb
          · rw [h2 rfl rfl]; rfl
          · rw [h3 rfl rfl hC]
            by_cases h4 : 2 ≤ VA
            · rw [if_pos h4, decide_eq_true h4]; rfl
            · rw [if_neg h4, decide_eq_false h4]; rfl
      · intro y hy
        rw [HS.out] at hy
        cases qa
        · rw [h1 rfl] at hy; cases hy
        · cases qb
          · rw [h2 rfl rfl] at hy; cases hy
          · rw [h3 rfl rfl hC] at hy
            split at hy
            · cases hy; exact ⟨HCB.out rfl, HCB.out rfl, HCA.out rfl⟩
            · cases hy
    have HF1 := Lib.hid fin1
    have HF2 := Lib.hid fin2
    clear fin1 fin2 hr HW HCA HCB HS
    have hor2 : (decide ((p : Int) < (s.size : Int) - ((p : Int) + 1)) = true ∧ r = true) ∨ (decide ((p : Int) < (s.size : Int) - ((p : Int) + 1)) = false ∧ ((p : Int) == (s.size : Int) - ((p : Int) + 1)) = true ∧ r = decide (A < B)) ∨ (decide ((p : Int) < (s.size : Int) - ((p : Int) + 1)) = false ∧ ((p : Int) == (s.size : Int) - ((p : Int) + 1)) = false ∧ r = false) := by
      rw [hbi] at hor; exact hor
    by_cases hC : C = 45
    · rw [decide_eq_true hC] at hc
      clear hor z0 z1 z2 HF2
      obtain ⟨k1, k2⟩ | ⟨k1, k2, k3⟩ | ⟨k1, k2, k3⟩ := hor2
      · cases qa <;> cases qb <;> go_wp2 <;>
          (refine bodyPost_ret (v := .tuple #[.agg #[.int .i64 VA, .int .i64 VB, .int .i64 1], .bool _]) (by simp [results, Tryz.results21, go_sem, y0, y1, y2]; rfl) rfl (HF1.out hC _ (by subst k2; rfl)))
      · cases qa <;> cases qb <;> go_wp2 <;>
          (refine bodyPost_ret (v := .tuple #[.agg #[.int .i64 VA, .int .i64 VB, .int .i64 1], .bool _]) (by simp [results, Tryz.results21, go_sem, y0, y1, y2]; rfl) rfl (HF1.out hC _ (by subst k3; simp)))
      · cases qa <;> cases qb <;> go_wp2 <;>
          (refine bodyPost_ret (v := .tuple #[.agg #[.int .i64 VA, .int .i64 VB, .int .i64 1], .bool _]) (by simp [results, Tryz.results21, go_sem, y0, y1, y2]; rfl) rfl (HF1.out hC _ (by subst k3; rfl)))
    · rw [decide_eq_false hC] at hc
      have HF := Lib.hid (HF2.out hC)
      clear hor y0 y1 y2 HF1 HF2 hC
      rw [Bool.not_false] at hc
      have g2 : decide (VA ≥ 2) = decide (2 ≤ VA) := rfl
      obtain ⟨r2, hr2⟩ : ∃ r2, decide (2 ≤ VA) = r2 := ⟨_, rfl⟩
      rw [hr2] at HF g2
      obtain ⟨k1, k2⟩ | ⟨k1, k2, k3⟩ | ⟨k1, k2, k3⟩ := hor2
      · cases qa <;> cases qb <;> go_wp2 <;>
          (refine bodyPost_ret (v := .tuple #[.agg #[.int .i64 VB, .int .i64 VB, .int .i64 VA], .bool _]) (by simp [results, Tryz.results21, go_sem, z0, z1, z2]; rfl) rfl (HF.out _ (by rfl)))
      · cases qa <;> cases qb <;> go_wp2 <;>
          (refine bodyPost_ret (v := .tuple #[.agg #[.int .i64 VB, .int .i64 VB, .int .i64 VA], .bool _]) (by simp [results, Tryz.results21, go_sem, z0, z1, z2]; rfl) rfl (HF.out _ (by rfl)))
      · cases qa <;> cases qb <;> go_wp2 <;>
          (refine bodyPost_ret (v := .tuple #[.agg #[.int .i64 VB, .int .i64 VB, .int .i64 VA], .bool _]) (by simp [results, Tryz.results21, go_sem, z0, z1, z2]; rfl) rfl (HF.out _ (by rfl)))
  · rw [if_neg hlt] at hxa
    have hpe : pcut L = L.length := by have := pcut_le L; omega
    have hit := itm_one hpe
    have HN := Lib.hid (fun W h => natural_ok s L hL (by omega) W h)
    have hcp := fun h => @natV_cap L h
    rw [hxa] at HIA
    obtain ⟨q, hq⟩ : ∃ q, natB L = q := ⟨_, rfl⟩
    obtain ⟨V, hV⟩ : ∃ V, natV L = V := ⟨_, rfl⟩
    rw [hq] at HN hit hcp
    rw [hV] at HN hcp
    have HPT : Hid ((itmP L).isSome = q ∧ ∀ y, itmP L = some y → V = capN y.1 ∧ V = capN y.2.1 ∧ (1 : Int) = capN y.2.2) := Lib.hid (by
      rw [hit]
      cases q
      · exact ⟨rfl, fun y hy => by cases hy⟩
      · exact ⟨rfl, fun y hy => by cases hy; exact ⟨hcp rfl, hcp rfl, rfl⟩⟩)
    have d0 : decide ((-1 : Int) < 0) = true := rfl
    clear hL hxa hlt hpe hit hcp b0 hq hV hT
    go_enter Tryz.func21, Tryz.ntmps21
    go_wp2_with fail
    refine HIA.out.mono ?_
    rintro e w1 ⟨rfl, b1⟩
    have HX1 := Lib.hid ((b1.block _ (blk_lt HX0.out)).trans HX0.out)
    have HB1 := Lib.hid (below_tr HB0.out b1)
    clear b1 HIA HX0
    go_wp2_with fail
    refine (HN.out _ (HT.out.below HB1.out)).mono ?_
    rintro e w2 ⟨rfl, b2⟩
    have HX2 : Hid (PtB w2 w.heap.size 0 0 0) := Lib.hid ((b2.block _ (blk_lt HX1.out)).trans HX1.out)
    have HB2 := Lib.hid (below_tr HB1.out b2)
    clear b2 HX1 HB1 HN
    have x0 : w2.cell? ⟨w.heap.size, 0, none⟩ = some (.int .i64 0) := by rw [cell_of_block HX2.out]; rfl
    have x1 : w2.cell? ⟨w.heap.size, 1, none⟩ = some (.int .i64 0) := by rw [cell_of_block HX2.out]; rfl
    have x2 : w2.cell? ⟨w.heap.size, 2, none⟩ = some (.int .i64 0) := by rw [cell_of_block HX2.out]; rfl
    have fx := unfrozen_of_block HX2.out
    have lx := blk_lt HX2.out
    obtain ⟨z0, z1, z2⟩ := put3c HX2.out V V 1
    go_wp2
    refine bodyPost_ret (v := .tuple #[.agg #[.int .i64 V, .int .i64 V, .int .i64 1], .bool q]) (by simp [results, Tryz.results21, go_sem, z0, z1, z2]) rfl ?_
    exact ⟨V, V, 1, by rw [HPT.out.1], HPT.out.2, below3 HB2.out _ _ _⟩
end Go.Proofs.YthmknaoelmeniaaGreatDoor

namespace Go.Proofs.YthmknaoelmeniaaGreatDoor
open Go.RowKit Go.Sort Go.Joins Go.Shelf

/-- a slice that reads as numbers -/
def SlN (w : World) (a : Option Addr) (I : List Int) : Prop := I = [] ∨ ∃ b o, a = some ⟨b, o, none⟩ ∧ ∀ j, j < I.length → w.cell? ⟨b, o + j, none⟩ = some (.int .i64 (I.getD j 0))
theorem SlN.below {w w' : World} {a : Option Addr} {I : List Int} (h : SlN w a I) (hb : Below w.heap.size w w') : SlN w' a I := by
  rcases h with h | ⟨b, o, ha, hc⟩
  · exact .inl h
  · exact .inr ⟨b, o, ha, fun j hj => cell_later hb (hc j hj)⟩
theorem SlN.at_ {w : World} {a : Option Addr} {I : List Int} (h : SlN w a I) {j : Nat} (hj : j < I.length) : ∃ b o, a = some ⟨b, o, none⟩ ∧ w.cell? ⟨b, o + j, none⟩ = some (.int .i64 (I.getD j 0)) := by
  rcases h with rfl | ⟨b, o, ha, hc⟩
  · simp at hj
  · exact ⟨b, o, ha, hc j hj⟩
theorem int_snoc (X : List Int) (x : Int) : (X ++ [x]).map (Value.int .i64) = X.map (Value.int .i64) ++ [.int .i64 x] := by simp
theorem SlN.of_own {w : World} {base len cap : Nat} {e : TypeId} {a : Option Addr} {I : List Int} (h : w.ownsRow base e 1 (.slice a len cap) I.length (I.map (Value.int .i64))) : SlN w a I := by
  by_cases h0 : I.length = 0
  · exact .inl (List.length_eq_zero_iff.1 h0)
  · obtain ⟨g, cap', hv⟩ := ownsRow_form h (by omega)
    cases hv
    refine .inr ⟨g, 0, rfl, fun j hj => ?_⟩
    have c0 := h.cellAt j (by omega)
    rw [List.getElem?_map, List.getElem?_eq_getElem hj] at c0
    rw [List.getD_eq_getElem?_getD, List.getElem?_eq_getElem hj, Nat.zero_add]
    exact c0
theorem info_int : (Tryz.prog.info? 3).map (fun i => (i.zero, i.size, i.bytes)) = some (some (.int .i64 0), 1, 8) := by kernel_rfl
/-- parts as cells -/
def pc3 (Y : List Prt) : List Value := Y.flatMap fun x => [.int .i64 (capN x.1), .int .i64 (capN x.2.1), .int .i64 (capN x.2.2)]
theorem pc3_snoc (Y : List Prt) (x : Prt) : pc3 (Y ++ [x]) = pc3 Y ++ [.int .i64 (capN x.1), .int .i64 (capN x.2.1), .int .i64 (capN x.2.2)] := by simp [pc3]
theorem pc3_length (Y : List Prt) : (pc3 Y).length = Y.length * 3 := by
  induction Y with
  | nil => rfl
  | cons x Y ih =>
    have e : pc3 (x :: Y) = [.int .i64 (capN x.1), .int .i64 (capN x.2.1), .int .i64 (capN x.2.2)] ++ pc3 Y := rfl
    rw [e, List.length_append, ih]; simp; omega
theorem pc3_get (Y : List Prt) (k : Nat) (h : k < Y.length) : (pc3 Y)[k * 3]? = some (.int .i64 (capN Y[k].1)) ∧ (pc3 Y)[k * 3 + 1]? = some (.int .i64 (capN Y[k].2.1)) ∧ (pc3 Y)[k * 3 + 2]? = some (.int .i64 (capN Y[k].2.2)) := by
  induction Y generalizing k with
  | nil => simp at h
  | cons x Y ih =>
    cases k with
    | zero => simp [pc3]
    | succ k =>
      have := ih k (by simpa using h)
      simp only [pc3, List.flatMap_cons] at this ⊢
      rw [List.getElem?_append_right (by simp; omega), List.getElem?_append_right (by simp; omega), List.getElem?_append_right (by simp; omega)]
      simpa [show (k + 1) * 3 - 3 = k * 3 by omega, show (k + 1) * 3 + 1 - 3 = k * 3 + 1 by omega, show (k + 1) * 3 + 2 - 3 = k * 3 + 2 by omega] using this
theorem info_part : (Tryz.prog.info? 61).map (fun i => (i.zero, i.size, i.bytes)) = some (some (.agg #[.int .i64 0, .int .i64 0, .int .i64 0]), 3, 24) := by kernel_rfl
/-- a slice that reads as parts -/
def SlP (w : World) (a : Option Addr) (Y : List Prt) : Prop := ∀ j (hj : j < Y.length), ∃ b o, a = some ⟨b, o, none⟩ ∧ w.cell? ⟨b, o + j * 3, none⟩ = some (.int .i64 (capN Y[j].1)) ∧ w.cell? ⟨b, o + j * 3 + 1, none⟩ = some (.int .i64 (capN Y[j].2.1)) ∧ w.cell? ⟨b, o + j * 3 + 2, none⟩ = some (.int .i64 (capN Y[j].2.2))
theorem SlP.below {w w' : World} {a : Option Addr} {Y : List Prt} (h : SlP w a Y) (hb : Below w.heap.size w w') : SlP w' a Y := fun j hj => by
  obtain ⟨b, o, ha, h0, h1, h2⟩ := h j hj
  exact ⟨b, o, ha, cell_later hb h0, cell_later hb h1, cell_later hb h2⟩
theorem SlP.of_own {w : World} {base len cap : Nat} {e : TypeId} {a : Option Addr} {Y : List Prt} (h : w.ownsRow base e 3 (.slice a len cap) Y.length (pc3 Y)) : SlP w a Y := fun j hj => by
  obtain ⟨g, cap', hv⟩ := ownsRow_form h (by omega)
  cases hv
  obtain ⟨e0, e1, e2⟩ := pc3_get Y j hj
  have c0 := h.cellAt (j * 3) (by omega)
  have c1 := h.cellAt (j * 3 + 1) (by omega)
  have c2 := h.cellAt (j * 3 + 2) (by omega)
  rw [e0] at c0
  rw [e1] at c1
  rw [e2] at c2
  refine ⟨g, 0, rfl, ?_⟩
  rw [Nat.zero_add]
  exact ⟨c0, c1, c2⟩
/-- the parts of the first pieces -/
theorem take_snoc {α : Type} {l : List α} {k : Nat} {x : α} (h : l[k]? = some x) : l.take (k + 1) = l.take k ++ [x] := by
  rw [List.take_add_one, h]; rfl
theorem itm_some {p : List UInt8} (h : (itmP p).isSome = true) : ∃ y, itmP p = some y := Option.isSome_iff_exists.1 h
/-- how the many grow -/
theorem many_up {Y : List Prt} {k : Nat} (hk : k < Y.length) : sumP (Y.take (k + 1)) = sumP (Y.take k) + prtN Y[k] := by
  rw [take_snoc (List.getElem?_eq_getElem hk), sumP_two]
  unfold sumP
  simp
theorem many_le {Y : List Prt} (k : Nat) : sumP (Y.take k) ≤ sumP Y := by
  have h := sumP_two (Y.take k) (Y.drop k)
  rw [List.take_append_drop] at h
  omega
theorem capN_le {n : Nat} (h : n ≤ 9999) : capN n = n := by unfold capN CAP; rw [Nat.min_eq_left (by omega)]
theorem capN_big {n : Nat} : (9999 < capN n) ↔ 9999 < n := by unfold capN CAP; omega
theorem capN_pos (n : Nat) : 0 ≤ capN n := by unfold capN; omega
theorem capN_min (n : Nat) : min (capN n) 501 = (min n 501 : Nat) := by unfold capN CAP; omega
end Go.Proofs.YthmknaoelmeniaaGreatDoor
