/- Words: Split of the program. -/
import Derived.Test.YthmknaoelmeniaaGreatDoorWYZ6
import Derived.Laws.OwnMore
namespace Go.Proofs.YthmknaoelmeniaaGreatDoor
open Go.RowKit Go.Sort Go.Joins Go.Shelf
attribute [local go_sem] cell_grow frozen_grow size_grow Oper.semAt_some

theorem use_k {F : Fence} {m : Nat} {P : Program} {y : Code} {Q : Exit → Act → World → Prop} {K : Act → World → Prop} {a : Act} {w : World} (hK : ∀ a w, y.wpIn F m P Q a w → K a w) (h : y.wpIn F m P Q a w) : K a w := hK a w h
theorem grown_of_below {W W' : World} (h : Below W.heap.size W W') : W.grownBy W' none := ⟨h.os, h.tape, h.output, h.size, fun k hk _ => h.block k hk⟩
theorem keeps_below {W W' : World} (hb : Below W.heap.size W W') (B : Nat) : KeepsFrom B W W' := (KeepsOthers.of_grownBy (grown_of_below hb) (fun j o h => by cases h)).from B
theorem own_stays {W W' : World} {base : Nat} {e : TypeId} {size : Nat} {v : Value} {n : Nat} {xs : List Value} {row : Option Nat} (h : W.ownsRow base e size v n xs) (hg : W.grownBy W' row) (hr : ∀ r, row = some r → ∃ o : Obj, W.heap[r]? = some o ∧ o.isCells = false) : W'.ownsRow base e size v n xs := by
  refine h.kept hg ?_
  rcases h.2 with ⟨rfl, _⟩ | ⟨g, cap, cur, rfl, _, hgb, _⟩
  · exact .inl rfl
  · refine .inr fun e' => ?_
    obtain ⟨o, ho, hc⟩ := hr g e'.symm
    rw [hgb] at ho; cases ho; cases hc
theorem blk_kept {W W' : World} {row : Option Nat} {k : Nat} {cs : Array Value} {t : TypeId} (h : W.heap[k]? = some (.cells cs t (0, 0))) (hg : W.grownBy W' row) (hr : ∀ r, row = some r → ∃ o : Obj, W.heap[r]? = some o ∧ o.isCells = false) : W'.heap[k]? = some (.cells cs t (0, 0)) :=
  (grownBy_keeps_cells hg hr h rfl).trans h
/-- a row lies still where another type's box turns -/
theorem own_type {W W' : World} {base : Nat} {e : TypeId} {size : Nat} {v : Value} {n : Nat} {xs : List Value} {q : Nat} {cs : Array Value} {t : TypeId} (h : W.ownsRow base e size v n xs) (hg : W.grownBy W' (some q)) (hq : W.heap[q]? = some (.cells cs t (0, 0))) (ht : t ≠ e) : W'.ownsRow base e size v n xs := by
  refine h.kept hg ?_
  rcases h.2 with ⟨rfl, _⟩ | ⟨g, cap, cur, rfl, _, hgb, _⟩
  · exact .inl rfl
  · refine .inr fun e' => ?_
    obtain rfl : g = q := Option.some.inj e'
    rw [hgb] at hq
    cases hq; exact ht rfl
theorem own_neT {W : World} {base : Nat} {e : TypeId} {size : Nat} {v : Value} {n : Nat} {xs : List Value} {q : Nat} {cs : Array Value} {t : TypeId} (h : W.ownsRow base e size v n xs) (hq : W.heap[q]? = some (.cells cs t (0, 0))) (ht : t ≠ e) : v.ownBlock ≠ some q := by
  intro e'
  rcases h.2 with ⟨rfl, _⟩ | ⟨g, cap, cur, rfl, _, hgb, _⟩
  · cases e'
  · obtain rfl : g = q := Option.some.inj e'
    rw [hgb] at hq
    cases hq; exact ht rfl
theorem own_cells {W : World} {base : Nat} {e : TypeId} {size : Nat} {v : Value} {n : Nat} {xs : List Value} (h : W.ownsRow base e size v n xs) : ∀ (j : Nat) (o : Obj), v.ownBlock = some j → W.heap[j]? = some o → ∃ cs, o = .cells cs e (0, 0) := by
  intro j o hj ho
  rcases h.2 with ⟨rfl, _⟩ | ⟨g, cap, cur, rfl, _, hgb, _⟩
  · simp [Value.ownBlock] at hj
  · have : g = j := by simpa [Value.ownBlock] using hj
    subst this; rw [hgb] at ho; cases ho; exact ⟨_, rfl⟩
theorem info_wfield : (Tryz.prog.info? 78).map (fun i => (i.zero, i.size, i.bytes)) = some (some (.agg #[.bool false, .string ⟨#[]⟩]), 2, 24) := by kernel_rfl
/-- what lies in memory while the pieces come -/
structure SI (w : World) (z : Nat) (s : ByteArray) (X : List (Bool × ByteArray)) (W : World) : Prop where
  k : Below w.heap.size w W
  r2 : W.heap[w.heap.size]? = some (.cells #[.slice none 0 0] 32 (0, 0))
  r3 : W.heap[w.heap.size + 1]? = some (.cells #[.int .i64 0] 24 (0, 0))
  o : ∃ v, W.heap[w.heap.size + 2]? = some (.cells #[v] 32 (0, 0)) ∧ W.ownsRow (w.heap.size + 3) 78 2 v X.length (flc X)
  s : W.heap[z]? = some (.cells #[.string s] 9 (0, 0))
  f : W.heap[z + 2]? = some (.cells #[endsV (z + 1)] 90 (0, 0))
  z3 : w.heap.size + 3 ≤ z
section
variable {w W W' : World} {z : Nat} {s : ByteArray} {X : List (Bool × ByteArray)}
theorem SI.below (h : SI w z s X W) (hb : Below W.heap.size W W') : SI w z s X W' := by
  obtain ⟨v, h1, h2⟩ := h.o
  exact ⟨h.k.trans (hb.mono h.k.size), (hb.block _ (blk_lt h.r2)).trans h.r2, (hb.block _ (blk_lt h.r3)).trans h.r3, ⟨v, (hb.block _ (blk_lt h1)).trans h1, own_below h2 hb⟩, (hb.block _ (blk_lt h.s)).trans h.s, (hb.block _ (blk_lt h.f)).trans h.f, h.z3⟩
theorem SI.kept {row : Option Nat} (h : SI w z s X W) (hg : W.grownBy W' row) (hr : ∀ r, row = some r → z + 3 ≤ r ∧ ∃ o : Obj, W.heap[r]? = some o ∧ o.isCells = false) : SI w z s X W' := by
  obtain ⟨v, h1, h2⟩ := h.o
  have hz := h.z3
  exact ⟨h.k.grown hg h.k.size (fun r e => by have := (hr r e).1; omega), blk_kept h.r2 hg (fun r e => (hr r e).2), blk_kept h.r3 hg (fun r e => (hr r e).2), ⟨v, blk_kept h1 hg (fun r e => (hr r e).2), own_stays h2 hg (fun r e => (hr r e).2)⟩, blk_kept h.s hg (fun r e => (hr r e).2), blk_kept h.f hg (fun r e => (hr r e).2), h.z3⟩
theorem SI.turn (h : SI w z s X W) (ho : OwP (z + 1) 0 W W') : SI w z s X W' := by
  obtain ⟨v, h1, h2⟩ := h.o
  obtain ⟨⟨b, hb⟩, hg⟩ := ho
  have hz := h.z3
  have key : ∀ {k : Nat} {cs : Array Value} {t : TypeId}, k ≠ z + 1 → W.heap[k]? = some (.cells cs t (0, 0)) → W'.heap[k]? = some (.cells cs t (0, 0)) := fun hk hw => (hg.block _ (blk_lt hw) (fun e => hk (Option.some.inj e))).trans hw
  exact ⟨h.k.grown hg h.k.size (fun r e => by cases e; omega), key (by omega) h.r2, key (by omega) h.r3, ⟨v, key (by omega) h1, own_type h2 hg hb (by decide)⟩, key (by omega) h.s, key (by omega) h.f, h.z3⟩
theorem SI.keep (h : SI w z s X W) : KeepP z s W := ⟨by rw [cell_of_block h.s]; rfl, by rw [cell_of_block h.f]; rfl⟩
end
theorem SI.snoc {w W w' : World} {z : Nat} {s : ByteArray} {X : List (Bool × ByteArray)} {v v' : Value} {o : Obj} {x : Bool × ByteArray} (h : SI w z s X W) (hv : W.heap[w.heap.size + 2]? = some (.cells #[v] 32 (0, 0)))
    (ho : W.ownsRow (w.heap.size + 3) 78 2 v X.length (flc X)) (hg : (W.alloc o).grownBy w' v.ownBlock) (hown : w'.ownsRow (w.heap.size + 3) 78 2 v' (X.length + 1) (flc X ++ [.bool x.1, .string x.2])) :
    SI w z s (X ++ [x]) (w'.setCell ⟨w.heap.size + 2, 0, none⟩ v') := by
  have hz := h.z3
  have hA := ho.alloc o
  have key : ∀ {k : Nat} {cs : Array Value} {t : TypeId}, t ≠ 78 → W.heap[k]? = some (.cells cs t (0, 0)) → w'.heap[k]? = some (.cells cs t (0, 0)) := fun ht hk => by
    have hk2 := (Below.heap_alloc W o _ (blk_lt hk)).trans hk
    exact (hg.block _ (blk_lt hk2) (fun e => own_neT hA hk2 ht e.symm)).trans hk2
  have hb := key (by decide) hv
  have hne : v'.ownBlock ≠ some (⟨w.heap.size + 2, 0, none⟩ : Addr).block := fun e => by have := (hown.lt _ e).1; dsimp only at this; omega
  refine ⟨(((h.k.alloc h.k.size o).grown hg (Nat.le_trans h.k.size (by simp)) (fun r e => by have := (hA.lt r e).1; omega))).setCell (p := ⟨w.heap.size + 2, 0, none⟩) (by dsimp only; omega) _, ?_, ?_, ⟨v', (setCell_block hb _).trans (by simp), ?_⟩, ?_, ?_, hz⟩
  · exact (Below.heap_setCell _ _ _ _ (by dsimp only; omega)).trans (key (by decide) h.r2)
  · exact (Below.heap_setCell _ _ _ _ (by dsimp only; omega)).trans (key (by decide) h.r3)
  · rw [flc_snoc, List.length_append, List.length_singleton]
    exact ownsRow_setCell_other hown hne v'
  · exact (Below.heap_setCell _ _ _ _ (by dsimp only; omega)).trans (key (by decide) h.s)
  · exact (Below.heap_setCell _ _ _ _ (by dsimp only; omega)).trans (key (by decide) h.f)
/-- what the loop keeps -/
def SIp (w : World) (z : Nat) (s : ByteArray) (pre : List ByteArray) (W : World) : Prop := ∃ X, fldM (pre.map (·.data.toList)) = some (fls X) ∧ SI w z s X W
/-- where it stops: a piece is no field -/
structure SX (w : World) (L : List UInt8) (W : World) : Prop where
  k : Below w.heap.size w W
  r2 : W.heap[w.heap.size]? = some (.cells #[.slice none 0 0] 32 (0, 0))
  r3 : W.heap[w.heap.size + 1]? = some (.cells #[.int .i64 6] 24 (0, 0))
  n : fldM (pcsL L) = none
theorem fldM_len : ∀ {P : List (List UInt8)} {X : List Fl}, fldM P = some X → X.length = P.length
  | [], X, h => by cases h; rfl
  | p :: P, X, h => by
    rw [fldM] at h
    cases hx : fld1 p with
    | none => rw [hx] at h; cases h
    | some x =>
      rw [hx] at h
      dsimp only at h
      cases hP : fldM P with
      | none => rw [hP] at h; cases h
      | some Y =>
        rw [hP] at h
        cases h
        rw [List.length_cons, List.length_cons, fldM_len hP]
theorem pcs_len : ∀ (n : Nat) (l : List UInt8), (pcs n l).length ≤ n + 1
  | 0, l => by rw [pcs]; exact Nat.le_refl _
  | n + 1, l => by
    rw [pcs]
    split
    · have := pcs_len n (l.drop (cut false l + 1)); rw [List.length_cons]; omega
    · simp
theorem pcs_mem : ∀ (n : Nat) (l p : List UInt8), p ∈ pcs n l → p.length ≤ l.length
  | 0, l, p, h => by
    rw [pcs, List.mem_singleton] at h
    rw [h]; exact Nat.le_refl _
  | n + 1, l, p, h => by
    rw [pcs] at h
    split at h
    · rcases List.mem_cons.1 h with rfl | h
      · rw [List.length_take]; omega
      · have := pcs_mem n _ _ h
        rw [List.length_drop] at this; omega
    · rw [List.mem_singleton] at h
      rw [h]; exact Nat.le_refl _
theorem fls_snoc (X : List (Bool × ByteArray)) (x : Bool × ByteArray) : fls (X ++ [x]) = fls X ++ [(x.1, x.2.data.toList)] := by unfold fls; rw [List.map_append]; rfl
theorem pre_one (l : List UInt8) (c : UInt8) : Lib.hasPrefix l [c] = decide (l.head? = some c) := by
  unfold Lib.hasPrefix
  cases l with
  | nil => rfl
  | cons d r =>
    rw [List.head?_cons, Bool.eq_iff_iff]
    simp only [List.isPrefixOf, Bool.and_true, beq_iff_eq, decide_eq_true_eq, Option.some.injEq]
    exact eq_comm
set_option maxRecDepth 100000 in
set_option maxHeartbeats 6400000 in
theorem wsplit_ok (s : ByteArray) (L : List UInt8) (hL : s.data.toList = L) (hs : s.size ≤ 4611686018427387904) (w : World) (hM : ML w) :
    Calls Tryz.prog 11 #[.string s] w (SplPost w (splR L) (splE L)) := by
  obtain ⟨i0, hi0, hz0, hz1, hz2'⟩ := info_parts info_wfield
  have hlen := len_of hL
  have hb2 : Below w.heap.size w ((w.alloc (.cells #[.slice none 0 0] 32)).alloc (.cells #[.int .i64 0] 24)) := ((Below.refl _ w).alloc (Nat.le_refl _) _).alloc (by simp) _
  have e2 : ((w.alloc (.cells #[.slice none 0 0] 32)).alloc (.cells #[.int .i64 0] 24)).heap[w.heap.size]? = some (.cells #[.slice none 0 0] 32 (0, 0)) := (Below.heap_alloc _ _ _ (by simp)).trans (heap_alloc_new w _)
  have e3 : ((w.alloc (.cells #[.slice none 0 0] 32)).alloc (.cells #[.int .i64 0] 24)).heap[w.heap.size + 1]? = some (.cells #[.int .i64 0] 24 (0, 0)) := by
    have := heap_alloc_new (w.alloc (.cells #[.slice none 0 0] 32)) (.cells #[.int .i64 0] 24)
    rwa [World.size_alloc] at this
  obtain ⟨W0, hW0⟩ : ∃ W, (w.alloc (.cells #[.slice none 0 0] 32)).alloc (.cells #[.int .i64 0] 24) = W := ⟨_, rfl⟩
  have hz : W0.heap.size = w.heap.size + 2 := by rw [← hW0]; simp
  rw [hW0] at hb2 e2 e3
  have HB := Lib.hid hb2
  have H2 := Lib.hid e2
  have H3 := Lib.hid e3
  have HM := Lib.hid hM
  have k2 : W0.cell? ⟨w.heap.size, 0, none⟩ = some (.slice none 0 0) := by rw [cell_of_block e2]; rfl
  have k3 : W0.cell? ⟨w.heap.size + 1, 0, none⟩ = some (.int .i64 0) := by rw [cell_of_block e3]; rfl
  have f2 := unfrozen_of_block e2
  have f3 := unfrozen_of_block e3
  have l3 := blk_lt e3
  by_cases h1 : 4096 < s.size
  · have d1 : decide ((4096 : Int) < (s.size : Int)) = true := decide_eq_true (by omega)
    have HX := Lib.hid (splE_long (l := L) (by omega))
    have c0 : ((W0.setCell ⟨w.heap.size, 0, none⟩ (.slice none 0 0)).setCell ⟨w.heap.size + 1, 0, none⟩ (.int .i64 3)).cell? ⟨w.heap.size, 0, none⟩ = some (.slice none 0 0) := by
      rw [cell_of_block ((Below.heap_setCell _ _ _ _ (show w.heap.size ≠ w.heap.size + 1 by omega)).trans (setCell_block e2 _))]; rfl
    have c1 : ((W0.setCell ⟨w.heap.size, 0, none⟩ (.slice none 0 0)).setCell ⟨w.heap.size + 1, 0, none⟩ (.int .i64 3)).cell? ⟨w.heap.size + 1, 0, none⟩ = some (.int .i64 3) := by
      rw [cell_of_block (setCell_block ((Below.heap_setCell _ _ _ _ (show w.heap.size + 1 ≠ w.heap.size by omega)).trans e3) _)]; rfl
    clear hL hM hb2 e2 e3
    go_enter Tryz.func11, Tryz.ntmps11
    go_wp2
    refine bodyPost_ret (v := .tuple #[.slice none 0 0, .int .i64 3]) (by simp [results, Tryz.results11, go_sem, c0, c1]) rfl ?_
    rw [HX.out.1, HX.out.2]
    exact SplPost.none ((HB.out.setCell (p := ⟨w.heap.size, 0, none⟩) (Nat.le_refl _) _).setCell (p := ⟨w.heap.size + 1, 0, none⟩) (Nat.le_succ _) _)
  · have d1 : decide ((4096 : Int) < (s.size : Int)) = false := decide_eq_false (by omega)
    have hem := empty_nil hL
    by_cases h0 : L = []
    · rw [decide_eq_true h0] at hem
      have HX : Hid (splE L = 0 ∧ splR L = []) := Lib.hid (by rw [h0]; exact splE_ok (l := []) (by simp) splT_nil (by simp))
      have c0 : ((W0.setCell ⟨w.heap.size, 0, none⟩ (.slice none 0 0)).setCell ⟨w.heap.size + 1, 0, none⟩ (.int .i64 0)).cell? ⟨w.heap.size, 0, none⟩ = some (.slice none 0 0) := by
        rw [cell_of_block ((Below.heap_setCell _ _ _ _ (show w.heap.size ≠ w.heap.size + 1 by omega)).trans (setCell_block e2 _))]; rfl
      have c1 : ((W0.setCell ⟨w.heap.size, 0, none⟩ (.slice none 0 0)).setCell ⟨w.heap.size + 1, 0, none⟩ (.int .i64 0)).cell? ⟨w.heap.size + 1, 0, none⟩ = some (.int .i64 0) := by
        rw [cell_of_block (setCell_block ((Below.heap_setCell _ _ _ _ (show w.heap.size + 1 ≠ w.heap.size by omega)).trans e3) _)]; rfl
      clear hL hM hb2 e2 e3
      go_enter Tryz.func11, Tryz.ntmps11
      go_wp2
      refine bodyPost_ret (v := .tuple #[.slice none 0 0, .int .i64 0]) (by simp [results, Tryz.results11, go_sem, c0, c1]) rfl ?_
      rw [HX.out.1, HX.out.2]
      exact SplPost.none ((HB.out.setCell (p := ⟨w.heap.size, 0, none⟩) (Nat.le_refl _) _).setCell (p := ⟨w.heap.size + 1, 0, none⟩) (Nat.le_succ _) _)
    · rw [decide_eq_false h0] at hem
      have HSP := Lib.hid (spl_pcs _ L (Nat.le_refl _) h0)
      have HL := Lib.hid hL
      clear hL hM hb2 e2 e3 h0
      refine (callsIn_wide (n := 6)).1 ?_
      refine callsIn_of_wp_marks Tryz.func11 rfl trivial ?_ rfl
      simp only [Tryz.ntmps11, List.size_toArray, List.length_cons, List.length_nil, Nat.reduceAdd, Nat.reduceSub, Array.replicate_succ, Array.replicate_zero, List.push_toArray, List.append_toArray, List.nil_append, List.cons_append]
      have b0 := below_box0 W0 (.cells #[.slice none 0 0] 32)
      have h4 := heap_alloc_new W0 (.cells #[.slice none 0 0] 32)
      rw [hz] at h4
      have HBa := Lib.hid (below_tr HB.out b0)
      have H2a := Lib.hid ((b0.block _ (blk_lt H2.out)).trans H2.out)
      have H3a := Lib.hid ((b0.block _ (blk_lt H3.out)).trans H3.out)
      have H4a := Lib.hid h4
      have hza : (W0.alloc (.cells #[.slice none 0 0] 32)).heap.size = w.heap.size + 3 := by rw [World.size_alloc, hz]
      have HZa := Lib.hid hza
      clear b0 h4 hza
      gi_wp2_with fail
      refine ⟨trivial, (callsIn_wide.2 (pieces_ok s _)).mono ?_⟩
      rintro e w2 ⟨rfl, ⟨p1, p2, p3, p4, p5⟩⟩
      rw [HZa.out] at p2 p3 p4 p5 ⊢
      have HSI : Hid (SI w (w.heap.size + 3) s [] w2) := Lib.hid ⟨below_tr HBa.out p1, (p1.block _ (blk_lt H2a.out)).trans H2a.out, (p1.block _ (blk_lt H3a.out)).trans H3a.out, ⟨.slice none 0 0, (p1.block _ (blk_lt H4a.out)).trans H4a.out, World.ownsRow_nil _ _ _ _⟩, p3, p5, Nat.le_refl _⟩
      have HQ := Lib.hid p4
      have HW2 := Lib.hid p2
      have hz3 : w.heap.size + 3 ≤ w.heap.size + 3 := Nat.le_refl _
      clear p1 p2 p3 p4 p5 HB H2 H3 HBa H2a H3a H4a HZa k2 k3 f2 f3 l3 hW0 hz
      gi_wp2
      obtain ⟨z, hz⟩ : ∃ z, w.heap.size + 3 = z := ⟨_, rfl⟩
      rw [hz] at HSI HQ HW2 ⊢
      have HZ := Lib.hid hz
      clear hz hz3
      refine wpIn_iterK_box rfl (by omega) (gf := 44) (lb := #[.pointer (some ⟨z, 0, none⟩), .pointer (some ⟨z + 2, 0, none⟩)]) rfl trivial (enters_of Tryz.func44 (by kernel_rfl) rfl)
        (SIp w z s) (pieces_seq _ z s L HL.out hs (SIp w z s) (fun pre W h => h.elim fun X h => h.2.keep) w2 HQ.out)
        (fun h hk ho => (h.2.block _ (Array.getElem?_eq_some_iff.1 hk).1 (fun e => by obtain ⟨b, hb⟩ := h.1; cases e; rw [hb] at hk; cases hk; cases ho)).trans hk) (fun _ h => h) (fun pre X Y h ho => h.elim fun Z h => ⟨Z, h.1, h.2.turn ho⟩)
        (fun h k b hb => k b (h b hb)) (fun W l o o' _ hl ho b hb => (World.putObj_heap_other (fun e => by rw [← e, hb] at hl; cases hl; cases ho)).trans hb) (fun _ => rfl)
        (fun cd xs W => cd = .ret ∧ SX w L W) ?iown ?ixown ⟨[], rfl, HSI.out⟩
        (fun a x _ => { tmps := (a.tmps.setIfInBounds 16 (.string x)).setIfInBounds 5 (.string x), defers := [] })
        (fun _ _ _ => True) (fun _ _ _ _ _ _ h _ _ => h)
        ?assign ?body ?done ?stop
      case iown =>
        rintro pre A B row ⟨X, hX, h⟩ hg hr
        exact ⟨X, hX, h.kept hg (fun r e => by rw [HW2.out] at hr; have := (hr r e).1; exact ⟨by have := HZ.out; omega, (hr r e).2⟩)⟩
      case ixown =>
        rintro cd xs A B row ⟨rfl, h⟩ hg hr
        have h0 : ∀ r, row = some r → w.heap.size ≤ r := fun r e => by rw [HW2.out] at hr; have := (hr r e).1; have := HZ.out; omega
        exact ⟨rfl, h.k.grown hg h.k.size h0, blk_kept h.r2 hg (fun r e => (hr r e).2), blk_kept h.r3 hg (fun r e => (hr r e).2), h.n⟩
      case assign =>
        intro l pre x W K hi hG hK
        simp only [List.setIfInBounds_toArray, List.set_cons_zero, List.set_cons_succ] at hK
        gi_wp2
        exact hK 0 W (KeepsFrom.refl _ _) (fun b h => h) hi trivial
      case body =>
        rintro l pre S Bx W hl ⟨X, hX, hi⟩ _ ⟨R, hR⟩
        obtain ⟨D, hD⟩ : ∃ D, S.data.toList = D := ⟨_, rfl⟩
        rw [hD] at hR
        have hDl := len_of hD
        have hpl : pre.length ≤ 4097 := by
          have h1 := pcs_len L.length L
          have h2 := congrArg List.length hR
          unfold pcsL at h2
          simp only [List.length_append, List.length_map, List.length_cons] at h2
          omega
        have hXl : X.length = pre.length := by
          have := fldM_len hX
          rw [fls_len, List.length_map] at this
          exact this
        have hmem : D ∈ pcsL L := by rw [hR]; simp
        have hDL : S.size ≤ 4096 := by
          have := pcs_mem _ _ _ hmem
          omega
        have hsn := fldM_snoc (pre.map (·.data.toList)) D
        rw [hX] at hsn
        have hbad : fld1 D = none → fldM (pcsL L) = none := fun h => fldM_bad hmem h
        have hHP := Tryz.strings_HasPrefix S ⟨#[34]⟩
        rw [hD, show (⟨#[34]⟩ : ByteArray).data.toList = [34] from rfl, pre_one] at hHP
        have hUQ := fun W h => wunq_ok S D hD (by omega) W h
        have hRT := fun W => wright_ok false S D hD (by omega) W
        have HI := Lib.hid hi
        have HSN := Lib.hid hsn
        have HBAD := Lib.hid hbad
        have HHP := Lib.hid hHP
        have HUQ := Lib.hid hUQ
        have HRT := Lib.hid hRT
        have HD := Lib.hid hD
        have HF : Hid (fld1 D = if D.head? = some 34 then (unq D).map (fun u => (true, u)) else if rtB D then some (false, D) else none) := Lib.hid rfl
        have hz3 := hi.z3
        clear hX hi hR hD hmem hsn hbad hHP hUQ hRT
        simp only [List.setIfInBounds_toArray, List.set_cons_zero, List.set_cons_succ]
        have bx := below_box0 W (.cells #[.bool false, .string S] 78)
        have HXB := Lib.hid (heap_alloc_new W (.cells #[.bool false, .string S] 78))
        have HBW3 := Lib.hid bx
        obtain ⟨w3, hV⟩ : ∃ V, W.alloc (.cells #[.bool false, .string S] 78) = V := ⟨_, rfl⟩
        rw [hV] at HBW3 HXB
        clear bx
        by_cases hq : D.head? = some 34
        · rw [decide_eq_true hq] at HHP
          gi_wp2_with fail
          clear hV
          refine ⟨trivial, (callsIn_wide.2 (HHP.out w3)).mono ?_⟩
          rintro e w3' ⟨rfl, hw3⟩
          subst hw3
          have hmV := HM.out.below (HI.out.below HBW3.out).k
          have HUV := Lib.hid (HUQ.out w3' hmV)
          clear hmV HHP HUQ HRT
          gi_wp2_with fail
          refine ⟨trivial, (callsIn_wide.2 HUV.out).mono ?_⟩
          rintro e w4 ⟨U, rfl, hU, b4⟩
          have HBW4 := Lib.hid (below_tr HBW3.out b4)
          have HX4 := Lib.hid ((b4.block _ (blk_lt HXB.out)).trans HXB.out)
          have HUU := Lib.hid hU
          clear b4 hU HXB HUV HBW3
          cases hu : unq D with
          | none =>
            rw [(unq_6 hu).1]
            have hfn : fld1 D = none := by rw [HF.out, if_pos hq, hu]; rfl
            have HI4 := Lib.hid (HI.out.below HBW4.out)
            have k2 : w4.cell? ⟨w.heap.size, 0, none⟩ = some (.slice none 0 0) := by rw [cell_of_block HI4.out.r2]; rfl
            have k3 : w4.cell? ⟨w.heap.size + 1, 0, none⟩ = some (.int .i64 0) := by rw [cell_of_block HI4.out.r3]; rfl
            have f2 := unfrozen_of_block HI4.out.r2
            have f3 := unfrozen_of_block HI4.out.r3
            have l3 := blk_lt HI4.out.r3
            gi_wp2
            refine ⟨KeepsFrom.trans (keeps_below HBW4.out _) (((KeepsOthers.setCell _ _ _).trans (KeepsOthers.setCell _ _ _)).from _), rfl, ?_⟩
            refine ⟨(HI4.out.k.setCell (p := ⟨w.heap.size, 0, none⟩) (Nat.le_refl _) _).setCell (p := ⟨w.heap.size + 1, 0, none⟩) (Nat.le_succ _) _, ?_, ?_, HBAD.out (hfn)⟩
            · exact (Below.heap_setCell _ _ _ _ (show w.heap.size ≠ w.heap.size + 1 by omega)).trans ((setCell_block HI4.out.r2 _).trans (by simp))
            · exact (setCell_block ((Below.heap_setCell _ _ _ _ (show w.heap.size + 1 ≠ w.heap.size by omega)).trans HI4.out.r3) _).trans (by simp)
          | some u =>
            rw [(unq_0 hu).1]
            have HUD : Hid (U.data.toList = u) := Lib.hid (HUU.out.trans (unq_0 hu).2)
            have HFS : Hid (fld1 D = some (true, u)) := Lib.hid (by rw [HF.out, if_pos hq, hu]; rfl)
            have hul := unq_len hu
            have hUs := len_of HUD.out
            have htx : flB (true, u) = true := (unq_some hu).1
            have HRU := Lib.hid (fun W => wright_ok true U u HUD.out (by omega) W)
            rw [htx] at HRU
            have x0 : w4.cell? ⟨W.heap.size, 0, none⟩ = some (.bool false) := by rw [cell_of_block HX4.out]; rfl
            have x1 : w4.cell? ⟨W.heap.size, 1, none⟩ = some (.string S) := by rw [cell_of_block HX4.out]; rfl
            have fx := unfrozen_of_block HX4.out
            have lx := blk_lt HX4.out
            have HBW5 := Lib.hid ((HBW4.out.setCell (p := ⟨W.heap.size, 0, none⟩) (Nat.le_refl _) (.bool true)).setCell (p := ⟨W.heap.size, 1, none⟩) (Nat.le_refl _) (.string U))
            have HX5 : Hid (((w4.setCell ⟨W.heap.size, 0, none⟩ (.bool true)).setCell ⟨W.heap.size, 1, none⟩ (.string U)).heap[W.heap.size]? = some (.cells #[.bool true, .string U] 78 (0, 0))) := Lib.hid ((setCell_block ((setCell_block HX4.out (.bool true)).trans rfl) _).trans (by simp))
            clear hu htx
            gi_wp2_with fail
            obtain ⟨w5, hw5⟩ : ∃ V, (w4.setCell ⟨W.heap.size, 0, none⟩ (.bool true)).setCell ⟨W.heap.size, 1, none⟩ (.string U) = V := ⟨_, rfl⟩
            rw [hw5] at HBW5 HX5 ⊢
            clear hw5 x0 x1 fx lx HBW4 HX4
            refine ⟨trivial, (callsIn_wide.2 (HRU.out w5)).mono ?_⟩
            rintro e w6 ⟨rfl, b6⟩
            have HBW6 := Lib.hid (below_tr HBW5.out b6)
            have HX6 := Lib.hid ((b6.block _ (blk_lt HX5.out)).trans HX5.out)
            clear b6 HBW5 HX5 HRU
            have HI6 := Lib.hid (HI.out.below HBW6.out)
            obtain ⟨v, hv1, hv2⟩ := HI6.out.o
            have k4 : w6.cell? ⟨w.heap.size + 2, 0, none⟩ = some v := by rw [cell_of_block hv1]; rfl
            have x0 : w6.cell? ⟨W.heap.size, 0, none⟩ = some (.bool true) := by rw [cell_of_block HX6.out]; rfl
            have x1 : w6.cell? ⟨W.heap.size, 1, none⟩ = some (.string U) := by rw [cell_of_block HX6.out]; rfl
            have f4 := unfrozen_of_block hv1
            have l4 := blk_lt hv1
            have lx := blk_lt HX6.out
            have HO := Lib.hid hv2
            have HV1 := Lib.hid hv1
            clear hv1 hv2
            gi_wp2_with (gi_at_builtin; refine wpListIn_append_own _ rfl (.tmp 33) (.tmp 35) 32 rfl (w.heap.size + 3) 78 i0 (.agg #[.bool false, .string ⟨#[]⟩]) 2 24 Tryz.underlying32 hi0 hz0 hz1 hz2' rfl (by decide) _ _ _ rfl (HO.out.alloc _) ⟨w6.heap.size, 0, none⟩ 1 1 [.bool true, .string U] rfl rfl ?c1 ?c2 ?c3 ?c4 ?c5 ?_)
            case c1 => intro j u hu; match j with | 0 => (simp at hu; subst hu; simp [go_sem]) | 1 => (simp at hu; subst hu; simp [go_sem]) | j + 2 => simp at hu
            case c2 => intro u hu; simp at hu; rcases hu with rfl | rfl <;> rfl
            case c3 => unfold maxLen; omega
            case c4 => omega
            case c5 => first | omega | (have := HI6.out.k.size; simp; omega)
            intro v' w9 hown hg _
            obtain ⟨va, vc, rfl⟩ := own_slice hown
            have hsn := HI6.out.snoc (x := (true, U)) HV1.out HO.out hg (by rw [hXl]; exact hown)
            have hkf : KeepsFrom w2.heap.size W w9 := KeepsFrom.trans (KeepsFrom.trans (keeps_below HBW6.out _) ((KeepsOthers.alloc _ _).from _)) ((KeepsOthers.of_grownBy hg (fun j o hj ho => by obtain ⟨cs, rfl⟩ := own_cells (HO.out.alloc _) j o hj ho; rfl)).from _)
            have hkp : KpP (z + 1) W w9 := fun b hb => by
              have h1 := (HBW6.out.block _ (blk_lt hb)).trans hb
              have h2 := (Below.heap_alloc w6 (.cells #[.bool true, .string U] 78) _ (blk_lt h1)).trans h1
              exact (hg.block _ (blk_lt h2) (fun e => own_neT (HO.out.alloc _) h2 (by decide) e.symm)).trans h2
            have hb9 : w9.heap[w.heap.size + 2]? = some (.cells #[v] 32 (0, 0)) := by
              have h2 := (Below.heap_alloc w6 (.cells #[.bool true, .string U] 78) _ (blk_lt HV1.out)).trans HV1.out
              exact (hg.block _ (blk_lt h2) (fun e => own_neT (HO.out.alloc _) h2 (by decide) e.symm)).trans h2
            have k9 : w9.cell? ⟨w.heap.size + 2, 0, none⟩ = some v := by rw [cell_of_block hb9]; rfl
            have f9 := unfrozen_of_block hb9
            have l9 := blk_lt hb9
            have HSN9 := Lib.hid hsn
            have HKF9 := Lib.hid hkf
            have HKP9 := Lib.hid hkp
            clear hown hg hsn hkf hkp hb9 k4 x0 x1 f4 l4 lx
            gi_wp2
            refine ⟨KeepsFrom.trans HKF9.out ((KeepsOthers.setCell _ _ _).from _), fun b hb => (Below.heap_setCell _ _ _ _ (show z + 1 ≠ w.heap.size + 2 by omega)).trans (HKP9.out b hb), X ++ [(true, U)], ?_, HSN9.out⟩
            rw [List.map_append, fls_snoc]
            have := HSN.out
            rw [HFS.out] at this
            rw [show [S].map (fun (x : ByteArray) => x.data.toList) = [D] by rw [← HD.out]; rfl, this]
            rw [show (U).data.toList = u from HUD.out]
            rfl
        · rw [decide_eq_false hq] at HHP
          have x0 : w3.cell? ⟨W.heap.size, 0, none⟩ = some (.bool false) := by rw [cell_of_block HXB.out]; rfl
          have x1 : w3.cell? ⟨W.heap.size, 1, none⟩ = some (.string S) := by rw [cell_of_block HXB.out]; rfl
          gi_wp2_with fail
          clear hV
          refine ⟨trivial, (callsIn_wide.2 (HHP.out w3)).mono ?_⟩
          rintro e w3' ⟨rfl, hw3⟩
          subst hw3
          have hfl : flB (false, D) = rtB D := rfl
          rw [hfl] at HRT
          clear HHP HUQ hfl
          gi_wp2_with fail
          refine ⟨trivial, (callsIn_wide.2 (HRT.out w3')).mono ?_⟩
          rintro e w6 ⟨rfl, b6⟩
          have HBW6 := Lib.hid (below_tr HBW3.out b6)
          have HX6 := Lib.hid ((b6.block _ (blk_lt HXB.out)).trans HXB.out)
          clear b6 HBW3 HXB HRT x0 x1
          cases hr : rtB D
          · have hfn : fld1 D = none := by rw [HF.out, if_neg hq, hr]; rfl
            have HI6 := Lib.hid (HI.out.below HBW6.out)
            have k2 : w6.cell? ⟨w.heap.size, 0, none⟩ = some (.slice none 0 0) := by rw [cell_of_block HI6.out.r2]; rfl
            have k3 : w6.cell? ⟨w.heap.size + 1, 0, none⟩ = some (.int .i64 0) := by rw [cell_of_block HI6.out.r3]; rfl
            have f2 := unfrozen_of_block HI6.out.r2
            have f3 := unfrozen_of_block HI6.out.r3
            have l3 := blk_lt HI6.out.r3
            gi_wp2
            refine ⟨KeepsFrom.trans (keeps_below HBW6.out _) (((KeepsOthers.setCell _ _ _).trans (KeepsOthers.setCell _ _ _)).from _), rfl, ?_⟩
            refine ⟨(HI6.out.k.setCell (p := ⟨w.heap.size, 0, none⟩) (Nat.le_refl _) _).setCell (p := ⟨w.heap.size + 1, 0, none⟩) (Nat.le_succ _) _, ?_, ?_, HBAD.out (hfn)⟩
            · exact (Below.heap_setCell _ _ _ _ (show w.heap.size ≠ w.heap.size + 1 by omega)).trans ((setCell_block HI6.out.r2 _).trans (by simp))
            · exact (setCell_block ((Below.heap_setCell _ _ _ _ (show w.heap.size + 1 ≠ w.heap.size by omega)).trans HI6.out.r3) _).trans (by simp)
          · have HFS : Hid (fld1 D = some (false, D)) := Lib.hid (by rw [HF.out, if_neg hq, hr]; rfl)
            clear hr
            have HI6 := Lib.hid (HI.out.below HBW6.out)
            obtain ⟨v, hv1, hv2⟩ := HI6.out.o
            have k4 : w6.cell? ⟨w.heap.size + 2, 0, none⟩ = some v := by rw [cell_of_block hv1]; rfl
            have x0 : w6.cell? ⟨W.heap.size, 0, none⟩ = some (.bool false) := by rw [cell_of_block HX6.out]; rfl
            have x1 : w6.cell? ⟨W.heap.size, 1, none⟩ = some (.string S) := by rw [cell_of_block HX6.out]; rfl
            have f4 := unfrozen_of_block hv1
            have l4 := blk_lt hv1
            have lx := blk_lt HX6.out
            have HO := Lib.hid hv2
            have HV1 := Lib.hid hv1
            clear hv1 hv2
            gi_wp2_with (gi_at_builtin; refine wpListIn_append_own _ rfl (.tmp 33) (.tmp 35) 32 rfl (w.heap.size + 3) 78 i0 (.agg #[.bool false, .string ⟨#[]⟩]) 2 24 Tryz.underlying32 hi0 hz0 hz1 hz2' rfl (by decide) _ _ _ rfl (HO.out.alloc _) ⟨w6.heap.size, 0, none⟩ 1 1 [.bool false, .string S] rfl rfl ?c1 ?c2 ?c3 ?c4 ?c5 ?_)
            case c1 => intro j u hu; match j with | 0 => (simp at hu; subst hu; simp [go_sem]) | 1 => (simp at hu; subst hu; simp [go_sem]) | j + 2 => simp at hu
            case c2 => intro u hu; simp at hu; rcases hu with rfl | rfl <;> rfl
            case c3 => unfold maxLen; omega
            case c4 => omega
            case c5 => first | omega | (have := HI6.out.k.size; simp; omega)
            intro v' w9 hown hg _
            obtain ⟨va, vc, rfl⟩ := own_slice hown
            have hsn := HI6.out.snoc (x := (false, S)) HV1.out HO.out hg (by rw [hXl]; exact hown)
            have hkf : KeepsFrom w2.heap.size W w9 := KeepsFrom.trans (KeepsFrom.trans (keeps_below HBW6.out _) ((KeepsOthers.alloc _ _).from _)) ((KeepsOthers.of_grownBy hg (fun j o hj ho => by obtain ⟨cs, rfl⟩ := own_cells (HO.out.alloc _) j o hj ho; rfl)).from _)
            have hkp : KpP (z + 1) W w9 := fun b hb => by
              have h1 := (HBW6.out.block _ (blk_lt hb)).trans hb
              have h2 := (Below.heap_alloc w6 (.cells #[.bool false, .string S] 78) _ (blk_lt h1)).trans h1
              exact (hg.block _ (blk_lt h2) (fun e => own_neT (HO.out.alloc _) h2 (by decide) e.symm)).trans h2
            have hb9 : w9.heap[w.heap.size + 2]? = some (.cells #[v] 32 (0, 0)) := by
              have h2 := (Below.heap_alloc w6 (.cells #[.bool false, .string S] 78) _ (blk_lt HV1.out)).trans HV1.out
              exact (hg.block _ (blk_lt h2) (fun e => own_neT (HO.out.alloc _) h2 (by decide) e.symm)).trans h2
            have k9 : w9.cell? ⟨w.heap.size + 2, 0, none⟩ = some v := by rw [cell_of_block hb9]; rfl
            have f9 := unfrozen_of_block hb9
            have l9 := blk_lt hb9
            have HSN9 := Lib.hid hsn
            have HKF9 := Lib.hid hkf
            have HKP9 := Lib.hid hkp
            clear hown hg hsn hkf hkp hb9 k4 x0 x1 f4 l4 lx
            gi_wp2
            refine ⟨KeepsFrom.trans HKF9.out ((KeepsOthers.setCell _ _ _).from _), fun b hb => (Below.heap_setCell _ _ _ _ (show z + 1 ≠ w.heap.size + 2 by omega)).trans (HKP9.out b hb), X ++ [(false, S)], ?_, HSN9.out⟩
            rw [List.map_append, fls_snoc]
            have := HSN.out
            rw [HFS.out] at this
            rw [show [S].map (fun (x : ByteArray) => x.data.toList) = [D] by rw [← HD.out]; rfl, this]
            rw [show (S).data.toList = D from HD.out]
            rfl
      case done =>
        rintro D xs W hD hS2 ⟨X, hX, hi⟩ hK
        have HI := Lib.hid hi
        have HK := Lib.hid hK
        unfold SP at hS2
        rw [← hS2, ← HSP.out] at hX
        have HX := Lib.hid hX
        have hD2 : w.heap.size + 6 ≤ D := by rw [HW2.out] at hD; have := HZ.out; omega
        have hz3 := hi.z3
        have hlx : X.length ≤ 4097 := by
          have h1 := pcs_len L.length L
          rw [HSP.out] at hX
          have h2 := fldM_len hX
          unfold pcsL at h2
          rw [fls_len] at h2
          omega
        obtain ⟨v, hv1, hv2⟩ := hi.o
        obtain ⟨va, vc, rfl⟩ := own_slice hv2
        have HV1 := Lib.hid hv1
        have HO := Lib.hid hv2
        have k2 : W.cell? ⟨w.heap.size, 0, none⟩ = some (.slice none 0 0) := by rw [cell_of_block hi.r2]; rfl
        have k3 : W.cell? ⟨w.heap.size + 1, 0, none⟩ = some (.int .i64 0) := by rw [cell_of_block hi.r3]; rfl
        have k4 : W.cell? ⟨w.heap.size + 2, 0, none⟩ = some (.slice va X.length vc) := by rw [cell_of_block hv1]; rfl
        have f2 := unfrozen_of_block hi.r2
        have f3 := unfrozen_of_block hi.r3
        have l4 := blk_lt hv1
        clear hX hi hK hS2 hD hv1 hv2
        (try simp only [Exit.inBlock, Exit.then])
        refine use_k (by assumption) ?_
        refine wpIn_wide.2 ?_
        by_cases h64 : 64 < X.length
        · have d64 : decide ((64 : Int) < (X.length : Int)) = true := decide_eq_true (by omega)
          have hsp := splE_many (l := L) (by omega) HX.out (by rw [fls_len]; exact h64)
          have HSP2 := Lib.hid hsp
          clear hsp
          go_wp2
          clear k2 k3 k4 f2 f3 l4 d64
          have e2 : ((W.setCell ⟨w.heap.size, 0, none⟩ (.slice none 0 0)).setCell ⟨w.heap.size + 1, 0, none⟩ (.int .i64 3)).heap[w.heap.size]? = some (.cells #[.slice none 0 0] 32 (0, 0)) := (Below.heap_setCell _ _ _ _ (show w.heap.size ≠ w.heap.size + 1 by omega)).trans ((setCell_block HI.out.r2 _).trans (by simp))
          have e3 : ((W.setCell ⟨w.heap.size, 0, none⟩ (.slice none 0 0)).setCell ⟨w.heap.size + 1, 0, none⟩ (.int .i64 3)).heap[w.heap.size + 1]? = some (.cells #[.int .i64 3] 24 (0, 0)) := (setCell_block ((Below.heap_setCell _ _ _ _ (show w.heap.size + 1 ≠ w.heap.size by omega)).trans HI.out.r3) _).trans (by simp)
          have ed : ((W.setCell ⟨w.heap.size, 0, none⟩ (.slice none 0 0)).setCell ⟨w.heap.size + 1, 0, none⟩ (.int .i64 3)).heap[D]? = some (.deferred (some [])) := (Below.heap_setCell _ _ _ _ (show D ≠ w.heap.size + 1 by omega)).trans ((Below.heap_setCell _ _ _ _ (show D ≠ w.heap.size by omega)).trans HK.out)
          have hb5 := (HI.out.k.setCell (p := ⟨w.heap.size, 0, none⟩) (Nat.le_refl _) (.slice none 0 0)).setCell (p := ⟨w.heap.size + 1, 0, none⟩) (Nat.le_succ _) (.int .i64 3)
          have n2 : (Value.slice va X.length vc).ownBlock ≠ some (⟨w.heap.size, 0, none⟩ : Addr).block := own_neT HO.out HI.out.r2 (by decide)
          have n3 : (Value.slice va X.length vc).ownBlock ≠ some (⟨w.heap.size + 1, 0, none⟩ : Addr).block := own_neT HO.out HI.out.r3 (by decide)
          have ho5 := ownsRow_setCell_other (ownsRow_setCell_other HO.out n2 (.slice none 0 0)) n3 (.int .i64 3)
          obtain ⟨W5, hW5⟩ : ∃ V, ((W.setCell ⟨w.heap.size, 0, none⟩ (.slice none 0 0)).setCell ⟨w.heap.size + 1, 0, none⟩ (.int .i64 3)) = V := ⟨_, rfl⟩
          rw [hW5] at e2 e3 ed hb5 ho5 ⊢
          clear hW5
          refine ⟨by simp, .inl ⟨D, _, rfl, run_takeDeferred ed, ?_⟩⟩
          have o2 : (W5.putObj D (.deferred none)).heap[w.heap.size]? = _ := (World.putObj_heap_other (show w.heap.size ≠ D by omega)).trans e2
          have o3 : (W5.putObj D (.deferred none)).heap[w.heap.size + 1]? = _ := (World.putObj_heap_other (show w.heap.size + 1 ≠ D by omega)).trans e3
          have c0 : (W5.putObj D (.deferred none)).cell? ⟨w.heap.size, 0, none⟩ = some (.slice none 0 0) := by rw [cell_of_block o2]; rfl
          have c1 : (W5.putObj D (.deferred none)).cell? ⟨w.heap.size + 1, 0, none⟩ = some (.int .i64 3) := by rw [cell_of_block o3]; rfl
          have hb6 := hb5.trans (belowK_b (w := w) (Nat.le_refl _) W5 D _ (.deferred none) (by omega) ed rfl rfl)
          have ho6 := own_stays ho5 (grownBy_putObj' W5 D (.deferred none)) (fun r e => by cases e; exact ⟨_, ed, rfl⟩)
          refine ⟨.tuple #[.slice none 0 0, .int .i64 3], ?_, ?_⟩
          · simp [results, Tryz.results11, go_sem, c0, c1]
          · rw [HSP2.out.1, HSP2.out.2]
            exact SplPost.none hb6
        · have d64 : decide ((64 : Int) < (X.length : Int)) = false := decide_eq_false (by omega)
          have hsp := splE_ok (l := L) (by omega) HX.out (by rw [fls_len]; exact h64)
          have HSP2 := Lib.hid hsp
          clear hsp
          go_wp2
          clear k2 k3 k4 f2 f3 l4 d64
          have e2 : ((W.setCell ⟨w.heap.size, 0, none⟩ (.slice va X.length vc)).setCell ⟨w.heap.size + 1, 0, none⟩ (.int .i64 0)).heap[w.heap.size]? = some (.cells #[.slice va X.length vc] 32 (0, 0)) := (Below.heap_setCell _ _ _ _ (show w.heap.size ≠ w.heap.size + 1 by omega)).trans ((setCell_block HI.out.r2 _).trans (by simp))
          have e3 : ((W.setCell ⟨w.heap.size, 0, none⟩ (.slice va X.length vc)).setCell ⟨w.heap.size + 1, 0, none⟩ (.int .i64 0)).heap[w.heap.size + 1]? = some (.cells #[.int .i64 0] 24 (0, 0)) := (setCell_block ((Below.heap_setCell _ _ _ _ (show w.heap.size + 1 ≠ w.heap.size by omega)).trans HI.out.r3) _).trans (by simp)
          have ed : ((W.setCell ⟨w.heap.size, 0, none⟩ (.slice va X.length vc)).setCell ⟨w.heap.size + 1, 0, none⟩ (.int .i64 0)).heap[D]? = some (.deferred (some [])) := (Below.heap_setCell _ _ _ _ (show D ≠ w.heap.size + 1 by omega)).trans ((Below.heap_setCell _ _ _ _ (show D ≠ w.heap.size by omega)).trans HK.out)
          have hb5 := (HI.out.k.setCell (p := ⟨w.heap.size, 0, none⟩) (Nat.le_refl _) (.slice va X.length vc)).setCell (p := ⟨w.heap.size + 1, 0, none⟩) (Nat.le_succ _) (.int .i64 0)
          have n2 : (Value.slice va X.length vc).ownBlock ≠ some (⟨w.heap.size, 0, none⟩ : Addr).block := own_neT HO.out HI.out.r2 (by decide)
          have n3 : (Value.slice va X.length vc).ownBlock ≠ some (⟨w.heap.size + 1, 0, none⟩ : Addr).block := own_neT HO.out HI.out.r3 (by decide)
          have ho5 := ownsRow_setCell_other (ownsRow_setCell_other HO.out n2 (.slice va X.length vc)) n3 (.int .i64 0)
          obtain ⟨W5, hW5⟩ : ∃ V, ((W.setCell ⟨w.heap.size, 0, none⟩ (.slice va X.length vc)).setCell ⟨w.heap.size + 1, 0, none⟩ (.int .i64 0)) = V := ⟨_, rfl⟩
          rw [hW5] at e2 e3 ed hb5 ho5 ⊢
          clear hW5
          refine ⟨by simp, .inl ⟨D, _, rfl, run_takeDeferred ed, ?_⟩⟩
          have o2 : (W5.putObj D (.deferred none)).heap[w.heap.size]? = _ := (World.putObj_heap_other (show w.heap.size ≠ D by omega)).trans e2
          have o3 : (W5.putObj D (.deferred none)).heap[w.heap.size + 1]? = _ := (World.putObj_heap_other (show w.heap.size + 1 ≠ D by omega)).trans e3
          have c0 : (W5.putObj D (.deferred none)).cell? ⟨w.heap.size, 0, none⟩ = some (.slice va X.length vc) := by rw [cell_of_block o2]; rfl
          have c1 : (W5.putObj D (.deferred none)).cell? ⟨w.heap.size + 1, 0, none⟩ = some (.int .i64 0) := by rw [cell_of_block o3]; rfl
          have hb6 := hb5.trans (belowK_b (w := w) (Nat.le_refl _) W5 D _ (.deferred none) (by omega) ed rfl rfl)
          have ho6 := own_stays ho5 (grownBy_putObj' W5 D (.deferred none)) (fun r e => by cases e; exact ⟨_, ed, rfl⟩)
          refine ⟨.tuple #[.slice va X.length vc, .int .i64 0], ?_, ?_⟩
          · simp [results, Tryz.results11, go_sem, c0, c1]
          · rw [HSP2.out.1, HSP2.out.2]
            exact ⟨va, vc, by rw [fls_len], SlF.of_own ho6, hb6⟩
      case stop =>
        rintro D cd pre W hD ⟨rfl, hx⟩ hK
        have hD2 : w.heap.size + 6 ≤ D := by rw [HW2.out] at hD; have := HZ.out; omega
        have o2 : (W.putObj D (.deferred none)).heap[w.heap.size]? = _ := (World.putObj_heap_other (show w.heap.size ≠ D by omega)).trans hx.r2
        have o3 : (W.putObj D (.deferred none)).heap[w.heap.size + 1]? = _ := (World.putObj_heap_other (show w.heap.size + 1 ≠ D by omega)).trans hx.r3
        have c0 : (W.putObj D (.deferred none)).cell? ⟨w.heap.size, 0, none⟩ = some (.slice none 0 0) := by rw [cell_of_block o2]; rfl
        have c1 : (W.putObj D (.deferred none)).cell? ⟨w.heap.size + 1, 0, none⟩ = some (.int .i64 6) := by rw [cell_of_block o3]; rfl
        have hsp := splE_form (l := L) (by omega) (by rw [HSP.out]; exact hx.n)
        refine wpIn_ret ?_
        simp only [Exit.inBlock, Exit.then]
        refine ⟨by simp, .inl ⟨D, _, rfl, run_takeDeferred hK, ?_⟩⟩
        refine ⟨.tuple #[.slice none 0 0, .int .i64 6], ?_, ?_⟩
        · simp [results, Tryz.results11, go_sem, c0, c1]
        · rw [hsp.1, hsp.2]
          exact SplPost.none (hx.k.trans (belowK_b (w := w) (Nat.le_refl _) _ D _ _ (by omega) hK rfl rfl))
end Go.Proofs.YthmknaoelmeniaaGreatDoor
