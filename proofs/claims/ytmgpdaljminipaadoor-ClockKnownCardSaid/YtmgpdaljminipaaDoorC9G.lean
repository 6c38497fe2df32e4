/- Clocks: Run: the rings are collected. -/
import Derived.Test.YtmgpdaljminipaaDoorC9F
import Derived.Laws.OwnMore
namespace Go.Proofs.YtmgpdaljminipaaDoor
open Go.RowKit Go.Sort Go.Joins Go.Shelf
attribute [local go_sem] cell_grow frozen_grow size_grow Oper.semAt_some

/-- what Run hands back -/
def RunPost (w : World) (n : Nat) (R : Nat → Al) (u : Int) (e : Ending) (w' : World) : Prop :=
  ∃ (aL : Option Addr) (cL : Nat) (aR : Option Addr) (cR : Nat) (L : List (Int × Nat)), e = .returned (.tuple #[.slice aL L.length cL, .agg #[.slice aR (rstA R u n).length cR], .int .i64 0]) ∧
    SlG w' aL L.length (fun j => (L.map (rgN R)).getD j rn0) ∧ SlA w' aR (rstA R u n).length (fun j => (rstA R u n).getD j al0) ∧ RunOk n R u L ∧ L.length ≤ 1000 ∧ Below w.heap.size w w'
theorem use_k {F : Fence} {m : Nat} {P : Program} {y : Code} {Q : Exit → Act → World → Prop} {K : Act → World → Prop} {a : Act} {w : World} (hK : ∀ a w, y.wpIn F m P Q a w → K a w) (h : y.wpIn F m P Q a w) : K a w := hK a w h
/-- where the walk stands behind the loop that collects -/
structure RunAt (w W : World) (a : Option Addr) (n c : Nat) (R : Nat → Al) (u : Int) (z : Nat) (L : List (Int × Nat)) (D : Nat) : Prop where
  i : RI w a n c R u z L W
  ok : RunOk n R u L
  d : W.heap[D]? = some (.deferred (some []))
  dz : z + 2 ≤ D

set_option maxRecDepth 100000 in
set_option maxHeartbeats 3200000 in
noncomputable def runA (a : Option Addr) (n c : Nat) (R : Nat → Al) (u : Int) (w : World) : { G : World → Nat → Nat → Int → Prop //
    (∀ W D z cv L, RunAt w W a n c R u z L D → G W D z cv) → SlA w a n R → n ≤ 9223372036854775807 → (∀ j, j < n → AlB (R j)) → rnE n R u = 0 → Calls Tryd.prog 19 #[pV a n c, .int .i64 u] w (RunPost w n R u) } := by
  apply Subtype.mk
  case property =>
    intro hG hS hn hR hE
    obtain ⟨i0, hi0, hz0, hz1, hz2'⟩ := info_parts info_ring
    have HG := Lib.hid hG
    obtain ⟨hct, hsum⟩ := rnE_zero hE
    obtain ⟨hce, hu0, hu1⟩ := ctE_zero hct
    have HP := Lib.hid (cE_zero hce)
    have hcv : ctV n R u = sumA R u n := if_pos hct
    obtain ⟨cv, hv⟩ : ∃ cv, sumA R u n = cv := ⟨_, rfl⟩
    rw [hv] at hsum hcv
    have d1 : decide ((1000 : Int) < cv) = false := by simpa using hsum
    have b1 : Below w.heap.size w (((w.alloc (.cells #[.slice a n c] 44)).alloc (.cells #[.int .i64 u] 2)).alloc (.cells #[.slice none 0 0] 44)) := (((Below.refl _ w).alloc (Nat.le_refl _) _).alloc (by simp) _).alloc (by simp; omega) _
    have hrb : RB w a n c R u (((w.alloc (.cells #[.slice a n c] 44)).alloc (.cells #[.int .i64 u] 2)).alloc (.cells #[.slice none 0 0] 44)) := by
      refine ⟨b1, ?_, ?_, ?_⟩
      · exact (Below.heap_alloc _ _ _ (by simp; omega)).trans ((Below.heap_alloc _ _ _ (by simp)).trans (heap_alloc_new w _))
      · have := heap_alloc_new (w.alloc (.cells #[.slice a n c] 44)) (.cells #[.int .i64 u] 2)
        rw [World.size_alloc] at this
        exact (Below.heap_alloc _ _ _ (by simp)).trans this
      · have := heap_alloc_new ((w.alloc (.cells #[.slice a n c] 44)).alloc (.cells #[.int .i64 u] 2)) (.cells #[.slice none 0 0] 44)
        rw [World.size_alloc, World.size_alloc] at this
        exact this
    have HRB := Lib.hid hrb
    have HC := Lib.hid (count_ok (c := c) (hS.below b1) hn hR u)
    rw [hcv, hct] at HC
    have HS := Lib.hid hS
    have HCV := Lib.hid (And.intro hsum hv)
    clear hG hS hR hE hct hce hcv hrb b1 hv hsum
    refine (callsIn_wide (n := 6)).1 ?_
    refine callsIn_of_wp_marks Tryd.func19 rfl trivial ?_ rfl
    simp only [Tryd.ntmps19, List.size_toArray, List.length_cons, List.length_nil, Nat.reduceAdd, Nat.reduceSub, Array.replicate_succ, Array.replicate_zero, List.push_toArray, List.append_toArray, List.nil_append, List.cons_append]
    gi_wp2_with fail
    refine ⟨trivial, (callsIn_wide.2 HC.out).mono ?_⟩
    rintro e w1 ⟨rfl, b1⟩
    have HRB1 := Lib.hid (HRB.out.below b1)
    have k2 : w1.cell? ⟨w.heap.size, 0, none⟩ = some (.slice a n c) := by rw [cell_of_block HRB1.out.b2]; rfl
    have kl2 := blk_lt HRB1.out.b2
    clear b1
    gi_wp2_with fail
    refine ⟨trivial, (callsIn_wide.2 (rings_ok a n c _)).mono ?_⟩
    rintro e w2 ⟨rfl, hw2⟩
    have b2 : Below w1.heap.size w1 w2 := by
      rw [← hw2]
      exact ((Below.refl _ _).alloc (Nat.le_refl _) _).alloc (by simp) _
    have hz2 : w2.heap.size = w1.heap.size + 2 := by rw [← hw2]; simp
    have hri : RI w a n c R u w1.heap.size [] w2 := by
      refine ⟨HRB1.out.below b2, ?_, ⟨.slice none 0 0, ?_, World.ownsRow_nil _ _ _ _⟩, (fun y hy => by cases hy), ?_⟩
      · rw [← hw2]
        have := heap_alloc_new (w1.alloc (.cells #[.slice none 0 0] 54)) (.cells #[.slice a n c] 44)
        rwa [World.size_alloc] at this
      · rw [← hw2]
        exact (Below.heap_alloc _ _ _ (by simp)).trans (heap_alloc_new w1 _)
      · have := blk_lt HRB1.out.b5; omega
    have HRI := Lib.hid hri
    have hz3 : w.heap.size + 3 ≤ w1.heap.size := hri.z3
    clear hw2 b2 hri k2 kl2
    gi_wp2
    obtain ⟨z, hz⟩ : ∃ z, w1.heap.size = z := ⟨_, rfl⟩
    rw [hz] at hz2 HRI hz3 ⊢
    have HZ2 := Lib.hid hz2
    clear hz hz2
    refine wpIn_iterK_box rfl (by omega) (gf := 53) (lb := #[.pointer (some ⟨z + 1, 0, none⟩)]) rfl trivial (enters_of Tryd.func53 (by kernel_rfl) rfl)
      (RI w a n c R u z) (rings_seq _ HP.out (z + 1) (RI w a n c R u z) (fun pre W h => ⟨h.p, HS.out.below h.b.k⟩) w2)
      (fun h hk ho => h.keeps hk ho) (fun hB h => h.mono hB) (fun s X Y h ho => by rw [HZ2.out] at ho; exact h.ow9 ho)
      (fun h k => h.trans k) (fun W l o o' _ hl ho => Kp9.putObj W l o o' hl ho) (fun _ => rfl)
      (fun cd xs W => cd = .exit 1 ∧ ∃ pre x, xs = pre ++ [x] ∧ u < x.1 ∧ GR n R pre x ∧ RI w a n c R u z pre W) (by rw [HZ2.out]; exact RI.own) ?ixown HRI.out
      (fun a x Bx => { tmps := ((a.tmps.setIfInBounds 32 (.int .i64 (x.2 : Int))).setIfInBounds 33 (gV (rgN R x))).setIfInBounds 11 (.pointer (some ⟨Bx, 0, none⟩)), defers := [] })
      (fun x Bx W => z + 2 ≤ Bx ∧ W.heap[Bx]? = some (.cells #[.string (rgN R x).1, .int .i64 (rgN R x).2] 39 (0, 0))) (fun x Bx s X Y row h hg hr => ⟨h.1, blk_kept h.2 hg (fun r e => (hr r e).2)⟩)
      ?assign ?body ?done ?stop
    case ixown =>
      rintro cd xs X Y row ⟨h1, pre, x, h2, h3, h4, h5⟩ hg hr
      exact ⟨h1, pre, x, h2, h3, h4, RI.own pre X Y row h5 hg (by rw [HZ2.out] at hr; exact hr)⟩
    case assign =>
      intro l pre x W K hi hG hK
      simp only [List.setIfInBounds_toArray, List.set_cons_zero, List.set_cons_succ] at hK
      have bA := below_box0 W (.cells #[.string (rgN R x).1, .int .i64 (rgN R x).2] 39)
      have hB := heap_alloc_new W (.cells #[.string (rgN R x).1, .int .i64 (rgN R x).2] 39)
      have hlt := blk_lt hi.p
      gi_wp2
      exact hK _ _ ((KeepsOthers.alloc _ _).from _) (Kp9.alloc _ _) (hi.below bA) ⟨by omega, hB⟩
    case body =>
      rintro l pre ⟨t, ix⟩ Bx W hl hi ⟨hBz, hB⟩ hG
      obtain ⟨v, hbx, hown⟩ := hi.box
      obtain ⟨s, hs⟩ : ∃ s, (R ix).1 = s := ⟨_, rfl⟩
      have hB' : W.heap[Bx]? = some (.cells #[.string s, .int .i64 t] 39 (0, 0)) := by rw [← hs]; exact hB
      have hrg : gV (rgN R (t, ix)) = .agg #[.string s, .int .i64 t] := by rw [← hs]; rfl
      have hrc : rgN R (t, ix) = (s, t) := by rw [← hs]; rfl
      rw [hrg]
      have k0 : W.cell? ⟨Bx, 0, none⟩ = some (.string s) := by rw [cell_of_block hB']; rfl
      have k1 : W.cell? ⟨Bx, 1, none⟩ = some (.int .i64 t) := by rw [cell_of_block hB']; rfl
      have k3 : W.cell? ⟨w.heap.size + 1, 0, none⟩ = some (.int .i64 u) := by rw [cell_of_block hi.b.b3]; rfl
      have k9 : W.cell? ⟨z, 0, none⟩ = some v := by rw [cell_of_block hbx]; rfl
      have kz := blk_lt hi.p
      have kzb := blk_lt hB'
      have HI := Lib.hid hi
      have HGR := Lib.hid hG
      have HBX := Lib.hid hbx
      have HO := Lib.hid hown
      have HRC := Lib.hid hrc
      clear hi hG hB hB' hbx hown hrg hrc hs
      simp only [List.setIfInBounds_toArray, List.set_cons_zero, List.set_cons_succ]
      by_cases hlate : u < t
      · have d2 : decide (u < t) = true := by simpa using hlate
        gi_wp2
        exact ⟨(KeepsOthers.refl _).from _, rfl, pre, _, rfl, hlate, HGR.out, HI.out⟩
      · have d2 : decide (u < t) = false := by simpa using hlate
        have hmore := GR.more HP.out (by rw [MT_eq]; exact hu1) HGR.out HI.out.le (show (t, ix).1 ≤ u by dsimp only; omega)
        rw [HCV.out.2] at hmore
        have hpl : pre.length < 1000 := by have := HCV.out.1; omega
        clear hmore
        gi_wp2_with (gi_at_builtin; refine wpListIn_append_own _ rfl (.tmp 38) (.tmp 40) 54 rfl (z + 2) 39 i0 (.agg #[.string ⟨#[]⟩, .int .i64 0]) 2 24 Tryd.underlying54 hi0 hz0 hz1 hz2' rfl (by decide) _ _ _ rfl (HO.out.alloc _) ⟨W.heap.size, 0, none⟩ 1 1 [.string s, .int .i64 t] rfl rfl ?c1 ?c2 ?c3 ?c4 ?c5 ?_)
        case c2 => exact ⟨rfl, rfl⟩
        case c3 => unfold maxLen; omega
        case c4 => omega
        case c5 => first | omega | (simp; omega)
        intro v' w3 hown hg _
        obtain ⟨va, vc, rfl⟩ := own_slice' hown
        have hrow : ∀ r, v.ownBlock = some r → z + 2 ≤ r := fun r e => (HO.out.lt _ e).1
        have hne : (some z : Option Nat) ≠ v.ownBlock := fun e => by have := hrow _ e.symm; omega
        have hAl := Below.heap_alloc W (.cells #[.string s, .int .i64 t] 39)
        have hbz3 : w3.heap[z]? = some (.cells #[v] 54 (0, 0)) := (hg.block z (by simp; omega) hne).trans ((hAl z (by omega)).trans HBX.out)
        have d1 : w3.cell? ⟨z, 0, none⟩ = some v := by rw [cell_of_block hbz3]; rfl
        have d3 : w3.frozen? ⟨z, 0, none⟩ = false := unfrozen_of_block hbz3 0
        have HW := Lib.hid hown
        have HGr := Lib.hid hg
        have HB3 := Lib.hid hbz3
        have HROW := Lib.hid hrow
        clear hown hg hne hbz3 hAl hrow
        gi_wp2
        have hne' : (Value.slice va (pre.length + 1) vc).ownBlock ≠ some (⟨z, 0, none⟩ : Addr).block := fun e => by have := (HW.out.lt _ e).1; dsimp only at this; omega
        have bA := below_box0 W (.cells #[.string s, .int .i64 t] 39)
        have hiA := HI.out.below bA
        have hkA : Kp9 W w3 := (Kp9.alloc W _).trans (Kp9.grown HGr.out (fun r o hr ho => by obtain ⟨cs, rfl⟩ := own_cells (HO.out.alloc _) r o hr ho; exact not_ty ring_not))
        refine ⟨(((KeepsOthers.alloc W _).trans (KeepsOthers.of_grownBy HGr.out (fun j o hj ho => by obtain ⟨cs, rfl⟩ := own_cells (HO.out.alloc _) j o hj ho; rfl))).trans (KeepsOthers.setCell _ _ _)).from _, hkA.trans (Kp9.setCell HB3.out (not_ty rings_not) _), ?_⟩
        refine ⟨(hiA.b.grown (Z := z + 2) (by omega) HGr.out HROW.out).set HI.out.z3, ?_, ⟨.slice va (pre.length + 1) vc, (setCell_block HB3.out _).trans (by simp), ?_⟩, ?_, HI.out.z3⟩
        · exact (Below.heap_setCell _ _ _ _ (show z + 1 ≠ z by omega)).trans ((HGr.out.block (z + 1) (by simp; omega) (fun e => by have := HROW.out _ e.symm; omega)).trans hiA.p)
        · have := ownsRow_setCell_other HW.out hne' (.slice va (pre.length + 1) vc)
          simpa [rgc_snoc, HRC.out] using this
        · intro y hy
          rw [List.mem_append, List.mem_singleton] at hy
          rcases hy with hy | rfl
          · exact HI.out.le y hy
          · dsimp only; omega
    case done =>
      rintro D xs W hD hS2 hi hK
      have hat : RunAt w W a n c R u z xs D := ⟨hi, hS2.done HP.out (by rw [MT_eq]; exact hu1) hi.le, hK, by rw [HZ2.out] at hD; exact hD⟩
      have HAT := Lib.hid hat
      clear hat hi hK hS2 hD
      (try simp only [Exit.inBlock, Exit.then])
      refine use_k (by assumption) ?_
      refine wpIn_wide.2 ?_
      try dsimp +zetaDelta only
      exact HG.out W D z cv xs HAT.out
    case stop =>
      rintro D cd pre W hD ⟨rfl, pr, x, rfl, hux, hG, hi⟩ hK
      have hat : RunAt w W a n c R u z pr D := ⟨hi, hG.stop HP.out (by rw [MT_eq]; exact hu1) hi.le hux, hK, by rw [HZ2.out] at hD; exact hD⟩
      have HAT := Lib.hid hat
      clear hat hi hK hG hD
      refine wpIn_exit ?_
      simp only [Exit.inBlock, ↓reduceIte, Exit.then]
      refine use_k (by assumption) ?_
      refine wpIn_wide.2 ?_
      try dsimp +zetaDelta only
      exact HG.out W D z cv pr HAT.out
end Go.Proofs.YtmgpdaljminipaaDoor
