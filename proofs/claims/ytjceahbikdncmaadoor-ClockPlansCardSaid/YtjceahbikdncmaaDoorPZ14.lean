/- Clocks: the reference's Add of an alarm that is taken. | Slices of elements of more than one cell: copy, and clear of one element. | Clocks: slices.Delete of one alarm of an own row. | Clocks: Cancel. -/
import Derived.Test.YtjceahbikdncmaaDoorPZ13
import Derived.Lib.SliceRun
import Derived.Lib.AppendZerosOnto
import Derived.Lib.Overlaps
import Derived.Laws.IdiomCopy
import Derived.Laws.Externs
import Derived.Laws.NewBlocks
namespace Go.Proofs.YtjceahbikdncmaaDoor
open Go.RowKit Go.Sort Go.Joins Go.Shelf
attribute [local go_sem] cell_grow frozen_grow size_grow Oper.semAt_some
theorem Reads.take {w : World} {B size n : Nat} {A : Option Addr} {xs : List Value} (h : Reads w B size A n xs) {k : Nat} (hk : k ≤ n) : Reads w B size A k (xs.take (k * size)) := by
  refine ⟨by rw [List.length_take, h.1]; exact Nat.min_eq_left (Nat.mul_le_mul_right _ hk), fun hk0 => ?_⟩
  obtain ⟨ad, e, hb, hc⟩ := h.2 (by omega)
  refine ⟨ad, e, hb, fun j u hu => hc j u ?_⟩
  rw [List.getElem?_take] at hu
  split at hu
  · exact hu
  · cases hu
theorem alc_append (L M : List Al) : alc (L ++ M) = alc L ++ alc M := by simp [alc]
theorem alc_take (L : List Al) (k : Nat) (hk : k ≤ L.length) : alc (L.take k) = (alc L).take (k * 3) := by
  have h1 : alc L = alc (L.take k) ++ alc (L.drop k) := by rw [← alc_append, List.take_append_drop]
  have h2 : (alc (L.take k)).length = k * 3 := by rw [alc_length, List.length_take, Nat.min_eq_left hk]
  rw [h1, ← h2, List.take_left]
theorem alc_drop (L : List Al) (k : Nat) (hk : k ≤ L.length) : alc (L.drop k) = (alc L).drop (k * 3) := by
  have h1 : alc L = alc (L.take k) ++ alc (L.drop k) := by rw [← alc_append, List.take_append_drop]
  have h2 : (alc (L.take k)).length = k * 3 := by rw [alc_length, List.length_take, Nat.min_eq_left hk]
  rw [h1, ← h2, List.drop_left]
/-- the plan, as a list -/
def plL (n : Nat) (R : Nat → Al) : List Al := (List.range n).map R
theorem plL_len (n : Nat) (R : Nat → Al) : (plL n R).length = n := by simp [plL]
theorem plL_get {n : Nat} {R : Nat → Al} {j : Nat} (h : j < n) : (plL n R).getD j al0 = R j := by simp [plL, List.getD, h]
theorem SlA.plan {w : World} {a : Option Addr} {n : Nat} {R : Nat → Al} (h : SlA w a n R) : SlA w a (plL n R).length (fun j => (plL n R).getD j al0) := by
  rw [plL_len]
  exact h.congr fun j hj => (plL_get hj).symm
theorem SlA.readsP {w : World} {a : Option Addr} {n : Nat} {R : Nat → Al} (h : SlA w a n R) : Reads w w.heap.size 3 a n (alc (plL n R)) := by
  have := h.plan.readsL
  rwa [plL_len] at this
theorem addE_zero {n : Nat} {R : Nat → Al} {x : Al} (h : addE n R x = 0) : cE n R = 0 ∧ alE x = 0 ∧ ¬ (lowI n R x.1 < n ∧ (R (lowI n R x.1)).1 = x.1) ∧ n ≠ 50 := by
  unfold addE at h
  split at h
  · rename_i h1; exact absurd h h1
  · rename_i h1
    split at h
    · rename_i h2; exact absurd h h2
    · rename_i h2
      split at h
      · cases h
      · rename_i h3
        split at h
        · cases h
        · rename_i h4
          exact ⟨by simpa using h1, by simpa using h2, h3, h4⟩
section
variable {w W : World} {a : Option Addr} {n c : Nat} {x : Al}
theorem AB.cp (h : AB w a n c x W) : W.cell? ⟨w.heap.size, 0, none⟩ = some (.slice a n c) := by rw [cell_of_block h.p]; rfl
theorem AB.c0 (h : AB w a n c x W) : W.cell? ⟨w.heap.size + 1, 0, none⟩ = some (.string x.1) := by rw [cell_of_block h.x]; rfl
theorem AB.c1 (h : AB w a n c x W) : W.cell? ⟨w.heap.size + 1, 1, none⟩ = some (.int .i64 x.2.1) := by rw [cell_of_block h.x]; rfl
theorem AB.c2 (h : AB w a n c x W) : W.cell? ⟨w.heap.size + 1, 2, none⟩ = some (.int .i64 x.2.2) := by rw [cell_of_block h.x]; rfl
theorem AB.co (h : AB w a n c x W) : W.cell? ⟨w.heap.size + 1 + 1, 0, none⟩ = some (.slice none 0 0) := by rw [cell_of_block h.o]; rfl
theorem AB.fo (h : AB w a n c x W) (q : Nat) : W.frozen? ⟨w.heap.size + 1 + 1, q, none⟩ = false := unfrozen_of_block h.o q
theorem AB.lp (h : AB w a n c x W) : w.heap.size < W.heap.size := blk_lt h.p
theorem AB.lx (h : AB w a n c x W) : w.heap.size + 1 < W.heap.size := blk_lt h.x
theorem AB.lo (h : AB w a n c x W) : w.heap.size + 1 + 1 < W.heap.size := blk_lt h.o
end
section
variable {w : World} {a : Option Addr} {n c : Nat} {R : Nat → Al}
set_option maxRecDepth 100000 in
set_option maxHeartbeats 3200000 in
theorem rAdd_in (hS : SlA w a n R) (hn : n ≤ 9223372036854775807) (hc : n ≤ c) (hR : ∀ j, j < n → AlB (R j)) (x : Al) (hx : x.1.size ≤ 9223372036854775807) (hE : addE n R x = 0) :
    Calls Tryd.prog 28 #[pV a n c, aV x] w (AddPost w n R x) := by
  obtain ⟨i0, hi0, hz0, hz1, hz2'⟩ := info_parts info_alarm
  obtain ⟨h0, hA, h8, h50⟩ := addE_zero hE
  have b1 : Below w.heap.size w (((w.alloc (.cells #[.slice a n c] 24)).alloc (.cells #[.string x.1, .int .i64 x.2.1, .int .i64 x.2.2] 47)).alloc (.cells #[.slice none 0 0] 24)) := (((Below.refl _ w).alloc (Nat.le_refl _) _).alloc (by simp) _).alloc (by simp; omega) _
  have hab : AB w a n c x (((w.alloc (.cells #[.slice a n c] 24)).alloc (.cells #[.string x.1, .int .i64 x.2.1, .int .i64 x.2.2] 47)).alloc (.cells #[.slice none 0 0] 24)) := by
    refine ⟨b1, ?_, ?_, ?_⟩
    · exact (Below.heap_alloc _ _ _ (by simp; omega)).trans ((Below.heap_alloc _ _ _ (by simp)).trans (heap_alloc_new w _))
    · have := heap_alloc_new (w.alloc (.cells #[.slice a n c] 24)) (.cells #[.string x.1, .int .i64 x.2.1, .int .i64 x.2.2] 47)
      rw [World.size_alloc] at this
      exact (Below.heap_alloc _ _ _ (by simp)).trans this
    · have := heap_alloc_new ((w.alloc (.cells #[.slice a n c] 24)).alloc (.cells #[.string x.1, .int .i64 x.2.1, .int .i64 x.2.2] 47)) (.cells #[.slice none 0 0] 24)
      rw [World.size_alloc, World.size_alloc] at this
      exact this
  have HAB := Lib.hid hab
  have HC := Lib.hid (rCheck_ok (c := c) (hS.below b1) hn hR)
  have HS := Lib.hid hS
  have HX := Lib.hid (ralarm_ok x hx)
  have hP := cE_zero h0
  have HP := Lib.hid hP
  have hn50 := hP.n50
  rw [h0] at HC
  rw [hA] at HX
  have HE := Lib.hid hE
  have H8 := Lib.hid h8
  have HL := Lib.hid (addL_take n R x)
  have hn49 : n < 50 := by omega
  have d5 : ((n : Int) == 50) = false := by simp; omega
  clear hS hR b1 hab h0 hA hE hP h8 h50
  obtain ⟨nm, t, pp⟩ := x
  go_enter Tryd.func28, Tryd.ntmps28
  go_wp2_with fail
  refine HC.out.mono ?_
  rintro e w0 ⟨rfl, b0⟩
  have HAB0 := Lib.hid (HAB.out.below b0)
  have q0 : w0.cell? ⟨w.heap.size + 1, 0, none⟩ = some (.string nm) := by rw [cell_of_block HAB0.out.x]; rfl
  have q1 : w0.cell? ⟨w.heap.size + 1, 1, none⟩ = some (.int .i64 t) := by rw [cell_of_block HAB0.out.x]; rfl
  have q2 : w0.cell? ⟨w.heap.size + 1, 2, none⟩ = some (.int .i64 pp) := by rw [cell_of_block HAB0.out.x]; rfl
  clear b0 HC HAB
  go_wp2_with fail
  refine (HX.out _).mono ?_
  clear q0 q1 q2
  rintro e w1 ⟨rfl, b1⟩
  have HAB1 := Lib.hid (HAB0.out.below b1)
  clear b1 HX HAB0
  go_wp2
  go_loopw [8] (fun o wr => ∃ k : Nat, o = .int .i64 k ∧ k ≤ n ∧ Hid (∀ j, j < k → nlt (R j).1 nm = true) ∧ Hid (Below w1.heap.size w1 wr)) (fun o _ => n - (intOf o).toNat)
  case atStart => exact ⟨0, rfl, Nat.zero_le _, Lib.hid (fun j hj => by omega), Lib.hid (Below.refl _ _)⟩
  case round =>
    obtain ⟨k, rfl, hk, HA, HBr⟩ := hrel
    have HABr := Lib.hid (HAB1.out.below HBr.out)
    have k0 : wr.cell? ⟨w.heap.size, 0, none⟩ = some (.slice a n c) := by rw [cell_of_block HABr.out.p]; rfl
    have q0 : wr.cell? ⟨w.heap.size + 1, 0, none⟩ = some (.string nm) := by rw [cell_of_block HABr.out.x]; rfl
    by_cases hgo : k < n ∧ nlt (R k).1 nm = true
    · obtain ⟨hlt, hc⟩ := hgo
      obtain ⟨b, o, rfl, g0, g1, g2⟩ := (HS.out.below HABr.out.k).at_ hlt
      have hbl := World.block_lt_of_cell? _ _ g0
      dsimp only at hbl
      have hki : (k : Int) < (n : Int) := by omega
      have hk0 : (0 : Int) ≤ (k : Int) := by omega
      have hdk : decide ((k : Int) < (n : Int)) = true := decide_eq_true hki
      have hlt' := str_lt (R k).1 nm
      rw [hc] at hlt'
      have HCk := Lib.hid hc
      clear hc
      go_wp2_with fail
      go_quiet (fail)
      go_wp2
      go_roundw
      case rel => exact ⟨k + 1, by go_num, by omega, Lib.hid (fun j hj => by
        by_cases ej : j = k
        · rw [ej]; exact HCk.out
        · exact HA.out j (by omega)), Lib.hid (HBr.out.trans ((below_draw _ _).mono HBr.out.size))⟩
      case measure => simp [intOf]; omega
    · have hnlt : k < n → nlt (R k).1 nm = false := fun h => by
        cases hh : nlt (R k).1 nm with
        | false => rfl
        | true => exact absurd ⟨h, hh⟩ hgo
      have hlow := low_eq (n := n) (R := R) (s := nm) hk HA.out (fun j h1 h2 => by
        by_cases ej : j = k
        · rw [ej]; exact hnlt (by omega)
        · cases hj : nlt (R j).1 nm with
          | false => rfl
          | true => have := nlt_tr (HP.out.up k j (by omega) h2) hj; rw [hnlt (by omega)] at this; cases this)
      have hle := HL.out
      rw [← hlow] at hle
      have hne8 := H8.out
      rw [← hlow] at hne8
      have HLE := Lib.hid hle
      clear hgo hlow hle HL H8 HA HP
      have HRD0 := Lib.hid ((HS.out.below HABr.out.k).readsP)
      have hd : (∃ b o, a = some ⟨b, o, none⟩ ∧ wr.cell? ⟨b, o + k * 3, none⟩ = some (.string (R k).1) ∧ (R k).1 ≠ nm ∧ k < n ∧ nlt (R k).1 nm = false) ∨ k = n := by
        by_cases hlt : k < n
        · obtain ⟨b, o, e, g0, _⟩ := (HS.out.below HABr.out.k).at_ hlt
          exact .inl ⟨b, o, e, g0, fun h => hne8 ⟨hlt, h⟩, hlt, hnlt hlt⟩
        · exact .inr (by omega)
      clear hnlt hne8
      refine hd.elim ?wa ?wb
      case' wa =>
        rintro ⟨b, o, ha, g0, hnm, hlt, hc1⟩
        clear hd
        subst ha
        have hbl := World.block_lt_of_cell? _ _ g0
        dsimp only at hbl
        have hki : (k : Int) < (n : Int) := by omega
        have hk0 : (0 : Int) ≤ (k : Int) := by omega
        have hdk : decide ((k : Int) < (n : Int)) = true := decide_eq_true hki
        have hlt' := str_lt (R k).1 nm
        have heq' := str_eq (R k).1 nm
        rw [hc1] at hlt'
        rw [decide_eq_false hnm] at heq'
        clear hnm hc1
        go_wp2_with fail
        go_quiet (fail)
        go_wp2_with fail
        go_quiet (fail)
        clear hlt' heq' g0 hbl hdk hki hk0
        go_upto_region 13 with fail
      case' wb =>
        intro hkn
        clear hd
        have hdk : decide ((k : Int) < (n : Int)) = false := decide_eq_false (by omega)
        have hdn : ¬ k < n := by omega
        have hdi : ¬ ((k : Int) < (n : Int)) := by omega
        clear hkn
        go_wp2_with fail
        go_quiet (fail)
        go_wp2_with fail
        go_quiet (fail)
        clear hdk
        go_upto_region 13 with fail
        rcases a with _ | ad
      all_goals
        refine (fun (h : ∀ V, (∃ j, V = wr.drewN j) → Code.wp _ _ _ _ V) => h _ ⟨_, rfl⟩) ?_
        rintro V ⟨jd, hV⟩
        have HABV : Hid (AB w _ n c (nm, t, pp) V) := Lib.hid (by rw [hV]; exact HABr.out.below (below_draw _ _))
        have HRD : Hid (Reads V V.heap.size 3 _ n (alc (plL n R))) := Lib.hid (by rw [hV]; exact HRD0.out.drewN _)
        clear hV k0 q0 HRD0 HABr HBr HAB1 HS
        have k0 := HABV.out.cp
        have l0 := blk_lt HABV.out.p
        have hk0 : (0 : Int) ≤ (k : Int) := by omega
        have hkc : k ≤ c := by omega
        have hkci : (k : Int) ≤ (c : Int) := by omega
        have HO8 : Hid ((V.alloc (.cells #[] 47)).ownsRow V.heap.size 47 3 (.slice (some ⟨V.heap.size, 0, none⟩) 0 0) 0 []) := Lib.hid (World.ownsRow_lit V #[] 0 (Nat.le_refl _) (by decide) rfl)
        have HT8 := Lib.hid ((HRD.out.take hk).alloc (Nat.le_refl _) (.cells #[] 47))
        rw [← alc_take _ _ (by rw [plL_len]; exact hk)] at HT8
        have HB8 := Lib.hid (below_box0 V (.cells #[] 47))
        go_upto_region 14 with (at_builtin
                                refine wpList_append_any _ (by simp [Region.wanted, yielded]) (.tmp 73) (.tmp 77) 22 rfl V.heap.size 47 i0 _ 3 32 Tryd.underlying22 hi0 hz0 hz1 hz2' rfl (by decide) (.slice (some ⟨V.heap.size, 0, none⟩) 0 0) 0 [] rfl HO8.out V.heap.size _ k c (alc ((plL n R).take k)) rfl HT8.out (alc_one _) (by unfold maxLen; omega) (by omega) HB8.out.size ?_
                                intro v1 w9 hown1 hg1 _
                                have HB9 := Lib.hid (HB8.out.grown hg1 HB8.out.size (by simp [Value.ownBlock]))
                                have HO9 : Hid (w9.ownsRow V.heap.size 47 3 v1 k (alc ((plL n R).take k))) := Lib.hid (by
                                  have e1 : 0 + k = k := by omega
                                  rw [e1, List.nil_append] at hown1
                                  exact hown1)
                                clear hown1 hg1)
        have HAB9 := Lib.hid (HABV.out.below HB9.out)
        have HRD9 := Lib.hid (HRD.out.below HB9.out)
        have HABU := Lib.hid HABV.out
        have HRDV := Lib.hid HRD.out
        clear k0 l0 HO8 HT8 HB8 HABV HRD
        have q0 := HAB9.out.c0
        have q1 := HAB9.out.c1
        have q2 := HAB9.out.c2
        have lx := HAB9.out.lx
        have hV9 := HB9.out.size
        dsimp only at q0 q1 q2
        go_upto_region 15 with (at_builtin
                                refine wpList_append_own _ rfl (.tmp 79) (.tmp 81) 22 rfl V.heap.size 47 i0 (.agg #[.string ⟨#[]⟩, .int .i64 0, .int .i64 0]) 3 32 Tryd.underlying22 hi0 hz0 hz1 hz2' rfl (by decide) _ _ _ rfl (HO9.out.alloc _) ⟨w9.heap.size, 0, none⟩ 1 1 [.string nm, .int .i64 t, .int .i64 pp] rfl rfl ?c1 ?c2 ?c3 ?c4 ?c5 ?_
                                case c1 => intro j q hq; match j with | 0 => (simp at hq; subst hq; simp [go_sem]) | 1 => (simp at hq; subst hq; simp [go_sem]) | 2 => (simp at hq; subst hq; simp [go_sem]) | j + 3 => simp at hq
                                case c2 => intro q hq; simp at hq; rcases hq with rfl | rfl | rfl <;> rfl
                                case c3 => unfold maxLen; omega
                                case c4 => omega
                                case c5 => first | omega | (simp; omega)
                                intro v2 w10 hown2 hg2 _
                                have HB10 := Lib.hid ((HB9.out.alloc HB9.out.size (.cells #[.string nm, .int .i64 t, .int .i64 pp] 47)).grown hg2 (by simp; omega) (by intro r hr; exact (HO9.out.lt r hr).1))
                                have HO10 : Hid (w10.ownsRow V.heap.size 47 3 v2 (k + 1) (alc ((plL n R).take k ++ [(nm, t, pp)]))) := Lib.hid (by rw [alc_snoc]; exact hown2)
                                clear hown2 hg2)
        have HRD10 := Lib.hid ((HRDV.out.below HB10.out).cut hk hc)
        rw [← alc_drop _ _ (by rw [plL_len]; exact hk)] at HRD10
        have HAB10 := Lib.hid (HABU.out.below HB10.out)
        clear q0 q1 q2 lx HAB9 HRD9 HO9 HB9
        have k0 := HAB10.out.cp
        have l0 := HAB10.out.lp
        have hV10 := HB10.out.size
        have hkn2 : (k : Int) ≤ (n : Int) := by omega
        by_cases hck : c = k
        all_goals try (exfalso; omega)
        all_goals
          first
            | (rw [if_pos hck] at HRD10)
            | (rw [if_neg hck] at HRD10)
          try simp only [Option.map_none, Option.map_some, Addr.add_lit] at HRD10
          go_wp2_with (at_builtin
                       refine wpList_append_any _ (by simp [Region.wanted, yielded]) (.tmp 83) (.tmp 87) 22 rfl V.heap.size 47 i0 _ 3 32 Tryd.underlying22 hi0 hz0 hz1 hz2' rfl (by decide) _ _ _ rfl HO10.out V.heap.size _ _ _ _ rfl HRD10.out (alc_one _) (by unfold maxLen; omega) (by omega) HB10.out.size ?_
                       intro v3 w11 hown3 hg3 _
                       have HB11 := Lib.hid (HB10.out.grown hg3 HB10.out.size (by intro r hr; exact (HO10.out.lt r hr).1))
                       have HO11 : Hid (w11.ownsRow V.heap.size 47 3 v3 (n + 1) (alc (addL n R (nm, t, pp)))) := Lib.hid (by
                         have e1 : k + 1 + (n - k) = n + 1 := by omega
                         rw [e1, ← alc_append] at hown3
                         rw [HLE.out]
                         exact hown3)
                       clear hown3 hg3
                       obtain ⟨va, vc, rfl⟩ := own_slice' HO11.out
                       have HAB11 := Lib.hid (HABU.out.below HB11.out)
                       have k5 := HAB11.out.co
                       have f5 := HAB11.out.fo
                       have l5 := HAB11.out.lo)
          refine bodyPost_ret (v := .tuple #[pV va (n + 1) vc, .int .i64 0]) (by simp [results, Tryd.results28, go_sem, k5, f5]) rfl ⟨va, vc, addL n R (nm, t, pp), by rw [HE.out, addL_len], Lib.hid (by unfold addR; rw [HE.out, if_pos rfl]), ?_, HAB11.out.k.setCell (p := ⟨w.heap.size + 1 + 1, 0, none⟩) (by dsimp only; omega) _⟩
          exact (SlA.of_own (by rw [addL_len]; exact HO11.out)).set_boxA HAB11.out.o _
end
end Go.Proofs.YtjceahbikdncmaaDoor

namespace Go.Proofs.YtjceahbikdncmaaDoor
open Go.RowKit Go.Sort Go.Joins Go.Shelf
theorem run_copy_wide {P : Program} (w : World) (dT sT ty elem : TypeId) (size b o dLen dCap : Nat) (a : Addr) (sLen sCap : Nat) (cs : List Value)
    (hu : P.underlying dT = some (.slice elem)) (i : TypeInfo) (hi : P.info? elem = some i) (hz : i.size = size) (hn : cs.length = Nat.min sLen dLen * size)
    (hsrc : ∀ j v, cs[j]? = some v → w.cell? (a.add j) = some v) (hc : ∀ j, j < cs.length → (w.cell? ⟨b, o + j, none⟩).isSome = true) (hf : ∀ j, j < cs.length → w.frozen? ⟨b, o + j, none⟩ = false) (h1 : ∀ v ∈ cs, v.oneCell' = true) :
    (Builtin.copy_ #[dT, sT] ty #[.slice (some ⟨b, o, none⟩) dLen dCap, .slice (some a) sLen sCap]).run P w = .ok (goInt (Nat.min sLen dLen)) (w.setCells b o cs) := by
  have hl := run_loadCells_list (P := P) w a cs hsrc
  have hst := run_storeCells_cells (P := P) b o cs 0 w (by simpa using hc) (by simpa using hf) h1
  rw [hn] at hl
  simp only [Nat.add_zero] at hst
  simp [Builtin.copy_, run_underlying hu, Builtin.lenOf, Builtin.firstCells, sizeOf, typeInfo, hi, hz, hl, hst]
theorem zeroCells_one (z : Array Value) : (Builtin.zeroCells z 1).toList = z.toList := by
  unfold Builtin.zeroCells
  apply List.ext_getElem
  · simp
  · intro i h1 h2
    have hi : i < z.size := by simpa using h2
    simp [Nat.mod_eq_of_lt hi, hi]
theorem run_clear_one {P : Program} (w : World) (t e ty : TypeId) (z : Value) (ht : P.underlying t = some (.slice e)) (hv : ∀ w, (zeroValue e).run P w = .ok z w) (b o c : Nat) (zs : List Value) (hz : z.cells.toList = zs) (h1 : ∀ v ∈ zs, v.oneCell' = true)
    (hc : ∀ j, j < zs.length → (w.cell? ⟨b, o + j, none⟩).isSome = true) (hf : ∀ j, j < zs.length → w.frozen? ⟨b, o + j, none⟩ = false) :
    (Builtin.clear_ #[t] ty #[.slice (some ⟨b, o, none⟩) 1 c]).run P w = .ok (.tuple #[]) (w.setCells b o zs) := by
  have hzc : (Builtin.zeroCells z.cells 1).toList = zs := by rw [zeroCells_one, hz]
  have hst := run_storeCells_cells (P := P) b o zs 0 w (by simpa using hc) (by simpa using hf) h1
  simp only [Nat.add_zero] at hst
  simp [Builtin.clear_, run_underlying ht, hv, hzc, hst]
end Go.Proofs.YtjceahbikdncmaaDoor

namespace Go.Proofs.YtjceahbikdncmaaDoor
open Go.RowKit Go.Sort Go.Joins Go.Shelf
attribute [local go_sem] cell_grow frozen_grow size_grow Oper.semAt_some
set_option maxRecDepth 100000 in
set_option maxHeartbeats 3200000 in
theorem delA_ok {w : World} {base g cap : Nat} {P : List Al} {i : Nat} (hO : w.ownsRow base 47 3 (.slice (some ⟨g, 0, none⟩) P.length cap) P.length (alc P)) (hbase : base ≤ w.heap.size) (h50 : P.length ≤ 100) (hi : i < P.length) :
    Calls Tryd.prog 46 #[.slice (some ⟨g, 0, none⟩) P.length cap, .int .i64 i, .int .i64 ((i : Int) + 1)] w fun e w' => e = .returned (.slice (some ⟨g, 0, none⟩) (P.length - 1) cap) ∧ SlA w' (some ⟨g, 0, none⟩) (P.length - 1) (fun j => (P.eraseIdx i).getD j al0) ∧ Below base w w' := by
  obtain ⟨i0, hi0, hz0, hz1, hz2'⟩ := info_parts info_alarm
  have hgB := (hO.lt g rfl).1
  obtain ⟨hm, hcs⟩ : P.length ≤ cap ∧ cap ≤ maxLen := by
    rcases hO.2 with ⟨h', _⟩ | ⟨g', cap', cur, h', _, _, hnc, hcm, _⟩
    · cases h'
    · cases h'; exact ⟨hnc, hcm⟩
  have hcm : cap ≤ 9223372036854775807 := by unfold maxLen at hcs; omega
  have CQ : ∀ j, j < P.length → w.cell? ⟨g, j * 3, none⟩ = some (.string (P.getD j al0).1) ∧ w.cell? ⟨g, j * 3 + 1, none⟩ = some (.int .i64 (P.getD j al0).2.1) ∧ w.cell? ⟨g, j * 3 + 2, none⟩ = some (.int .i64 (P.getD j al0).2.2) := by
    intro j hj
    obtain ⟨q0, q1, q2⟩ := alc_get P j hj
    exact ⟨(hO.cellAt _ (by omega)).trans q0, (hO.cellAt _ (by omega)).trans q1, (hO.cellAt _ (by omega)).trans q2⟩
  obtain ⟨NW, hNW⟩ : ∃ NW, alc (P.drop (i + 1)) = NW := ⟨_, rfl⟩
  have hnl : NW.length = (P.length - (i + 1)) * 3 := by rw [← hNW, alc_length, List.length_drop]
  have hng : ∀ j, j < P.length - (i + 1) → NW[j * 3]? = some (.string (P.getD (i + 1 + j) al0).1) ∧ NW[j * 3 + 1]? = some (.int .i64 (P.getD (i + 1 + j) al0).2.1) ∧ NW[j * 3 + 2]? = some (.int .i64 (P.getD (i + 1 + j) al0).2.2) := by
    intro j hj
    rw [← hNW, ← getD_drop]
    exact alc_get _ j (by rw [List.length_drop]; exact hj)
  have hcell : ∀ j u, NW[j]? = some u → w.drew.cell? ⟨g, (i + 1) * 3 + j, none⟩ = some u := by
    intro j u hu
    have hj : j < (P.length - (i + 1)) * 3 := by rw [← hnl]; exact (List.getElem?_eq_some_iff.1 hu).1
    have hq := CQ (i + 1 + j / 3) (by omega)
    have hn' := hng (j / 3) (by omega)
    rcases (show j % 3 = 0 ∨ j % 3 = 1 ∨ j % 3 = 2 by omega) with hm' | hm' | hm'
    · have ej : j = j / 3 * 3 := by omega
      rw [ej, hn'.1] at hu
      rw [show (i + 1) * 3 + j = (i + 1 + j / 3) * 3 by omega, ← hu]; exact hq.1
    · have ej : j = j / 3 * 3 + 1 := by omega
      rw [ej, hn'.2.1] at hu
      rw [show (i + 1) * 3 + j = (i + 1 + j / 3) * 3 + 1 by omega, ← hu]; exact hq.2.1
    · have ej : j = j / 3 * 3 + 2 := by omega
      rw [ej, hn'.2.2] at hu
      rw [show (i + 1) * 3 + j = (i + 1 + j / 3) * 3 + 2 by omega, ← hu]; exact hq.2.2
  obtain ⟨A, hA, hnews⟩ : ∃ A : Addr, (if cap = i + 1 then some (⟨g, 0, none⟩ : Addr) else some ⟨g, (i + 1) * 3, none⟩) = some A ∧ Hid (∀ j u, NW[j]? = some u → w.drew.cell? (A.add j) = some u) := by
    by_cases h : cap = i + 1
    · refine ⟨⟨g, 0, none⟩, by simp [h], Lib.hid fun j u hu => ?_⟩
      have h0 : NW.length = 0 := by rw [hnl]; omega
      rw [List.length_eq_zero_iff.1 h0] at hu
      simp at hu
    · refine ⟨⟨g, (i + 1) * 3, none⟩, by simp [h], Lib.hid fun j u hu => ?_⟩
      rw [Addr.add_lit]
      exact hcell j u hu
  have s1 := Lib.hid hnl
  have s2 : Hid (∀ u ∈ NW, u.oneCell' = true) := Lib.hid (by rw [← hNW]; exact alc_one _)
  have hs3 : ∀ j, j < P.length * 3 → (w.drew.cell? ⟨g, j, none⟩).isSome = true ∧ w.drew.frozen? ⟨g, j, none⟩ = false := by
    intro j hj
    refine ⟨?_, hO.frozenAt _⟩
    show (w.cell? _).isSome = true
    rw [hO.cellAt j hj, List.getElem?_eq_getElem (by rw [alc_length]; omega)]
    rfl
  have s3 : Hid (∀ j, j < NW.length → (w.drew.cell? ⟨g, 0 + i * 3 + j, none⟩).isSome = true ∧ w.drew.frozen? ⟨g, 0 + i * 3 + j, none⟩ = false) := Lib.hid (by
    intro j hj
    rw [hnl] at hj
    exact hs3 _ (by omega))
  obtain ⟨U, hU⟩ : ∃ U, U = w.drew.setCells g (0 + i * 3) NW := ⟨_, rfl⟩
  have hcU : ∀ j, j < P.length - 1 → U.cell? ⟨g, j * 3, none⟩ = some (.string ((P.eraseIdx i).getD j al0).1) ∧ U.cell? ⟨g, j * 3 + 1, none⟩ = some (.int .i64 ((P.eraseIdx i).getD j al0).2.1) ∧ U.cell? ⟨g, j * 3 + 2, none⟩ = some (.int .i64 ((P.eraseIdx i).getD j al0).2.2) := by
    intro j hj
    rw [getD_erase, hU, Nat.zero_add]
    by_cases hji : j < i
    · rw [if_pos hji]
      have out : ∀ m, m < i * 3 → (w.drew.setCells g (i * 3) NW).cell? ⟨g, m, none⟩ = w.cell? ⟨g, m, none⟩ := fun m hm => World.cell?_setCells_out g NW (i * 3) w.drew ⟨g, m, none⟩ (fun _ _ => .inl hm)
      rw [out _ (by omega), out _ (by omega), out _ (by omega)]
      exact CQ j (by omega)
    · rw [if_neg hji]
      have inn : ∀ m (hm : m < NW.length), (w.drew.setCells g (i * 3) NW).cell? ⟨g, i * 3 + m, none⟩ = some NW[m] := fun m hm => World.cell?_setCells_in g NW (i * 3) w.drew (fun q hq => by have := (s3.out q hq).1; rwa [Nat.zero_add] at this) m hm
      have hl := s1.out
      obtain ⟨n0, n1, n2⟩ := hng (j - i) (by omega)
      rw [show i + 1 + (j - i) = j + 1 by omega] at n0 n1 n2
      have g0 : ∀ m v, NW[m]? = some v → (w.drew.setCells g (i * 3) NW).cell? ⟨g, i * 3 + m, none⟩ = some v := fun m v hv => by
        obtain ⟨hm, hv'⟩ := List.getElem?_eq_some_iff.1 hv
        rw [inn m hm, hv']
      refine ⟨?_, ?_, ?_⟩
      · have := g0 _ _ n0
        rwa [show i * 3 + (j - i) * 3 = j * 3 by omega] at this
      · have := g0 _ _ n1
        rwa [show i * 3 + ((j - i) * 3 + 1) = j * 3 + 1 by omega] at this
      · have := g0 _ _ n2
        rwa [show i * 3 + ((j - i) * 3 + 2) = j * 3 + 2 by omega] at this
  have hsU : ∀ j, j < P.length * 3 → (U.cell? ⟨g, j, none⟩).isSome = true ∧ U.frozen? ⟨g, j, none⟩ = false := by
    intro j hj
    rw [hU, World.frozen?_setCells]
    refine ⟨?_, (hs3 j hj).2⟩
    by_cases hin : 0 + i * 3 ≤ j ∧ j < 0 + i * 3 + NW.length
    · have := World.cell?_setCells_in g NW (0 + i * 3) w.drew (fun q hq => (s3.out q hq).1) (j - (0 + i * 3)) (by omega)
      rw [show 0 + i * 3 + (j - (0 + i * 3)) = j by omega] at this
      rw [this]; rfl
    · rw [World.cell?_setCells_out g NW (0 + i * 3) w.drew ⟨g, j, none⟩ (fun _ _ => by show j < 0 + i * 3 ∨ 0 + i * 3 + NW.length ≤ j; omega)]
      exact (hs3 j hj).1
  have hbU : Below base w U := by rw [hU]; exact Go.below_setCells (by omega) _ _ _ (Below.refl _ _).drew
  have hv : ∀ w, (zeroValue 47).run Tryd.prog w = .ok (.agg #[.string ⟨#[]⟩, .int .i64 0, .int .i64 0]) w := fun w => by simp [zeroValue, typeInfo, hi0, hz0]
  have hcl : ∀ ty, (Builtin.clear_ #[22] ty #[.slice (some ⟨g, (i + (P.length - (i + 1))) * 3, none⟩) (P.length - (i + (P.length - (i + 1)))) (cap - (i + (P.length - (i + 1))))]).run Tryd.prog U = .ok (.tuple #[]) (U.setCells g ((i + (P.length - (i + 1))) * 3) [.string ⟨#[]⟩, .int .i64 0, .int .i64 0]) := fun ty => by
    rw [show P.length - (i + (P.length - (i + 1))) = 1 by omega]
    exact run_clear_one U _ _ ty _ Tryd.underlying22 hv g _ _ _ rfl (by intro v hv; simp at hv; rcases hv with rfl | rfl <;> rfl) (fun j hj => (hsU _ (by simp at hj; omega)).1) (fun j hj => (hsU _ (by simp at hj; omega)).2)
  have HCU := Lib.hid hcU
  have HBU := Lib.hid hbU
  have HW : Hid (U = w.drew.setCells g (0 + i * 3) NW) := Lib.hid hU
  have hic : i ≤ cap := by omega
  have hjc : i + 1 ≤ cap := by omega
  have hwr : IntKind.i64.wrap ((i : Int) + 1) = (i : Int) + 1 := IntWalk.i64_in _ (by omega)
  have hp0 : (0 : Int) ≤ (i : Int) + 1 := by omega
  have hp1 : (i : Int) + 1 ≤ (P.length : Int) := by omega
  have hp2 : ((i : Int) + 1).toNat = i + 1 := by omega
  have hpne : ((i : Int) == (i : Int) + 1) = false := by simp; omega
  clear hNW hnl hng hcell hO CQ hs3 hsU hcU hbU hU hv
  go_enter Tryd.func46, Tryd.ntmps46
  go_wp2_with fail
  go_region_law (refine step_append_room rfl (.tmp 22) (.tmp 25) 22 rfl 47 i0 3 Tryd.underlying22 hi0 hz1 g 0 i cap (by simp [Act.eval, Act.put]) A (P.length - (i + 1)) (cap - (i + 1)) NW (by simp [Act.eval, Act.put]) s1.out hnews.out s2.out (by omega) s3.out ?_; rw [← HW.out])
  (try simp only [Exit.inBlock, Exit.then])
  go_wp2
  go_ret
  rw [show P.length - 1 = i + (P.length - (i + 1)) by omega]
  refine ⟨rfl, .inr ⟨g, 0, rfl, fun j hj => ?_⟩, Go.below_setCells (by omega) _ _ _ HBU.out⟩
  have key : ∀ m, m < (i + (P.length - (i + 1))) * 3 → (U.setCells g ((i + (P.length - (i + 1))) * 3) [.string ⟨#[]⟩, .int .i64 0, .int .i64 0]).cell? ⟨g, m, none⟩ = U.cell? ⟨g, m, none⟩ := fun m hm => World.cell?_setCells_out g _ _ U ⟨g, m, none⟩ (fun _ _ => .inl hm)
  rw [Nat.zero_add, key _ (by omega), key _ (by omega), key _ (by omega)]
  exact HCU.out j (by omega)
end Go.Proofs.YtjceahbikdncmaaDoor

namespace Go.Proofs.YtjceahbikdncmaaDoor
open Go.RowKit Go.Sort Go.Joins Go.Shelf
attribute [local go_sem] cell_grow frozen_grow size_grow Oper.semAt_some
/-- the boxes of Cancel -/
structure CB (w : World) (a : Option Addr) (n c : Nat) (W : World) : Prop where
  k : Below w.heap.size w W
  p : BoxA W w.heap.size a n c
  o : BoxA W (w.heap.size + 1) none 0 0
section
variable {w W : World} {a : Option Addr} {n c : Nat}
theorem CB.below {W' : World} (h : CB w a n c W) (hb : Below W.heap.size W W') : CB w a n c W' :=
  ⟨below_tr h.k hb, (hb.block _ (blk_lt h.p)).trans h.p, (hb.block _ (blk_lt h.o)).trans h.o⟩
theorem CB.cp (h : CB w a n c W) : W.cell? ⟨w.heap.size, 0, none⟩ = some (.slice a n c) := by rw [cell_of_block h.p]; rfl
theorem CB.co (h : CB w a n c W) : W.cell? ⟨w.heap.size + 1, 0, none⟩ = some (.slice none 0 0) := by rw [cell_of_block h.o]; rfl
theorem CB.fo (h : CB w a n c W) (q : Nat) : W.frozen? ⟨w.heap.size + 1, q, none⟩ = false := unfrozen_of_block h.o q
theorem CB.lp (h : CB w a n c W) : w.heap.size < W.heap.size := blk_lt h.p
theorem CB.lo (h : CB w a n c W) : w.heap.size + 1 < W.heap.size := blk_lt h.o
theorem CB.new : CB w a n c ((w.alloc (.cells #[.slice a n c] 24)).alloc (.cells #[.slice none 0 0] 24)) := by
  refine ⟨((Below.refl _ w).alloc (Nat.le_refl _) _).alloc (by simp) _, (Below.heap_alloc _ _ _ (by simp)).trans (heap_alloc_new w _), ?_⟩
  have := heap_alloc_new (w.alloc (.cells #[.slice a n c] 24)) (.cells #[.slice none 0 0] 24)
  rwa [World.size_alloc] at this
end
theorem CanPost.bad {w w' : World} {n : Nat} {R : Nat → Al} {s : ByteArray} {E : Int} (hE : canE n R s = E) (hr : canR n R s = []) (hb : Below w.heap.size w w') : CanPost w n R s (.returned (.tuple #[pV none 0 0, .int .i64 E])) w' :=
  ⟨none, 0, [], by rw [hE]; rfl, Lib.hid hr.symm, .inl rfl, hb⟩
section
variable {w : World} {a : Option Addr} {n c : Nat} {R : Nat → Al}
set_option maxRecDepth 100000 in
set_option maxHeartbeats 3200000 in
theorem cancel_bad (hS : SlA w a n R) (hn : n ≤ 9223372036854775807) (hR : ∀ j, j < n → AlB (R j)) (s : ByteArray) (hE : cE n R ≠ 0) :
    Calls Tryd.prog 29 #[pV a n c, .string s] w (CanPost w n R s) := by
  have HC := Lib.hid (check_ok (c := c) (hS.below (CB.new (w := w) (a := a) (n := n) (c := c)).k) hn hR)
  have HB := Lib.hid (CB.new (w := w) (a := a) (n := n) (c := c))
  obtain ⟨hE1, hR1⟩ := canE_bad (s := s) hE
  have HR1 := Lib.hid hR1
  obtain ⟨p, hp⟩ : ∃ p, cE n R = p := ⟨_, rfl⟩
  rw [hp] at HC hE hE1
  have HE1 := Lib.hid hE1
  have d0 := bne0_true hE
  clear hS hR hE hE1 hR1 hp
  go_enter Tryd.func29, Tryd.ntmps29
  go_wp2_with fail
  refine HC.out.mono ?_
  rintro e w1 ⟨rfl, b1⟩
  have HB1 := Lib.hid (HB.out.below b1)
  have k5 := HB1.out.co
  have f5 := HB1.out.fo
  have l5 := HB1.out.lo
  clear b1
  go_wp2
  exact bodyPost_ret (v := .tuple #[pV none 0 0, .int .i64 p]) (by simp [results, Tryd.results29, go_sem, k5, f5]) rfl (CanPost.bad HE1.out HR1.out (HB1.out.k.setCell (p := ⟨w.heap.size + 1, 0, none⟩) (by dsimp only; omega) _))
set_option maxRecDepth 100000 in
set_option maxHeartbeats 3200000 in
theorem cancel_none (hS : SlA w a n R) (hn : n ≤ 9223372036854775807) (hR : ∀ j, j < n → AlB (R j)) (s : ByteArray) (hE : cE n R = 0) (hf : ¬ (lowI n R s < n ∧ (R (lowI n R s)).1 = s)) :
    Calls Tryd.prog 29 #[pV a n c, .string s] w (CanPost w n R s) := by
  have HC := Lib.hid (check_ok (c := c) (hS.below (CB.new (w := w) (a := a) (n := n) (c := c)).k) hn hR)
  have HB := Lib.hid (CB.new (w := w) (a := a) (n := n) (c := c))
  have HS := Lib.hid hS
  have hP := cE_zero hE
  have HP := Lib.hid hP
  obtain ⟨hE1, hR1⟩ := canE_none hP hE hf
  have HR1 := Lib.hid hR1
  have HE1 := Lib.hid hE1
  rw [hE] at HC
  have hq : (decide (lowI n R s < n) && decide ((R (lowI n R s)).1 = s)) = false := by
    by_cases h1 : lowI n R s < n
    · rw [decide_eq_false (fun h2 => hf ⟨h1, h2⟩), Bool.and_false]
    · rw [decide_eq_false h1, Bool.false_and]
  have HQ := Lib.hid hq
  clear hS hR hE hE1 hR1 hP hf hq
  go_enter Tryd.func29, Tryd.ntmps29
  go_wp2_with fail
  refine HC.out.mono ?_
  rintro e w1 ⟨rfl, b1⟩
  have HB1 := Lib.hid (HB.out.below b1)
  have HF := Lib.hid (find_ok (c := c) (HS.out.below HB1.out.k) HP.out s)
  rw [HQ.out] at HF
  have k0 := HB1.out.cp
  clear b1
  go_wp2_with fail
  refine HF.out.mono ?_
  clear k0
  rintro e w2 ⟨rfl, b2⟩
  have HB2 := Lib.hid (HB1.out.below b2)
  have k5 := HB2.out.co
  have f5 := HB2.out.fo
  have l5 := HB2.out.lo
  clear b2
  go_wp2
  exact bodyPost_ret (v := .tuple #[pV none 0 0, .int .i64 4]) (by simp [results, Tryd.results29, go_sem, k5, f5]) rfl (CanPost.bad HE1.out HR1.out (HB2.out.k.setCell (p := ⟨w.heap.size + 1, 0, none⟩) (by dsimp only; omega) _))
set_option maxRecDepth 100000 in
set_option maxHeartbeats 3200000 in
theorem cancel_in (hS : SlA w a n R) (hn : n ≤ 9223372036854775807) (hR : ∀ j, j < n → AlB (R j)) (s : ByteArray) (hE : cE n R = 0) (hf : lowI n R s < n) (hs : (R (lowI n R s)).1 = s) :
    Calls Tryd.prog 29 #[pV a n c, .string s] w (CanPost w n R s) := by
  have HC := Lib.hid (check_ok (c := c) (hS.below (CB.new (w := w) (a := a) (n := n) (c := c)).k) hn hR)
  have HB := Lib.hid (CB.new (w := w) (a := a) (n := n) (c := c))
  have HS := Lib.hid hS
  have hP := cE_zero hE
  have HP := Lib.hid hP
  have hn50 := hP.n50
  obtain ⟨hE1, hR1⟩ := canE_found hP hE hf hs
  have HR1 := Lib.hid hR1
  have HE1 := Lib.hid hE1
  rw [hE] at HC
  have hq : (decide (lowI n R s < n) && decide ((R (lowI n R s)).1 = s)) = true := by rw [decide_eq_true hf, decide_eq_true hs]; rfl
  have HQ := Lib.hid hq
  obtain ⟨i, hi⟩ : ∃ i, lowI n R s = i := ⟨_, rfl⟩
  have HI := Lib.hid hi
  rw [hi] at hf HR1
  have hwr : IntKind.i64.wrap ((i : Int) + 1) = (i : Int) + 1 := IntWalk.i64_in _ (by omega)
  clear hS hR hE hE1 hR1 hP hs hq hi
  go_enter Tryd.func29, Tryd.ntmps29
  go_wp2_with fail
  refine HC.out.mono ?_
  rintro e w1 ⟨rfl, b1⟩
  have HB1 := Lib.hid (HB.out.below b1)
  have HF := Lib.hid (find_ok (c := c) (HS.out.below HB1.out.k) HP.out s)
  rw [HQ.out, HI.out] at HF
  have k0 := HB1.out.cp
  clear b1
  go_wp2_with fail
  refine HF.out.mono ?_
  clear k0
  rintro e w2 ⟨rfl, b2⟩
  have HB2 := Lib.hid (HB1.out.below b2)
  have HCl := Lib.hid (cloneA_ok (c := c) (L := plL n R) (HS.out.below HB2.out.k).plan (by rw [plL_len]; omega))
  rw [plL_len] at HCl
  have k0 := HB2.out.cp
  have l0 := HB2.out.lp
  clear b2
  go_wp2_with fail
  refine HCl.out.mono ?_
  clear k0 l0 HCl
  rintro e w3 ⟨v, rfl, ho, b3⟩
  have HB3 := Lib.hid (HB2.out.below b3)
  have hs2 := b3.size
  have hw2 := HB2.out.k.size
  obtain ⟨g, cap, rfl⟩ := ownsRow_form ho (by omega)
  have HD := Lib.hid (delA_ok (P := plL n R) (i := i) (by rw [plL_len]; exact ho) hs2 (by rw [plL_len]; omega) (by rw [plL_len]; exact hf))
  rw [plL_len] at HD
  have hg := (ho.lt g rfl).1
  have HB23 := Lib.hid b3
  clear b3 ho
  go_wp2_with fail
  refine HD.out.mono ?_
  clear HD
  rintro e w4 ⟨rfl, hd, b4⟩
  have HD4 := Lib.hid hd
  have b24 : Below w2.heap.size w2 w4 := HB23.out.trans b4
  have HB4 := Lib.hid (HB2.out.below b24)
  have k5 := HB4.out.co
  have f5 := HB4.out.fo
  have l5 := HB4.out.lo
  clear b4 hd
  go_wp2
  refine bodyPost_ret (v := .tuple #[pV (some ⟨g, 0, none⟩) (n - 1) cap, .int .i64 0]) (by simp [results, Tryd.results29, go_sem, k5, f5]) rfl ⟨some ⟨g, 0, none⟩, cap, (plL n R).eraseIdx i, ?_, Lib.hid HR1.out.symm, ?_, HB4.out.k.setCell (p := ⟨w.heap.size + 1, 0, none⟩) (by dsimp only; omega) _⟩
  · rw [HE1.out, List.length_eraseIdx_of_lt (by rw [plL_len]; exact hf), plL_len]
  · rw [List.length_eraseIdx_of_lt (by rw [plL_len]; exact hf), plL_len]
    exact HD4.out.set_boxA HB4.out.o _
theorem cancel_ok (hS : SlA w a n R) (hn : n ≤ 9223372036854775807) (hR : ∀ j, j < n → AlB (R j)) (s : ByteArray) :
    Calls Tryd.prog 29 #[pV a n c, .string s] w (CanPost w n R s) := by
  by_cases hE : cE n R = 0
  · by_cases hf : lowI n R s < n ∧ (R (lowI n R s)).1 = s
    · exact cancel_in hS hn hR s hE hf.1 hf.2
    · exact cancel_none hS hn hR s hE hf
  · exact cancel_bad hS hn hR s hE
end
end Go.Proofs.YtjceahbikdncmaaDoor
