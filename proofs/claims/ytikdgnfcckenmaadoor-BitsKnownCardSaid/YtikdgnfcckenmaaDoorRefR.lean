/- The reference for bits: runs, Runs, SameRuns. -/
import Derived.Test.YtikdgnfcckenmaaDoorBitsCo
import Derived.Test.YtikdgnfcckenmaaDoorPlainW
namespace Go.Proofs.YtikdgnfcckenmaaDoor
open Go.RowKit Go.Sort Go.Joins
attribute [local go_sem] cell_grow frozen_grow size_grow

theorem ext_cat {p : Nat → Bool} {n : Nat} {P : List (Nat × Nat)} {r : Nat × Nat} (h : p n = true) : ext p (P ++ [r]) n = if r.2 = n then P ++ [(r.1, n + 1)] else P ++ [r] ++ [(n, n + 1)] := by
  unfold ext
  rw [if_pos h, List.getLast?_append]
  simp
theorem rcells_upd (P : List (Nat × Nat)) (r : Nat × Nat) (k : Nat) : (rcells (P ++ [r])).set (P.length * 2 + 1) (.int .i64 (k : Nat)) = rcells (P ++ [(r.1, k)]) := by
  rw [rcells_snoc, rcells_snoc]
  rw [List.set_append_right (s := rcells P) _ _ (by rw [rcells_length]; omega), rcells_length, show P.length * 2 + 1 - 2 * P.length = 1 by omega]
  rfl
theorem rr_last {w : World} {base g cap m : Nat} {e : TypeId} {P : List (Nat × Nat)} {r : Nat × Nat} (h : w.ownsRow base e 2 (.slice (some ⟨g, 0, none⟩) m cap) (P.length + 1) (rcells (P ++ [r]))) :
    w.cell? ⟨g, P.length * 2, none⟩ = some (.int .i64 (r.1 : Nat)) ∧ w.cell? ⟨g, P.length * 2 + 1, none⟩ = some (.int .i64 (r.2 : Nat)) := by
  obtain rfl := own_len h
  have c1 := h.cellAt (P.length * 2) (by omega)
  have c2 := h.cellAt (P.length * 2 + 1) (by omega)
  obtain ⟨e1, e2⟩ := rcells_get (P ++ [r]) P.length (by simp)
  rw [e1] at c1
  rw [e2] at c2
  simpa using And.intro c1 c2

theorem news_run (W : World) (x y : Int) : (∀ j u, ([.int .i64 x, .int .i64 y] : List Value)[j]? = some u → (W.alloc (.cells #[.int .i64 x, .int .i64 y] 43)).cell? ((⟨W.heap.size, 0, none⟩ : Addr).add j) = some u) ∧
    ∀ u ∈ ([.int .i64 x, .int .i64 y] : List Value), u.oneCell' = true := by
  constructor
  · intro j u hu
    match j with
    | 0 => (simp at hu; subst hu; simp [go_sem])
    | 1 => (simp at hu; subst hu; simp [go_sem])
    | j + 2 => simp at hu
  · intro u hu
    simp at hu
    rcases hu with rfl | rfl <;> rfl
set_option maxRecDepth 100000 in
set_option maxHeartbeats 1600000 in
theorem rruns_ok (n : Nat) (p : Nat → Bool) (on : Bool) (a : Option Addr) (cap : Nat) (w : World) (hs : SlB w a n p) (hn : n ≤ 4096) :
    Calls Tryd.prog 53 #[.slice a n cap, .bool on] w fun e w' => ∃ v, e = .returned v ∧ w'.ownsRow w.heap.size 43 2 v (runsL (fun i => p i == on) n).length (rcells (runsL (fun i => p i == on) n)) ∧ Below w.heap.size w w' := by
  obtain ⟨i0, hi, hz0, hz1, hz2⟩ := info_parts info_run
  have HS := Lib.hid hs
  clear hs
  go_enter Tryd.func53, Tryd.ntmps53
  go_wp2
  go_loopw [5, 6] (fun v i wr => ∃ k : Nat, i = .int .i64 k ∧ k ≤ n ∧ Hid (wr.ownsRow w.heap.size 43 2 v (runsL (fun i => p i == on) k).length (rcells (runsL (fun i => p i == on) k))) ∧ Hid (Below w.heap.size w wr)) (fun _ i _ => n - (intOf i).toNat)
  case atStart => exact ⟨0, rfl, Nat.zero_le _, Lib.hid (by rw [runsL_zero]; exact World.ownsRow_nil _ _ _ _), Lib.hid (Below.refl _ _)⟩
  case round =>
    obtain ⟨k, rfl, hk, HO, HB⟩ := hrel
    have hsz := HB.out.size
    obtain ⟨va, vc, rfl⟩ := own_slice' HO.out
    by_cases hlt : k < n
    · obtain ⟨lb, lo, rfl, hlc⟩ := (HS.out.below HB.out).resolve_left (by omega)
      have hck := hlc k hlt
      have hlti : (k : Int) < (n : Int) := by omega
      have hk0 : (0 : Int) ≤ (k : Int) := by omega
      have hle := runsL_length (fun i => p i == on) k
      clear hlc
      by_cases hp : (p k == on) = true
      · have hst := runsL_succ (fun i => p i == on) k
        obtain ⟨L, hL⟩ : ∃ L, runsL (fun i => p i == on) k = L := ⟨_, rfl⟩
        rw [hL] at hst hle
        have HST := Lib.hid hst
        have HO1 : Hid (wr.ownsRow w.heap.size 43 2 (.slice va L.length vc) L.length (rcells L)) := Lib.hid (by have := HO.out; rw [hL] at this; exact this)
        rw [hL]
        have HLL := Lib.hid hL
        have HP : Hid ((fun i => p i == on) k = true) := Lib.hid hp
        clear hst hL HO
        rcases List.eq_nil_or_concat L with hE | ⟨P, r, hE⟩
        · subst hE
          have hg0 : decide (0 < (0 : Int)) = false := rfl
          rw [List.length_nil]
          have HN := Lib.hid (news_run wr (k : Int) ((k : Int) + 1))
          go_wp2_with (at_builtin; refine wpList_append_own _ rfl (.tmp 41) (.tmp 46) 37 rfl w.heap.size 43 i0 (.agg #[.int .i64 0, .int .i64 0]) 2 16 Tryd.underlying37 hi hz0 hz1 hz2 rfl (by decide) _ _ _ rfl (HO1.out.alloc _) ⟨wr.heap.size, 0, none⟩ 1 1 [.int .i64 (k : Int), .int .i64 ((k : Int) + 1)] rfl rfl HN.out.1 HN.out.2 (by unfold maxLen; simp) (by simp) (by simp; omega) ?_)
          intro v' w1 hown hg _
          have hB1 := Lib.hid ((HB.out.alloc hsz (.cells #[.int .i64 (k : Int), .int .i64 ((k : Int) + 1)] 43)).grown hg (by simp; omega) (by intro r hr; have := (HO1.out.lt r hr).1; omega))
          have HW := Lib.hid hown
          clear hown hg
          go_wp2
          go_roundw
          case rel =>
            refine ⟨k + 1, by go_num, by omega, Lib.hid ?_, hB1⟩
            rw [HST.out, ext_nil HP.out]
            simpa [rcells] using HW.out
          case measure => simp [intOf]; omega
        · have hE' : L = P ++ [r] := by simpa using hE
          clear hE
          subst hE'
          obtain ⟨m, hm⟩ : ∃ m, P.length = m := ⟨_, rfl⟩
          have hO := HO1.out
          obtain ⟨g, cap', hv⟩ := ownsRow_form hO (by simp)
          cases hv
          have hO' : wr.ownsRow w.heap.size 43 2 (.slice (some ⟨g, 0, none⟩) (P.length + 1) vc) (P.length + 1) (rcells (P ++ [r])) := by simpa using hO
          obtain ⟨c1, c2⟩ := rr_last hO'
          have hfz := hO'.frozenAt (P.length * 2 + 1)
          rw [show (P ++ [r]).length = P.length + 1 by simp]
          rw [hm] at c1 c2 hfz ⊢
          rw [hm] at hO'
          have HO2 := Lib.hid hO'
          have HM := Lib.hid hm
          have hm4 : m ≤ 100000 := by have := hle; simp at this; omega
          have hg0 : decide (0 < (m : Int) + 1) = true := by simp
          have hX : ((m + 1 : Nat) : Int) = (m : Int) + 1 := by simp
          have hm0 : (0 : Int) ≤ (m : Int) := by omega
          have hmm : (m : Int) < (m : Int) + 1 := by omega
          have hX2 : (m : Int) + 1 - 1 = (m : Int) := by omega
          clear hO hO' hm hle
          by_cases hr : r.2 = k
          · rw [hr] at c2
            have HR := Lib.hid hr
            clear hr
            go_wp2
            have ek : ((k : Int) + 1) = ((k + 1 : Nat) : Int) := by omega
            have hgl := (HO2.out.lt g rfl).1
            refine ⟨⟨k + 1, by go_num, by omega, Lib.hid ?_, Lib.hid (HB.out.setCell (p := ⟨g, m * 2 + 1, none⟩) hgl _)⟩, by simp [intOf]; omega⟩
            have hs := (HO2.out.stored (m * 2 + 1) (.int .i64 ((k + 1 : Nat) : Int))).1
            rw [← HM.out, rcells_upd] at hs
            rw [HST.out, ext_cat HP.out, if_pos HR.out, ek, ← HM.out]
            simpa using hs
          · have hrb : ((r.2 : Int) == (k : Int)) = false := by simp; omega
            have HR := Lib.hid hr
            have HO3 : Hid (wr.ownsRow w.heap.size 43 2 (.slice (some ⟨g, 0, none⟩) (m + 1) vc) (m + 1) (rcells (P ++ [r]))) := HO2
            clear hr
            have HN := Lib.hid (news_run wr (k : Int) ((k : Int) + 1))
            go_wp2_with (at_builtin; refine wpList_append_own _ rfl (.tmp 41) (.tmp 46) 37 rfl w.heap.size 43 i0 (.agg #[.int .i64 0, .int .i64 0]) 2 16 Tryd.underlying37 hi hz0 hz1 hz2 rfl (by decide) _ _ _ rfl (HO3.out.alloc _) ⟨wr.heap.size, 0, none⟩ 1 1 [.int .i64 (k : Int), .int .i64 ((k : Int) + 1)] rfl rfl HN.out.1 HN.out.2 (by unfold maxLen; omega) (by omega) (by simp; omega) ?_)
            intro v' w1 hown hg _
            obtain ⟨va, vc', rfl⟩ := own_slice' hown
            have hB1 := Lib.hid ((HB.out.alloc hsz (.cells #[.int .i64 (k : Int), .int .i64 ((k : Int) + 1)] 43)).grown hg (by simp; omega) (by intro r hr; have := (HO3.out.lt r hr).1; omega))
            have HW := Lib.hid hown
            clear hown hg hX hX2 hmm c1 c2 hrb hg0
            go_wp2
            go_roundw
            case rel =>
              refine ⟨k + 1, by go_num, by omega, Lib.hid ?_, hB1⟩
              have hw := HW.out
              rw [HST.out, ext_cat HP.out, if_neg HR.out, rcells_snoc (P ++ [r])]
              rw [← HM.out] at hw ⊢
              simpa using hw
            case measure => simp [intOf]; omega
      · have hp' : (p k == on) = false := by simpa using hp
        have HST : Hid (runsL (fun i => p i == on) (k + 1) = runsL (fun i => p i == on) k) := Lib.hid ((runsL_succ _ k).trans (ext_no hp'))
        clear hp
        go_wp2
        go_roundw
        case rel => exact ⟨k + 1, by go_num, by omega, by rw [HST.out]; exact HO, HB⟩
        case measure => simp [intOf]; omega
    · have hkn : k = n := by omega
      subst hkn
      go_wp2
      go_ret
      exact ⟨_, rfl, HO.out, HB.out⟩
end Go.Proofs.YtikdgnfcckenmaaDoor
