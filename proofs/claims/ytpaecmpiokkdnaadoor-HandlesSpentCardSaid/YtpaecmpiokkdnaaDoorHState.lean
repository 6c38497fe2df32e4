/- Handles: a state in memory; what Check answers; Check of the reference. -/
import Derived.Test.YtpaecmpiokkdnaaDoorHPlainC
namespace Go.Proofs.YtpaecmpiokkdnaaDoor
open Go.RowKit Go.Sort Go.Joins
attribute [local go_sem] cell_grow frozen_grow size_grow

/-- a slice whose cells are known -/
def SlF (w : World) (a : Option Addr) (n : Nat) (f : Nat → Value) : Prop := n = 0 ∨ ∃ b o, a = some ⟨b, o, none⟩ ∧ ∀ j, j < n → w.cell? ⟨b, o + j, none⟩ = some (f j)
abbrev zI (G : Nat → Int) : Nat → Value := fun j => .int .i64 (G j)
abbrev zB (A : Nat → Bool) : Nat → Value := fun j => .bool (A j)
theorem SlF.below {w w' : World} {a : Option Addr} {n : Nat} {f : Nat → Value} (h : SlF w a n f) (hb : Below w.heap.size w w') : SlF w' a n f := by
  rcases h with h | ⟨b, o, ha, hc⟩
  · exact .inl h
  · exact .inr ⟨b, o, ha, fun j hj => (hb.cell (p := ⟨b, o + j, none⟩) (World.block_lt_of_cell? _ _ (hc j hj))).trans (hc j hj)⟩
theorem SlF.alloc {w : World} {a : Option Addr} {n : Nat} {f : Nat → Value} (h : SlF w a n f) (o : Obj) : SlF (w.alloc o) a n f := h.below (below_box0 w o)
theorem SlF.at_ {w : World} {a : Option Addr} {n : Nat} {f : Nat → Value} (h : SlF w a n f) {j : Nat} (hj : j < n) : ∃ b o, a = some ⟨b, o, none⟩ ∧ w.cell? ⟨b, o + j, none⟩ = some (f j) := by
  obtain ⟨b, o, ha, hc⟩ := h.resolve_left (by omega)
  exact ⟨b, o, ha, hc j hj⟩

theorem SlF.of_own {w : World} {base n : Nat} {e : TypeId} {a : Option Addr} {cap : Nat} {xs : List Value} {f : Nat → Value} (h : w.ownsRow base e 1 (.slice a n cap) n xs) (hf : ∀ j, j < n → xs[j]? = some (f j)) : SlF w a n f := by
  rcases Nat.eq_zero_or_pos n with h0 | hp
  · exact .inl h0
  · obtain ⟨g, cap', he⟩ := ownsRow_form h hp
    simp only [Value.slice.injEq] at he
    obtain ⟨rfl, _, rfl⟩ := he
    refine .inr ⟨g, 0, rfl, fun j hj => ?_⟩
    have hl := h.1
    have := hf j hj
    rw [Nat.zero_add, h.cellAt j (by omega), this]
theorem SlF.congr {w : World} {a : Option Addr} {n : Nat} {f g : Nat → Value} (h : SlF w a n f) (hf : ∀ j, j < n → f j = g j) : SlF w a n g := by
  rcases h with h | ⟨b, o, ha, hc⟩
  · exact .inl h
  · exact .inr ⟨b, o, ha, fun j hj => by rw [hc j hj, hf j hj]⟩
/-- the parts of a list of slots -/
def gF (st : List Slt) : Nat → Int := fun j => ((st.getD j (0, false, undef)).1 : Int)
def aF (st : List Slt) : Nat → Bool := fun j => (st.getD j (0, false, undef)).2.1
def vF (st : List Slt) : Nat → Value := fun j => (st.getD j (0, false, undef)).2.2
/-- three slices that read as a list of slots -/
structure RA (w : World) (st : List Slt) (ga aa va : Option Addr) : Prop where
  g : SlF w ga st.length (zI (gF st))
  a : SlF w aa st.length (zB (aF st))
  v : SlF w va st.length (vF st)
theorem RA.below {w w' : World} {st : List Slt} {ga aa va : Option Addr} (h : RA w st ga aa va) (hb : Below w.heap.size w w') : RA w' st ga aa va := ⟨h.g.below hb, h.a.below hb, h.v.below hb⟩
/-- a state that reads as a list of slots -/
def RS (w : World) (x : Value) (st : List Slt) : Prop := ∃ ga gc aa ac va vc, x = .agg #[.slice ga st.length gc, .slice aa st.length ac, .slice va st.length vc] ∧ RA w st ga aa va
theorem RS.below {w w' : World} {x : Value} {st : List Slt} (h : RS w x st) (hb : Below w.heap.size w w') : RS w' x st := by
  obtain ⟨ga, gc, aa, ac, va, vc, e, h⟩ := h
  exact ⟨ga, gc, aa, ac, va, vc, e, h.below hb⟩

/-- is slot i badly formed? -/
def badS (G : Nat → Int) (A : Nat → Bool) (i : Nat) : Bool := decide (G i < 0) || decide (65535 < G i) || (decide (G i = 0) && A i)
def hcE (n na nv : Nat) (G : Nat → Int) (A : Nat → Bool) : Int := if n < 1 ∨ 1024 < n then 7 else if na ≠ n ∨ nv ≠ n then 6 else if nxt (badS G A) 0 n < n then 6 else 0
def hcI (n na nv : Nat) (G : Nat → Int) (A : Nat → Bool) : Int := if n < 1 ∨ 1024 < n then 0 else if na ≠ n ∨ nv ≠ n then 0 else if nxt (badS G A) 0 n < n then ((nxt (badS G A) 0 n : Nat) : Int) else 0
theorem hc_range {n na nv : Nat} {G : Nat → Int} {A : Nat → Bool} (h : n < 1 ∨ 1024 < n) : 0 = hcI n na nv G A ∧ 7 = hcE n na nv G A := by
  unfold hcI hcE; rw [if_pos h, if_pos h]; exact ⟨rfl, rfl⟩
theorem hc_form {n na nv : Nat} {G : Nat → Int} {A : Nat → Bool} (h : ¬ (n < 1 ∨ 1024 < n)) (h2 : na ≠ n ∨ nv ≠ n) : 0 = hcI n na nv G A ∧ 6 = hcE n na nv G A := by
  unfold hcI hcE; rw [if_neg h, if_neg h, if_pos h2, if_pos h2]; exact ⟨rfl, rfl⟩
theorem hc_bad {n i : Nat} {G : Nat → Int} {A : Nat → Bool} (h : ¬ (n < 1 ∨ 1024 < n)) (hi : i < n) (hb : badS G A i = true) (hp : ∀ j, j < i → badS G A j = false) : (i : Int) = hcI n n n G A ∧ 6 = hcE n n n G A := by
  have e : nxt (badS G A) 0 n = i := nxt_eq (Nat.zero_le _) (Nat.zero_le _) (by omega) (fun j _ hj => hp j hj) (fun _ => hb)
  unfold hcI hcE; rw [if_neg h, if_neg h, if_neg (by simp : ¬ (n ≠ n ∨ n ≠ n)), if_neg (by simp : ¬ (n ≠ n ∨ n ≠ n)), e, if_pos hi, if_pos hi]; exact ⟨rfl, rfl⟩
theorem hc_good {n : Nat} {G : Nat → Int} {A : Nat → Bool} (h : ¬ (n < 1 ∨ 1024 < n)) (hp : ∀ j, j < n → badS G A j = false) : 0 = hcI n n n G A ∧ 0 = hcE n n n G A := by
  have e : nxt (badS G A) 0 n = n := nxt_eq (Nat.zero_le _) (Nat.zero_le _) (Nat.le_refl _) (fun j _ hj => hp j hj) (fun h => by omega)
  unfold hcI hcE; rw [if_neg h, if_neg h, if_neg (by simp : ¬ (n ≠ n ∨ n ≠ n)), if_neg (by simp : ¬ (n ≠ n ∨ n ≠ n)), e, if_neg (Nat.lt_irrefl n), if_neg (Nat.lt_irrefl n)]; exact ⟨rfl, rfl⟩
theorem hcE_zero {n na nv : Nat} {G : Nat → Int} {A : Nat → Bool} (h : hcE n na nv G A = 0) : 1 ≤ n ∧ n ≤ 1024 ∧ na = n ∧ nv = n ∧ ∀ j, j < n → badS G A j = false := by
  unfold hcE at h
  by_cases h1 : n < 1 ∨ 1024 < n
  · rw [if_pos h1] at h; cases h
  · rw [if_neg h1] at h
    by_cases h2 : na ≠ n ∨ nv ≠ n
    · rw [if_pos h2] at h; cases h
    · rw [if_neg h2] at h
      by_cases h3 : nxt (badS G A) 0 n < n
      · rw [if_pos h3] at h; cases h
      · obtain ⟨_, s2, s3, _⟩ := nxt_spec (p := badS G A) (a := 0) (n := n) (Nat.zero_le _)
        exact ⟨by omega, by omega, by omega, by omega, fun j hj => s3 j (Nat.zero_le _) (by omega)⟩
theorem badS_ok {G : Nat → Int} {A : Nat → Bool} {i : Nat} (h : badS G A i = false) : 0 ≤ G i ∧ G i ≤ 65535 ∧ (A i = true → G i ≠ 0) := by
  unfold badS at h
  simp only [Bool.or_eq_false_iff, decide_eq_false_iff_not, Bool.and_eq_false_iff] at h
  refine ⟨by omega, by omega, fun ha e => ?_⟩
  rcases h.2 with h2 | h2
  · exact h2 e
  · rw [ha] at h2; cases h2

section
variable {n na nv : Nat} {ga aa va : Option Addr} {gc ac vc : Nat} {G : Nat → Int} {A : Nat → Bool}
set_option maxRecDepth 100000 in
set_option maxHeartbeats 3200000 in
theorem rcheck_ok (w : World) (hG : SlF w ga n (zI G)) (hA : SlF w aa na (zB A)) :
    Calls Tryd.prog 17 #[.agg #[.slice ga n gc, .slice aa na ac, .slice va nv vc]] w fun e w' => e = .returned (.tuple #[.int .i64 (hcI n na nv G A), .int .i64 (hcE n na nv G A)]) ∧ Below w.heap.size w w' := by
  have hb0 := below_box0 w (.cells #[.slice ga n gc, .slice aa na ac, .slice va nv vc] 35)
  have HB := Lib.hid hb0
  by_cases h1 : n < 1 ∨ 1024 < n
  · have R := Lib.hid (hc_range (na := na) (nv := nv) (G := G) (A := A) h1)
    clear hb0
    by_cases h2 : n < 1
    all_goals
      have h3 : ¬ n < 1 → 1024 < n := fun h => by omega
      first
        | (have d1 : decide ((n : Int) < 1) = true := by rw [decide_eq_true_eq]; omega
           clear h1 h2 h3)
        | (have d1 : decide ((n : Int) < 1) = false := by rw [decide_eq_false_iff_not]; omega
           have d2 : decide (1024 < n) = true := by rw [decide_eq_true_eq]; exact h3 h2
           have d3 : decide ((1024 : Int) < (n : Int)) = true := by rw [decide_eq_true_eq]; have := h3 h2; omega
           clear h1 h2 h3)
      go_enter Tryd.func17, Tryd.ntmps17
      go_wp2
      go_ret2
      exact ⟨ret_two R.out.1 R.out.2, HB.out⟩
  · have d1 : decide ((n : Int) < 1) = false := by rw [decide_eq_false_iff_not]; omega
    have d2 : decide (1024 < n) = false := by rw [decide_eq_false_iff_not]; omega
    have d3 : decide ((1024 : Int) < (n : Int)) = false := by rw [decide_eq_false_iff_not]; omega
    have hn : n ≤ 1024 := by omega
    by_cases h2 : na ≠ n ∨ nv ≠ n
    · have R := Lib.hid (hc_form (G := G) (A := A) h1 h2)
      clear hb0
      by_cases h3 : na = n
      all_goals
        have h4 : na = n → nv ≠ n := fun h => by omega
        first
          | (have d4 : ((na : Int) != (n : Int)) = false := by rw [bne_eq_false_iff_eq]; omega
             have d5 : ((nv : Int) != (n : Int)) = true := by rw [bne_iff_ne]; have := h4 h3; omega
             clear h1 h2 h3 h4)
          | (have d4 : ((na : Int) != (n : Int)) = true := by rw [bne_iff_ne]; omega
             clear h1 h2 h3 h4)
        go_enter Tryd.func17, Tryd.ntmps17
        go_wp2
        go_ret2
        exact ⟨ret_two R.out.1 R.out.2, HB.out⟩
    · obtain rfl : na = n := by omega
      obtain rfl : nv = na := by omega
      have HN := Lib.hid h1
      have HG := Lib.hid (hG.below hb0)
      have HA := Lib.hid (hA.below hb0)
      clear hb0 h1 h2 hG hA
      go_enter Tryd.func17, Tryd.ntmps17
      go_wp2
      go_loop [5] (fun x => ∃ i : Nat, i ≤ nv ∧ x = .int .i64 i ∧ Hid (∀ j, j < i → badS G A j = false)) (fun x => nv - (intOf x).toNat)
      case atStart => exact ⟨0, Nat.zero_le _, rfl, Lib.hid (fun j h => by omega)⟩
      case round =>
        obtain ⟨i, hi, rfl, HP⟩ := hrel
        by_cases hlt : i < nv
        · obtain ⟨gb, go, rfl, cg⟩ := HG.out.at_ hlt
          obtain ⟨ab, ao, rfl, ca⟩ := HA.out.at_ hlt
          have hli : (i : Int) < (nv : Int) := by omega
          have hl0 : (0 : Int) ≤ (i : Int) := by omega
          have hlb : decide (i < nv) = true := by simpa using hlt
          obtain ⟨g, hg⟩ : ∃ g, G i = g := ⟨_, rfl⟩
          obtain ⟨al, hal⟩ : ∃ al, A i = al := ⟨_, rfl⟩
          have HBad : Hid (badS G A i = (decide (g < 0) || decide (65535 < g) || (decide (g = 0) && al))) := Lib.hid (by unfold badS; rw [hg, hal])
          dsimp only [zI, zB] at cg ca
          rw [hg] at cg
          rw [hal] at ca
          clear hg hal
          by_cases g1 : g < 0
          · have d4 : decide (g < 0) = true := by simpa using g1
            have R := Lib.hid (hc_bad HN.out hlt (by rw [HBad.out, d4]; rfl) HP.out)
            clear g1
            go_wp2
            go_ret2
            exact ⟨ret_two R.out.1 R.out.2, HB.out⟩
          · have d4 : decide (g < 0) = false := by simpa using g1
            by_cases g2 : 65535 < g
            · have d5 : decide (65535 < g) = true := by simpa using g2
              have R := Lib.hid (hc_bad HN.out hlt (by rw [HBad.out, d4, d5]; rfl) HP.out)
              clear g1 g2
              go_wp2
              go_ret2
              exact ⟨ret_two R.out.1 R.out.2, HB.out⟩
            · have d5 : decide (65535 < g) = false := by simpa using g2
              cases al with
              | true =>
                by_cases g3 : g = 0
                · have d6 : (g == 0) = true := by simpa using g3
                  have R := Lib.hid (hc_bad HN.out hlt (by rw [HBad.out, d4, d5, decide_eq_true g3]; rfl) HP.out)
                  clear g1 g2 g3
                  go_wp2
                  go_ret2
                  exact ⟨ret_two R.out.1 R.out.2, HB.out⟩
                · have d6 : (g == 0) = false := by simpa using g3
                  have R := Lib.hid (show badS G A i = false by rw [HBad.out, d4, d5, decide_eq_false g3]; rfl)
                  clear g1 g2 g3
                  go_wp2
                  go_round
                  case rel => exact ⟨i + 1, by omega, by go_num, Lib.hid (fun j h => by
                    by_cases hj : j = i
                    · rw [hj]; exact R.out
                    · exact HP.out j (by omega))⟩
                  case measure => simp [intOf]; omega
              | false =>
                have R := Lib.hid (show badS G A i = false by rw [HBad.out, d4, d5]; simp)
                clear g1 g2
                go_wp2
                go_round
                case rel => exact ⟨i + 1, by omega, by go_num, Lib.hid (fun j h => by
                  by_cases hj : j = i
                  · rw [hj]; exact R.out
                  · exact HP.out j (by omega))⟩
                case measure => simp [intOf]; omega
        · have hlb : decide (i < nv) = false := by simpa using hlt
          have R := Lib.hid (hc_good HN.out (fun j h => HP.out j (by omega)))
          go_wp2
          go_ret2
          exact ⟨ret_two R.out.1 R.out.2, HB.out⟩
end
end Go.Proofs.YtpaecmpiokkdnaaDoor
