/- The radix map, plain: a state in which a level or a kid is another one is refused. | The radix map: one cell of a state that the call has made is stored; the state is read. | The frame of a statement of this seat: the table of math/bits as the row lists it. | An argument of type RmDesc, as a row hands it. | The arguments of types []Call and Call of chapter 07, as a row hands them. | The radix map: RadixEmpty returns true. | The radix map: RadixPages returns true. | The radix map: RadixBroken returns true. | The argument of type [3]uint16, as a row hands it. | RadixBroken returns true for every input, on every schedule; its arguments read afterwards as they read before. No condition beyond the row's own. -/
import Derived.Test.YtfmclbacoffdaaaDoorRSZ3
import Derived.Test.YtfmclbacoffdaaaDoorRSZ1
import Derived.Test.YtfmclbacoffdaaaDoorCards
import Derived.Test.YtfmclbacoffdaaaDoorTie
import Derived.Test.YtfmclbacoffdaaaDoorRZ2
import Derived.ProofKit
import Derived.OpenShut
import Derived.Deep.DeepHandedRow
import Derived.Lib.LaidTab
import Derived.Lib.SmallJoins
import Derived.Deep.Fields
import Derived.Test.YtfmclbacoffdaaaDoorRZ10
import Derived.Deep.Slices
import Derived.Test.YtfmclbacoffdaaaDoorRSZ2
import Derived.Test.YtfmclbacoffdaaaDoorRSZ4
import Derived.Test.YtfmclbacoffdaaaDoorRSZ5
import Derived.Deep.QuietTactic
import Derived.BigQuiet
namespace Go.Proofs.YtfmclbacoffdaaaDoor
/-- a node of a state changed -/
def setLv (S : List Rn) (i : Nat) (l : Int) : List Rn := S.set i { S.getD i rn0 with lv := l }
def setKd (S : List Rn) (i k : Nat) (v : Int) : List Rn := S.set i { S.getD i rn0 with ks := (S.getD i rn0).ks.set k v }
theorem setR_get {S : List Rn} {i j : Nat} {y : Rn} (hi : i < S.length) : (S.set i y).getD j rn0 = if j = i then y else S.getD j rn0 := by
  simp only [List.getD, List.getElem?_set]
  by_cases e : i = j
  · subst e; simp [hi]
  · rw [if_neg e, if_neg (fun h => e h.symm)]
theorem ckE_wrong {S : List Rn} {N j : Nat} (hl : S.length = N) (h1 : 1 ≤ N) (h2 : N ≤ 145) (hj : j < N) (h : wrI S j = true) : ckE (N : Int) S = 6 := by
  unfold ckE
  rw [if_neg (by omega), hl, if_neg (fun h => h rfl), if_pos]
  refine Classical.byContradiction fun hge => ?_
  have e : ckI S = nxt (wrI S) 0 S.length := rfl
  have := (nxt_spec (p := wrI S) (Nat.zero_le S.length)).2.2.1 j (Nat.zero_le _) (by omega)
  rw [h] at this
  exact absurd this (by decide)
theorem wrI_sz {S : List Rn} {j : Nat} (h : szBad (S.getD j rn0) j = true) : wrI S j = true := by
  unfold wrI wrN
  rw [h]; rfl
theorem wrI_kid {S : List Rn} {j : Nat} {k : Int} (hk : k ∈ (S.getD j rn0).ks) (h : badK S (S.getD j rn0) k = true) : wrI S j = true := by
  unfold wrI wrN
  rw [show (S.getD j rn0).ks.any (badK S (S.getD j rn0)) = true from List.any_eq_true.2 ⟨k, hk, h⟩]
  simp
theorem wrI_tms {S : List Rn} {j : Nat} (hp : 0 < (S.getD j rn0).lv) (h : tmS S S j ≠ 1) : wrI S j = true := by
  unfold wrI wrN
  have : (((tmS S S j : Nat) : Int) != 1) = true := by simp; omega
  rw [this, decide_eq_true hp]
  simp
section
variable {X : RM}
theorem broken_lv (h : RGood X) (hn : X.st.length ≤ 145) {i : Nat} (hi : i < X.st.length) {l : Int} (h1 : -1 ≤ l) (h2 : l ≤ 3) (hne : (X.N i).lv ≠ l) : ckE (X.st.length : Int) (setLv (stS X) i l) = 6 := by
  have hlen : (setLv (stS X) i l).length = X.st.length := by unfold setLv; rw [List.length_set, stS_len]
  refine ckE_wrong hlen h.a.i.n1 hn hi (wrI_sz ?_)
  have hg : (setLv (stS X) i l).getD i rn0 = ⟨l, (rnOf (X.N i)).ks, (rnOf (X.N i)).ws⟩ := by
    unfold setLv
    rw [setR_get (by rw [stS_len]; exact hi), if_pos rfl, stS_get X hi]
  rw [hg]
  have ok := rn_ok h hi
  have hlo := ok.lo
  have hhi := ok.hi
  have hz := ok.z
  have hk := ok.ks
  have hw := ok.ws
  have hlv : (rnOf (X.N i)).lv = (X.N i).lv := rfl
  rw [hlv] at hlo hhi hz hk hw
  unfold szBad
  show (decide (l < -1) || decide (2 < l) || ((l == 0) != ((i : Int) == 0)) || (((rnOf (X.N i)).ks.length : Int) != (kN l : Int)) || (((rnOf (X.N i)).ws.length : Int) != (wN l : Int))) = true
  rw [hk, hw]
  generalize (X.N i).lv = v at *
  have hv : v = -1 ∨ v = 0 ∨ v = 1 ∨ v = 2 := by omega
  have hl : l = -1 ∨ l = 0 ∨ l = 1 ∨ l = 2 ∨ l = 3 := by omega
  have hi0 : ((i : Int) == 0) = decide (v = 0) := by
    by_cases c : v = 0
    · have := hz.1 c; subst this; simp [c]
    · have d : i ≠ 0 := fun e => c (hz.2 e)
      simp [c, d]
  rw [hi0]
  rcases hv with rfl | rfl | rfl | rfl <;> rcases hl with rfl | rfl | rfl | rfl | rfl <;> first | rfl | exact absurd rfl hne
theorem lvA_kid {S : List Rn} {i k : Nat} {v : Int} (hi : i < S.length) (u : Int) : lvA (setKd S i k v) u = lvA S u := by
  unfold lvA setKd
  rw [setR_get hi]
  by_cases e : u.toNat = i
  · rw [if_pos e, e]
  · rw [if_neg e]
/-- how many times a number is a kid, when one kid is another one -/
theorem tmS_kid {S : List Rn} {i k : Nat} {v : Int} (hi : i < S.length) (hk : k < (S.getD i rn0).ks.length) (t : Nat) :
    tmS (setKd S i k v) (setKd S i k v) t + (if (isK S (S.getD i rn0) ((S.getD i rn0).ks.getD k 0) && ((S.getD i rn0).ks.getD k 0 == (t : Int))) = true then 1 else 0) = tmS S S t + (if (isK S (S.getD i rn0) v && (v == (t : Int))) = true then 1 else 0) := by
  have hlen : (setKd S i k v).length = S.length := by unfold setKd; rw [List.length_set]
  have hisK : ∀ (x : Rn) (u : Int), isK (setKd S i k v) x u = isK S x u := fun x u => by unfold isK; rw [lvA_kid hi, hlen]
  have hisR : ∀ (ks : List Int) (u : Int), isK S { S.getD i rn0 with ks := ks } u = isK S (S.getD i rn0) u := fun _ _ => rfl
  rw [tmS_sum, tmS_sum S, hlen]
  have hne : ∀ j, j < S.length → j ≠ i → tmK S (S.getD j rn0) (S.getD j rn0).ks t = tmK (setKd S i k v) ((setKd S i k v).getD j rn0) ((setKd S i k v).getD j rn0).ks t := fun j _ hne => by
    have : (setKd S i k v).getD j rn0 = S.getD j rn0 := by unfold setKd; rw [setR_get hi, if_neg hne]
    rw [this]
    unfold tmK
    exact congrArg (fun p => List.countP p (S.getD j rn0).ks) (funext fun u => by rw [hisK])
  have hat := sumN_at (k := i) S.length hi hne
  have hi2 : (setKd S i k v).getD i rn0 = { S.getD i rn0 with ks := (S.getD i rn0).ks.set k v } := by unfold setKd; rw [setR_get hi, if_pos rfl]
  have hset : tmK (setKd S i k v) ((setKd S i k v).getD i rn0) ((setKd S i k v).getD i rn0).ks t + (if (isK S (S.getD i rn0) ((S.getD i rn0).ks.getD k 0) && ((S.getD i rn0).ks.getD k 0 == (t : Int))) = true then 1 else 0) = tmK S (S.getD i rn0) (S.getD i rn0).ks t + (if (isK S (S.getD i rn0) v && (v == (t : Int))) = true then 1 else 0) := by
    rw [hi2]
    unfold tmK
    show ((S.getD i rn0).ks.set k v).countP (fun u => isK (setKd S i k v) { S.getD i rn0 with ks := (S.getD i rn0).ks.set k v } u && u == (t : Int)) + _ = _
    have e : (fun u => isK (setKd S i k v) { S.getD i rn0 with ks := (S.getD i rn0).ks.set k v } u && u == (t : Int)) = fun u => isK S (S.getD i rn0) u && u == (t : Int) := funext fun u => by rw [hisK, hisR]
    rw [e]
    have hL : (S.getD i rn0).ks.getD k 0 = (S.getD i rn0).ks[k] := by
      rw [List.getD_eq_getElem?_getD, List.getElem?_eq_getElem hk]; rfl
    rw [hL, List.countP_set hk]
    have hpos : (isK S (S.getD i rn0) (S.getD i rn0).ks[k] && (S.getD i rn0).ks[k] == (t : Int)) = true → 0 < (S.getD i rn0).ks.countP fun u => isK S (S.getD i rn0) u && u == (t : Int) := fun h => List.countP_pos_iff.2 ⟨_, List.getElem_mem hk, h⟩
    by_cases c : (isK S (S.getD i rn0) (S.getD i rn0).ks[k] && (S.getD i rn0).ks[k] == (t : Int)) = true
    · have := hpos c
      rw [if_pos c]
      omega
    · rw [if_neg c]
      omega
  omega
theorem isK_hit {S : List Rn} {x : Rn} {u t : Nat} (h0 : 0 ≤ x.lv) (h2 : x.lv ≤ 2) (hu : u < S.length) (hl : lvA S (u : Int) = x.lv + 1) (e : u = t) : (isK S x (u : Int) && ((u : Int) == (t : Int))) = true := by
  rw [isK_pure rfl (by omega) rfl (IntWalk.i64_in _ (by omega))]
  subst e
  exact decide_eq_true ⟨⟨h0, hl⟩, rfl⟩
theorem isK_miss {S : List Rn} {x : Rn} {u t : Int} (e : u ≠ t) : ¬ (isK S x u && (u == t)) = true := by
  have : (u == t) = false := by simpa using e
  rw [this, Bool.and_false]; decide
theorem broken_kd (h : RGood X) (hn : X.st.length ≤ 145) {i k v : Nat} (hi : i < X.st.length) (hk : k < (rnOf (X.N i)).ks.length) (hne : (X.N i).kd k ≠ v) : ckE (X.st.length : Int) (setKd (stS X) i k v) = 6 := by
  have hlen : (setKd (stS X) i k v).length = X.st.length := by unfold setKd; rw [List.length_set, stS_len]
  have hiS : i < (stS X).length := by rw [stS_len]; exact hi
  have hget : (stS X).getD i rn0 = rnOf (X.N i) := stS_get X hi
  have hg : (setKd (stS X) i k v).getD i rn0 = { rnOf (X.N i) with ks := (rnOf (X.N i)).ks.set k v } := by
    unfold setKd
    rw [setR_get hiS, if_pos rfl, hget]
  have hother : ∀ j, j ≠ i → (setKd (stS X) i k v).getD j rn0 = (stS X).getD j rn0 := fun j hj => by unfold setKd; rw [setR_get hiS, if_neg hj]
  have ok := rn_ok h hi
  have hkl := ok.ks
  have hlo := ok.lo
  have hhi := ok.hi
  have hlv : (rnOf (X.N i)).lv = (X.N i).lv := rfl
  rw [hlv] at hkl hlo hhi
  have hlv0 : 0 ≤ (X.N i).lv ∧ (X.N i).lv ≤ 1 := by
    rw [hkl] at hk
    unfold kN at hk
    by_cases c0 : (X.N i).lv = 0
    · omega
    · rw [if_neg c0] at hk
      by_cases c1 : (X.N i).lv = 1
      · omega
      · rw [if_neg c1] at hk; omega
  have hold : (rnOf (X.N i)).ks.getD k 0 = ((X.N i).kd k : Int) := by
    rw [hkl] at hk
    show ((List.range (kN (X.N i).lv)).map fun k => ((X.N i).kd k : Int)).getD k 0 = _
    rw [List.getD_eq_getElem?_getD, List.getElem?_map, List.getElem?_range hk]; rfl
  have hmem : (v : Int) ∈ ((setKd (stS X) i k v).getD i rn0).ks := by
    rw [hg]
    exact List.mem_iff_getElem.2 ⟨k, by simpa using hk, by simp⟩
  have hcount := fun t => tmS_kid (v := (v : Int)) hiS (by rw [hget]; exact hk) t
  simp only [hget, hold] at hcount
  have hl1 : lv1 ({ rnOf (X.N i) with ks := (rnOf (X.N i)).ks.set k v } : Rn) = (X.N i).lv + 1 := IntWalk.i64_in ((X.N i).lv + 1) (by omega)
  by_cases c1 : X.st.length ≤ v
  · refine ckE_wrong hlen h.a.i.n1 hn hi (wrI_kid hmem ?_)
    unfold badK
    rw [hlen, decide_eq_true (show (X.st.length : Int) ≤ (v : Int) by omega)]
    simp
  by_cases c0 : v = 0
  · -- the old kid is no kid any more
    subst c0
    obtain ⟨u, hu⟩ : ∃ u, (X.N i).kd k = u := ⟨_, rfl⟩
    have hm : ((u : Nat) : Int) ∈ (rnOf (X.N i)).ks := by
      rw [← hu, ← hold, List.getD_eq_getElem?_getD, List.getElem?_eq_getElem hk]
      exact List.getElem_mem hk
    obtain ⟨k1, k2, k3⟩ := ok.k _ hm
    rw [stS_len] at k2
    have hu0 : u ≠ 0 := by rw [← hu]; exact hne
    have hul := k3 (by omega)
    rw [hlv, stS_lvA X (by omega)] at hul
    have hcu := hcount u
    rw [hu, if_pos (isK_hit (show 0 ≤ (rnOf (X.N i)).lv from hlv0.1) (by rw [hlv]; omega) (by rw [stS_len]; omega) (by rw [stS_lvA X (by omega), hul, hlv]) rfl), if_neg (isK_miss (by omega)), tmS_st h (by omega) (by omega)] at hcu
    refine ckE_wrong hlen h.a.i.n1 hn (show u < X.st.length by omega) (wrI_tms ?_ (by omega))
    by_cases e : u = i
    · subst e; omega
    · rw [hother u e, stS_get X (by omega)]
      show 0 < (X.N u).lv
      omega
  · by_cases c2 : (X.N v).lv = (X.N i).lv + 1
    · -- it is a kid twice
      have hcv := hcount v
      rw [if_neg (isK_miss (by omega)), if_pos (isK_hit (show 0 ≤ (rnOf (X.N i)).lv from hlv0.1) (by rw [hlv]; omega) (by rw [stS_len]; omega) (by rw [stS_lvA X (by omega), c2, hlv]) rfl), tmS_st h (by omega) (by omega)] at hcv
      refine ckE_wrong hlen h.a.i.n1 hn (show v < X.st.length by omega) (wrI_tms ?_ (by omega))
      by_cases e : v = i
      · subst e; omega
      · rw [hother v e, stS_get X (by omega)]
        show 0 < (X.N v).lv
        omega
    · refine ckE_wrong hlen h.a.i.n1 hn hi (wrI_kid hmem ?_)
      rw [hg]
      unfold badK
      rw [hl1]
      have e : lvA (setKd (stS X) i k v) (v : Int) = (X.N v).lv := by rw [lvA_kid hiS, stS_lvA X (by omega)]
      rw [e]
      have d1 : decide ((0 : Int) < (v : Int)) = true := decide_eq_true (by omega)
      have d2 : ((X.N v).lv != (X.N i).lv + 1) = true := by simpa using c2
      rw [d1, d2]
      simp
end
end Go.Proofs.YtfmclbacoffdaaaDoor

namespace Go.Proofs.YtfmclbacoffdaaaDoor
open Go.RowKit Go.Sort Go.Joins
theorem own_setI {w : World} {base : Nat} {e : TypeId} {n : Nat} {xs : List Value} {g cap i : Nat} (h : w.ownsRow base e 1 (.slice (some ⟨g, 0, none⟩) n cap) n xs) (hi : i < n) (u : Value) :
    (w.setCell ⟨g, i, none⟩ u).ownsRow base e 1 (.slice (some ⟨g, 0, none⟩) n cap) n (xs.set i u) := by
  refine ⟨by rw [List.length_set]; exact h.1, ?_⟩
  rcases h.2 with ⟨h1, _⟩ | ⟨g', cap', cur, e1, e2, e3, e4, e5, e6, e7⟩
  · cases h1
  · simp only [Value.slice.injEq, Option.some.injEq, Addr.mk.injEq, and_true, true_and] at e1
    obtain ⟨rfl, rfl⟩ := e1
    refine .inr ⟨g, cap, cur.setIfInBounds i u, rfl, e2, setCell_block e3 u, e4, e5, by simpa using e6, ?_⟩
    rw [Array.toList_setIfInBounds, List.take_set, e7]
section
variable {w : World} {B g n c : Nat} {K L : Nat → Value} {S : List Rn}
theorem OSt.nodeCells (h : OSt w B (.slice (some ⟨g, 0, none⟩) n c) K L S) {j : Nat} (hj : j < S.length) :
    w.cell? ⟨g, j * 3, none⟩ = some (.int .i64 (S.getD j rn0).lv) ∧ (∃ a c, K j = .slice a (S.getD j rn0).ks.length c ∧ w.cell? ⟨g, j * 3 + 1, none⟩ = some (.slice a (S.getD j rn0).ks.length c)) ∧ (∃ a c, L j = .slice a (S.getD j rn0).ws.length c ∧ w.cell? ⟨g, j * 3 + 2, none⟩ = some (.slice a (S.getD j rn0).ws.length c)) := by
  have hn : n = S.length := by
    rcases h.row.2 with ⟨hv, _⟩ | ⟨g', cap, cur, hv, _⟩
    · cases hv
    · simp only [Value.slice.injEq] at hv; exact hv.2.1
  subst hn
  obtain ⟨c0, c1, c2⟩ := rnC_get K L S hj
  have hc := fun k (hk : k < S.length * 3) => h.row.cellAt k hk
  obtain ⟨ka, kc, hk⟩ := own_slice' (h.kid j hj)
  obtain ⟨la, lc, hl⟩ := own_slice' (h.wrd j hj)
  exact ⟨(hc _ (by omega)).trans c0, ⟨ka, kc, hk, (hc _ (by omega)).trans (by rw [c1, hk])⟩, ⟨la, lc, hl, (hc _ (by omega)).trans (by rw [c2, hl])⟩⟩
theorem OSt.blk (h : OSt w B (.slice (some ⟨g, 0, none⟩) n c) K L S) : g < w.heap.size ∧ B ≤ g := by
  have := h.row.lt g rfl
  exact ⟨this.2, this.1⟩
theorem OSt.fz (h : OSt w B (.slice (some ⟨g, 0, none⟩) n c) K L S) (j : Nat) : w.frozen? ⟨g, j, none⟩ = false := by
  rcases h.row.2 with ⟨hv, _⟩ | ⟨g', cap, cur, hv, _, hh, _⟩
  · cases hv
  · simp only [Value.slice.injEq, Option.some.injEq, Addr.mk.injEq] at hv
    obtain ⟨⟨rfl, _⟩, _⟩ := hv
    exact unfrozen_of_block hh j
theorem OSt.kne (h : OSt w B (.slice (some ⟨g, 0, none⟩) n c) K L S) {j : Nat} (hj : j < S.length) : (K j).ownBlock ≠ some g ∧ (L j).ownBlock ≠ some g := by
  constructor
  · rcases own_apartW (h.kid j hj) h.row u_ri with e | e
    · rw [e]; exact fun h => by cases h
    · exact e
  · rcases own_apartW (h.wrd j hj) h.row u_ru with e | e
    · rw [e]; exact fun h => by cases h
    · exact e
theorem setLv_get {i j : Nat} {l : Int} (hi : i < S.length) : (setLv S i l).getD j rn0 = if j = i then { S.getD i rn0 with lv := l } else S.getD j rn0 := setR_get hi
theorem setKd_get {i j k : Nat} {v : Int} (hi : i < S.length) : (setKd S i k v).getD j rn0 = if j = i then { S.getD i rn0 with ks := (S.getD i rn0).ks.set k v } else S.getD j rn0 := setR_get hi
theorem setLv_rest {i j : Nat} {l : Int} (hi : i < S.length) : ((setLv S i l).getD j rn0).ks = (S.getD j rn0).ks ∧ ((setLv S i l).getD j rn0).ws = (S.getD j rn0).ws := by
  rw [setLv_get hi]
  by_cases e : j = i
  · rw [if_pos e, e]; exact ⟨rfl, rfl⟩
  · rw [if_neg e]; exact ⟨rfl, rfl⟩
theorem setKd_rest {i j k : Nat} {v : Int} (hi : i < S.length) : ((setKd S i k v).getD j rn0).lv = (S.getD j rn0).lv ∧ ((setKd S i k v).getD j rn0).ws = (S.getD j rn0).ws ∧ ((setKd S i k v).getD j rn0).ks.length = (S.getD j rn0).ks.length := by
  rw [setKd_get hi]
  by_cases e : j = i
  · rw [if_pos e, e]; exact ⟨rfl, rfl, List.length_set⟩
  · rw [if_neg e]; exact ⟨rfl, rfl, rfl⟩
theorem cell_same {w : World} {a : Addr} {v u : Value} (h : w.cell? a = some u) : (w.setCell a v).cell? a = some v := by
  exact World.cell?_setCell_same' w a v (by rw [h]; rfl)
/-- a level is stored -/
theorem OSt.strLv (h : OSt w B (.slice (some ⟨g, 0, none⟩) n c) K L S) {i : Nat} (hi : i < S.length) (l : Int) : StR (w.setCell ⟨g, i * 3, none⟩ (.int .i64 l)) (some ⟨g, 0, none⟩) (setLv S i l) := by
  have hlen : (setLv S i l).length = S.length := by unfold setLv; rw [List.length_set]
  refine .inr ⟨g, 0, rfl, by simpa [World.setCell] using h.blk.1, fun j hj => ?_⟩
  rw [hlen] at hj
  obtain ⟨c0, ⟨ka, kc, e1, c1⟩, ⟨la, lc, e2, c2⟩⟩ := h.nodeCells hj
  obtain ⟨n1, n2⟩ := h.kne hj
  have o1 := ownsRow_setCell_other (h.kid j hj) (a := ⟨g, i * 3, none⟩) n1 (.int .i64 l)
  have o2 := ownsRow_setCell_other (h.wrd j hj) (a := ⟨g, i * 3, none⟩) n2 (.int .i64 l)
  rw [e1] at o1
  rw [e2] at o2
  obtain ⟨hks, hws⟩ := setLv_rest (j := j) (l := l) hi
  have hoff : ∀ d, 0 < d → d < 3 → ∀ u, w.cell? ⟨g, j * 3 + d, none⟩ = some u → (w.setCell ⟨g, i * 3, none⟩ (.int .i64 l)).cell? ⟨g, j * 3 + d, none⟩ = some u := fun d h0 h3 u hu => by
    rw [World.cell?_setCell_other _ _ _ _ (fun e => by have := congrArg Addr.off e; simp only at this; omega)]
    exact hu
  rw [Nat.zero_add]
  refine ⟨?_, ⟨ka, kc, by rw [hks]; exact hoff 1 (by decide) (by decide) _ c1, ?_⟩, ⟨la, lc, by rw [hws]; exact hoff 2 (by decide) (by decide) _ c2, ?_⟩⟩
  · rw [setLv_get hi]
    by_cases e : j = i
    · subst e
      rw [if_pos rfl]
      exact cell_same c0
    · rw [if_neg e, World.cell?_setCell_other _ _ _ _ (fun e2 => by have := congrArg Addr.off e2; simp only at this; omega)]
      exact c0
  · show SlN _ ka ((setLv S i l).getD j rn0).ks.length (fun q => .int .i64 (((setLv S i l).getD j rn0).ks.getD q 0))
    rw [hks]
    exact SlN.of_own o1 fun k hk => intsV_get _ hk
  · show SlN _ la ((setLv S i l).getD j rn0).ws.length (fun q => .int .u64 (((setLv S i l).getD j rn0).ws.getD q 0 : Nat))
    rw [hws]
    exact SlN.of_own o2 fun k hk => u64s_getD _ hk
/-- a kid is stored -/
theorem OSt.strKd (h : OSt w B (.slice (some ⟨g, 0, none⟩) n c) K L S) {i k gk ck : Nat} (hi : i < S.length) (hk : k < (S.getD i rn0).ks.length) (hK : K i = .slice (some ⟨gk, 0, none⟩) (S.getD i rn0).ks.length ck) (v : Int) :
    StR (w.setCell ⟨gk, k, none⟩ (.int .i64 v)) (some ⟨g, 0, none⟩) (setKd S i k v) := by
  have hlen : (setKd S i k v).length = S.length := by unfold setKd; rw [List.length_set]
  have hgk : gk ≠ g := fun e => (h.kne hi).1 (by rw [hK, e]; rfl)
  refine .inr ⟨g, 0, rfl, by simpa [World.setCell] using h.blk.1, fun j hj => ?_⟩
  rw [hlen] at hj
  obtain ⟨c0, ⟨ka, kc, e1, c1⟩, ⟨la, lc, e2, c2⟩⟩ := h.nodeCells hj
  have hoff : ∀ d u, w.cell? ⟨g, d, none⟩ = some u → (w.setCell ⟨gk, k, none⟩ (.int .i64 v)).cell? ⟨g, d, none⟩ = some u := fun d u hu => by
    rw [World.cell?_setCell_other _ _ _ _ (fun e => hgk (congrArg Addr.block e))]
    exact hu
  obtain ⟨hlv, hws, hkl⟩ := setKd_rest (j := j) (k := k) (v := v) hi
  have n2 : (L j).ownBlock ≠ some gk := by
    rcases own_apartW (h.wrd j hj) (h.kid i hi) u_iu.symm with e | e
    · rw [e]; exact fun h => by cases h
    · rw [hK] at e; exact e
  have o2 := ownsRow_setCell_other (h.wrd j hj) (a := ⟨gk, k, none⟩) n2 (.int .i64 v)
  rw [e2] at o2
  rw [Nat.zero_add]
  refine ⟨by rw [hlv]; exact hoff _ _ c0, ⟨ka, kc, by rw [hkl]; exact hoff _ _ c1, ?_⟩, ⟨la, lc, by rw [hws]; exact hoff _ _ c2, ?_⟩⟩
  · show SlN _ ka ((setKd S i k v).getD j rn0).ks.length (fun q => .int .i64 (((setKd S i k v).getD j rn0).ks.getD q 0))
    by_cases e : j = i
    · subst e
      have hg : (setKd S j k v).getD j rn0 = { S.getD j rn0 with ks := (S.getD j rn0).ks.set k v } := by rw [setKd_get hi, if_pos rfl]
      rw [hg]
      have o := h.kid j hj
      rw [hK] at o e1
      have o' := own_setI o hk (.int .i64 v)
      have ea : ka = some ⟨gk, 0, none⟩ := by injection e1 with q1 q2 q3; exact q1.symm
      rw [ea]
      have hlk : ((S.getD j rn0).ks.set k v).length = (S.getD j rn0).ks.length := List.length_set
      show SlN _ _ ((S.getD j rn0).ks.set k v).length _
      rw [hlk]
      refine SlN.of_own o' fun q hq => ?_
      have e3 : (intsV (S.getD j rn0).ks).set k (.int .i64 v) = intsV ((S.getD j rn0).ks.set k v) := by unfold intsV; rw [List.map_set]
      rw [e3]
      exact intsV_get _ (by rw [hlk]; exact hq)
    · have hg : (setKd S i k v).getD j rn0 = S.getD j rn0 := by rw [setKd_get hi, if_neg e]
      rw [hg]
      have n1 : (K j).ownBlock ≠ some gk := h.kk i j hi hj (fun e2 => e e2.symm) gk (by rw [hK]; rfl)
      have o1 := ownsRow_setCell_other (h.kid j hj) (a := ⟨gk, k, none⟩) n1 (.int .i64 v)
      rw [e1] at o1
      exact SlN.of_own o1 fun k hk => intsV_get _ hk
  · show SlN _ la ((setKd S i k v).getD j rn0).ws.length (fun q => .int .u64 (((setKd S i k v).getD j rn0).ws.getD q 0 : Nat))
    rw [hws]
    exact SlN.of_own o2 fun k hk => u64s_getD _ hk
end
end Go.Proofs.YtfmclbacoffdaaaDoor

namespace Go.Proofs.YtfmclbacoffdaaaDoor
open Go.ChangeShapes Go.WideShapes Go.ChangeAt Go.RowKit

theorem own : ownKnob Tryd.prog.godebug = none := by kernel_rfl
theorem gTab : Tryd.prog.globalNamed "math/bits.deBruijn64tab" = some 0 := by kernel_rfl
theorem gTabType : (Tryd.prog.globals[0]?).map (·.type) = some 129 := by kernel_rfl
theorem cellsTab : Tryd.prog.cellsOf 129 = 64 := by kernel_rfl
theorem cellsU8 : Tryd.prog.cellsOf 5 = 1 := by kernel_rfl

theorem tab_of {W : World} (h : laidMetH Tryd.prog [("math/bits.deBruijn64tab", Rows.laid_math_bits_deBruijn64tab)] W) : Tab W := by
  have ht : Lib.TabIs Tryd.prog W "math/bits.deBruijn64tab" .u8 (Lib.deBruijn64tab.map fun (x : Nat) => (x : Int)) :=
    Lib.tabIs_of_head (rest := []) gTab gTabType Tryd.underlying129 Tryd.underlying5 cellsU8 cellsTab h
  intro i hi
  have := ht.cell gTab i (by rw [List.length_map]; exact hi)
  rw [this]
  have e : (Lib.deBruijn64tab.map fun (x : Nat) => (x : Int)).getD i 0 = ((Lib.deBruijn64tab.getD i 0 : Nat) : Int) := by
    have h64 : Lib.deBruijn64tab.length = 64 := rfl
    simp [List.getD_eq_getElem?_getD, h64, hi]
  rw [e]

/-- A world for the witness: the settled one, the table holding what its initialiser lays. -/
noncomputable def laidWorld (os : Os) : World :=
  { World.holding Tryd.prog os ⟨#[], #[], []⟩ with heap := (World.holding Tryd.prog os ⟨#[], #[], []⟩).heap.modify 0 fun
      | .cells _ t frozen => .cells (Lib.deBruijn64tab.map fun (x : Nat) => Value.int .u8 (x : Int)).toArray t frozen
      | o => o }
theorem laidOut : laidOutB Tryd.prog = true := by kernel_rfl

theorem trodAll_below {H : Type} {enc : TypeId × Value → H} {W W' : World} (hb : Below W.heap.size W W') (ts : List TypeId) : ∀ (vs : List Value) (ds : List (DataW H)) (ps : List MemPlace),
    (ts.all fun t => Tryd.prog.readableRec t && decide (t < Tryd.prog.types.size)) = true → (∀ x ∈ ps, x.block < W.heap.size) → DataW.TrodAll enc Tryd.prog W 0 (fun _ => true) true ts vs ds ps →
    DataW.TrodAll enc Tryd.prog W' 0 (fun b => decide (b < W.heap.size)) true ts vs ds ps := by
  induction ts with
  | nil =>
    intro vs ds ps _ _ h
    obtain ⟨rfl, rfl, rfl⟩ := trodAll_nil h
    exact trodAll_mk0
  | cons t ts ih =>
    intro vs ds ps hr hlt h
    obtain ⟨v, vs', d, ds', p, q, rfl, rfl, rfl, h1, h2⟩ := trodAll_cons h
    rw [List.all_cons, Bool.and_eq_true, Bool.and_eq_true] at hr
    exact trodAll_cons_mk (Below.trod laidOut hr.1.1 (of_decide_eq_true hr.1.2) h1 hb (fun x hx => hlt x (List.mem_append_left _ hx))) (ih vs' ds' q hr.2 (fun x hx => hlt x (List.mem_append_right _ hx)) h2)

/-- WHAT A LAW's WALK GIVES THE ROW: true, the arguments read as they did. -/
theorem law_post {H : Type} {enc : TypeId × Value → H} {fn : Func} {s : ChangeSpec} {W W' : World} {args : Array Value} {ds gs : List (DataW H)} {before : List MemPlace}
    (hW : DataW.Whole enc Tryd.prog fn.params.toList s.vars false W args.toList ds gs before) (hv : s.vars = []) (hr : (fn.params.toList.all fun t => Tryd.prog.readableRec t && decide (t < Tryd.prog.types.size)) = true) (hrt : fn.resultTypes = #[4])
    (h1 : (s.fn H (ds ++ gs)).results = [.lit (.bool true)]) (h2 : (s.fn H (ds ++ gs)).args = ds) (h3 : (s.fn H (ds ++ gs)).vars = []) (hb : Below W.heap.size W W') :
    s.post enc Tryd.prog fn false true false false W args (.bool true) W' := by
  have hW' := hW
  have hlt := hW.lt
  obtain ⟨p, q, hA, hV, rfl, hfz, hnd⟩ := hW
  refine ⟨ds, gs, p ++ q, [], p, [], hW', ?_, ?_, ?_, hb.frame _, fun h => by cases h⟩
  · rw [h1, hrt]
    exact trodAll_cons_mk (shut_bool Tryd.underlying4 _) trodAll_mk0
  · rw [h2]
    exact trodAll_below hb _ _ _ _ hr (fun x hx => hlt x (List.mem_append_left _ hx)) hA
  · rw [h3, hv]; rfl
end Go.Proofs.YtfmclbacoffdaaaDoor

namespace Go.Proofs.YtfmclbacoffdaaaDoor
open Go.ChangeShapes Go.WideShapes Go.ChangeAt Go.RowKit Go.Joins
set_option maxRecDepth 100000 in
theorem open_desc {H : Type} {enc : TypeId × Value → H} {W : World} {base : Nat} {v : Value} {d : DataW H} {p : List MemPlace} (hv : Value.okWide Tryd.prog W .any base 23 v) (h : DataW.Trod enc Tryd.prog W 0 (fun _ => true) true 23 v d p) :
    ∃ (o s t : Int) (g : Bool), v = .agg #[.int .i64 o, .int .i64 s, .int .i64 t, .bool g] ∧ (-9223372036854775808 ≤ o ∧ o ≤ 9223372036854775807) ∧ (-9223372036854775808 ≤ s ∧ s ≤ 9223372036854775807) ∧ (-9223372036854775808 ≤ t ∧ t ≤ 9223372036854775807) := by
  obtain ⟨cs, rfl, hsz⟩ := okWide_struct Tryd.underlying23 hv
  have hC : Tryd.prog.cellsOf 23 = 4 := by kernel_rfl
  have hk : Tryd.prog.cellsOf 3 = 1 := by kernel_rfl
  have hk6 : Tryd.prog.cellsOf 2 = 1 := by kernel_rfl
  have hkb : Tryd.prog.cellsOf 4 = 1 := by kernel_rfl
  obtain ⟨fuel, hf⟩ := h
  have hl : cs.toList.length = 4 := by simpa using hsz.trans hC
  obtain ⟨ys, n', _, _, _, hyl, hg⟩ := DataW.trod_struct Tryd.underlying23 hf
  have h0 : DataW.trod enc Tryd.prog W 0 (fun _ => true) true n' 3 ((cs.toList.drop 0).take (Tryd.prog.cellsOf 3)) = ys[0]? := hg 0 _ rfl
  have h1 : DataW.trod enc Tryd.prog W 0 (fun _ => true) true n' 3 ((cs.toList.drop 1).take (Tryd.prog.cellsOf 3)) = ys[1]? := hg 1 _ rfl
  have h2 : DataW.trod enc Tryd.prog W 0 (fun _ => true) true n' 2 ((cs.toList.drop 2).take (Tryd.prog.cellsOf 2)) = ys[2]? := hg 2 _ rfl
  have h3 : DataW.trod enc Tryd.prog W 0 (fun _ => true) true n' 4 ((cs.toList.drop 3).take (Tryd.prog.cellsOf 4)) = ys[3]? := hg 3 _ rfl
  rw [hk] at h0 h1
  rw [hk6] at h2
  rw [hkb] at h3
  have e0 : ys[0]? = some (ys[0]'(by rw [hyl]; decide)) := List.getElem?_eq_getElem _
  have e1 : ys[1]? = some (ys[1]'(by rw [hyl]; decide)) := List.getElem?_eq_getElem _
  have e2 : ys[2]? = some (ys[2]'(by rw [hyl]; decide)) := List.getElem?_eq_getElem _
  have e3 : ys[3]? = some (ys[3]'(by rw [hyl]; decide)) := List.getElem?_eq_getElem _
  match hcs : cs.toList, hl with
  | [v0, v1, v2, v3], _ =>
    rw [hcs] at h0 h1 h2 h3
    obtain ⟨x0, f0, _, w0⟩ := DataW.trod_int Tryd.underlying3 (show DataW.trod enc Tryd.prog W 0 (fun _ => true) true n' 3 [v0] = some _ from h0.trans e0)
    obtain ⟨x1, f1, _, w1⟩ := DataW.trod_int Tryd.underlying3 (show DataW.trod enc Tryd.prog W 0 (fun _ => true) true n' 3 [v1] = some _ from h1.trans e1)
    obtain ⟨x2, f2, _, w2⟩ := DataW.trod_int Tryd.underlying2 (show DataW.trod enc Tryd.prog W 0 (fun _ => true) true n' 2 [v2] = some _ from h2.trans e2)
    obtain ⟨x3, f3, _⟩ := DataW.trod_bool Tryd.underlying4 (show DataW.trod enc Tryd.prog W 0 (fun _ => true) true n' 4 [v3] = some _ from h3.trans e3)
    cases f0; cases f1; cases f2; cases f3
    exact ⟨x0, x1, x2, x3, by cases cs; simp_all, bounds_i64 w0, bounds_i64 w1, bounds_i64 w2⟩
end Go.Proofs.YtfmclbacoffdaaaDoor

namespace Go.Proofs.YtfmclbacoffdaaaDoor
open Go.ChangeShapes Go.WideShapes Go.ChangeAt Go.RowKit Go.Joins Go.Deep
/-- the bounds of a call's numbers -/
structure ClOk (x : Cl) : Prop where
  w : x.wh ≤ 255
  f : -9223372036854775808 ≤ x.f ∧ x.f ≤ 9223372036854775807
  t : -9223372036854775808 ≤ x.t ∧ x.t ≤ 9223372036854775807
  o : -9223372036854775808 ≤ x.o ∧ x.o ≤ 9223372036854775807
  s : -9223372036854775808 ≤ x.s ∧ x.s ≤ 9223372036854775807
  c : -9223372036854775808 ≤ x.c ∧ x.c ≤ 9223372036854775807
section
variable {H : Type} {enc : TypeId × Value → H} {W : World} {base : Nat}
set_option maxRecDepth 100000 in
/-- the cells of a call -/
theorem cells_call {fuel : Nat} {cs : List Value} {x : DataW H × List MemPlace} (hl : cs.length = 7) (hf : DataW.trod enc Tryd.prog W base (fun _ => true) true fuel 73 cs = some x) :
    ∃ x : Cl, cs = [.int .u8 (x.wh : Int), .int .i64 x.f, .int .i64 x.t, .int .i64 x.o, .int .i64 x.s, .int .i64 x.c, .bool x.g] ∧ ClOk x := by
  have hk5 : Tryd.prog.cellsOf 5 = 1 := by kernel_rfl
  have hk : Tryd.prog.cellsOf 3 = 1 := by kernel_rfl
  have hk6 : Tryd.prog.cellsOf 2 = 1 := by kernel_rfl
  have hkb : Tryd.prog.cellsOf 4 = 1 := by kernel_rfl
  have hkd : Tryd.prog.cellsOf 23 = 4 := by kernel_rfl
  obtain ⟨ys, n', _, _, _, hyl, hg⟩ := DataW.trod_struct Tryd.underlying73 hf
  have h0 : DataW.trod enc Tryd.prog W base (fun _ => true) true n' 5 ((cs.drop 0).take (Tryd.prog.cellsOf 5)) = ys[0]? := hg 0 _ rfl
  have h1 : DataW.trod enc Tryd.prog W base (fun _ => true) true n' 3 ((cs.drop 1).take (Tryd.prog.cellsOf 3)) = ys[1]? := hg 1 _ rfl
  have h2 : DataW.trod enc Tryd.prog W base (fun _ => true) true n' 3 ((cs.drop 2).take (Tryd.prog.cellsOf 3)) = ys[2]? := hg 2 _ rfl
  have h3 : DataW.trod enc Tryd.prog W base (fun _ => true) true n' 23 ((cs.drop 3).take (Tryd.prog.cellsOf 23)) = ys[3]? := hg 3 _ rfl
  rw [hk5] at h0
  rw [hk] at h1 h2
  rw [hkd] at h3
  have e0 : ys[0]? = some (ys[0]'(by rw [hyl]; decide)) := List.getElem?_eq_getElem _
  have e1 : ys[1]? = some (ys[1]'(by rw [hyl]; decide)) := List.getElem?_eq_getElem _
  have e2 : ys[2]? = some (ys[2]'(by rw [hyl]; decide)) := List.getElem?_eq_getElem _
  have e3 : ys[3]? = some (ys[3]'(by rw [hyl]; decide)) := List.getElem?_eq_getElem _
  match cs, hl with
  | [v0, v1, v2, v3, v4, v5, v6], _ =>
    obtain ⟨x0, f0, _, w0⟩ := DataW.trod_int Tryd.underlying5 (show DataW.trod enc Tryd.prog W base (fun _ => true) true n' 5 [v0] = some _ from h0.trans e0)
    obtain ⟨x1, f1, _, w1⟩ := DataW.trod_int Tryd.underlying3 (show DataW.trod enc Tryd.prog W base (fun _ => true) true n' 3 [v1] = some _ from h1.trans e1)
    obtain ⟨x2, f2, _, w2⟩ := DataW.trod_int Tryd.underlying3 (show DataW.trod enc Tryd.prog W base (fun _ => true) true n' 3 [v2] = some _ from h2.trans e2)
    obtain ⟨zs, n2, _, _, _, hzl, hz⟩ := DataW.trod_struct Tryd.underlying23 (show DataW.trod enc Tryd.prog W base (fun _ => true) true n' 23 [v3, v4, v5, v6] = some _ from h3.trans e3)
    have g0 : DataW.trod enc Tryd.prog W base (fun _ => true) true n2 3 (([v3, v4, v5, v6].drop 0).take (Tryd.prog.cellsOf 3)) = zs[0]? := hz 0 _ rfl
    have g1 : DataW.trod enc Tryd.prog W base (fun _ => true) true n2 3 (([v3, v4, v5, v6].drop 1).take (Tryd.prog.cellsOf 3)) = zs[1]? := hz 1 _ rfl
    have g2 : DataW.trod enc Tryd.prog W base (fun _ => true) true n2 2 (([v3, v4, v5, v6].drop 2).take (Tryd.prog.cellsOf 2)) = zs[2]? := hz 2 _ rfl
    have g3 : DataW.trod enc Tryd.prog W base (fun _ => true) true n2 4 (([v3, v4, v5, v6].drop 3).take (Tryd.prog.cellsOf 4)) = zs[3]? := hz 3 _ rfl
    rw [hk] at g0 g1
    rw [hk6] at g2
    rw [hkb] at g3
    have q0 : zs[0]? = some (zs[0]'(by rw [hzl]; decide)) := List.getElem?_eq_getElem _
    have q1 : zs[1]? = some (zs[1]'(by rw [hzl]; decide)) := List.getElem?_eq_getElem _
    have q2 : zs[2]? = some (zs[2]'(by rw [hzl]; decide)) := List.getElem?_eq_getElem _
    have q3 : zs[3]? = some (zs[3]'(by rw [hzl]; decide)) := List.getElem?_eq_getElem _
    obtain ⟨x3, f3, _, w3⟩ := DataW.trod_int Tryd.underlying3 (show DataW.trod enc Tryd.prog W base (fun _ => true) true n2 3 [v3] = some _ from g0.trans q0)
    obtain ⟨x4, f4, _, w4⟩ := DataW.trod_int Tryd.underlying3 (show DataW.trod enc Tryd.prog W base (fun _ => true) true n2 3 [v4] = some _ from g1.trans q1)
    obtain ⟨x5, f5, _, w5⟩ := DataW.trod_int Tryd.underlying2 (show DataW.trod enc Tryd.prog W base (fun _ => true) true n2 2 [v5] = some _ from g2.trans q2)
    obtain ⟨x6, f6, _⟩ := DataW.trod_bool Tryd.underlying4 (show DataW.trod enc Tryd.prog W base (fun _ => true) true n2 4 [v6] = some _ from g3.trans q3)
    cases f0; cases f1; cases f2; cases f3; cases f4; cases f5; cases f6
    have b0 := bounds_u8 w0
    obtain ⟨z0, rfl⟩ := Int.eq_ofNat_of_zero_le b0.1
    exact ⟨⟨z0, x1, x2, x3, x4, x5, x6⟩, rfl, ⟨by dsimp only; omega, bounds_i64 w1, bounds_i64 w2, bounds_i64 w3, bounds_i64 w4, bounds_i64 w5⟩⟩
set_option maxRecDepth 100000 in
theorem open_call {v : Value} {d : DataW H} {p : List MemPlace} (hv : Value.okWide Tryd.prog W .any base 73 v) (h : DataW.Trod enc Tryd.prog W 0 (fun _ => true) true 73 v d p) :
    ∃ x : Cl, v = .agg #[.int .u8 (x.wh : Int), .int .i64 x.f, .int .i64 x.t, .int .i64 x.o, .int .i64 x.s, .int .i64 x.c, .bool x.g] ∧ ClOk x := by
  obtain ⟨cs, rfl, hsz⟩ := okWide_struct Tryd.underlying73 hv
  have hC : Tryd.prog.cellsOf 73 = 7 := by kernel_rfl
  obtain ⟨fuel, hf⟩ := h
  have hl : cs.toList.length = 7 := by simpa using hsz.trans hC
  obtain ⟨x, hx, hb⟩ := cells_call hl hf
  exact ⟨x, by cases cs; simp_all, hb⟩
set_option maxRecDepth 100000 in
theorem open_calls7 {v : Value} {d : DataW H} {p : List MemPlace} (hv : Value.okWide Tryd.prog W .any base 32 v) (h : DataW.Trod enc Tryd.prog W 0 (fun _ => true) true 32 v d p) :
    ∃ (a : Option Addr) (n cap : Nat) (C : Nat → Cl), v = .slice a n cap ∧ SlC W a n C ∧ n ≤ 9223372036854775807 ∧ ∀ j, j < n → ClOk (C j) := by
  obtain ⟨a, l, c, rfl⟩ := okWide_slice Tryd.underlying32 hv
  have hC : Tryd.prog.cellsOf 73 = 7 := by kernel_rfl
  obtain ⟨fuel, hf⟩ := h
  rcases open_slice Tryd.underlying32 hf with ⟨h, _⟩ | ⟨A, len, cap, mm, n, D, Pl, h, _, hl, hm, hmm, _, hi⟩
  · cases h
    exact ⟨none, 0, 0, fun _ => default, rfl, .inl rfl, by decide, fun j hj => by omega⟩
  · cases h
    have hml : maxLen ≤ 9223372036854775807 := by decide
    simp only [↓reduceIte] at hmm
    have key : ∀ i, i < c → ∃ x : Cl, (∀ k, k < 7 → W.cell? (A.add (i * 7 + k)) = [Value.int .u8 (x.wh : Int), .int .i64 x.f, .int .i64 x.t, .int .i64 x.o, .int .i64 x.s, .int .i64 x.c, .bool x.g][k]?) ∧ ClOk x := by
      intro i hic
      obtain ⟨cs', hc, ht'⟩ := hi i (by omega)
      rw [hC] at hc
      obtain ⟨_, hcl, hat⟩ := World.cells?_some hc
      obtain ⟨x, hx, hb⟩ := cells_call hcl ht'
      refine ⟨x, fun k hk => ?_, hb⟩
      have := hat k hk
      rw [Go.Deep.add_add] at this
      rw [this, hx]
    have key2 : ∃ C : Nat → Cl, ∀ i, i < c → (∀ k, k < 7 → W.cell? (A.add (i * 7 + k)) = [Value.int .u8 ((C i).wh : Int), .int .i64 (C i).f, .int .i64 (C i).t, .int .i64 (C i).o, .int .i64 (C i).s, .int .i64 (C i).c, .bool (C i).g][k]?) ∧ ClOk (C i) := by
      classical
      refine ⟨fun i => if hi : i < c then Classical.choose (key i hi) else default, fun i hi => ?_⟩
      dsimp only
      rw [dif_pos hi]
      exact Classical.choose_spec (key i hi)
    obtain ⟨C, hC'⟩ := key2
    refine ⟨some A, l, c, C, rfl, ?_, by omega, fun j hj => (hC' j (by omega)).2⟩
    by_cases h0 : l = 0
    · exact .inl h0
    · have hp := (hC' 0 (by omega)).1 0 (by decide)
      obtain ⟨b, o, spot⟩ := A
      have hs : spot = none := World.cell?_spot (hp.trans rfl)
      subst hs
      have hlt : b < W.heap.size := World.block_lt_of_cell? _ _ (hp.trans rfl)
      refine .inr ⟨b, o, rfl, hlt, fun j hj => ?_⟩
      have hk := (hC' j (by omega)).1
      simp only [Go.WideShapes.add_plain] at hk
      exact ⟨hk 0 (by decide), hk 1 (by decide), hk 2 (by decide), hk 3 (by decide), hk 4 (by decide), hk 5 (by decide), hk 6 (by decide)⟩
end
end Go.Proofs.YtfmclbacoffdaaaDoor

namespace Go.Proofs.YtfmclbacoffdaaaDoor
open Go.RowKit Go.Sort Go.Joins
attribute [local go_sem] cell_grow frozen_grow size_grow
theorem stS_bd (X : RM) (j : Nat) : ((stS X).getD j rn0).ks.length ≤ 10000 ∧ ((stS X).getD j rn0).ws.length ≤ 10000 := by
  by_cases hj : j < X.st.length
  · rw [stS_get X hj]
    unfold rnOf kN wN
    simp only [List.length_map, List.length_range]
    constructor
    · split
      · decide
      · split <;> decide
    · split <;> decide
  · have e : (stS X).getD j rn0 = rn0 := by
      rw [List.getD_eq_getElem?_getD, List.getElem?_eq_none (by rw [stS_len]; omega)]; rfl
    rw [e]; decide
/-- Same of two saved states -/
theorem same_st {w : World} {a1 a2 : Option Addr} {c1 c2 n1 n2 : Nat} {X Y : RM} (h1 : StR w a1 (stS X)) (h2 : StR w a2 (stS Y)) (l1 : X.st.length = n1) (l2 : Y.st.length = n2) (hn : n1 ≤ 145) (m1 m2 : Int) :
    Calls Tryd.prog 23 #[.agg #[.int .i64 m1, .slice a1 n1 c1], .agg #[.int .i64 m2, .slice a2 n2 c2]] w fun e w' => e = .returned (.bool (smS m1 m2 (stS X) (stS Y))) ∧ Below w.heap.size w w' := by
  have h := same_ok (c1 := c1) (c2 := c2) (m1 := m1) (m2 := m2) h1 h2 (by rw [stS_len]; omega) (fun j => (stS_bd X j).1) (fun j => (stS_bd X j).2)
  rwa [stS_len, stS_len, l1, l2] at h
section
variable {w : World} {a : Option Addr} {n cap : Nat} {C : Nat → Cl}
set_option maxRecDepth 100000 in
set_option maxHeartbeats 1600000 in
theorem empty_nil (N : Int) (h : N < 1 ∨ 145 < N ∨ 40 < n) (hT : Tab w) : Calls Tryd.prog 5 #[.int .i64 N, .slice a n cap] w fun e w' => e = .returned (.bool true) ∧ Below w.heap.size w w' := by
  have HM := Lib.hid (mkd_nil (w := w) (a := a) (cap := cap) N h)
  have HT := Lib.hid hT
  clear h hT
  go_enter Tryd.func5, Tryd.ntmps5
  go_wp2_with fail
  refine HM.out.mono ?_
  rintro e w1 ⟨rfl, b1⟩
  have B1 := Lib.hid b1
  clear b1
  go_wp2_with fail
  refine (awake_ok _ (HT.out.below B1.out)).mono ?_
  rintro e w2 ⟨rfl, b2⟩
  have B2 := Lib.hid (below_tr B1.out b2)
  clear b2
  go_wp2
  go_ret
  exact ⟨rfl, B2.out⟩
set_option maxRecDepth 100000 in
set_option maxHeartbeats 6400000 in
theorem empty_in (N : Nat) (h1 : 1 ≤ N) (h2 : N ≤ 145) (hn : n ≤ 40) (hC : SlC w a n C) (hT : Tab w) : Calls Tryd.prog 5 #[.int .i64 N, .slice a n cap] w fun e w' => e = .returned (.bool true) ∧ Below w.heap.size w w' := by
  have HM := Lib.hid (mkd_ok (cap := cap) N h1 h2 hn hC hT)
  have hG := RGood.mkM h1 C n
  have hl := (mkM_all h1 C n).2.2
  have hv := LvS.mkM N C n
  obtain ⟨X, hX⟩ : ∃ X, mkM N C n = X := ⟨_, rfl⟩
  rw [hX] at HM hG hl hv
  obtain ⟨hE1, hE2, hE3, hE4⟩ := clr_all hG.a hv
  have HG := Lib.hid hG
  have HL := Lib.hid hl
  obtain ⟨Y, hY⟩ : ∃ Y, clrX X 0 1024 = Y := ⟨_, rfl⟩
  rw [hY] at hE1 hE2 hE3 hE4
  have HY := Lib.hid hY
  have HYL : Hid (Y.st.length = N) := Lib.hid (hE3.trans hl)
  have HNL : Hid ((newM N).st.length = N) := Lib.hid (newM_len N)
  have HSM : Hid (smS (N : Int) (N : Int) (stS Y) (stS (newM N)) = true) := Lib.hid (decide_eq_true ⟨rfl, by rw [hE4, hl]⟩)
  have HYM := Lib.hid hE2
  have HT := Lib.hid hT
  have HN := Lib.hid (fun w => newm_ok N w h1 h2)
  have HN145 := Lib.hid h2
  clear hG hl hv hX hE1 hE2 hE3 hE4 hY hC hT
  go_enter Tryd.func5, Tryd.ntmps5
  go_wp2_with fail
  refine HM.out.mono ?_
  rintro e w1 ⟨rfl, m1, b1⟩
  have M1 := Lib.hid m1
  have B1 := Lib.hid b1
  clear m1 b1 HM
  go_wp2_with fail
  refine (HN.out _).mono ?_
  rintro e w2 ⟨rfl, m2, b2⟩
  have M2 := Lib.hid (M1.out.below b2)
  have N2 := Lib.hid m2
  have B2 := Lib.hid (below_tr B1.out b2)
  clear m2 b2 HN
  have hs1 := B1.out.size
  have hlp := M1.out.lp
  have HCL := Lib.hid (clear_ok M2.out HG.out.a B2.out.size 0 1024)
  rw [HY.out, show paE 0 1024 = 0 by decide] at HCL
  go_wp2_with fail
  refine HCL.out.mono ?_
  rintro e w3 ⟨rfl, m3, f3⟩
  have M3 := Lib.hid m3
  have N3 := Lib.hid (TM.other N2.out M2.out f3 (by omega) (by omega))
  have B3 := Lib.hid (Fr.below B2.out f3 (Nat.le_succ _) (Nat.le_refl _) B2.out.size)
  clear m3 f3 HCL
  have HND := Lib.hid (nodes_ok M3.out)
  rw [HYM.out] at HND
  go_wp2_with fail
  refine HND.out.mono ?_
  rintro e w4 ⟨rfl, rfl⟩
  have HSV := Lib.hid (save_ok M3.out)
  have HSV2 := Lib.hid (fun w' hb => save_ok (N3.out.below (w' := w') hb))
  rw [HYL.out] at HSV
  rw [HNL.out] at HSV2
  go_wp2_with fail
  refine HSV.out.mono ?_
  rintro e w5 ⟨a5, c5, rfl, ⟨K5, L5, o5⟩, b5⟩
  have S5 := Lib.hid o5.str
  have B5 := Lib.hid b5
  clear o5 b5 HSV
  go_wp2_with fail
  refine (HSV2.out _ B5.out).mono ?_
  rintro e w6 ⟨a6, c6, rfl, ⟨K6, L6, o6⟩, b6⟩
  have S6 := Lib.hid o6.str
  have S5' := Lib.hid (S5.out.below b6)
  have B6 := Lib.hid (below_tr B3.out (below_tr B5.out b6))
  clear o6 b6 HSV2
  have HSA := Lib.hid (same_st (c1 := c5) (c2 := c6) S5'.out S6.out HYL.out HNL.out HN145.out (N : Int) (N : Int))
  rw [HSM.out] at HSA
  go_wp2_with fail
  refine HSA.out.mono ?_
  rintro e w7 ⟨rfl, b7⟩
  have B7 := Lib.hid (below_tr B6.out b7)
  clear b7
  go_wp2_with fail
  refine (awake_ok _ (HT.out.below B7.out)).mono ?_
  rintro e w8 ⟨rfl, b8⟩
  have B8 := Lib.hid (below_tr B7.out b8)
  clear b8
  go_wp2
  go_ret
  exact ⟨rfl, B8.out⟩
/-- RadixEmpty returns true -/
theorem law_empty (N : Int) (hC : SlC w a n C) (hT : Tab w) : Calls Tryd.prog 5 #[.int .i64 N, .slice a n cap] w fun e w' => e = .returned (.bool true) ∧ Below w.heap.size w w' := by
  by_cases h : N < 1 ∨ 145 < N ∨ 40 < n
  · exact empty_nil N h hT
  · obtain ⟨N', rfl⟩ := Int.eq_ofNat_of_zero_le (show 0 ≤ N by omega)
    exact empty_in N' (by omega) (by omega) (by omega) hC hT
end
end Go.Proofs.YtfmclbacoffdaaaDoor

namespace Go.Proofs.YtfmclbacoffdaaaDoor
open Go.RowKit Go.Sort Go.Joins
attribute [local go_sem] cell_grow frozen_grow size_grow
theorem ds_len (l1 l2 : Nat) (h : l1 = l2) : l1 = l2 := h
/-- Load of a saved state -/
theorem load_st {w : World} {a : Option Addr} {c n : Nat} {X : RM} (hG : RGood X) (hl : X.st.length = n) (hn : n ≤ 145) (hS : StR w a (stS X)) :
    Calls Tryd.prog 30 #[.agg #[.int .i64 n, .slice a n c]] w fun e w' => ∃ g, w.heap.size ≤ g ∧ e = .returned (.tuple #[.pointer (some ⟨g + 1, 0, none⟩), .int .i64 0]) ∧ TM w' w.heap.size (g + 1) g X.st X.m X.r ∧ Below w.heap.size w w' := by
  have h := load_ok (c := c) (X.st.length : Int) (ck_stS hG (by omega)) hS (wd_bd hG)
  rw [stS_len, ld_stS hG, hl] at h
  exact h
section
variable {w : World} {a : Option Addr} {n cap : Nat} {C : Nat → Cl} {x : Cl}
set_option maxRecDepth 100000 in
set_option maxHeartbeats 1600000 in
theorem pages_nil (N : Int) (h : N < 1 ∨ 145 < N ∨ 40 < n) (hT : Tab w) : Calls Tryd.prog 11 #[.int .i64 N, .slice a n cap, .agg (clC x)] w fun e w' => e = .returned (.bool true) ∧ Below w.heap.size w w' := by
  have HB := Lib.hid (below_box0 w (.cells (clC x) 73))
  have HM := Lib.hid (fun w => mkd_nil (w := w) (a := a) (cap := cap) N h)
  have HT := Lib.hid hT
  clear h hT
  go_enter Tryd.func11, Tryd.ntmps11
  go_wp2_with fail
  refine (HM.out _).mono ?_
  rintro e w1 ⟨rfl, b1⟩
  have B1 := Lib.hid (below_tr HB.out b1)
  clear b1
  go_wp2_with fail
  refine (awake_ok _ (HT.out.below B1.out)).mono ?_
  rintro e w2 ⟨rfl, b2⟩
  have B2 := Lib.hid (below_tr B1.out b2)
  clear b2
  go_wp2
  go_ret
  exact ⟨rfl, B2.out⟩
set_option maxRecDepth 100000 in
set_option maxHeartbeats 6400000 in
theorem pages_in (N : Nat) (h1 : 1 ≤ N) (h2 : N ≤ 145) (hn : n ≤ 40) (hC : SlC w a n C) (hT : Tab w) (hx : ClOk x) : Calls Tryd.prog 11 #[.int .i64 N, .slice a n cap, .agg (clC x)] w fun e w' => e = .returned (.bool true) ∧ Below w.heap.size w w' := by
  have hB := below_box0 w (.cells (clC x) 73)
  have HB := Lib.hid hB
  have HBX := Lib.hid (heap_alloc_new w (.cells (clC x) 73))
  have HM := Lib.hid (mkd_ok (cap := cap) N h1 h2 hn (hC.below hB) (hT.below hB))
  have hG := RGood.mkM h1 C n
  have hl := (mkM_all h1 C n).2.2
  obtain ⟨X, hX⟩ : ∃ X, mkM N C n = X := ⟨_, rfl⟩
  rw [hX] at HM hG hl
  have HG := Lib.hid hG
  have HL := Lib.hid hl
  have HT := Lib.hid hT
  have HN := Lib.hid h2
  have hlt := hT.lt
  have HTL := Lib.hid hlt
  clear hG hl hX hC hT hB hlt
  go_enter Tryd.func11, Tryd.ntmps11
  go_wp2_with fail
  have hsz : (w.alloc (.cells (clC x) 73)).heap.size = w.heap.size + 1 := by simp
  generalize World.alloc _ _ = W0 at HM HB HBX hsz ⊢
  refine HM.out.mono ?_
  rintro e w1 ⟨rfl, m1, b1⟩
  rw [hsz] at m1
  have O1 : Hid (One w w1 x (w.heap.size + 1) X) := Lib.hid ⟨m1.le (by omega), (b1.block _ (by omega)).trans HBX.out, Nat.lt_succ_self _, below_tr HB.out b1⟩
  rw [hsz]
  obtain ⟨q, hq⟩ : ∃ q, w.heap.size + 1 = q := ⟨_, rfl⟩
  rw [hq] at O1 ⊢
  clear m1 b1 HM HB HBX hsz
  have HSV := Lib.hid (save_ok O1.out.m)
  rw [HL.out] at HSV
  go_wp2_with fail
  refine HSV.out.mono ?_
  rintro e w2 ⟨a2, c2, rfl, ⟨K2, L2, o2⟩, b2⟩
  have S2 := Lib.hid o2.str
  have O2 := Lib.hid (O1.out.below b2)
  have hb2 := b2.size
  have hp1 := O1.out.m.lp
  clear o2 b2 HSV
  have HLD := Lib.hid (load_st (c := c2) HG.out HL.out HN.out S2.out)
  go_wp2_with fail
  refine HLD.out.mono ?_
  rintro e w3 ⟨g, hg, rfl, n3, b3⟩
  have T3 : Hid (Two w w3 x q g X X) := Lib.hid ⟨O2.out.below b3, n3.le O2.out.k.size, by omega⟩
  have HQG := Lib.hid (show q + 1 < g by omega)
  have HWQ := Lib.hid (show w.heap.size < q by omega)
  clear n3 b3 HLD S2 O1 O2 hb2 hg hp1 hq
  have HS3 := Lib.hid (save_ok T3.out.n)
  have HS3' := Lib.hid (fun w' hb => save_ok (T3.out.o.m.below (w' := w') hb))
  rw [HL.out] at HS3 HS3'
  go_wp2_with fail
  refine HS3.out.mono ?_
  rintro e w4 ⟨a4, c4, rfl, ⟨K4, L4, o4⟩, b4⟩
  have S4 := Lib.hid o4.str
  have B4 := Lib.hid b4
  clear o4 b4 HS3
  go_wp2_with fail
  refine (HS3'.out _ B4.out).mono ?_
  rintro e w5 ⟨a5, c5, rfl, ⟨K5, L5, o5⟩, b5⟩
  have S5 := Lib.hid o5.str
  have S4' := Lib.hid (S4.out.below b5)
  have B5 := Lib.hid (below_tr B4.out b5)
  clear o5 b5 HS3'
  have HSA := Lib.hid (same_st (c1 := c4) (c2 := c5) S4'.out S5.out HL.out HL.out HN.out (N : Int) (N : Int))
  rw [show smS (N : Int) (N : Int) (stS X) (stS X) = true from decide_eq_true ⟨rfl, rfl⟩] at HSA
  go_wp2_with fail
  refine HSA.out.mono ?_
  rintro e w6 ⟨rfl, b6⟩
  have T6 := Lib.hid (T3.out.below (below_tr B5.out b6))
  clear b6 HSA S4 S4' S5 B4 B5 T3
  have f0 := T6.out.o.c0
  have f1 := T6.out.o.c1
  have f2 := T6.out.o.c2
  have f3 := T6.out.o.c3
  have f4 := T6.out.o.c4
  have f5 := T6.out.o.c5
  have f6 := T6.out.o.c6
  have TB := Lib.hid (HT.out.below T6.out.o.k)
  have hw4 : x.wh % 4 = 2 ∨ x.wh % 4 ≠ 2 := by omega
  rcases hw4 with hw | hw
  · have dw : ((x.wh : Int) % 4 == 2) = true := by simp; omega
    have HCL := Lib.hid (clear_ok T6.out.o.m HG.out.a T6.out.o.k.size x.f x.t)
    by_cases hE : paE x.f x.t = 0
    case neg =>
      have de : (paE x.f x.t != 0) = true := by simpa using hE
      obtain ⟨E, hE'⟩ : ∃ E, paE x.f x.t = E := ⟨_, rfl⟩
      rw [hE'] at HCL de
      clear hE hE' hw
      go_wp2_with fail
      refine HCL.out.mono ?_
      rintro e w7 ⟨rfl, m7, r7⟩
      have O7 := Lib.hid (T6.out.o.fr r7 m7)
      clear m7 r7
      go_wp2_with fail
      refine (awake_ok _ (HT.out.below O7.out.k)).mono ?_
      rintro e w8 ⟨rfl, b8⟩
      have O8 := Lib.hid (O7.out.below b8)
      clear b8
      go_wp2
      go_ret
      exact ⟨rfl, O8.out.k⟩
    case pos =>
    have HE := Lib.hid hE
    obtain ⟨p1, p2, p3⟩ := paE_zero hE
    rw [hE] at HCL
    have HY : Hid (clrX X x.f x.t = clrN (x.t - x.f).toNat X x.f.toNat) := Lib.hid (if_pos hE)
    clear hw hE
    go_wp2_with fail
    refine HCL.out.mono ?_
    rintro e w7 ⟨rfl, m7, r7⟩
    have T7 := Lib.hid (T6.out.frM r7 m7)
    have g1 := T7.out.o.c1
    clear m7 r7 HCL f0 f1 f2 f3 f4 f5 f6 TB T6
    obtain ⟨Y, hY⟩ : ∃ Y, clrX X x.f x.t = Y := ⟨_, rfl⟩
    rw [hY] at T7 HY
    have HYL : Hid (Y.st.length = N) := Lib.hid (by rw [← hY, (HG.out.a.clrX HG.out.w x.f x.t).2.2]; exact HL.out)
    clear hY
    go_wp2
    go_loopw [11] (fun v wr => ∃ j : Nat, j ≤ (x.t - x.f).toNat ∧ v = .int .i64 (x.f + j) ∧ Hid (Two w wr x q g Y (clrN j X x.f.toNat))) (fun v _ => (x.t - intOf v).toNat)
    case atStart => exact ⟨0, Nat.zero_le _, by simp, Lib.hid T7.out⟩
    case round =>
      obtain ⟨j, hj, rfl, T⟩ := hrel
      have g2 := T.out.o.c2
      by_cases hlt : j < (x.t - x.f).toNat
      · obtain ⟨e1, e2⟩ := clr_page (X := X) HE.out hlt
        have HZ := Lib.hid (HG.out.clrNs HE.out j (by omega))
        have HCJ := Lib.hid (clear_ok T.out.n HZ.out.a T.out.o.k.size (x.f + j) (x.f + j + 1))
        rw [e1, e2] at HCJ
        have i1 : x.f + (j : Int) < x.t := by omega
        have hwj : IntKind.i64.wrap (x.f + (j : Int) + 1) = x.f + (j : Int) + 1 := IntWalk.i64_in _ (by omega)
        clear e1 e2
        go_wp2_with fail
        refine HCJ.out.mono ?_
        rintro e w8 ⟨rfl, m8, r8⟩
        have T8 := Lib.hid (T.out.frN r8 m8)
        clear m8 r8
        go_wp2
        go_roundw
        case rel => exact ⟨j + 1, by omega, by rw [show x.f + ((j + 1 : Nat) : Int) = x.f + (j : Int) + 1 by omega], T8⟩
        case measure => simp [intOf]; omega
      · have hjj : j = (x.t - x.f).toNat := by omega
        have i1 : ¬ (x.f + (j : Int) < x.t) := by omega
        have HYE : Hid (clrN j X x.f.toNat = Y) := Lib.hid (by rw [HY.out, hjj])
        rw [HYE.out] at T
        have HS8 := Lib.hid (save_ok T.out.o.m)
        have HS8' := Lib.hid (fun w' hb => save_ok (T.out.n.below (w' := w') hb))
        rw [HYL.out] at HS8 HS8'
        clear hjj
        go_wp2_with fail
        refine HS8.out.mono ?_
        rintro e w9 ⟨a9, c9, rfl, ⟨K9, L9, o9⟩, b9⟩
        have S9 := Lib.hid o9.str
        have B9 := Lib.hid b9
        clear o9 b9 HS8
        go_wp2_with fail
        refine (HS8'.out _ B9.out).mono ?_
        rintro e wa ⟨aa, ca, rfl, ⟨Ka, La, oa⟩, ba⟩
        have Sa := Lib.hid oa.str
        have S9' := Lib.hid (S9.out.below ba)
        have Ba := Lib.hid (below_tr B9.out ba)
        clear oa ba HS8'
        have HSB := Lib.hid (same_st (c1 := c9) (c2 := ca) S9'.out Sa.out HYL.out HYL.out HN.out (N : Int) (N : Int))
        rw [show smS (N : Int) (N : Int) (stS Y) (stS Y) = true from decide_eq_true ⟨rfl, rfl⟩] at HSB
        go_wp2_with fail
        refine HSB.out.mono ?_
        rintro e wb ⟨rfl, bb⟩
        have Tb := Lib.hid (T.out.below (below_tr Ba.out bb))
        clear bb HSB
        go_wp2_with fail
        refine (awake_ok _ (HT.out.below Tb.out.o.k)).mono ?_
        rintro e wc ⟨rfl, bc⟩
        have Tc := Lib.hid (Tb.out.below bc)
        clear bc
        go_wp2
        go_ret
        exact ⟨rfl, Tc.out.o.k⟩
  · have dw : ((x.wh : Int) % 4 == 2) = false := by simp; omega
    have HCL := Lib.hid (set_ok (by have := HTL.out; have := HWQ.out; omega) (by have := HTL.out; have := HWQ.out; omega) TB.out T6.out.o.m HG.out.a T6.out.o.k.size x.f x.t x.o x.s x.c x.g)
    by_cases hE : setE X x.f x.t x.o x.s x.c = 0
    case neg =>
      have de : (setE X x.f x.t x.o x.s x.c != 0) = true := by simpa using hE
      obtain ⟨E, hE'⟩ : ∃ E, setE X x.f x.t x.o x.s x.c = E := ⟨_, rfl⟩
      rw [hE'] at HCL de
      clear hE hE' hw
      go_wp2_with fail
      refine HCL.out.mono ?_
      rintro e w7 ⟨rfl, m7, r7⟩
      have O7 := Lib.hid (T6.out.o.fr r7 m7)
      clear m7 r7
      go_wp2_with fail
      refine (awake_ok _ (HT.out.below O7.out.k)).mono ?_
      rintro e w8 ⟨rfl, b8⟩
      have O8 := Lib.hid (O7.out.below b8)
      clear b8
      go_wp2
      go_ret
      exact ⟨rfl, O8.out.k⟩
    case pos =>
    have HE := Lib.hid hE
    obtain ⟨p1, p2, p3⟩ := paE_zero (setE_zero hE).1
    rw [hE] at HCL
    have HY : Hid (setX X x.f x.t x.o x.s x.c x.g = setM (pkW x.o x.s x.c x.g).toNat (x.t - x.f).toNat X x.f.toNat) := Lib.hid (if_pos hE)
    clear hw hE
    go_wp2_with fail
    refine HCL.out.mono ?_
    rintro e w7 ⟨rfl, m7, r7⟩
    have T7 := Lib.hid (T6.out.frM r7 m7)
    have g1 := T7.out.o.c1
    clear m7 r7 HCL f0 f1 f2 f3 f4 f5 f6 TB T6
    obtain ⟨Y, hY⟩ : ∃ Y, setX X x.f x.t x.o x.s x.c x.g = Y := ⟨_, rfl⟩
    rw [hY] at T7 HY
    have HYL : Hid (Y.st.length = N) := Lib.hid (by rw [← hY, (HG.out.a.setX HG.out.w x.f x.t x.o x.s x.c x.g).2.2]; exact HL.out)
    clear hY
    go_wp2
    go_loopw [11] (fun v wr => ∃ j : Nat, j ≤ (x.t - x.f).toNat ∧ v = .int .i64 (x.f + j) ∧ Hid (Two w wr x q g Y (setM (pkW x.o x.s x.c x.g).toNat j X x.f.toNat))) (fun v _ => (x.t - intOf v).toNat)
    case atStart => exact ⟨0, Nat.zero_le _, by simp, Lib.hid T7.out⟩
    case round =>
      obtain ⟨j, hj, rfl, T⟩ := hrel
      have g2 := T.out.o.c2
      have g3 := T.out.o.c3
      have g4 := T.out.o.c4
      have g5 := T.out.o.c5
      have g6 := T.out.o.c6
      by_cases hlt : j < (x.t - x.f).toNat
      · obtain ⟨e1, e2⟩ := set_page (g := x.g) HG.out HE.out hlt
        have HZ := Lib.hid (HG.out.setN (g := x.g) HE.out j (by omega))
        have HCJ := Lib.hid (set_ok (by have := HTL.out; have := HWQ.out; have := HQG.out; omega) (by have := HTL.out; have := HWQ.out; have := HQG.out; omega) (HT.out.below T.out.o.k) T.out.n HZ.out.a T.out.o.k.size (x.f + j) (x.f + j + 1) x.o x.s x.c x.g)
        rw [e1, e2] at HCJ
        have i1 : x.f + (j : Int) < x.t := by omega
        have hwj : IntKind.i64.wrap (x.f + (j : Int) + 1) = x.f + (j : Int) + 1 := IntWalk.i64_in _ (by omega)
        clear e1 e2
        go_wp2_with fail
        refine HCJ.out.mono ?_
        rintro e w8 ⟨rfl, m8, r8⟩
        have T8 := Lib.hid (T.out.frN r8 m8)
        clear m8 r8
        go_wp2
        go_roundw
        case rel => exact ⟨j + 1, by omega, by rw [show x.f + ((j + 1 : Nat) : Int) = x.f + (j : Int) + 1 by omega], T8⟩
        case measure => simp [intOf]; omega
      · have hjj : j = (x.t - x.f).toNat := by omega
        have i1 : ¬ (x.f + (j : Int) < x.t) := by omega
        have HYE : Hid (setM (pkW x.o x.s x.c x.g).toNat j X x.f.toNat = Y) := Lib.hid (by rw [HY.out, hjj])
        rw [HYE.out] at T
        have HS8 := Lib.hid (save_ok T.out.o.m)
        have HS8' := Lib.hid (fun w' hb => save_ok (T.out.n.below (w' := w') hb))
        rw [HYL.out] at HS8 HS8'
        clear hjj g3 g4 g5 g6
        go_wp2_with fail
        refine HS8.out.mono ?_
        rintro e w9 ⟨a9, c9, rfl, ⟨K9, L9, o9⟩, b9⟩
        have S9 := Lib.hid o9.str
        have B9 := Lib.hid b9
        clear o9 b9 HS8
        go_wp2_with fail
        refine (HS8'.out _ B9.out).mono ?_
        rintro e wa ⟨aa, ca, rfl, ⟨Ka, La, oa⟩, ba⟩
        have Sa := Lib.hid oa.str
        have S9' := Lib.hid (S9.out.below ba)
        have Ba := Lib.hid (below_tr B9.out ba)
        clear oa ba HS8'
        have HSB := Lib.hid (same_st (c1 := c9) (c2 := ca) S9'.out Sa.out HYL.out HYL.out HN.out (N : Int) (N : Int))
        rw [show smS (N : Int) (N : Int) (stS Y) (stS Y) = true from decide_eq_true ⟨rfl, rfl⟩] at HSB
        go_wp2_with fail
        refine HSB.out.mono ?_
        rintro e wb ⟨rfl, bb⟩
        have Tb := Lib.hid (T.out.below (below_tr Ba.out bb))
        clear bb HSB
        go_wp2_with fail
        refine (awake_ok _ (HT.out.below Tb.out.o.k)).mono ?_
        rintro e wc ⟨rfl, bc⟩
        have Tc := Lib.hid (Tb.out.below bc)
        clear bc
        go_wp2
        go_ret
        exact ⟨rfl, Tc.out.o.k⟩
/-- RadixPages returns true -/
theorem law_pages (N : Int) (hC : SlC w a n C) (hT : Tab w) (hx : ClOk x) : Calls Tryd.prog 11 #[.int .i64 N, .slice a n cap, .agg (clC x)] w fun e w' => e = .returned (.bool true) ∧ Below w.heap.size w w' := by
  by_cases h : N < 1 ∨ 145 < N ∨ 40 < n
  · exact pages_nil N h hT
  · obtain ⟨N', rfl⟩ := Int.eq_ofNat_of_zero_le (show 0 ≤ N by omega)
    exact pages_in N' (by omega) (by omega) (by omega) hC hT hx
end
end Go.Proofs.YtfmclbacoffdaaaDoor

namespace Go.Proofs.YtfmclbacoffdaaaDoor
open Go.RowKit Go.Sort Go.Joins
attribute [local go_sem] cell_grow frozen_grow size_grow
abbrev yC (y0 y1 y2 : Nat) : Array Value := #[.int .u16 (y0 : Int), .int .u16 (y1 : Int), .int .u16 (y2 : Int)]
theorem setLv_lens {X : RM} {i : Nat} {l : Int} (hi : i < X.st.length) (j : Nat) : ((setLv (stS X) i l).getD j rn0).ks.length ≤ 1000 ∧ ((setLv (stS X) i l).getD j rn0).ws.length ≤ 1000 := by
  obtain ⟨e1, e2⟩ := setLv_rest (S := stS X) (j := j) (l := l) (by rw [stS_len]; exact hi)
  rw [e1, e2]
  by_cases hj : j < X.st.length
  · rw [stS_get X hj]
    unfold rnOf kN wN
    simp only [List.length_map, List.length_range]
    constructor
    · split
      · decide
      · split <;> decide
    · split <;> decide
  · rw [show (stS X).getD j rn0 = rn0 by rw [List.getD_eq_getElem?_getD, List.getElem?_eq_none (by rw [stS_len]; omega)]; rfl]
    decide
theorem setKd_lens {X : RM} {i k : Nat} {v : Int} (hi : i < X.st.length) (j : Nat) : ((setKd (stS X) i k v).getD j rn0).ks.length ≤ 1000 ∧ ((setKd (stS X) i k v).getD j rn0).ws.length ≤ 1000 := by
  obtain ⟨_, e2, e3⟩ := setKd_rest (S := stS X) (j := j) (k := k) (v := v) (by rw [stS_len]; exact hi)
  obtain ⟨g1, g2⟩ := setLv_lens (X := X) (i := i) (l := 0) hi j
  obtain ⟨f1, f2⟩ := setLv_rest (S := stS X) (j := j) (l := 0) (by rw [stS_len]; exact hi)
  rw [e2, e3, ← f1, ← f2]
  exact ⟨g1, g2⟩
section
variable {w : World} {a : Option Addr} {n cap : Nat} {C : Nat → Cl} {y0 y1 y2 : Nat}
set_option maxRecDepth 100000 in
set_option maxHeartbeats 1600000 in
theorem broken_nil (N : Int) (h : N < 1 ∨ 145 < N ∨ 40 < n) (hT : Tab w) : Calls Tryd.prog 12 #[.int .i64 N, .slice a n cap, .agg (yC y0 y1 y2)] w fun e w' => e = .returned (.bool true) ∧ Below w.heap.size w w' := by
  have HB := Lib.hid (below_box0 w (.cells (yC y0 y1 y2) 80))
  have HM := Lib.hid (fun w => mkd_nil (w := w) (a := a) (cap := cap) N h)
  have HT := Lib.hid hT
  clear h hT
  go_enter Tryd.func12, Tryd.ntmps12
  go_wp2_with fail
  refine (HM.out _).mono ?_
  rintro e w1 ⟨rfl, b1⟩
  have B1 := Lib.hid (below_tr HB.out b1)
  clear b1
  go_wp2_with fail
  refine (awake_ok _ (HT.out.below B1.out)).mono ?_
  rintro e w2 ⟨rfl, b2⟩
  have B2 := Lib.hid (below_tr B1.out b2)
  clear b2
  go_wp2
  go_ret
  exact ⟨rfl, B2.out⟩
set_option maxRecDepth 100000 in
set_option maxHeartbeats 12800000 in
theorem broken_in (N : Nat) (h1 : 1 ≤ N) (h2 : N ≤ 145) (hn : n ≤ 40) (hC : SlC w a n C) (hT : Tab w) (hy0 : y0 < 65536) (hy1 : y1 < 65536) (hy2 : y2 < 65536) : Calls Tryd.prog 12 #[.int .i64 N, .slice a n cap, .agg (yC y0 y1 y2)] w fun e w' => e = .returned (.bool true) ∧ Below w.heap.size w w' := by
  have hB := below_box0 w (.cells (yC y0 y1 y2) 80)
  have HB := Lib.hid hB
  have HBX := Lib.hid (heap_alloc_new w (.cells (yC y0 y1 y2) 80))
  have HM := Lib.hid (mkd_ok (cap := cap) N h1 h2 hn (hC.below hB) (hT.below hB))
  have hG := RGood.mkM h1 C n
  have hl := (mkM_all h1 C n).2.2
  obtain ⟨X, hX⟩ : ∃ X, mkM N C n = X := ⟨_, rfl⟩
  rw [hX] at HM hG hl
  have HG := Lib.hid hG
  have HL := Lib.hid hl
  have HT := Lib.hid hT
  have HN := Lib.hid h2
  clear hG hl hX hC hT hB
  go_enter Tryd.func12, Tryd.ntmps12
  go_wp2_with fail
  have hsz : (w.alloc (.cells (yC y0 y1 y2) 80)).heap.size = w.heap.size + 1 := by simp
  generalize World.alloc _ _ = W0 at HM HB HBX hsz ⊢
  refine HM.out.mono ?_
  rintro e w1 ⟨rfl, m1, b1⟩
  have M1 := Lib.hid m1
  have B1 := Lib.hid (below_tr HB.out b1)
  have X1 := Lib.hid ((b1.block w.heap.size (by omega)).trans HBX.out)
  clear m1 b1 HM HB HBX hsz
  have HSV := Lib.hid (save_ok M1.out)
  rw [HL.out] at HSV
  go_wp2_with fail
  refine HSV.out.mono ?_
  rintro e w2 ⟨a2, c2, rfl, ⟨K2, L2, o2⟩, b2⟩
  have b3 := below_box0 w2 (.cells #[.int .i64 N, .slice a2 N c2] 45)
  obtain ⟨g, rfl⟩ : ∃ g, a2 = some ⟨g, 0, none⟩ := by
    obtain ⟨g, cp, hv, _⟩ := o2.row.form (by rw [stS_len, HL.out]; exact h1)
    injection hv with q1 q2 q3
    exact ⟨g, q1⟩
  have OS := Lib.hid (o2.below b3)
  have hlt1 := blk_lt X1.out
  have hb2 := b2.size
  have X3 := Lib.hid ((b3.block _ (by omega)).trans ((b2.block _ hlt1).trans X1.out))
  have B3 := Lib.hid (below_tr B1.out (below_tr b2 b3))
  have BX8 : Hid ((w2.alloc (.cells #[.int .i64 N, .slice (some ⟨g, 0, none⟩) N c2] 45)).heap[w2.heap.size]? = some (.cells #[.int .i64 N, .slice (some ⟨g, 0, none⟩) N c2] 45 (0, 0))) := Lib.hid (heap_alloc_new w2 _)
  have HG8 : Hid (g ≠ w2.heap.size) := Lib.hid (by have := (o2.row.lt g rfl).2; omega)
  have HGW : Hid (w.heap.size ≤ g) := Lib.hid (by have := (o2.row.lt g rfl).1; have := B1.out.size; omega)
  have HK8 : Hid (∀ i gk ck, i < N → K2 i = .slice (some ⟨gk, 0, none⟩) (rnOf (X.N i)).ks.length ck → gk ≠ w2.heap.size ∧ w.heap.size ≤ gk) := Lib.hid (fun i gk ck hi hK => by
    have o := o2.kid i (by rw [stS_len, HL.out]; exact hi)
    have := o.lt gk (by rw [hK]; rfl)
    have := B1.out.size
    exact ⟨by omega, by omega⟩)
  clear o2 b2 b3 HSV M1 B1 X1 hlt1 hb2
  obtain ⟨i, hi⟩ : ∃ i, y0 % N = i := ⟨_, rfl⟩
  have hiN : i < N := by rw [← hi]; exact Nat.mod_lt _ (by omega)
  have hm0 : ((y0 : Nat) : Int).tmod (N : Int) = (i : Int) := by rw [Int.tmod_eq_emod_of_nonneg (by omega), ← hi]; exact (Int.natCast_emod _ _).symm
  have hnz : ((N : Int) = 0) = False := by simp; omega
  have hnz' : ((N : Int) == 0) = false := by simp; omega
  have hwm : IntKind.i64.wrap (i : Int) = (i : Int) := IntWalk.i64_in _ (by omega)
  have hwy : IntKind.i64.wrap (y0 : Int) = (y0 : Int) := IntWalk.i64_in _ (by omega)
  clear hi
  have d := OS.out.nodeCells (j := i) (by rw [stS_len, HL.out]; exact hiN)
  have OK := Lib.hid (rn_ok HG.out (i := i) (by rw [HL.out]; exact hiN))
  have hget : (stS X).getD i rn0 = rnOf (X.N i) := stS_get X (by rw [HL.out]; exact hiN)
  rw [hget] at d
  obtain ⟨c0, ⟨ka, kc, ek, c1⟩, ⟨la, lc, el, c2'⟩⟩ := d
  have EK := Lib.hid ek
  have z0 : (w2.alloc (.cells #[.int .i64 N, .slice (some ⟨g, 0, none⟩) N c2] 45)).cell? ⟨w2.heap.size, 0, none⟩ = some (.int .i64 N) := by rw [cell_of_block BX8.out]; rfl
  have z1 : (w2.alloc (.cells #[.int .i64 N, .slice (some ⟨g, 0, none⟩) N c2] 45)).cell? ⟨w2.heap.size, 1, none⟩ = some (.slice (some ⟨g, 0, none⟩) N c2) := by rw [cell_of_block BX8.out]; rfl
  have x0 : (w2.alloc (.cells #[.int .i64 N, .slice (some ⟨g, 0, none⟩) N c2] 45)).cell? ⟨w.heap.size, 0, none⟩ = some (.int .u16 (y0 : Int)) := by rw [cell_of_block X3.out]; rfl
  have x1 : (w2.alloc (.cells #[.int .i64 N, .slice (some ⟨g, 0, none⟩) N c2] 45)).cell? ⟨w.heap.size, 1, none⟩ = some (.int .u16 (y1 : Int)) := by rw [cell_of_block X3.out]; rfl
  have x2 : (w2.alloc (.cells #[.int .i64 N, .slice (some ⟨g, 0, none⟩) N c2] 45)).cell? ⟨w.heap.size, 2, none⟩ = some (.int .u16 (y2 : Int)) := by rw [cell_of_block X3.out]; rfl
  have fz := OS.out.fz
  have gl := OS.out.blk.1
  have lw := blk_lt X3.out
  have l8 := blk_lt BX8.out
  have i0 : (0 : Int) ≤ (i : Int) := by omega
  have i1 : (i : Int) < (N : Int) := by omega
  have hnl : ((N : Int) == 0) = false := hnz'
  clear ek el hget
  go_upto_region 5 with fail
  generalize World.alloc _ _ = W3 at OS X3 B3 BX8 c0 c1 c2' z0 z1 x0 x1 x2 fz gl lw l8 ⊢
  obtain ⟨b8, hb8⟩ : ∃ b, w2.heap.size = b := ⟨_, rfl⟩
  rw [hb8] at BX8 HG8 HK8 z0 z1 l8 ⊢
  clear hb8
  go_upto_region 7 with fail
  go_quiet (fail)
  obtain ⟨W4, hW4⟩ : ∃ W, W3.drewN nq = W := ⟨_, rfl⟩
  have b4 : Below W3.heap.size W3 W4 := by rw [← hW4]; exact below_draw _ _
  rw [hW4]
  have OS4 := Lib.hid (OS.out.below b4)
  have B4 := Lib.hid (below_tr B3.out b4)
  have c0 := cell_later b4 c0
  have c1 := cell_later b4 c1
  have z0 := cell_later b4 z0
  have z1 := cell_later b4 z1
  have x1 := cell_later b4 x1
  have x2 := cell_later b4 x2
  have gl : g < W4.heap.size := Nat.lt_of_lt_of_le gl b4.size
  have lw : w.heap.size < W4.heap.size := Nat.lt_of_lt_of_le lw b4.size
  have l8 : b8 < W4.heap.size := Nat.lt_of_lt_of_le l8 b4.size
  have fz := OS4.out.fz
  clear hW4 b4 OS B3 BX8 X3 x0 c2'
  obtain ⟨nk, hnk⟩ : ∃ n, (rnOf (X.N i)).ks.length = n := ⟨_, rfl⟩
  have HNK := Lib.hid hnk
  rw [hnk] at c1
  have hlvb := OK.out.lo
  have hlvc := OK.out.hi
  obtain ⟨lv, hlv⟩ : ∃ l, (rnOf (X.N i)).lv = l := ⟨_, rfl⟩
  have HLV := Lib.hid hlv
  rw [hlv] at c0 hlvb hlvc
  obtain ⟨tv, hto⟩ : ∃ t, y2 % 150 = t := ⟨_, rfl⟩
  have htb : tv < 150 := by omega
  have hm2 : ((y2 : Nat) : Int).tmod 150 = (tv : Int) := by rw [Int.tmod_eq_emod_of_nonneg (by omega)]; omega
  have hm3 : ((y2 : Nat) : Int) % 150 = (tv : Int) := by omega
  clear hnk hlv hto
  by_cases hkid : y1 < 32768 ∧ nk ≠ 0
  · obtain ⟨hk1, hk2⟩ := hkid
    have d1 : decide ((32768 : Int) ≤ (y1 : Int)) = false := decide_eq_false (by omega)
    have d1' : decide (32768 ≤ y1) = false := decide_eq_false (by omega)
    have d2 : ((nk : Int) == 0) = false := by simp; omega
    go_upto_region 14 with fail
    obtain ⟨k, hk⟩ : ∃ k, y1 % nk = k := ⟨_, rfl⟩
    have hkn : k < nk := by rw [← hk]; exact Nat.mod_lt _ (by omega)
    have hm4 : ((y1 : Nat) : Int).tmod (nk : Int) = (k : Int) := by rw [Int.tmod_eq_emod_of_nonneg (by omega), ← hk]; exact (Int.natCast_emod _ _).symm
    have hnk0 : ((nk : Int) = 0) = False := by simp; omega
    have hnk16 : nk ≤ 16 := by rw [← HNK.out, OK.out.ks]; exact kN_le _
    have hwk : IntKind.i64.wrap (k : Int) = (k : Int) := IntWalk.i64_in _ (by omega)
    have hwy1 : IntKind.i64.wrap (y1 : Int) = (y1 : Int) := IntWalk.i64_in _ (by omega)
    have hiS : i < (stS X).length := by rw [stS_len, HL.out]; exact hiN
    have hget : (stS X).getD i rn0 = rnOf (X.N i) := stS_get X (by rw [HL.out]; exact hiN)
    have hkid := OS4.out.kid i hiS
    rw [hget, EK.out, HNK.out] at hkid
    obtain ⟨gk, hgk⟩ : ∃ gk, ka = some ⟨gk, 0, none⟩ := by
      obtain ⟨g', cp, hv, _⟩ := hkid.form (by omega)
      injection hv with q1 q2 q3
      exact ⟨g', q1⟩
    subst hgk
    have hkc := hkid.cellAt k (by omega)
    rw [intsV_get _ (by rw [HNK.out]; exact hkn)] at hkc
    have hkv : (rnOf (X.N i)).ks.getD k 0 = ((X.N i).kd k : Int) := by
      have hkl := HNK.out
      unfold rnOf at hkl ⊢
      simp only [List.length_map, List.length_range] at hkl
      rw [List.getD_eq_getElem?_getD, List.getElem?_map, List.getElem?_range (by omega)]; rfl
    rw [hkv] at hkc
    have hg8 := (HK8.out i gk kc hiN (by rw [HNK.out]; rw [EK.out, HNK.out])).1
    have hgw := (HK8.out i gk kc hiN (by rw [HNK.out]; rw [EK.out, HNK.out])).2
    have fk : ∀ j, W4.frozen? ⟨gk, j, none⟩ = false := fun j => by
      rcases hkid.2 with ⟨hv, _⟩ | ⟨g', cap, cur, hv, _, hh, _⟩
      · cases hv
      · simp only [Value.slice.injEq, Option.some.injEq, Addr.mk.injEq] at hv
        obtain ⟨⟨rfl, _⟩, _⟩ := hv
        exact unfrozen_of_block hh j
    have lk := (hkid.lt gk rfl).2
    have j0 : (0 : Int) ≤ (k : Int) := by omega
    have j1 : (k : Int) < (nk : Int) := by omega
    have HKN : Hid (k < (rnOf (X.N i)).ks.length) := Lib.hid (by rw [HNK.out]; exact hkn)
    have HST : Hid (∀ q v, StR ((W4.drewN q).setCell ⟨gk, k, none⟩ (.int .i64 v)) (some ⟨g, 0, none⟩) (setKd (stS X) i k v)) := Lib.hid (fun q v => (OS4.out.below (below_draw _ _)).strKd hiS (by rw [hget]; exact HKN.out) (by rw [hget, HNK.out, EK.out, HNK.out]) v)
    have HBD : Hid (∀ q, Below w.heap.size w (W4.drewN q)) := Lib.hid (fun q => below_tr B4.out (below_draw _ _))
    obtain ⟨kv, hkv'⟩ : ∃ z, (X.N i).kd k = z := ⟨_, rfl⟩
    rw [hkv'] at hkc
    have HKV := Lib.hid hkv'
    clear hk hkid hkv hkv' hget c0
    go_upto_region 14 with fail
    go_quiet (fail)
    by_cases heq : kv = tv
    · have de : ((kv : Int) == (tv : Int)) = true := by simp; omega
      have de' : (kv == tv) = true := by simpa using heq
      go_wp2_with fail
      refine (awake_ok _ (HT.out.below (HBD.out nq))).mono ?_
      rintro e w6 ⟨rfl, b6⟩
      have B6 := Lib.hid (below_tr (HBD.out nq) b6)
      clear b6
      go_wp2
      go_ret
      exact ⟨rfl, B6.out⟩
    · have de : ((kv : Int) == (tv : Int)) = false := by simp; omega
      have HE : Hid (ckE (N : Int) (setKd (stS X) i k (tv : Int)) = 6) := Lib.hid (by
        have := broken_kd HG.out (by rw [HL.out]; exact HN.out) (i := i) (k := k) (v := tv) (by rw [HL.out]; exact hiN) HKN.out (by rw [HKV.out]; exact heq)
        rwa [HL.out] at this)
      have HSL : Hid ((setKd (stS X) i k (tv : Int)).length = N) := Lib.hid (by unfold setKd; rw [List.length_set, stS_len, HL.out])
      have HLD : Hid (Calls Tryd.prog 30 #[.agg #[.int .i64 N, .slice (some ⟨g, 0, none⟩) N c2]] ((W4.drewN nq).setCell ⟨gk, k, none⟩ (.int .i64 tv)) fun e w' => e = .returned (.tuple #[.pointer none, .int .i64 6]) ∧ Below ((W4.drewN nq).setCell ⟨gk, k, none⟩ (.int .i64 tv)).heap.size ((W4.drewN nq).setCell ⟨gk, k, none⟩ (.int .i64 tv)) w') := Lib.hid (by
        have h := load_bad (c := c2) (N : Int) (by rw [HE.out]; decide) (HST.out nq (tv : Int)) (by rw [HSL.out]; have := HN.out; omega) (fun j => (setKd_lens (by rw [HL.out]; exact hiN) j).1) (fun j => (setKd_lens (by rw [HL.out]; exact hiN) j).2)
          (fun i' j' => by
            have e2 := (setKd_rest (S := stS X) (j := i') (k := k) (v := (tv : Int)) hiS).2.1
            rw [e2]; exact wd_bd HG.out i' j')
        rw [HE.out, HSL.out] at h
        exact h)
      have HBS := Lib.hid ((HBD.out nq).setCell (p := ⟨gk, k, none⟩) hgw (.int .i64 (tv : Int)))
      clear heq HE
      go_wp2_with fail
      refine HLD.out.mono ?_
      rintro e w6 ⟨rfl, b6⟩
      have B6 := Lib.hid (below_tr HBS.out b6)
      clear b6 HLD
      go_wp2_with fail
      refine (awake_ok _ (HT.out.below B6.out)).mono ?_
      rintro e w7 ⟨rfl, b7⟩
      have B7 := Lib.hid (below_tr B6.out b7)
      clear b7
      go_wp2
      go_ret
      exact ⟨rfl, B7.out⟩
  · have hiS : i < (stS X).length := by rw [stS_len, HL.out]; exact hiN
    have hways : decide ((32768 : Int) ≤ (y1 : Int)) = true ∨ (decide ((32768 : Int) ≤ (y1 : Int)) = false ∧ decide (32768 ≤ y1) = false ∧ ((nk : Int) == 0) = true) := by
      by_cases c : y1 < 32768
      · exact .inr ⟨decide_eq_false (by omega), decide_eq_false (by omega), by simp; omega⟩
      · exact .inl (decide_eq_true (by omega))
    obtain ⟨l, hl⟩ : ∃ l, ((tv % 5 : Nat) : Int) - 1 = l := ⟨_, rfl⟩
    have hl1 : -1 ≤ l := by omega
    have hl2 : l ≤ 3 := by omega
    have hm5 : ((tv : Nat) : Int).tmod 5 = ((tv % 5 : Nat) : Int) := by rw [Int.tmod_eq_emod_of_nonneg (by omega)]; omega
    have hm6 : ((tv : Nat) : Int) % 5 = ((tv % 5 : Nat) : Int) := by omega
    have hwl : IntKind.i64.wrap (((tv % 5 : Nat) : Int) - 1) = l := by rw [hl]; exact IntWalk.i64_in _ (by omega)
    have hwt : IntKind.i64.wrap ((tv % 5 : Nat) : Int) = ((tv % 5 : Nat) : Int) := IntWalk.i64_in _ (by omega)
    obtain ⟨t5, ht5⟩ : ∃ z, ((tv % 5 : Nat) : Int) = z := ⟨_, rfl⟩
    rw [ht5] at hm5 hm6 hwl hwt hl
    clear hkid
    rcases hways with d1 | ⟨d1, d1', d2⟩
    all_goals
      by_cases heq : lv = l
      · have de : (lv == l) = true := by simpa using heq
        go_wp2_with fail
        refine (awake_ok _ (HT.out.below B4.out)).mono ?_
        rintro e w6 ⟨rfl, b6⟩
        have B6 := Lib.hid (below_tr B4.out b6)
        clear b6
        go_wp2
        go_ret
        exact ⟨rfl, B6.out⟩
      · have de : (lv == l) = false := by simpa using heq
        have HE : Hid (ckE (N : Int) (setLv (stS X) i l) = 6) := Lib.hid (by
          have := broken_lv HG.out (by rw [HL.out]; exact HN.out) (i := i) (l := l) (by rw [HL.out]; exact hiN) hl1 hl2 (by have := HLV.out; exact fun e => heq (this.symm.trans e))
          rwa [HL.out] at this)
        have HSL : Hid ((setLv (stS X) i l).length = N) := Lib.hid (by unfold setLv; rw [List.length_set, stS_len, HL.out])
        have HST := Lib.hid (OS4.out.strLv hiS l)
        have HLD : Hid (Calls Tryd.prog 30 #[.agg #[.int .i64 N, .slice (some ⟨g, 0, none⟩) N c2]] (W4.setCell ⟨g, i * 3, none⟩ (.int .i64 l)) fun e w' => e = .returned (.tuple #[.pointer none, .int .i64 6]) ∧ Below (W4.setCell ⟨g, i * 3, none⟩ (.int .i64 l)).heap.size (W4.setCell ⟨g, i * 3, none⟩ (.int .i64 l)) w') := Lib.hid (by
          have h := load_bad (c := c2) (N : Int) (by rw [HE.out]; decide) HST.out (by rw [HSL.out]; have := HN.out; omega) (fun j => (setLv_lens (by rw [HL.out]; exact hiN) j).1) (fun j => (setLv_lens (by rw [HL.out]; exact hiN) j).2)
            (fun i' j' => by
              have e2 := (setLv_rest (S := stS X) (j := i') (l := l) hiS).2
              rw [e2]; exact wd_bd HG.out i' j')
          rw [HE.out, HSL.out] at h
          exact h)
        have HBS := Lib.hid (B4.out.setCell (p := ⟨g, i * 3, none⟩) HGW.out (.int .i64 l))
        have hg8 := HG8.out
        clear heq HE
        go_wp2_with fail
        refine HLD.out.mono ?_
        rintro e w6 ⟨rfl, b6⟩
        have B6 := Lib.hid (below_tr HBS.out b6)
        clear b6 HLD
        go_wp2_with fail
        refine (awake_ok _ (HT.out.below B6.out)).mono ?_
        rintro e w7 ⟨rfl, b7⟩
        have B7 := Lib.hid (below_tr B6.out b7)
        clear b7
        go_wp2
        go_ret
        exact ⟨rfl, B7.out⟩
/-- RadixBroken returns true -/
theorem law_broken (N : Int) (hC : SlC w a n C) (hT : Tab w) (hy0 : y0 < 65536) (hy1 : y1 < 65536) (hy2 : y2 < 65536) : Calls Tryd.prog 12 #[.int .i64 N, .slice a n cap, .agg (yC y0 y1 y2)] w fun e w' => e = .returned (.bool true) ∧ Below w.heap.size w w' := by
  by_cases h : N < 1 ∨ 145 < N ∨ 40 < n
  · exact broken_nil N h hT
  · obtain ⟨N', rfl⟩ := Int.eq_ofNat_of_zero_le (show 0 ≤ N by omega)
    exact broken_in N' (by omega) (by omega) (by omega) hC hT hy0 hy1 hy2
end
end Go.Proofs.YtfmclbacoffdaaaDoor

namespace Go.Proofs.YtfmclbacoffdaaaDoor
open Go.ChangeShapes Go.WideShapes Go.ChangeAt Go.RowKit Go.Joins Go.Deep
section
variable {H : Type} {enc : TypeId × Value → H} {W : World} {base : Nat}
set_option maxRecDepth 100000 in
theorem open_y3 {v : Value} {d : DataW H} {p : List MemPlace} (hv : Value.okWide Tryd.prog W .any base 80 v) (h : DataW.Trod enc Tryd.prog W 0 (fun _ => true) true 80 v d p) :
    ∃ y0 y1 y2 : Nat, v = .agg #[.int .u16 (y0 : Int), .int .u16 (y1 : Int), .int .u16 (y2 : Int)] ∧ y0 < 65536 ∧ y1 < 65536 ∧ y2 < 65536 := by
  have hC : Tryd.prog.cellsOf 80 = 3 := by kernel_rfl
  obtain ⟨xs, rfl, hsz⟩ : ∃ xs : Array Value, v = .agg xs ∧ xs.size = 3 := by
    simp only [Value.okWide, Tryd.underlying80] at hv
    obtain ⟨cs, h1, h2, _⟩ := hv
    exact ⟨cs, h1, by rw [h2, hC]⟩
  have hlen : xs.toList.length = 3 := by simpa using hsz
  obtain ⟨fuel, hf⟩ := h
  obtain ⟨ys, m, _, _, _, hyl, hg⟩ := DataW.trod_array Tryd.underlying80 hf
  have hk : Tryd.prog.cellsOf 79 = 1 := by kernel_rfl
  rw [hk] at hg
  have hx : xs = xs.toList.toArray := by simp
  have hg' : ∀ i, i < 3 → DataW.trod enc Tryd.prog W 0 (fun _ => true) true m 79 ((xs.toList.drop (i * 1)).take 1) = ys[i]? := hg
  rw [hx]
  generalize xs.toList = cs at hlen hg' ⊢
  match cs, hlen with
  | [v0, v1, v2], _ =>
    have key : ∀ i (hi : i < 3) v, (([v0, v1, v2].drop (i * 1)).take 1) = [v] → ∃ n : Nat, v = .int .u16 (n : Int) ∧ n < 65536 := fun i hi v hv => by
      have hys : ys[i]? = some (ys[i]'(by omega)) := List.getElem?_eq_getElem _
      have t := (hg' i hi).trans hys
      rw [hv] at t
      obtain ⟨n, e, _, wf⟩ := DataW.trod_int Tryd.underlying79 t
      cases e
      have b := bounds_u16 wf
      obtain ⟨n', rfl⟩ := Int.eq_ofNat_of_zero_le b.1
      exact ⟨n', rfl, by omega⟩
    obtain ⟨n0, rfl, b0⟩ := key 0 (by omega) _ rfl
    obtain ⟨n1, rfl, b1⟩ := key 1 (by omega) _ rfl
    obtain ⟨n2, rfl, b2⟩ := key 2 (by omega) _ rfl
    exact ⟨n0, n1, n2, rfl, b0, b1, b2⟩
end
end Go.Proofs.YtfmclbacoffdaaaDoor

namespace Go.Proofs.YtfmclbacoffdaaaDoor.radixBroken
open Go.ChangeShapes Go.WideShapes Go.ChangeAt Go.RowKit

set_option maxRecDepth 100000 in
theorem contract (H : Type) (enc : TypeId × Value → H) (W : World) (base : Nat) (args : Array Value) (ds gs : List (DataW H)) (before : List MemPlace)
    (hval : ∀ (j : Nat) t v, Tryd.f12.params[j]? = some t → args[j]? = some v → Value.okWide Tryd.prog W .any base t v)
    (hW : DataW.Whole enc Tryd.prog Tryd.f12.params.toList Rows.radixBrokenSpec.vars false W args.toList ds gs before) (hL : laidMetH Tryd.prog Rows.radixBrokenRow.laid W) :
    Calls Tryd.prog 12 args W fun e W' => ∃ v, e = .returned v ∧ Rows.radixBrokenSpec.post enc Tryd.prog Tryd.f12 false true false false W args v W' := by
  have hW' := hW
  obtain ⟨p, q, hA0, hV, rfl, hfz, hnd⟩ := hW
  have hA : DataW.TrodAll enc Tryd.prog W 0 (fun _ => true) true Tryd.f12.params.toList args.toList ds p := hA0
  rw [Tryd.params12] at hA hval
  obtain ⟨v0, vs0, d0, ds0, p0, q0, hargs, rfl, rfl, h0, r0⟩ := trodAll_cons hA
  obtain ⟨v1, vs1, d1, ds1, p1, q1, rfl, rfl, rfl, h1, r1⟩ := trodAll_cons r0
  obtain ⟨v2, vs2, d2, ds2, p2, q2, rfl, rfl, rfl, h2, r2⟩ := trodAll_cons r1
  obtain ⟨rfl, rfl, rfl⟩ := trodAll_nil r2
  obtain rfl : args = #[v0, v1, v2] := by cases args; simp_all
  obtain ⟨rfl, rfl⟩ := trodVars_none hV
  obtain ⟨x0, rfl, rfl, rfl, w0⟩ := open_int Tryd.underlying3 (hval 0 3 v0 rfl rfl) h0
  have b0 := bounds_i64 w0
  obtain ⟨a1, l1, c1, C1, rfl, hC1, ll1, cb1⟩ := open_calls7 (hval 1 32 v1 rfl rfl) h1
  obtain ⟨ya2, yb2, yc2, rfl, by02, by12, by22⟩ := open_y3 (hval 2 80 v2 rfl rfl) h2
  refine (law_broken x0 hC1 (tab_of hL) by02 by12 by22).mono fun e W' ⟨he, hb⟩ => ?_
  exact ⟨_, he, law_post hW' rfl (by rw [Tryd.params12]; kernel_rfl) rfl rfl rfl rfl hb⟩

theorem laid_met (os : Os) : laidMet Tryd.prog Rows.radixBrokenRow.laid ((laidWorld os).forCall (fun _ _ => 0) ⟨#[], #[.int .i64 0, .slice none 0 0, .agg #[.int .u16 0, .int .u16 0, .int .u16 0]], []⟩).memory :=
  laidMet_of_run' 8 (by kernel_rfl) (by kernel_rfl)
theorem reads (os : Os) {H : Type} (enc : TypeId × Value → H) : ∃ places, DataW.whole enc Tryd.prog ((laidWorld os).forCall (fun _ _ => 0) ⟨#[], #[.int .i64 0, .slice none 0 0, .agg #[.int .u16 0, .int .u16 0, .int .u16 0]], []⟩).memory Tryd.f12.params.toList Rows.radixBrokenSpec.vars false #[Value.int .i64 0, Value.slice none 0 0, Value.agg #[.int .u16 0, .int .u16 0, .int .u16 0]].toList 8 = some ([.lit (.int .i64 0), .nil, .agg [.lit (.int .u16 0), .lit (.int .u16 0), .lit (.int .u16 0)]], [], places) :=
  ⟨[], by kernel_rfl⟩

set_option maxRecDepth 100000 in
theorem lifted (os : Os) (started : os.Started) (H : Type) (enc : TypeId × Value → H) (F : Stop.Interp) :
    ReturnsInHanded {} Tryd.checked os 12 .any ((OpenSpec.ofChange Rows.radixBrokenSpec).preRow enc Tryd.prog Tryd.f12 Rows.radixBrokenRow.domain false Rows.radixBrokenRow.laid) (((OpenSpec.ofChange Rows.radixBrokenSpec).at F).post enc Tryd.prog Tryd.f12 false true false false) := by
  obtain ⟨places, hx⟩ := reads os enc
  refine returnsInHanded_of_row (C := Tryd.checked) (s := OpenSpec.ofChange Rows.radixBrokenSpec) own started (by kernel_rfl) Tryd.func12
    (witness_row_at (enc := enc) (C := Tryd.checked) false (laidWorld os) #[.int .i64 0, .slice none 0 0, .agg #[.int .u16 0, .int .u16 0, .int .u16 0]] rfl (by kernel_rfl) (by kernel_rfl) (by kernel_rfl)
      (OpenSpec.preRow_of_cond 8 hx (by kernel_rfl) (fun k hk => by cases hk) (by kernel_rfl) (laid_met os))) ?_
  intro W base args ds gs before hval hW _ _ _ hL _ _
  exact contract H enc W base args ds gs before hval hW hL

theorem said : Rows.RadixBrokenSaid :=
  OpenClaim.holds_of_cond 12 Tryd.f12 rfl rfl rfl rfl rfl rfl rfl ⟨rfl, rfl, rfl, rfl, rfl⟩ rfl rfl rfl rfl rfl (by kernel_rfl) Tryd.func12 (by kernel_rfl)
    (of_decide_eq_true (by kernel_rfl)) (by unfold Func.isWrapper; first | (rw [if_pos (by decide +kernel)]; kernel_rfl) | (rw [if_neg (by decide +kernel)]; exact ⟨rfl, rfl⟩))
    (fun os started H enc _ F => by rw [OpenClaim.pre_eq_preRow]; exact lifted os started H enc F)

theorem plain (f : FuncId) (fn : Func) (hf : Tryd.pinned.checked.prog.funcNamed "polder/polderlaw07.RadixBroken" = some f) (hfn : Tryd.pinned.checked.prog.funcs[f]? = some fn) :
    false = Tryd.pinned.checked.prog.looks [] ∧ ∀ (j : Nat) t, fn.params[j]? = some t → Tryd.pinned.checked.prog.wantsStandIn t = false := by
  obtain rfl : f = 12 := Option.some.inj ((show Tryd.prog.funcNamed "polder/polderlaw07.RadixBroken" = some 12 by kernel_rfl).symm.trans hf) |>.symm
  obtain rfl : fn = Tryd.f12 := (Option.some.inj (Tryd.func12.symm.trans hfn)).symm
  refine ⟨by kernel_rfl, fun j t ht => ?_⟩
  rw [Tryd.params12] at ht
  have hm : t ∈ [3, 32, 80] := by simpa using Array.mem_of_getElem? ht
  have hall : ([3, 32, 80].all fun u => !Tryd.prog.wantsStandIn u) = true := by kernel_rfl
  exact (show Tryd.prog.wantsStandIn t = false by simpa using List.all_eq_true.1 hall t hm)

/-- THE CARD. -/
theorem card : Rows.RadixBrokenCardSaid :=
  Claim7.holds_tied_plain_at .later [] _ _ _ _ said (fun _ h => by cases h) (by kernel_rfl) (fun _ h => by cases h) radixBroken_row_tie rfl ⟨rfl, rfl⟩ (by kernel_rfl) rfl plain (by kernel_rfl)
#print axioms card
end Go.Proofs.YtfmclbacoffdaaaDoor.radixBroken
