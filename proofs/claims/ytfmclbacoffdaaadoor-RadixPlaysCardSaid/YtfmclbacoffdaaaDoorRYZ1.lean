/- The radix map, plain: a state in which a level or a kid is another one is refused. | The radix map: one cell of a state that the call has made is stored; the state is read. | The radix map: a state that the call has made: a node, a kid, a word is stored; a box beside it. | The radix map, plain: the states between the steps of a put and a drop of the reference. | The radix map, plain: Check of the reference says what Check says; the state of what is loaded. -/
import Derived.Test.YtfmclbacoffdaaaDoorRSZ3
import Derived.Test.YtfmclbacoffdaaaDoorRSZ1
import Derived.Test.YtfmclbacoffdaaaDoorRSZ5
namespace Go.Proofs.YtfmclbacoffdaaaDoor
/-- a node of a state changed -/
def setLv (S : List Rn) (i : Nat) (l : Int) : List Rn := S.set i { S.getD i rn0 with lv := l }
def setKd (S : List Rn) (i k : Nat) (v : Int) : List Rn := S.set i { S.getD i rn0 with ks := (S.getD i rn0).ks.set k v }
theorem setR_get {S : List Rn} {i j : Nat} {y : Rn} (hi : i < S.length) : (S.set i y).getD j rn0 = if j = i then y else S.getD j rn0 := by
  simp only [List.getD, List.getElem?_set]
  by_cases e : i = j
  · subst e; simp [hi]
  · rw [if_neg e, if_neg (fun h => e h.symm)]
theorem ckE_wrong {S : List Rn} {N j : Nat} (hl : S.length = N) (h1 : 1 ≤ N) (h2 : N ≤ 145) (hj : j < N) (h : wrI S j = true) : ckE (N : Int) S = 6 := by
  unfold ckE
  rw [if_neg (by omega), hl, if_neg (fun h => h rfl), if_pos]
  refine Classical.byContradiction fun hge => ?_
  have e : ckI S = nxt (wrI S) 0 S.length := rfl
  have := (nxt_spec (p := wrI S) (Nat.zero_le S.length)).2.2.1 j (Nat.zero_le _) (by omega)
  rw [h] at this
  exact absurd this (by decide)
theorem wrI_sz {S : List Rn} {j : Nat} (h : szBad (S.getD j rn0) j = true) : wrI S j = true := by
  unfold wrI wrN
  rw [h]; rfl
theorem wrI_kid {S : List Rn} {j : Nat} {k : Int} (hk : k ∈ (S.getD j rn0).ks) (h : badK S (S.getD j rn0) k = true) : wrI S j = true := by
  unfold wrI wrN
  rw [show (S.getD j rn0).ks.any (badK S (S.getD j rn0)) = true from List.any_eq_true.2 ⟨k, hk, h⟩]
  simp
theorem wrI_tms {S : List Rn} {j : Nat} (hp : 0 < (S.getD j rn0).lv) (h : tmS S S j ≠ 1) : wrI S j = true := by
  unfold wrI wrN
  have : (((tmS S S j : Nat) : Int) != 1) = true := by simp; omega
  rw [this, decide_eq_true hp]
  simp
section
variable {X : RM}
theorem broken_lv (h : RGood X) (hn : X.st.length ≤ 145) {i : Nat} (hi : i < X.st.length) {l : Int} (h1 : -1 ≤ l) (h2 : l ≤ 3) (hne : (X.N i).lv ≠ l) : ckE (X.st.length : Int) (setLv (stS X) i l) = 6 := by
  have hlen : (setLv (stS X) i l).length = X.st.length := by unfold setLv; rw [List.length_set, stS_len]
  refine ckE_wrong hlen h.a.i.n1 hn hi (wrI_sz ?_)
  have hg : (setLv (stS X) i l).getD i rn0 = ⟨l, (rnOf (X.N i)).ks, (rnOf (X.N i)).ws⟩ := by
    unfold setLv
    rw [setR_get (by rw [stS_len]; exact hi), if_pos rfl, stS_get X hi]
  rw [hg]
  have ok := rn_ok h hi
  have hlo := ok.lo
  have hhi := ok.hi
  have hz := ok.z
  have hk := ok.ks
  have hw := ok.ws
  have hlv : (rnOf (X.N i)).lv = (X.N i).lv := rfl
  rw [hlv] at hlo hhi hz hk hw
  unfold szBad
  show (decide (l < -1) || decide (2 < l) || ((l == 0) != ((i : Int) == 0)) || (((rnOf (X.N i)).ks.length : Int) != (kN l : Int)) || (((rnOf (X.N i)).ws.length : Int) != (wN l : Int))) = true
  rw [hk, hw]
  generalize (X.N i).lv = v at *
  have hv : v = -1 ∨ v = 0 ∨ v = 1 ∨ v = 2 := by omega
  have hl : l = -1 ∨ l = 0 ∨ l = 1 ∨ l = 2 ∨ l = 3 := by omega
  have hi0 : ((i : Int) == 0) = decide (v = 0) := by
    by_cases c : v = 0
    · have := hz.1 c; subst this; simp [c]
    · have d : i ≠ 0 := fun e => c (hz.2 e)
      simp [c, d]
  rw [hi0]
  rcases hv with rfl | rfl | rfl | rfl <;> rcases hl with rfl | rfl | rfl | rfl | rfl <;> first | rfl | exact absurd rfl hne
theorem lvA_kid {S : List Rn} {i k : Nat} {v : Int} (hi : i < S.length) (u : Int) : lvA (setKd S i k v) u = lvA S u := by
  unfold lvA setKd
  rw [setR_get hi]
  by_cases e : u.toNat = i
  · rw [if_pos e, e]
  · rw [if_neg e]
/-- how many times a number is a kid, when one kid is another one -/
theorem tmS_kid {S : List Rn} {i k : Nat} {v : Int} (hi : i < S.length) (hk : k < (S.getD i rn0).ks.length) (t : Nat) :
    tmS (setKd S i k v) (setKd S i k v) t + (if (isK S (S.getD i rn0) ((S.getD i rn0).ks.getD k 0) && ((S.getD i rn0).ks.getD k 0 == (t : Int))) = true then 1 else 0) = tmS S S t + (if (isK S (S.getD i rn0) v && (v == (t : Int))) = true then 1 else 0) := by
  have hlen : (setKd S i k v).length = S.length := by unfold setKd; rw [List.length_set]
  have hisK : ∀ (x : Rn) (u : Int), isK (setKd S i k v) x u = isK S x u := fun x u => by unfold isK; rw [lvA_kid hi, hlen]
  have hisR : ∀ (ks : List Int) (u : Int), isK S { S.getD i rn0 with ks := ks } u = isK S (S.getD i rn0) u := fun _ _ => rfl
  rw [tmS_sum, tmS_sum S, hlen]
  have hne : ∀ j, j < S.length → j ≠ i → tmK S (S.getD j rn0) (S.getD j rn0).ks t = tmK (setKd S i k v) ((setKd S i k v).getD j rn0) ((setKd S i k v).getD j rn0).ks t := fun j _ hne => by
    have : (setKd S i k v).getD j rn0 = S.getD j rn0 := by unfold setKd; rw [setR_get hi, if_neg hne]
    rw [this]
    unfold tmK
    exact congrArg (fun p => List.countP p (S.getD j rn0).ks) (funext fun u => by rw [hisK])
  have hat := sumN_at (k := i) S.length hi hne
  have hi2 : (setKd S i k v).getD i rn0 = { S.getD i rn0 with ks := (S.getD i rn0).ks.set k v } := by unfold setKd; rw [setR_get hi, if_pos rfl]
  have hset : tmK (setKd S i k v) ((setKd S i k v).getD i rn0) ((setKd S i k v).getD i rn0).ks t + (if (isK S (S.getD i rn0) ((S.getD i rn0).ks.getD k 0) && ((S.getD i rn0).ks.getD k 0 == (t : Int))) = true then 1 else 0) = tmK S (S.getD i rn0) (S.getD i rn0).ks t + (if (isK S (S.getD i rn0) v && (v == (t : Int))) = true then 1 else 0) := by
    rw [hi2]
    unfold tmK
    show ((S.getD i rn0).ks.set k v).countP (fun u => isK (setKd S i k v) { S.getD i rn0 with ks := (S.getD i rn0).ks.set k v } u && u == (t : Int)) + _ = _
    have e : (fun u => isK (setKd S i k v) { S.getD i rn0 with ks := (S.getD i rn0).ks.set k v } u && u == (t : Int)) = fun u => isK S (S.getD i rn0) u && u == (t : Int) := funext fun u => by rw [hisK, hisR]
    rw [e]
    have hL : (S.getD i rn0).ks.getD k 0 = (S.getD i rn0).ks[k] := by
      rw [List.getD_eq_getElem?_getD, List.getElem?_eq_getElem hk]; rfl
    rw [hL, List.countP_set hk]
    have hpos : (isK S (S.getD i rn0) (S.getD i rn0).ks[k] && (S.getD i rn0).ks[k] == (t : Int)) = true → 0 < (S.getD i rn0).ks.countP fun u => isK S (S.getD i rn0) u && u == (t : Int) := fun h => List.countP_pos_iff.2 ⟨_, List.getElem_mem hk, h⟩
    by_cases c : (isK S (S.getD i rn0) (S.getD i rn0).ks[k] && (S.getD i rn0).ks[k] == (t : Int)) = true
    · have := hpos c
      rw [if_pos c]
      omega
    · rw [if_neg c]
      omega
  omega
theorem isK_hit {S : List Rn} {x : Rn} {u t : Nat} (h0 : 0 ≤ x.lv) (h2 : x.lv ≤ 2) (hu : u < S.length) (hl : lvA S (u : Int) = x.lv + 1) (e : u = t) : (isK S x (u : Int) && ((u : Int) == (t : Int))) = true := by
  rw [isK_pure rfl (by omega) rfl (IntWalk.i64_in _ (by omega))]
  subst e
  exact decide_eq_true ⟨⟨h0, hl⟩, rfl⟩
theorem isK_miss {S : List Rn} {x : Rn} {u t : Int} (e : u ≠ t) : ¬ (isK S x u && (u == t)) = true := by
  have : (u == t) = false := by simpa using e
  rw [this, Bool.and_false]; decide
theorem broken_kd (h : RGood X) (hn : X.st.length ≤ 145) {i k v : Nat} (hi : i < X.st.length) (hk : k < (rnOf (X.N i)).ks.length) (hne : (X.N i).kd k ≠ v) : ckE (X.st.length : Int) (setKd (stS X) i k v) = 6 := by
  have hlen : (setKd (stS X) i k v).length = X.st.length := by unfold setKd; rw [List.length_set, stS_len]
  have hiS : i < (stS X).length := by rw [stS_len]; exact hi
  have hget : (stS X).getD i rn0 = rnOf (X.N i) := stS_get X hi
  have hg : (setKd (stS X) i k v).getD i rn0 = { rnOf (X.N i) with ks := (rnOf (X.N i)).ks.set k v } := by
    unfold setKd
    rw [setR_get hiS, if_pos rfl, hget]
  have hother : ∀ j, j ≠ i → (setKd (stS X) i k v).getD j rn0 = (stS X).getD j rn0 := fun j hj => by unfold setKd; rw [setR_get hiS, if_neg hj]
  have ok := rn_ok h hi
  have hkl := ok.ks
  have hlo := ok.lo
  have hhi := ok.hi
  have hlv : (rnOf (X.N i)).lv = (X.N i).lv := rfl
  rw [hlv] at hkl hlo hhi
  have hlv0 : 0 ≤ (X.N i).lv ∧ (X.N i).lv ≤ 1 := by
    rw [hkl] at hk
    unfold kN at hk
    by_cases c0 : (X.N i).lv = 0
    · omega
    · rw [if_neg c0] at hk
      by_cases c1 : (X.N i).lv = 1
      · omega
      · rw [if_neg c1] at hk; omega
  have hold : (rnOf (X.N i)).ks.getD k 0 = ((X.N i).kd k : Int) := by
    rw [hkl] at hk
    show ((List.range (kN (X.N i).lv)).map fun k => ((X.N i).kd k : Int)).getD k 0 = _
    rw [List.getD_eq_getElem?_getD, List.getElem?_map, List.getElem?_range hk]; rfl
  have hmem : (v : Int) ∈ ((setKd (stS X) i k v).getD i rn0).ks := by
    rw [hg]
    exact List.mem_iff_getElem.2 ⟨k, by simpa using hk, by simp⟩
  have hcount := fun t => tmS_kid (v := (v : Int)) hiS (by rw [hget]; exact hk) t
  simp only [hget, hold] at hcount
  have hl1 : lv1 ({ rnOf (X.N i) with ks := (rnOf (X.N i)).ks.set k v } : Rn) = (X.N i).lv + 1 := IntWalk.i64_in ((X.N i).lv + 1) (by omega)
  by_cases c1 : X.st.length ≤ v
  · refine ckE_wrong hlen h.a.i.n1 hn hi (wrI_kid hmem ?_)
    unfold badK
    rw [hlen, decide_eq_true (show (X.st.length : Int) ≤ (v : Int) by omega)]
    simp
  by_cases c0 : v = 0
  · -- the old kid is no kid any more
    subst c0
    obtain ⟨u, hu⟩ : ∃ u, (X.N i).kd k = u := ⟨_, rfl⟩
    have hm : ((u : Nat) : Int) ∈ (rnOf (X.N i)).ks := by
      rw [← hu, ← hold, List.getD_eq_getElem?_getD, List.getElem?_eq_getElem hk]
      exact List.getElem_mem hk
    obtain ⟨k1, k2, k3⟩ := ok.k _ hm
    rw [stS_len] at k2
    have hu0 : u ≠ 0 := by rw [← hu]; exact hne
    have hul := k3 (by omega)
    rw [hlv, stS_lvA X (by omega)] at hul
    have hcu := hcount u
    rw [hu, if_pos (isK_hit (show 0 ≤ (rnOf (X.N i)).lv from hlv0.1) (by rw [hlv]; omega) (by rw [stS_len]; omega) (by rw [stS_lvA X (by omega), hul, hlv]) rfl), if_neg (isK_miss (by omega)), tmS_st h (by omega) (by omega)] at hcu
    refine ckE_wrong hlen h.a.i.n1 hn (show u < X.st.length by omega) (wrI_tms ?_ (by omega))
    by_cases e : u = i
    · subst e; omega
    · rw [hother u e, stS_get X (by omega)]
      show 0 < (X.N u).lv
      omega
  · by_cases c2 : (X.N v).lv = (X.N i).lv + 1
    · -- it is a kid twice
      have hcv := hcount v
      rw [if_neg (isK_miss (by omega)), if_pos (isK_hit (show 0 ≤ (rnOf (X.N i)).lv from hlv0.1) (by rw [hlv]; omega) (by rw [stS_len]; omega) (by rw [stS_lvA X (by omega), c2, hlv]) rfl), tmS_st h (by omega) (by omega)] at hcv
      refine ckE_wrong hlen h.a.i.n1 hn (show v < X.st.length by omega) (wrI_tms ?_ (by omega))
      by_cases e : v = i
      · subst e; omega
      · rw [hother v e, stS_get X (by omega)]
        show 0 < (X.N v).lv
        omega
    · refine ckE_wrong hlen h.a.i.n1 hn hi (wrI_kid hmem ?_)
      rw [hg]
      unfold badK
      rw [hl1]
      have e : lvA (setKd (stS X) i k v) (v : Int) = (X.N v).lv := by rw [lvA_kid hiS, stS_lvA X (by omega)]
      rw [e]
      have d1 : decide ((0 : Int) < (v : Int)) = true := decide_eq_true (by omega)
      have d2 : ((X.N v).lv != (X.N i).lv + 1) = true := by simpa using c2
      rw [d1, d2]
      simp
end
end Go.Proofs.YtfmclbacoffdaaaDoor

namespace Go.Proofs.YtfmclbacoffdaaaDoor
open Go.RowKit Go.Sort Go.Joins
theorem own_setI {w : World} {base : Nat} {e : TypeId} {n : Nat} {xs : List Value} {g cap i : Nat} (h : w.ownsRow base e 1 (.slice (some ⟨g, 0, none⟩) n cap) n xs) (hi : i < n) (u : Value) :
    (w.setCell ⟨g, i, none⟩ u).ownsRow base e 1 (.slice (some ⟨g, 0, none⟩) n cap) n (xs.set i u) := by
  refine ⟨by rw [List.length_set]; exact h.1, ?_⟩
  rcases h.2 with ⟨h1, _⟩ | ⟨g', cap', cur, e1, e2, e3, e4, e5, e6, e7⟩
  · cases h1
  · simp only [Value.slice.injEq, Option.some.injEq, Addr.mk.injEq, and_true, true_and] at e1
    obtain ⟨rfl, rfl⟩ := e1
    refine .inr ⟨g, cap, cur.setIfInBounds i u, rfl, e2, setCell_block e3 u, e4, e5, by simpa using e6, ?_⟩
    rw [Array.toList_setIfInBounds, List.take_set, e7]
section
variable {w : World} {B g n c : Nat} {K L : Nat → Value} {S : List Rn}
theorem OSt.nodeCells (h : OSt w B (.slice (some ⟨g, 0, none⟩) n c) K L S) {j : Nat} (hj : j < S.length) :
    w.cell? ⟨g, j * 3, none⟩ = some (.int .i64 (S.getD j rn0).lv) ∧ (∃ a c, K j = .slice a (S.getD j rn0).ks.length c ∧ w.cell? ⟨g, j * 3 + 1, none⟩ = some (.slice a (S.getD j rn0).ks.length c)) ∧ (∃ a c, L j = .slice a (S.getD j rn0).ws.length c ∧ w.cell? ⟨g, j * 3 + 2, none⟩ = some (.slice a (S.getD j rn0).ws.length c)) := by
  have hn : n = S.length := by
    rcases h.row.2 with ⟨hv, _⟩ | ⟨g', cap, cur, hv, _⟩
    · cases hv
    · simp only [Value.slice.injEq] at hv; exact hv.2.1
  subst hn
  obtain ⟨c0, c1, c2⟩ := rnC_get K L S hj
  have hc := fun k (hk : k < S.length * 3) => h.row.cellAt k hk
  obtain ⟨ka, kc, hk⟩ := own_slice' (h.kid j hj)
  obtain ⟨la, lc, hl⟩ := own_slice' (h.wrd j hj)
  exact ⟨(hc _ (by omega)).trans c0, ⟨ka, kc, hk, (hc _ (by omega)).trans (by rw [c1, hk])⟩, ⟨la, lc, hl, (hc _ (by omega)).trans (by rw [c2, hl])⟩⟩
theorem OSt.blk (h : OSt w B (.slice (some ⟨g, 0, none⟩) n c) K L S) : g < w.heap.size ∧ B ≤ g := by
  have := h.row.lt g rfl
  exact ⟨this.2, this.1⟩
theorem OSt.fz (h : OSt w B (.slice (some ⟨g, 0, none⟩) n c) K L S) (j : Nat) : w.frozen? ⟨g, j, none⟩ = false := by
  rcases h.row.2 with ⟨hv, _⟩ | ⟨g', cap, cur, hv, _, hh, _⟩
  · cases hv
  · simp only [Value.slice.injEq, Option.some.injEq, Addr.mk.injEq] at hv
    obtain ⟨⟨rfl, _⟩, _⟩ := hv
    exact unfrozen_of_block hh j
theorem OSt.kne (h : OSt w B (.slice (some ⟨g, 0, none⟩) n c) K L S) {j : Nat} (hj : j < S.length) : (K j).ownBlock ≠ some g ∧ (L j).ownBlock ≠ some g := by
  constructor
  · rcases own_apartW (h.kid j hj) h.row u_ri with e | e
    · rw [e]; exact fun h => by cases h
    · exact e
  · rcases own_apartW (h.wrd j hj) h.row u_ru with e | e
    · rw [e]; exact fun h => by cases h
    · exact e
theorem setLv_get {i j : Nat} {l : Int} (hi : i < S.length) : (setLv S i l).getD j rn0 = if j = i then { S.getD i rn0 with lv := l } else S.getD j rn0 := setR_get hi
theorem setKd_get {i j k : Nat} {v : Int} (hi : i < S.length) : (setKd S i k v).getD j rn0 = if j = i then { S.getD i rn0 with ks := (S.getD i rn0).ks.set k v } else S.getD j rn0 := setR_get hi
theorem setLv_rest {i j : Nat} {l : Int} (hi : i < S.length) : ((setLv S i l).getD j rn0).ks = (S.getD j rn0).ks ∧ ((setLv S i l).getD j rn0).ws = (S.getD j rn0).ws := by
  rw [setLv_get hi]
  by_cases e : j = i
  · rw [if_pos e, e]; exact ⟨rfl, rfl⟩
  · rw [if_neg e]; exact ⟨rfl, rfl⟩
theorem setKd_rest {i j k : Nat} {v : Int} (hi : i < S.length) : ((setKd S i k v).getD j rn0).lv = (S.getD j rn0).lv ∧ ((setKd S i k v).getD j rn0).ws = (S.getD j rn0).ws ∧ ((setKd S i k v).getD j rn0).ks.length = (S.getD j rn0).ks.length := by
  rw [setKd_get hi]
  by_cases e : j = i
  · rw [if_pos e, e]; exact ⟨rfl, rfl, List.length_set⟩
  · rw [if_neg e]; exact ⟨rfl, rfl, rfl⟩
theorem cell_same {w : World} {a : Addr} {v u : Value} (h : w.cell? a = some u) : (w.setCell a v).cell? a = some v := by
  exact World.cell?_setCell_same' w a v (by rw [h]; rfl)
/-- a level is stored -/
theorem OSt.strLv (h : OSt w B (.slice (some ⟨g, 0, none⟩) n c) K L S) {i : Nat} (hi : i < S.length) (l : Int) : StR (w.setCell ⟨g, i * 3, none⟩ (.int .i64 l)) (some ⟨g, 0, none⟩) (setLv S i l) := by
  have hlen : (setLv S i l).length = S.length := by unfold setLv; rw [List.length_set]
  refine .inr ⟨g, 0, rfl, by simpa [World.setCell] using h.blk.1, fun j hj => ?_⟩
  rw [hlen] at hj
  obtain ⟨c0, ⟨ka, kc, e1, c1⟩, ⟨la, lc, e2, c2⟩⟩ := h.nodeCells hj
  obtain ⟨n1, n2⟩ := h.kne hj
  have o1 := ownsRow_setCell_other (h.kid j hj) (a := ⟨g, i * 3, none⟩) n1 (.int .i64 l)
  have o2 := ownsRow_setCell_other (h.wrd j hj) (a := ⟨g, i * 3, none⟩) n2 (.int .i64 l)
  rw [e1] at o1
  rw [e2] at o2
  obtain ⟨hks, hws⟩ := setLv_rest (j := j) (l := l) hi
  have hoff : ∀ d, 0 < d → d < 3 → ∀ u, w.cell? ⟨g, j * 3 + d, none⟩ = some u → (w.setCell ⟨g, i * 3, none⟩ (.int .i64 l)).cell? ⟨g, j * 3 + d, none⟩ = some u := fun d h0 h3 u hu => by
    rw [World.cell?_setCell_other _ _ _ _ (fun e => by have := congrArg Addr.off e; simp only at this; omega)]
    exact hu
  rw [Nat.zero_add]
  refine ⟨?_, ⟨ka, kc, by rw [hks]; exact hoff 1 (by decide) (by decide) _ c1, ?_⟩, ⟨la, lc, by rw [hws]; exact hoff 2 (by decide) (by decide) _ c2, ?_⟩⟩
  · rw [setLv_get hi]
    by_cases e : j = i
    · subst e
      rw [if_pos rfl]
      exact cell_same c0
    · rw [if_neg e, World.cell?_setCell_other _ _ _ _ (fun e2 => by have := congrArg Addr.off e2; simp only at this; omega)]
      exact c0
  · show SlN _ ka ((setLv S i l).getD j rn0).ks.length (fun q => .int .i64 (((setLv S i l).getD j rn0).ks.getD q 0))
    rw [hks]
    exact SlN.of_own o1 fun k hk => intsV_get _ hk
  · show SlN _ la ((setLv S i l).getD j rn0).ws.length (fun q => .int .u64 (((setLv S i l).getD j rn0).ws.getD q 0 : Nat))
    rw [hws]
    exact SlN.of_own o2 fun k hk => u64s_getD _ hk
/-- a kid is stored -/
theorem OSt.strKd (h : OSt w B (.slice (some ⟨g, 0, none⟩) n c) K L S) {i k gk ck : Nat} (hi : i < S.length) (hk : k < (S.getD i rn0).ks.length) (hK : K i = .slice (some ⟨gk, 0, none⟩) (S.getD i rn0).ks.length ck) (v : Int) :
    StR (w.setCell ⟨gk, k, none⟩ (.int .i64 v)) (some ⟨g, 0, none⟩) (setKd S i k v) := by
  have hlen : (setKd S i k v).length = S.length := by unfold setKd; rw [List.length_set]
  have hgk : gk ≠ g := fun e => (h.kne hi).1 (by rw [hK, e]; rfl)
  refine .inr ⟨g, 0, rfl, by simpa [World.setCell] using h.blk.1, fun j hj => ?_⟩
  rw [hlen] at hj
  obtain ⟨c0, ⟨ka, kc, e1, c1⟩, ⟨la, lc, e2, c2⟩⟩ := h.nodeCells hj
  have hoff : ∀ d u, w.cell? ⟨g, d, none⟩ = some u → (w.setCell ⟨gk, k, none⟩ (.int .i64 v)).cell? ⟨g, d, none⟩ = some u := fun d u hu => by
    rw [World.cell?_setCell_other _ _ _ _ (fun e => hgk (congrArg Addr.block e))]
    exact hu
  obtain ⟨hlv, hws, hkl⟩ := setKd_rest (j := j) (k := k) (v := v) hi
  have n2 : (L j).ownBlock ≠ some gk := by
    rcases own_apartW (h.wrd j hj) (h.kid i hi) u_iu.symm with e | e
    · rw [e]; exact fun h => by cases h
    · rw [hK] at e; exact e
  have o2 := ownsRow_setCell_other (h.wrd j hj) (a := ⟨gk, k, none⟩) n2 (.int .i64 v)
  rw [e2] at o2
  rw [Nat.zero_add]
  refine ⟨by rw [hlv]; exact hoff _ _ c0, ⟨ka, kc, by rw [hkl]; exact hoff _ _ c1, ?_⟩, ⟨la, lc, by rw [hws]; exact hoff _ _ c2, ?_⟩⟩
  · show SlN _ ka ((setKd S i k v).getD j rn0).ks.length (fun q => .int .i64 (((setKd S i k v).getD j rn0).ks.getD q 0))
    by_cases e : j = i
    · subst e
      have hg : (setKd S j k v).getD j rn0 = { S.getD j rn0 with ks := (S.getD j rn0).ks.set k v } := by rw [setKd_get hi, if_pos rfl]
      rw [hg]
      have o := h.kid j hj
      rw [hK] at o e1
      have o' := own_setI o hk (.int .i64 v)
      have ea : ka = some ⟨gk, 0, none⟩ := by injection e1 with q1 q2 q3; exact q1.symm
      rw [ea]
      have hlk : ((S.getD j rn0).ks.set k v).length = (S.getD j rn0).ks.length := List.length_set
      show SlN _ _ ((S.getD j rn0).ks.set k v).length _
      rw [hlk]
      refine SlN.of_own o' fun q hq => ?_
      have e3 : (intsV (S.getD j rn0).ks).set k (.int .i64 v) = intsV ((S.getD j rn0).ks.set k v) := by unfold intsV; rw [List.map_set]
      rw [e3]
      exact intsV_get _ (by rw [hlk]; exact hq)
    · have hg : (setKd S i k v).getD j rn0 = S.getD j rn0 := by rw [setKd_get hi, if_neg e]
      rw [hg]
      have n1 : (K j).ownBlock ≠ some gk := h.kk i j hi hj (fun e2 => e e2.symm) gk (by rw [hK]; rfl)
      have o1 := ownsRow_setCell_other (h.kid j hj) (a := ⟨gk, k, none⟩) n1 (.int .i64 v)
      rw [e1] at o1
      exact SlN.of_own o1 fun k hk => intsV_get _ hk
  · show SlN _ la ((setKd S i k v).getD j rn0).ws.length (fun q => .int .u64 (((setKd S i k v).getD j rn0).ws.getD q 0 : Nat))
    rw [hws]
    exact SlN.of_own o2 fun k hk => u64s_getD _ hk
end
end Go.Proofs.YtfmclbacoffdaaaDoor

namespace Go.Proofs.YtfmclbacoffdaaaDoor
open Go.RowKit Go.Sort Go.Joins
theorem own_ty {W : World} {B : Nat} {e T : TypeId} {size n b : Nat} {v : Value} {xs : List Value} {cs : Array Value} {fz : Nat × Nat} (h : W.ownsRow B e size v n xs) (hb : W.heap[b]? = some (.cells cs T fz)) (hne : e ≠ T) : v.ownBlock ≠ some b := by
  rcases h.2 with ⟨rfl, _⟩ | ⟨g, cap, cur, rfl, _, hh, _⟩
  · intro e'; cases e'
  · intro e'
    have : g = b := by simpa [Value.ownBlock] using e'
    subst this
    rw [hb] at hh
    simp at hh
    exact hne hh.2.1.symm
theorem t_ns : (60 : Nat) ≠ 45 := by decide
theorem t_is : (3 : Nat) ≠ 45 := by decide
theorem t_us : (24 : Nat) ≠ 45 := by decide
section
variable {w : World} {B g n c : Nat} {v : Value} {K L : Nat → Value} {S : List Rn}
/-- a box beside it is stored -/
theorem OSt.setBox (h : OSt w B v K L S) {b o : Nat} {cs : Array Value} (hb : w.heap[b]? = some (.cells cs 45 (0, 0))) (u : Value) : OSt (w.setCell ⟨b, o, none⟩ u) B v K L S :=
  ⟨ownsRow_setCell_other h.row (a := ⟨b, o, none⟩) (own_ty h.row hb t_ns) u, fun j hj => ownsRow_setCell_other (h.kid j hj) (a := ⟨b, o, none⟩) (own_ty (h.kid j hj) hb t_is) u, fun j hj => ownsRow_setCell_other (h.wrd j hj) (a := ⟨b, o, none⟩) (own_ty (h.wrd j hj) hb t_us) u, h.kk, h.ll⟩
theorem getD_setR {S : List Rn} {i j : Nat} {x : Rn} (hi : i < S.length) : (S.set i x).getD j rn0 = if j = i then x else S.getD j rn0 := by
  by_cases e : j = i
  · subst e; simp [List.getD, hi]
  · rw [if_neg e]; simp [List.getD, List.getElem?_set_ne (fun h => e h.symm)]
theorem rnC_set (K L : Nat → Value) (S : List Rn) {i : Nat} (hi : i < S.length) (x : Rn) (k l : Value) : rnC (updV K i k) (updV L i l) (S.set i x) = (((rnC K L S).set (i * 3) (.int .i64 x.lv)).set (i * 3 + 1) k).set (i * 3 + 2) l := by
  refine List.ext_getElem? fun j => ?_
  by_cases hj : j < S.length * 3
  · obtain ⟨q, r, hr, rfl⟩ : ∃ q r, r < 3 ∧ j = q * 3 + r := ⟨j / 3, j % 3, by omega, by omega⟩
    have hq : q < S.length := by omega
    have hl : (rnC K L S).length = S.length * 3 := rnC_length K L S
    obtain ⟨a0, a1, a2⟩ := rnC_get (updV K i k) (updV L i l) (S.set i x) (j := q) (by rw [List.length_set]; exact hq)
    obtain ⟨b0, b1, b2⟩ := rnC_get K L S hq
    rw [getD_setR hi] at a0
    rw [show updV K i k q = if q = i then k else K q from rfl] at a1
    rw [show updV L i l q = if q = i then l else L q from rfl] at a2
    simp only [List.getElem?_set, List.length_set, hl]
    by_cases e : q = i
    · subst e
      rw [if_pos rfl] at a0 a1 a2
      rcases (show r = 0 ∨ r = 1 ∨ r = 2 by omega) with rfl | rfl | rfl
      · rw [Nat.add_zero, a0, if_neg (by omega), if_neg (by omega), if_pos rfl, if_pos (by omega)]
      · rw [a1, if_neg (by omega), if_pos rfl, if_pos (by omega)]
      · rw [a2, if_pos rfl, if_pos (by omega)]
    · rw [if_neg e] at a0 a1 a2
      rw [if_neg (by omega), if_neg (by omega), if_neg (by omega)]
      rcases (show r = 0 ∨ r = 1 ∨ r = 2 by omega) with rfl | rfl | rfl
      · rw [Nat.add_zero, a0, b0]
      · rw [a1, b1]
      · rw [a2, b2]
  · rw [List.getElem?_eq_none (by rw [rnC_length, List.length_set]; omega), List.getElem?_eq_none (by simp only [List.length_set]; rw [rnC_length]; omega)]
/-- a node is stored -/
theorem OSt.setNode (h : OSt w B (.slice (some ⟨g, 0, none⟩) n c) K L S) {i : Nat} (hi : i < S.length) (x : Rn) {k l : Value} (hk : w.ownsRow B 3 1 k x.ks.length (intsV x.ks)) (hl : w.ownsRow B 24 1 l x.ws.length (u64s x.ws))
    (hkn : ∀ j, j < S.length → ∀ q, (K j).ownBlock = some q → k.ownBlock ≠ some q) (hln : ∀ j, j < S.length → ∀ q, (L j).ownBlock = some q → l.ownBlock ≠ some q) :
    OSt (((w.setCell ⟨g, i * 3, none⟩ (.int .i64 x.lv)).setCell ⟨g, i * 3 + 1, none⟩ k).setCell ⟨g, i * 3 + 2, none⟩ l) B (.slice (some ⟨g, 0, none⟩) n c) (updV K i k) (updV L i l) (S.set i x) := by
  have hn : n = S.length := by
    rcases h.row.2 with ⟨hv, _⟩ | ⟨g', cap, cur, hv, _⟩
    · cases hv
    · simp only [Value.slice.injEq] at hv; exact hv.2.1
  subst hn
  have hkg : k.ownBlock ≠ some g := by
    rcases own_apartW hk h.row u_ri with e | e
    · rw [e]; exact fun h => by cases h
    · exact e
  have hlg : l.ownBlock ≠ some g := by
    rcases own_apartW hl h.row u_ru with e | e
    · rw [e]; exact fun h => by cases h
    · exact e
  have N : ∀ {e : TypeId} {size m : Nat} {u : Value} {xs : List Value}, w.ownsRow B e size u m xs → u.ownBlock ≠ some g → (((w.setCell ⟨g, i * 3, none⟩ (.int .i64 x.lv)).setCell ⟨g, i * 3 + 1, none⟩ k).setCell ⟨g, i * 3 + 2, none⟩ l).ownsRow B e size u m xs := fun ho hne =>
    ownsRow_setCell_other (ownsRow_setCell_other (ownsRow_setCell_other ho (a := ⟨g, i * 3, none⟩) hne _) (a := ⟨g, i * 3 + 1, none⟩) hne _) (a := ⟨g, i * 3 + 2, none⟩) hne _
  refine ⟨?_, fun j hj => ?_, fun j hj => ?_, fun a b ha hb hab q hq => ?_, fun a b ha hb hab q hq => ?_⟩
  · rw [rnC_set K L S hi, List.length_set]
    exact (((h.row.stored (i * 3) (.int .i64 x.lv)).1.stored (i * 3 + 1) k).1.stored (i * 3 + 2) l).1
  · rw [List.length_set] at hj
    rw [getD_setR hi]
    unfold updV
    by_cases e : j = i
    · rw [if_pos e, if_pos e]; exact N hk hkg
    · rw [if_neg e, if_neg e]; exact N (h.kid j hj) (h.kne hj).1
  · rw [List.length_set] at hj
    rw [getD_setR hi]
    unfold updV
    by_cases e : j = i
    · rw [if_pos e, if_pos e]; exact N hl hlg
    · rw [if_neg e, if_neg e]; exact N (h.wrd j hj) (h.kne hj).2
  · rw [List.length_set] at ha hb
    unfold updV at hq ⊢
    by_cases e : a = i
    · rw [if_pos e] at hq
      rw [if_neg (by omega)]
      exact fun e2 => hkn b hb q e2 hq
    · rw [if_neg e] at hq
      by_cases e2 : b = i
      · rw [if_pos e2]; exact hkn a ha q hq
      · rw [if_neg e2]; exact h.kk a b ha hb hab q hq
  · rw [List.length_set] at ha hb
    unfold updV at hq ⊢
    by_cases e : a = i
    · rw [if_pos e] at hq
      rw [if_neg (by omega)]
      exact fun e2 => hln b hb q e2 hq
    · rw [if_neg e] at hq
      by_cases e2 : b = i
      · rw [if_pos e2]; exact hln a ha q hq
      · rw [if_neg e2]; exact h.ll a b ha hb hab q hq
theorem rnC_ext {K L : Nat → Value} {S T : List Rn} (hl : T.length = S.length) (h : ∀ j, j < S.length → (T.getD j rn0).lv = (S.getD j rn0).lv) : rnC K L T = rnC K L S := by
  unfold rnC
  rw [hl]
  unfold List.flatMap
  refine congrArg List.flatten (List.map_congr_left fun j hj => ?_)
  rw [h j (List.mem_range.1 hj)]
theorem intsV_set (l : List Int) (k : Nat) (x : Int) : (intsV l).set k (.int .i64 x) = intsV (l.set k x) := by
  unfold intsV
  rw [List.map_set]
theorem u64s_set' (l : List Nat) (k : Nat) (x : Nat) : (u64s l).set k (.int .u64 (x : Int)) = u64s (l.set k x) := by
  unfold u64s
  rw [List.map_set]
/-- a kid is stored -/
theorem OSt.setKid (h : OSt w B v K L S) {i k gk ck : Nat} (hi : i < S.length) (hK : K i = .slice (some ⟨gk, 0, none⟩) (S.getD i rn0).ks.length ck) (u : Int) :
    OSt (w.setCell ⟨gk, k, none⟩ (.int .i64 u)) B v K L (setKd S i k u) := by
  have hlen : (setKd S i k u).length = S.length := by unfold setKd; rw [List.length_set]
  have hki := h.kid i hi
  rw [hK] at hki
  have hb : ∃ cs, w.heap[gk]? = some (.cells cs 3 (0, 0)) := by
    rcases hki.2 with ⟨h1, _⟩ | ⟨g', cap, cur, hv, _, hh, _⟩
    · cases h1
    · simp only [Value.slice.injEq, Option.some.injEq, Addr.mk.injEq] at hv
      obtain ⟨⟨rfl, _⟩, _⟩ := hv
      exact ⟨_, hh⟩
  obtain ⟨cs, hcs⟩ := hb
  refine ⟨?_, fun j hj => ?_, fun j hj => ?_, fun a b ha hb => h.kk a b (by omega) (by omega), fun a b ha hb => h.ll a b (by omega) (by omega)⟩
  · rw [rnC_ext (T := setKd S i k u) hlen (fun j hj => (setKd_rest hi).1), hlen]
    exact ownsRow_setCell_other h.row (a := ⟨gk, k, none⟩) (own_ty h.row hcs u_ri.symm) _
  · rw [hlen] at hj
    by_cases e : j = i
    · subst e
      rw [setKd_get hi, if_pos rfl, hK, List.length_set]
      dsimp only
      rw [← intsV_set]
      exact (hki.stored k (.int .i64 u)).1
    · rw [setKd_get hi, if_neg e]
      exact ownsRow_setCell_other (h.kid j hj) (a := ⟨gk, k, none⟩) (fun e2 => h.kk j i hj hi e gk e2 (by rw [hK]; rfl)) _
  · rw [hlen] at hj
    rw [(setKd_rest hi).2.1]
    exact ownsRow_setCell_other (h.wrd j hj) (a := ⟨gk, k, none⟩) (own_ty (h.wrd j hj) hcs u_iu.symm) _
/-- a state with another word -/
def setWd (S : List Rn) (i k : Nat) (v : Nat) : List Rn := S.set i { S.getD i rn0 with ws := (S.getD i rn0).ws.set k v }
theorem setWd_get {i j k : Nat} {v : Nat} (hi : i < S.length) : (setWd S i k v).getD j rn0 = if j = i then { S.getD i rn0 with ws := (S.getD i rn0).ws.set k v } else S.getD j rn0 := getD_setR hi
/-- a word is stored -/
theorem OSt.setWrd (h : OSt w B v K L S) {i k gk ck : Nat} (hi : i < S.length) (hK : L i = .slice (some ⟨gk, 0, none⟩) (S.getD i rn0).ws.length ck) (u : Nat) :
    OSt (w.setCell ⟨gk, k, none⟩ (.int .u64 (u : Int))) B v K L (setWd S i k u) := by
  have hlen : (setWd S i k u).length = S.length := by unfold setWd; rw [List.length_set]
  have hki := h.wrd i hi
  rw [hK] at hki
  have hb : ∃ cs, w.heap[gk]? = some (.cells cs 24 (0, 0)) := by
    rcases hki.2 with ⟨h1, _⟩ | ⟨g', cap, cur, hv, _, hh, _⟩
    · cases h1
    · simp only [Value.slice.injEq, Option.some.injEq, Addr.mk.injEq] at hv
      obtain ⟨⟨rfl, _⟩, _⟩ := hv
      exact ⟨_, hh⟩
  obtain ⟨cs, hcs⟩ := hb
  have hr : ∀ j, ((setWd S i k u).getD j rn0).lv = (S.getD j rn0).lv ∧ ((setWd S i k u).getD j rn0).ks = (S.getD j rn0).ks := fun j => by
    rw [setWd_get hi]
    by_cases e : j = i
    · rw [if_pos e, e]; exact ⟨rfl, rfl⟩
    · rw [if_neg e]; exact ⟨rfl, rfl⟩
  refine ⟨?_, fun j hj => ?_, fun j hj => ?_, fun a b ha hb => h.kk a b (by omega) (by omega), fun a b ha hb => h.ll a b (by omega) (by omega)⟩
  · rw [rnC_ext (T := setWd S i k u) hlen (fun j hj => (hr j).1), hlen]
    exact ownsRow_setCell_other h.row (a := ⟨gk, k, none⟩) (own_ty h.row hcs u_ru.symm) _
  · rw [hlen] at hj
    rw [(hr j).2]
    exact ownsRow_setCell_other (h.kid j hj) (a := ⟨gk, k, none⟩) (own_ty (h.kid j hj) hcs u_iu) _
  · rw [hlen] at hj
    by_cases e : j = i
    · subst e
      rw [setWd_get hi, if_pos rfl, hK, List.length_set]
      dsimp only
      rw [← u64s_set']
      exact (hki.stored k (.int .u64 (u : Int))).1
    · rw [setWd_get hi, if_neg e]
      exact ownsRow_setCell_other (h.wrd j hj) (a := ⟨gk, k, none⟩) (fun e2 => h.ll j i hj hi e gk e2 (by rw [hK]; rfl)) _
end
end Go.Proofs.YtfmclbacoffdaaaDoor

namespace Go.Proofs.YtfmclbacoffdaaaDoor
/-- how many nodes a page needs -/
def rq (X : RM) (p : Nat) : Nat := (if mdI X.st p = 0 then 1 else 0) + (if lfI X.st p = 0 then 1 else 0)
theorem need_split (x : Nat) : ∀ (n : Nat) {X : RM} {p : Nat} {b s : Int}, RInv X → p + (n + 1) ≤ 1024 → (((p / 64 : Nat) : Int) = b → mdI X.st p ≠ 0) → (((p / 8 : Nat) : Int) = s → lfI X.st p ≠ 0) → X.m + needF X.st n p b s ≤ X.st.length →
    needF X.st (n + 1) p b s = needF X.st n p b s + rq (setM x n X p) (p + n)
  | 0, X, p, b, s, _, _, hb, hs, _ => by
    have t1 : (if mdI X.st p = 0 ∧ ((p / 64 : Nat) : Int) ≠ b then (1 : Nat) else 0) = if mdI X.st p = 0 then 1 else 0 := ite_congr' ⟨fun h => h.1, fun h => ⟨h, fun e => hb e h⟩⟩
    have t2 : (if lfI X.st p = 0 ∧ ((p / 8 : Nat) : Int) ≠ s then (1 : Nat) else 0) = if lfI X.st p = 0 then 1 else 0 := ite_congr' ⟨fun h => h.1, fun h => ⟨h, fun e => hs e h⟩⟩
    simp only [needF, setM]
    rw [t1, t2]
    unfold rq
    simp
  | n + 1, X, p, b, s, h, hn, hb, hs, hr => by
    have t1 : (if mdI X.st p = 0 ∧ ((p / 64 : Nat) : Int) ≠ b then (1 : Nat) else 0) = if mdI X.st p = 0 then 1 else 0 := ite_congr' ⟨fun h => h.1, fun h => ⟨h, fun e => hb e h⟩⟩
    have t2 : (if lfI X.st p = 0 ∧ ((p / 8 : Nat) : Int) ≠ s then (1 : Nat) else 0) = if lfI X.st p = 0 then 1 else 0 := ite_congr' ⟨fun h => h.1, fun h => ⟨h, fun e => hs e h⟩⟩
    have e1 : needF X.st (n + 1 + 1) p b s = (if mdI X.st p = 0 then 1 else 0) + (if lfI X.st p = 0 then 1 else 0) + needF X.st (n + 1) (p + 1) ((p / 64 : Nat) : Int) ((p / 8 : Nat) : Int) := by rw [← t1, ← t2]; rfl
    have e2 : needF X.st (n + 1) p b s = (if mdI X.st p = 0 then 1 else 0) + (if lfI X.st p = 0 then 1 else 0) + needF X.st n (p + 1) ((p / 64 : Nat) : Int) ((p / 8 : Nat) : Int) := by rw [← t1, ← t2]; rfl
    rw [e2] at hr
    obtain ⟨hS, _⟩ := h.put (x := x) (p := p) (by omega) (by omega)
    have n1 := need_put hS (n + 1) (p + 1) (by omega) (by omega)
    have n2 := need_put hS n (p + 1) (by omega) (by omega)
    rw [show p + 1 - 1 = p by omega] at n1 n2
    have ih := need_split x n (X := putM X x p) (p := p + 1) (b := ((p / 64 : Nat) : Int)) (s := ((p / 8 : Nat) : Int)) hS.inv (by omega)
      (fun e h0 => by have := (hS.md (p + 1) (by omega)).1 h0; omega) (fun e h0 => by have := (hS.lf (p + 1) (by omega)).1 h0; omega) (by rw [hS.m, hS.len, n2]; omega)
    rw [e1, e2, ← n1, ih, n2, setM_cons, show p + 1 + n = p + (n + 1) by omega]
    omega
/-- no free number -/
theorem cnt_lt {r : Nat → Bool} : ∀ {n k : Nat}, k < n → r k = false → cnt r 0 n < n
  | 0, _, h, _ => absurd h (Nat.not_lt_zero _)
  | n + 1, k, h, hr => by
    have e : cnt r 0 (n + 1) = cnt r 0 n + if r n = true then 1 else 0 := by simp [cnt]
    have hl := cnt_le r 0 n
    by_cases c : k = n
    · subst c
      rw [e, hr]; simp; omega
    · have := cnt_lt (n := n) (k := k) (by omega) hr
      rw [e]; split <;> omega
theorem RInv.noroom {X : RM} (h : RInv X) (hm : X.st.length ≤ X.m) : ¬ frI X < X.st.length := fun hf => by
  have := cnt_lt hf (fr_spec hf)
  rw [← h.cn] at this
  omega
/-! the states -/
theorem stS_ext {X : RM} {S : List Rn} (hl : S.length = X.st.length) (h : ∀ j, j < X.st.length → rnOf (X.N j) = S.getD j rn0) : stS X = S := by
  refine List.ext_getElem (by rw [stS_len, hl]) fun j h1 h2 => ?_
  have hj : j < X.st.length := by rw [stS_len] at h1; exact h1
  have e1 := stS_get X hj
  have e2 := h j hj
  have g1 : (stS X).getD j rn0 = (stS X)[j] := by simp [List.getD, h1]
  have g2 : S.getD j rn0 = S[j] := by simp [List.getD, h2]
  rw [← g1, ← g2, e1, e2]
theorem rnOf_kid {x : Nd} {k v : Nat} (_hk : k < kN x.lv) : rnOf (kidN x k v) = { rnOf x with ks := (rnOf x).ks.set k (v : Int) } := by
  have e : ((List.range (kN x.lv)).map fun j => ((upd x.kd k v j : Nat) : Int)) = ((List.range (kN x.lv)).map fun j => (x.kd j : Int)).set k (v : Int) := by
    refine List.ext_getElem (by simp) fun j h1 h2 => ?_
    rw [List.getElem_set]
    simp only [List.getElem_map, List.getElem_range]
    unfold upd
    by_cases c : j = k
    · subst c; simp
    · rw [if_neg c, if_neg (fun h => c h.symm)]
  show Rn.mk x.lv ((List.range (kN x.lv)).map fun j => ((upd x.kd k v j : Nat) : Int)) _ = _
  rw [e]; rfl
theorem rnOf_word {x : Nd} {k v : Nat} : rnOf (wordN x k v) = { rnOf x with ws := (rnOf x).ws.set k v } := by
  have e : ((List.range (wN x.lv)).map (upd x.wd k v)) = ((List.range (wN x.lv)).map x.wd).set k v := by
    refine List.ext_getElem (by simp) fun j h1 h2 => ?_
    rw [List.getElem_set]
    simp only [List.getElem_map, List.getElem_range]
    unfold upd
    by_cases c : j = k
    · subst c; simp
    · rw [if_neg c, if_neg (fun h => c h.symm)]
  show Rn.mk x.lv _ ((List.range (wN x.lv)).map (upd x.wd k v)) = _
  rw [e]; rfl
section
variable {X : RM}
/-- a node is made, then it is a kid -/
theorem stS_grow {i k : Nat} (hi : i < X.st.length) (hf : frI X < X.st.length) (hne : frI X ≠ i) (hk : k < kN (X.N i).lv) :
    stS (growM X i k) = setKd ((stS X).set (frI X) (rnOf (nd0 ((X.N i).lv + 1)))) i k (frI X : Int) := by
  have hl : ((stS X).set (frI X) (rnOf (nd0 ((X.N i).lv + 1)))).length = X.st.length := by rw [List.length_set, stS_len]
  refine stS_ext (by unfold setKd; rw [List.length_set, hl, growM_len]) fun j hj => ?_
  rw [growM_len] at hj
  have eD : ∀ q, ((stS X).set (frI X) (rnOf (nd0 ((X.N i).lv + 1)))).getD q rn0 = if q = frI X then rnOf (nd0 ((X.N i).lv + 1)) else (stS X).getD q rn0 := fun q => getD_setR (by rw [stS_len]; exact hf)
  rw [growM_N hi hf hne j, setKd_get (by rw [hl]; exact hi)]
  by_cases e : j = i
  · rw [if_pos e, if_pos e, eD i, if_neg (fun h => hne h.symm), stS_get X hi, rnOf_kid hk]
  · rw [if_neg e, if_neg e, eD j]
    by_cases e2 : j = frI X
    · rw [if_pos e2, if_pos e2]
    · rw [if_neg e2, if_neg e2, stS_get X hj]
theorem stS_put (x p : Nat) (hl : putBI X p < X.st.length) : stS (putM X x p) = setWd (stS (putB X p)) (putBI X p) (p % 8) x := by
  have hB : (putB X p).st.length = X.st.length := putB_len X p
  refine stS_ext (by unfold setWd; rw [List.length_set, stS_len, putM_len, hB]) fun j hj => ?_
  rw [putM_len] at hj
  have e : (putM X x p).N j = if j = putBI X p then wordN ((putB X p).N (putBI X p)) (p % 8) x else (putB X p).N j := by
    show ((putB X p).st.set (putBI X p) (wordN ((putB X p).st.getD (putBI X p) ndZ) (p % 8) x)).getD j ndZ = _
    rw [N_set (by rw [hB]; exact hl)]
  rw [e, setWd_get (by rw [stS_len, hB]; exact hl)]
  by_cases c : j = putBI X p
  · rw [if_pos c, if_pos c, stS_get _ (by rw [hB]; exact hl), rnOf_word]
  · rw [if_neg c, if_neg c, stS_get _ (by rw [hB]; exact hj)]
/-! a page loses its word -/
theorem rnOf_wordZ {x : Nd} {k : Nat} : rnOf (wordZ x k) = { rnOf x with ws := (rnOf x).ws.set k 0 } := by
  have := rnOf_word (x := x) (k := k) (v := 0)
  exact this
theorem rnOf_kidZ {x : Nd} {k : Nat} (hk : k < kN x.lv) : rnOf (kidZ x k) = { rnOf x with ks := (rnOf x).ks.set k 0 } := by
  have := rnOf_kid (x := x) (k := k) (v := 0) hk
  exact this
theorem stS_clrW (p : Nat) (hl : lfI X.st p < X.st.length) : stS (clrW X p) = setWd (stS X) (lfI X.st p) (p % 8) 0 := by
  have hlen : (clrW X p).st.length = X.st.length := by simp [clrW]
  refine stS_ext (by unfold setWd; rw [List.length_set, stS_len, hlen]) fun j hj => ?_
  rw [hlen] at hj
  have e : (clrW X p).N j = if j = lfI X.st p then wordZ (X.N (lfI X.st p)) (p % 8) else X.N j := N_set hl
  rw [e, setWd_get (by rw [stS_len]; exact hl)]
  by_cases c : j = lfI X.st p
  · rw [if_pos c, if_pos c, stS_get _ hl, rnOf_wordZ]
  · rw [if_neg c, if_neg c, stS_get _ hj]
theorem stS_give {i k : Nat} (hi : i < X.st.length) (hl : (X.N i).kd k < X.st.length) (hne : (X.N i).kd k ≠ i) (hk : k < kN (X.N i).lv) :
    stS (giveM X i k) = setKd ((stS X).set ((X.N i).kd k) (rnOf (nd0 (-1)))) i k 0 := by
  have hlen : ((stS X).set ((X.N i).kd k) (rnOf (nd0 (-1)))).length = X.st.length := by rw [List.length_set, stS_len]
  have eD : ∀ q, ((stS X).set ((X.N i).kd k) (rnOf (nd0 (-1)))).getD q rn0 = if q = (X.N i).kd k then rnOf (nd0 (-1)) else (stS X).getD q rn0 := fun q => getD_setR (by rw [stS_len]; exact hl)
  refine stS_ext (by unfold setKd; rw [List.length_set, hlen, giveM_len]) fun j hj => ?_
  rw [giveM_len] at hj
  rw [giveM_N hi hl hne j, setKd_get (by rw [hlen]; exact hi)]
  by_cases e : j = i
  · rw [if_pos e, if_pos e, eD i, if_neg (fun h => hne h.symm), stS_get X hi, rnOf_kidZ hk]
  · rw [if_neg e, if_neg e, eD j]
    by_cases e2 : j = (X.N i).kd k
    · rw [if_pos e2, if_pos e2]
    · rw [if_neg e2, if_neg e2, stS_get X hj]
theorem all_zero (f : Nat → Nat) : ∀ n, ((List.range n).map f).all (fun u => u == 0) = decide (sumN (fun j => if f j = 0 then 0 else 1) n = 0)
  | 0 => rfl
  | n + 1 => by
    rw [List.range_succ, List.map_append, List.all_append, all_zero f n]
    simp only [List.map_cons, List.map_nil, List.all_cons, List.all_nil, Bool.and_true]
    rw [Bool.eq_iff_iff]
    simp only [Bool.and_eq_true, decide_eq_true_eq, beq_iff_eq]
    show _ ↔ sumN (fun j => if f j = 0 then 0 else 1) n + (if f n = 0 then 0 else 1) = 0
    by_cases e : f n = 0
    · rw [if_pos e]; omega
    · rw [if_neg e]; omega
theorem all_zeroI (f : Nat → Nat) (n : Nat) : ((List.range n).map fun k => (f k : Int)).all (fun u => u == 0) = decide (sumN (fun j => if f j = 0 then 0 else 1) n = 0) := by
  rw [← all_zero f n, List.all_map, List.all_map]
  congr 1
  funext j
  simp only [Function.comp]
  by_cases e : f j = 0
  · simp [e]
  · have h1 : (f j == 0) = false := by simpa using e
    have h2 : ((f j : Int) == 0) = false := by simp; omega
    rw [h1, h2]
theorem emN_leaf {x : Nd} (h : x.lv = 2) : emN (rnOf x) = decide (wordC x = 0) := by
  unfold emN
  show (((List.range (kN x.lv)).map fun k => (x.kd k : Int)).all _ && ((List.range (wN x.lv)).map x.wd).all _) = _
  rw [h]
  show (true && ((List.range 8).map x.wd).all _) = _
  rw [Bool.true_and, all_zero]; rfl
theorem emN_mid {x : Nd} (h : x.lv = 1) : emN (rnOf x) = decide (kidC x = 0) := by
  unfold emN
  show (((List.range (kN x.lv)).map fun k => (x.kd k : Int)).all _ && ((List.range (wN x.lv)).map x.wd).all _) = _
  rw [h]
  show (((List.range 8).map fun k => (x.kd k : Int)).all _ && true) = _
  rw [Bool.and_true, all_zeroI]; rfl
/-- the ways of a page that loses its word -/
structure DrW (X : RM) (p : Nat) (S1 S2 S3 : List Rn) : Prop where
  s1 : S1 = setWd (stS X) (lfI X.st p) (p % 8) 0
  s2 : S2 = setKd (S1.set (lfI X.st p) (rnOf (nd0 (-1)))) (mdI X.st p) (p / 8 % 8) 0
  s3 : S3 = setKd (S2.set (mdI X.st p) (rnOf (nd0 (-1)))) 0 (p / 64) 0
  ways : (emN (S1.getD (lfI X.st p) rn0) = false ∧ stS (clrM X p) = S1) ∨ (emN (S1.getD (lfI X.st p) rn0) = true ∧ emN (S2.getD (mdI X.st p) rn0) = false ∧ stS (clrM X p) = S2) ∨
    (emN (S1.getD (lfI X.st p) rn0) = true ∧ emN (S2.getD (mdI X.st p) rn0) = true ∧ stS (clrM X p) = S3)
theorem drop_ways (h : RAll X) {p : Nat} (hp : p < 1024) (hl0 : lfI X.st p ≠ 0) : ∃ S1 S2 S3, DrW X p S1 S2 S3 := by
  obtain ⟨a1, a2, a3, a4, a5, a6⟩ := h.i.leaf hp hl0
  have len1 : (clrW X p).st.length = X.st.length := by simp [clrW]
  have hs1 := stS_clrW (X := X) p a5
  have hne : lfI X.st p ≠ mdI X.st p := fun e => by rw [e, a3] at a6; omega
  refine ⟨_, _, _, rfl, rfl, rfl, ?_⟩
  have g1 : (setWd (stS X) (lfI X.st p) (p % 8) 0).getD (lfI X.st p) rn0 = rnOf ((clrW X p).N (lfI X.st p)) := by rw [← hs1, stS_get _ (by rw [len1]; exact a5)]
  have lv1 : ((clrW X p).N (lfI X.st p)).lv = 2 := by
    have e : (clrW X p).N (lfI X.st p) = wordZ (X.N (lfI X.st p)) (p % 8) := by
      have := N_set (i := lfI X.st p) (y := wordZ (X.N (lfI X.st p)) (p % 8)) (j := lfI X.st p) a5
      rw [if_pos rfl] at this
      exact this
    rw [e]; exact a6
  rw [g1, emN_leaf lv1]
  by_cases hw : wdI X.st p = 0
  · left
    have hwp : (X.N (lfI X.st p)).wd (p % 8) = 0 := by
      unfold wdI at hw
      rw [if_neg hl0] at hw; exact hw
    have hsame : ∀ j, ((clrW X p).N (lfI X.st p)).wd j = (X.N (lfI X.st p)).wd j := fun j => by
      have e : (clrW X p).N (lfI X.st p) = wordZ (X.N (lfI X.st p)) (p % 8) := by
        have := N_set (i := lfI X.st p) (y := wordZ (X.N (lfI X.st p)) (p % 8)) (j := lfI X.st p) a5
        rw [if_pos rfl] at this
        exact this
      rw [e]
      show upd _ _ _ _ = _
      unfold upd
      split
      · rename_i e2; rw [e2, hwp]
      · rfl
    have hc : clrM X p = X := if_pos hw
    obtain ⟨q, x1, x2, x3⟩ := (h.n p hp).2 hl0
    refine ⟨decide_eq_false fun e => ?_, ?_⟩
    · unfold wordC at e
      have := sum_none (f := ((clrW X p).N (lfI X.st p)).wd) e (j := q % 8) (by omega)
      rw [hsame] at this
      have hlq : lfI X.st q = lfI X.st p := by
        unfold lfI mdI
        rw [show q / 64 = p / 64 by omega, x2]
      unfold wdI at x3
      rw [hlq, if_neg hl0] at x3
      exact x3 this
    · rw [hc]
      refine stS_ext (by unfold setWd; rw [List.length_set, stS_len]) fun j hj => ?_
      rw [setWd_get (by rw [stS_len]; exact a5)]
      by_cases c : j = lfI X.st p
      · subst c
        rw [if_pos rfl, stS_get X a5]
        have e0 : (rnOf (X.N (lfI X.st p))).ws.set (p % 8) 0 = (rnOf (X.N (lfI X.st p))).ws := by
          refine List.ext_getElem (by simp) fun q h1 h2 => ?_
          rw [List.getElem_set]
          by_cases c2 : p % 8 = q
          · rw [if_pos c2]
            have : (rnOf (X.N (lfI X.st p))).ws[q] = (X.N (lfI X.st p)).wd q := by simp [rnOf]
            rw [this, ← c2, hwp]
          · rw [if_neg c2]
        rw [e0]
      · rw [if_neg c, stS_get X hj]
  · obtain ⟨i1, m1, r1⟩ := clrW_all h hp hw
    have hm := m1.m2 _ (by rw [len1]; exact a5) lv1
    rw [← hm]
    by_cases hm1 : ((clrW X p).N (lfI X.st p)).mn ≠ 0
    · left
      refine ⟨decide_eq_false hm1, ?_⟩
      unfold clrM
      rw [if_neg hw, if_pos hm1]
      exact hs1
    · have hm1' : ((clrW X p).N (lfI X.st p)).mn = 0 := by omega
      right
      have b1 : mdI (clrW X p).st p = mdI X.st p := (r1 p hp).1
      have b2 : lfI (clrW X p).st p = lfI X.st p := (r1 p hp).2.1
      obtain ⟨c1, c2, c3, c4, c5, c6⟩ := i1.leaf hp (by rw [b2]; exact hl0)
      rw [b1] at c1 c2 c3
      rw [b2] at c5 c6
      have hlk : ((clrW X p).N (mdI X.st p)).kd (p / 8 % 8) = lfI X.st p := by
        rw [b1, b2] at c4
        exact c4.symm
      have hs2 : stS (clrL X p) = setKd ((stS (clrW X p)).set (lfI X.st p) (rnOf (nd0 (-1)))) (mdI X.st p) (p / 8 % 8) 0 := by
        have := stS_give (X := clrW X p) (i := mdI X.st p) (k := p / 8 % 8) c2 (by rw [hlk]; exact c5) (by rw [hlk]; exact hne) (by rw [c3]; show p / 8 % 8 < 8; omega)
        rw [hlk] at this
        exact this
      rw [hs1] at hs2
      have len2 : (clrL X p).st.length = X.st.length := by unfold clrL; rw [giveM_len, len1]
      have hN2 := giveM_N (X := clrW X p) (i := mdI X.st p) (k := p / 8 % 8) c2 (by rw [hlk]; exact c5) (by rw [hlk]; exact hne) (mdI X.st p)
      rw [if_pos rfl] at hN2
      have lv2 : ((clrL X p).N (mdI X.st p)).lv = 1 := by
        show ((giveM (clrW X p) (mdI X.st p) (p / 8 % 8)).N (mdI X.st p)).lv = 1
        rw [hN2]; exact c3
      have i2 : RInv (clrL X p) := i1.give1 (show p / 64 < 16 by omega) b1 c1 (by omega) (by rw [hlk]; exact hl0)
      have m2 : RMn (clrL X p) := m1.give1 i1 (show p / 64 < 16 by omega) b1 c1 (by omega) (by rw [hlk]; exact hl0)
      have hm2 := m2.m1 _ (by rw [len2]; exact a2) lv2
      have h0 : wordC ((clrW X p).N (lfI X.st p)) = 0 := by rw [← hm]; exact hm1'
      have hz : ∀ j, j < 8 → ((clrW X p).N (lfI X.st p)).wd j = 0 := fun j hj => sum_none (f := ((clrW X p).N (lfI X.st p)).wd) h0 hj
      have hkp : mdI (clrL X p).st p = mdI X.st p := by
        obtain ⟨g1, _, _⟩ := i1.give1_rd (show p / 64 < 16 by omega) b1 c1 (show p / 8 % 8 < 8 by omega) (by rw [hlk]; exact hl0) (by rw [hlk]; exact hz) p hp
        exact g1.trans b1
      rw [← hs2, stS_get _ (by rw [len2]; exact a2), emN_mid lv2, ← hm2]
      by_cases hq : ((clrL X p).N (mdI X.st p)).mn ≠ 0
      · left
        refine ⟨decide_eq_true hm1', decide_eq_false hq, ?_⟩
        unfold clrM
        rw [if_neg hw, if_neg hm1, if_pos hq]
      · right
        have hq' : ((clrL X p).N (mdI X.st p)).mn = 0 := by omega
        refine ⟨decide_eq_true hm1', decide_eq_true hq', ?_⟩
        unfold clrM
        rw [if_neg hw, if_neg hm1, if_neg hq]
        have hk0 : ((clrL X p).N 0).kd (p / 64) = mdI X.st p := hkp
        have := stS_give (X := clrL X p) (i := 0) (k := p / 64) i2.n1 (by rw [hk0, len2]; exact a2) (by rw [hk0]; exact a1) (by rw [show ((clrL X p).N 0).lv = 0 from i2.root]; show p / 64 < 16; omega)
        rw [hk0] at this
        exact this
end
end Go.Proofs.YtfmclbacoffdaaaDoor

namespace Go.Proofs.YtfmclbacoffdaaaDoor
def szd (x : Rn) : Bool := ((x.ks.length : Int) == (kN x.lv : Int)) && ((x.ws.length : Int) == (wN x.lv : Int))
def rlB (x : Rn) (i : Nat) : Bool := (((i : Int) == 0) && (x.lv != 0)) || (decide (0 < (i : Int)) && (x.lv != -1) && (x.lv != 1) && (x.lv != 2))
def lvm (x : Rn) : Int := IntKind.i64.wrap (x.lv - 1)
/-- how often a number is a kid of nodes whose level is one less -/
def parK (S : List Rn) (i : Nat) (x : Rn) (l : List Int) : Nat := if x.lv = lvm (S.getD i rn0) ∧ 0 ≤ x.lv then l.countP fun k => k == (i : Int) else 0
def parN (S : List Rn) (i : Nat) (l : List Rn) : Nat := (l.map fun x => parK S i x x.ks).sum
def rwr (S : List Rn) (i : Nat) : Bool :=
  (rlB (S.getD i rn0) i || !szd (S.getD i rn0)) || (S.getD i rn0).ks.any (badK S (S.getD i rn0)) || (S.getD i rn0).ws.any badW || (decide (0 < (S.getD i rn0).lv) && (emN (S.getD i rn0) || (((parN S i S : Nat) : Int) != 1)))
theorem parN_snoc (S : List Rn) (i : Nat) (l : List Rn) (x : Rn) : parN S i (l ++ [x]) = parN S i l + parK S i x x.ks := by simp [parN]
theorem parN_le {S : List Rn} {c i : Nat} : ∀ {l : List Rn}, (∀ x ∈ l, x.ks.length ≤ c) → parN S i l ≤ l.length * c
  | [], _ => by simp [parN]
  | x :: l, h => by
    have h1 := parN_le (l := l) (S := S) (c := c) (i := i) (fun y hy => h y (List.mem_cons_of_mem _ hy))
    have h2 := h x (List.mem_cons_self)
    have h3 : parK S i x x.ks ≤ x.ks.length := by
      unfold parK
      split
      · exact List.countP_le_length
      · exact Nat.zero_le _
    unfold parN at h1 ⊢
    rw [List.map_cons, List.sum_cons, List.length_cons, Nat.succ_mul]
    omega
theorem sz_same (x : Rn) (i : Nat) : (rlB x i || !szd x) = szBad x i := by
  unfold rlB szd szBad
  generalize hA : ((x.ks.length : Int) == (kN x.lv : Int)) = A
  generalize hB : ((x.ws.length : Int) == (wN x.lv : Int)) = B
  have e1 : ((x.ks.length : Int) != (kN x.lv : Int)) = !A := by rw [← hA]; rfl
  have e2 : ((x.ws.length : Int) != (wN x.lv : Int)) = !B := by rw [← hB]; rfl
  rw [e1, e2]
  have hl : ((((i : Int) == 0) && (x.lv != 0)) || (decide (0 < (i : Int)) && (x.lv != -1) && (x.lv != 1) && (x.lv != 2))) = (decide (x.lv < -1) || decide (2 < x.lv) || ((x.lv == 0) != ((i : Int) == 0))) := by
    rw [Bool.eq_iff_iff]
    simp only [Bool.or_eq_true, Bool.and_eq_true, beq_iff_eq, bne_iff_ne, decide_eq_true_eq, ne_eq]
    by_cases c : (i : Int) = 0
    · have d2 : ((i : Int) == 0) = true := by simpa using c
      rw [d2]
      by_cases d : x.lv = 0
      · simp [d, c]
      · have d3 : (x.lv == 0) = false := by simpa using d
        rw [d3]
        simp [d, c]
    · have d2 : ((i : Int) == 0) = false := by simpa using c
      rw [d2]
      by_cases d : x.lv = 0
      · simp [d]; omega
      · have d3 : (x.lv == 0) = false := by simpa using d
        rw [d3]
        simp
        omega
  rw [hl]
  cases A <;> cases B <;> simp
theorem par_same {S : List Rn} {i : Nat} (hi : i < S.length) (hb : ∀ j, -9223372036854775808 ≤ (S.getD j rn0).lv ∧ (S.getD j rn0).lv ≤ 9223372036854775807) (h1 : 0 < (S.getD i rn0).lv) (h2 : (S.getD i rn0).lv ≤ 2) : parN S i S = tmS S S i := by
  unfold parN tmS
  rw [sum_sumN rn0, sum_sumN rn0]
  refine sumN_congr _ fun j hj => ?_
  obtain ⟨b1, b2⟩ := hb j
  have hA : lvA S (i : Int) = (S.getD i rn0).lv := rfl
  generalize S.getD j rn0 = x at *
  have em : lvm (S.getD i rn0) = (S.getD i rn0).lv - 1 := IntWalk.i64_in _ (by omega)
  unfold parK tmK
  rw [em]
  have hp : ∀ k : Int, (isK S x k && (k == (i : Int))) = (decide (x.lv = (S.getD i rn0).lv - 1 ∧ 0 ≤ x.lv) && (k == (i : Int))) := fun k => by
    by_cases c : k = (i : Int)
    · subst c
      unfold isK
      rw [hA]
      have c1 : decide ((0 : Int) ≤ (i : Int)) = true := decide_eq_true (by omega)
      have c2 : decide ((i : Int) < (S.length : Int)) = true := decide_eq_true (by omega)
      rw [c1, c2]
      have e : ((S.getD i rn0).lv == lv1 x) = decide (x.lv = (S.getD i rn0).lv - 1) := by
        by_cases d : x.lv = (S.getD i rn0).lv - 1
        · have : lv1 x = x.lv + 1 := IntWalk.i64_in _ (by omega)
          rw [this, d]
          simp
        · have : (S.getD i rn0).lv ≠ lv1 x := fun e => by
            by_cases d2 : x.lv = 9223372036854775807
            · unfold lv1 at e
              rw [d2] at e
              have : IntKind.i64.wrap (9223372036854775807 + 1) = -9223372036854775808 := by decide
              rw [this] at e
              omega
            · have : lv1 x = x.lv + 1 := IntWalk.i64_in _ (by omega)
              omega
          rw [decide_eq_false d]
          simpa using this
      rw [e]
      by_cases d1 : x.lv = (S.getD i rn0).lv - 1 <;> by_cases d2 : 0 ≤ x.lv <;> simp [d1, d2]
    · have : (k == (i : Int)) = false := by simpa using c
      rw [this]; simp
  have e2 : (x.ks.countP fun k => isK S x k && (k == (i : Int))) = x.ks.countP fun k => decide (x.lv = (S.getD i rn0).lv - 1 ∧ 0 ≤ x.lv) && (k == (i : Int)) := congrArg (fun p => List.countP p x.ks) (funext hp)
  rw [e2]
  by_cases c : x.lv = (S.getD i rn0).lv - 1 ∧ 0 ≤ x.lv
  · rw [if_pos c, decide_eq_true c]
    simp
  · rw [if_neg c, decide_eq_false c]
    simp
theorem wr_same {S : List Rn} {i : Nat} (hi : i < S.length) (hb : ∀ j, -9223372036854775808 ≤ (S.getD j rn0).lv ∧ (S.getD j rn0).lv ≤ 9223372036854775807) : rwr S i = wrI S i := by
  unfold rwr wrI wrN
  rw [sz_same]
  by_cases c : szBad (S.getD i rn0) i = true
  · rw [c]; rfl
  · by_cases hp : 0 < (S.getD i rn0).lv
    · have h2 : (S.getD i rn0).lv ≤ 2 := by
        unfold szBad at c
        simp only [Bool.or_eq_true, decide_eq_true_eq, not_or] at c
        omega
      rw [par_same hi hb hp h2]
    · rw [decide_eq_false hp]; simp
def rckE (m : Int) (S : List Rn) : Int := if m < 1 ∨ 145 < m then 7 else if (S.length : Int) ≠ m then 6 else if nxt (rwr S) 0 S.length < S.length then 6 else 0
def rckV (m : Int) (S : List Rn) : Int := if m < 1 ∨ 145 < m then 0 else if (S.length : Int) ≠ m then 0 else if nxt (rwr S) 0 S.length < S.length then (nxt (rwr S) 0 S.length : Int) else 0
theorem ck_same {S : List Rn} (m : Int) (hb : ∀ j, -9223372036854775808 ≤ (S.getD j rn0).lv ∧ (S.getD j rn0).lv ≤ 9223372036854775807) : rckE m S = ckE m S ∧ rckV m S = ckV m S := by
  have : nxt (rwr S) 0 S.length = ckI S := nxt_congr (Nat.zero_le _) fun i _ hi => wr_same hi hb
  unfold rckE rckV ckE ckV
  rw [this]
  exact ⟨rfl, rfl⟩
/-! the state of what is loaded -/
theorem ldN_at {S : List Rn} (hok : ∀ i, i < S.length → RnOk S i (S.getD i rn0)) : ∀ k, k ≤ S.length → ∀ j, j < k → rnOf ((ldN S k).N j) = S.getD j rn0
  | 0, _, j, hj => absurd hj (Nat.not_lt_zero _)
  | k + 1, hk, j, hj => by
    have hlen := ldN_len S k
    have ok := hok k (by omega)
    show rnOf ((ldX (ldN S k) k (S.getD k rn0)).N j) = _
    have hnode : ∀ x : Rn, RnOk S k x → rnOf (ndOf x) = x := fun x ok => by
      have e1 : (List.range (kN x.lv)).map (fun q => ((ndOf x).kd q : Int)) = x.ks := by
        refine List.ext_getElem (by simp [ok.ks]) fun q q1 q2 => ?_
        simp only [List.getElem_map, List.getElem_range]
        show (((x.ks.getD q 0).toNat : Nat) : Int) = _
        have hm := (ok.k (x.ks[q]) (List.getElem_mem q2)).1
        rw [List.getD_eq_getElem?_getD, List.getElem?_eq_getElem q2]
        show ((x.ks[q].toNat : Nat) : Int) = _
        omega
      have e2 : (List.range (wN x.lv)).map (ndOf x).wd = x.ws := by
        refine List.ext_getElem (by simp [ok.ws]) fun q q1 q2 => ?_
        simp only [List.getElem_map, List.getElem_range]
        show x.ws.getD q 0 = _
        rw [List.getD_eq_getElem?_getD, List.getElem?_eq_getElem q2]; rfl
      show (⟨x.lv, (List.range (kN x.lv)).map (fun q => ((ndOf x).kd q : Int)), (List.range (wN x.lv)).map (ndOf x).wd⟩ : Rn) = x
      rw [e1, e2]
    unfold ldX
    by_cases c : (S.getD k rn0).lv < 0
    · rw [if_pos c]
      by_cases e : j = k
      · subst e
        have hlv : (S.getD j rn0).lv = -1 := by have := ok.lo; omega
        have hk0 : (S.getD j rn0).ks = [] := by
          have := ok.ks
          rw [hlv] at this
          exact List.eq_nil_of_length_eq_zero this
        have hw0 : (S.getD j rn0).ws = [] := by
          have := ok.ws
          rw [hlv] at this
          exact List.eq_nil_of_length_eq_zero this
        have hj0 : j ≠ 0 := fun e => by have := ok.z.2 e; omega
        have hun : ∀ q, q ≤ j → (ldN S q).N j = (newM S.length).N j := fun q => by
          induction q with
          | zero => exact fun _ => rfl
          | succ q ih =>
            intro hq
            show (ldX (ldN S q) q (S.getD q rn0)).N j = _
            unfold ldX
            split
            · exact ih (by omega)
            · show ((ldN S q).st.set q _).getD j ndZ = _
              rw [N_set (by rw [ldN_len]; omega), if_neg (by omega)]
              exact ih (by omega)
        rw [hun j (Nat.le_refl _), newM_N (by omega) (by omega), if_neg hj0]
        cases hx : S.getD j rn0 with
        | mk a b d =>
          rw [hx] at hlv hk0 hw0
          simp only at hlv hk0 hw0
          rw [hlv, hk0, hw0]; rfl
      · exact ldN_at hok k (by omega) j (by omega)
    · rw [if_neg c]
      show rnOf (((ldN S k).st.set k (ndOf (S.getD k rn0))).getD j ndZ) = _
      rw [N_set (by rw [hlen]; omega)]
      by_cases e : j = k
      · rw [if_pos e, e]; exact hnode _ ok
      · rw [if_neg e]; exact ldN_at hok k (by omega) j (by omega)
theorem stS_ld {S : List Rn} (hok : ∀ i, i < S.length → RnOk S i (S.getD i rn0)) : stS (ldM S) = S := by
  have hlen : (ldM S).st.length = S.length := ldN_len S _
  refine List.ext_getElem (by rw [stS_len, hlen]) fun i h1 h2 => ?_
  have hi : i < (ldM S).st.length := by rwa [stS_len] at h1
  have e1 := stS_get (ldM S) hi
  have e2 := ldN_at hok S.length (Nat.le_refl _) i h2
  have e3 : rnOf ((ldM S).N i) = S.getD i rn0 := e2
  rw [e3] at e1
  simpa [List.getD, h1, h2] using e1
end Go.Proofs.YtfmclbacoffdaaaDoor
