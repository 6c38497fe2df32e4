/- The radix map, plain: Check says nothing of the state of a map; Load of it gives the map. | The radix map: Check. -/
import Derived.Test.YtfmclbacoffdaaaDoorRSZ2
import Derived.Test.YtfmclbacoffdaaaDoorRZ10
namespace Go.Proofs.YtfmclbacoffdaaaDoor
theorem wrI_of {S : List Rn} {i : Nat} (h : RnOk S i (S.getD i rn0)) : wrI S i = false := by
  unfold wrI wrN
  generalize S.getD i rn0 = x at *
  have h1 : szBad x i = false := by
    unfold szBad
    have e3 : ((x.lv == 0) != ((i : Int) == 0)) = false := by
      by_cases c : i = 0
      · have := h.z.2 c; simp [c, this]
      · have d : ¬ x.lv = 0 := fun e => c (h.z.1 e)
        have d1 : (x.lv == 0) = false := by simpa using d
        have d2 : ((i : Int) == 0) = false := by simp; omega
        rw [d1, d2]; rfl
    have a1 := h.lo
    have a2 := h.hi
    rw [e3, h.ks, h.ws]
    simp
    omega
  have h2 : x.ks.any (badK S x) = false := by
    rw [List.any_eq_false]
    intro k hk
    obtain ⟨b1, b2, b3⟩ := h.k k hk
    unfold badK
    have c1 : decide (k < 0) = false := decide_eq_false (by omega)
    have c2 : decide ((S.length : Int) ≤ k) = false := decide_eq_false (by omega)
    rw [c1, c2]
    by_cases hp : 0 < k
    · have := b3 hp
      have a1 := h.lo
      have a2 := h.hi
      have e : lv1 x = x.lv + 1 := IntWalk.i64_in _ (by omega)
      simp [this, e]
    · simp [hp]
  have h3 : x.ws.any badW = false := by
    rw [List.any_eq_false]
    intro u hu
    unfold badW
    by_cases c : u = 0
    · simp [c]
    · simp [h.w u hu c]
  rw [h1, h2, h3]
  by_cases hp : 0 < x.lv
  · obtain ⟨g1, g2⟩ := h.e hp
    rw [g1, g2]; simp
  · simp [hp]
theorem ckE_of {S : List Rn} (h1 : 1 ≤ S.length) (h2 : S.length ≤ 145) (h : ∀ i, i < S.length → RnOk S i (S.getD i rn0)) : ckE (S.length : Int) S = 0 := by
  unfold ckE
  rw [if_neg (by omega), if_neg (fun h => h rfl), if_neg]
  intro hlt
  have := (nxt_spec (p := wrI S) (Nat.zero_le S.length)).2.2.2 hlt
  have e : nxt (wrI S) 0 S.length = ckI S := rfl
  rw [e, wrI_of (h _ hlt)] at this
  exact absurd this (by decide)
section
variable {X : RM}
/-- only the root has level 0 -/
theorem RInv.root_only (h : RInv X) {i : Nat} (hi : i < X.st.length) : (X.N i).lv = 0 ↔ i = 0 := by
  constructor
  · intro e
    refine Classical.byContradiction fun h0 => ?_
    rcases h.hangs hi h0 (by omega) with ⟨g, _⟩ | ⟨g, _⟩ <;> omega
  · rintro rfl; exact h.root
theorem tmS_sum (S : List Rn) (i : Nat) : tmS S S i = sumN (fun j => tmK S (S.getD j rn0) (S.getD j rn0).ks i) S.length := sum_sumN rn0 (fun x => tmK S x x.ks i) S
theorem stS_lvA (X : RM) {v : Nat} (hv : v < X.st.length) : lvA (stS X) (v : Int) = (X.N v).lv := by
  unfold lvA
  rw [Int.toNat_natCast, stS_get X hv]; rfl
theorem isK_pure {S : List Rn} {x : Rn} {i N v : Nat} {li : Int} (hN : S.length = N) (hi : i < N) (hA : lvA S (i : Int) = li) (e1 : lv1 x = x.lv + 1) :
    (isK S x (v : Int) && ((v : Int) == (i : Int))) = decide ((0 ≤ x.lv ∧ li = x.lv + 1) ∧ v = i) := by
  by_cases c : v = i
  · subst c
    unfold isK
    rw [hA, e1, hN]
    have c1 : decide ((0 : Int) ≤ (v : Int)) = true := decide_eq_true (by omega)
    have c2 : decide ((v : Int) < (N : Int)) = true := decide_eq_true (by omega)
    have c3 : ((v : Int) == (v : Int)) = true := by simp
    rw [c1, c2, c3]
    by_cases h1 : 0 ≤ x.lv <;> by_cases h2 : li = x.lv + 1 <;> simp [h1, h2]
  · have : ((v : Int) == (i : Int)) = false := by simp; omega
    rw [this, Bool.and_false]
    exact (decide_eq_false fun h => c h.2).symm
/-- how many times a number is a kid of a node of a map -/
theorem tmK_st (h : NrS X.st) {i j : Nat} (hi : i < X.st.length) :
    tmK (stS X) (rnOf (X.N j)) (rnOf (X.N j)).ks i = if 0 ≤ (X.N j).lv ∧ (X.N i).lv = (X.N j).lv + 1 then sumN (fun k => if (X.N j).kd k = i then 1 else 0) (kN (X.N j).lv) else 0 := by
  have e : (rnOf (X.N j)).ks = (List.range (kN (X.N j).lv)).map fun k => ((X.N j).kd k : Int) := rfl
  unfold tmK
  rw [e, countP_range]
  have hlo := (h j).lo
  have hhi := (h j).hi
  have hlo' : -1 ≤ (X.N j).lv := hlo
  have hhi' : (X.N j).lv ≤ 2 := hhi
  have e1 : lv1 (rnOf (X.N j)) = (X.N j).lv + 1 := IntWalk.i64_in ((X.N j).lv + 1) (by omega)
  have hp : ∀ k, (isK (stS X) (rnOf (X.N j)) ((X.N j).kd k : Int) && (((X.N j).kd k : Int) == (i : Int))) = decide ((0 ≤ (X.N j).lv ∧ (X.N i).lv = (X.N j).lv + 1) ∧ (X.N j).kd k = i) := fun k =>
    isK_pure (stS_len X) hi (stS_lvA X hi) e1
  split
  · rename_i hc
    refine sumN_congr _ fun k _ => ?_
    rw [hp k]
    by_cases c : (X.N j).kd k = i
    · rw [if_pos c, if_pos (decide_eq_true ⟨hc, c⟩)]
    · rw [if_neg c, if_neg (fun h => c (of_decide_eq_true h).2)]
  · rename_i hc
    refine sumN_zero _ fun k _ => ?_
    rw [hp k, if_neg (fun h => hc (of_decide_eq_true h).1)]
theorem tmS_st (h : RGood X) {i : Nat} (hi : i < X.st.length) (hl : 0 < (X.N i).lv) : tmS (stS X) (stS X) i = 1 := by
  have h0 : i ≠ 0 := fun e => by rw [e, h.a.i.root] at hl; omega
  have hN : ∀ j, j < X.st.length → tmK (stS X) ((stS X).getD j rn0) ((stS X).getD j rn0).ks i = if 0 ≤ (X.N j).lv ∧ (X.N i).lv = (X.N j).lv + 1 then sumN (fun k => if (X.N j).kd k = i then 1 else 0) (kN (X.N j).lv) else 0 := fun j hj => by
    rw [stS_get X hj]; exact tmK_st h.n hi
  rw [tmS_sum, stS_len, sumN_congr _ hN]
  rcases h.a.i.hangs hi h0 (by omega) with ⟨g, k, hk, e⟩ | ⟨g, k, l, hk, hl', c, e⟩
  · refine sumN_single (a := 0) h.a.i.n1 ?_ fun j hj hne => ?_
    · rw [h.a.i.root, if_pos ⟨by decide, by omega⟩]
      refine sumN_single (a := k) hk (if_pos e) fun j hj hne => if_neg fun e2 => hne ?_
      have hj' : j < 16 := hj
      exact h.a.i.i0 j k hj' hk (by rw [e2]; exact h0) (by rw [e2, e])
    · rw [if_neg]
      rintro ⟨q1, q2⟩
      exact hne ((h.a.i.root_only hj).1 (by omega))
  · obtain ⟨a1, a2⟩ := h.a.i.k0 k hk c
    refine sumN_single (a := (X.N 0).kd k) a1 ?_ fun j hj hne => ?_
    · rw [a2, if_pos ⟨by decide, by omega⟩]
      refine sumN_single (a := l) hl' (if_pos e) fun j hj hne => if_neg fun e2 => hne ?_
      have hj' : j < 8 := hj
      exact (h.a.i.i1 _ _ j l a1 a1 a2 a2 hj' hl' (by rw [e2]; exact h0) (by rw [e2, e])).2
    · by_cases q : 0 ≤ (X.N j).lv ∧ (X.N i).lv = (X.N j).lv + 1
      · rw [if_pos q]
        have lj : (X.N j).lv = 1 := by omega
        rw [lj]
        refine sumN_zero _ fun k' hk' => if_neg fun e2 => hne ?_
        have hk8 : k' < 8 := hk'
        exact (h.a.i.i1 _ _ k' l hj a1 lj a2 hk8 hl' (by rw [e2]; exact h0) (by rw [e2, e])).1
      · rw [if_neg q]
theorem rn_ok (h : RGood X) {i : Nat} (hi : i < X.st.length) : RnOk (stS X) i (rnOf (X.N i)) := by
  have hn := h.n i
  have lo : -1 ≤ (X.N i).lv := hn.lo
  have hi2 : (X.N i).lv ≤ 2 := hn.hi
  refine ⟨lo, hi2, h.a.i.root_only hi, by simp [rnOf], by simp [rnOf], fun k hk => ?_, fun u hu hne => ?_, fun hl => ⟨?_, tmS_st h hi hl⟩⟩
  · obtain ⟨j, hj, rfl⟩ := List.mem_map.1 hk
    have hj' := List.mem_range.1 hj
    show 0 ≤ ((X.N i).kd j : Int) ∧ _
    by_cases c : (X.N i).kd j = 0
    · rw [c]
      exact ⟨by omega, by rw [stS_len]; omega, fun h => by omega⟩
    · have hk : (X.N i).kd j < X.st.length ∧ (X.N ((X.N i).kd j)).lv = (X.N i).lv + 1 := by
        unfold kN at hj'
        by_cases c0 : (X.N i).lv = 0
        · rw [if_pos c0] at hj'
          have hi0 := (h.a.i.root_only hi).1 c0
          subst hi0
          have := h.a.i.k0 j hj' c
          exact ⟨this.1, by omega⟩
        · rw [if_neg c0] at hj'
          by_cases c1 : (X.N i).lv = 1
          · rw [if_pos c1] at hj'
            have := h.a.i.k1 i hi c1 j hj' c
            exact ⟨this.1, by omega⟩
          · rw [if_neg c1] at hj'; omega
      refine ⟨by omega, by rw [stS_len]; omega, fun _ => ?_⟩
      rw [stS_lvA X hk.1]
      exact hk.2
  · obtain ⟨j, hj, rfl⟩ := List.mem_map.1 hu
    have hj' := List.mem_range.1 hj
    unfold wN at hj'
    by_cases c2 : (X.N i).lv = 2
    · rw [if_pos c2] at hj'
      rcases h.a.i.hangs hi (fun e => by rw [e, h.a.i.root] at c2; omega) (by omega) with ⟨g, _⟩ | ⟨g, k, l, hk, hl, c, e⟩
      · omega
      · have hw : wdI X.st (k * 64 + l * 8 + j) = (X.N i).wd j := by
          have e1 : mdI X.st (k * 64 + l * 8 + j) = (X.N 0).kd k := by unfold mdI; rw [show (k * 64 + l * 8 + j) / 64 = k by omega]
          have e2 : lfI X.st (k * 64 + l * 8 + j) = i := by
            unfold lfI
            rw [e1, if_neg c, show (k * 64 + l * 8 + j) / 8 % 8 = l by omega]
            exact e
          unfold wdI
          rw [e2, if_neg (fun e3 => by rw [e3, h.a.i.root] at c2; omega), show (k * 64 + l * 8 + j) % 8 = j by omega]
        have := h.w (k * 64 + l * 8 + j) (by omega) (by rw [hw]; exact hne)
        rwa [hw] at this
    · rw [if_neg c2] at hj'; omega
  · have hl' : 0 < (X.N i).lv := hl
    have h0 : i ≠ 0 := fun e => by rw [e, h.a.i.root] at hl'; omega
    rcases h.a.i.hangs hi h0 (by omega) with ⟨g, k, hk, e⟩ | ⟨g, k, l, hk, hl2, c, e⟩
    · have e1 : mdI X.st (k * 64) = i := by unfold mdI; rw [show k * 64 / 64 = k by omega]; exact e
      obtain ⟨q, hq, hq2, hq3⟩ := (h.a.n (k * 64) (by omega)).1 (by rw [e1]; exact h0)
      have hlf : lfI X.st q ≠ 0 := fun e2 => hq3 (by unfold wdI; rw [if_pos e2])
      have e2 : mdI X.st q = i := by unfold mdI; rw [hq2, show k * 64 / 64 = k by omega]; exact e
      have e3 : lfI X.st q = (X.N i).kd (q / 8 % 8) := by unfold lfI; rw [e2, if_neg h0]
      rw [e3] at hlf
      have hm : ((X.N i).kd (q / 8 % 8) : Int) ∈ (rnOf (X.N i)).ks := List.mem_map.2 ⟨q / 8 % 8, List.mem_range.2 (by rw [g]; show q / 8 % 8 < 8; omega), rfl⟩
      unfold emN
      have : (rnOf (X.N i)).ks.all (fun k => k == 0) = false := by
        rw [List.all_eq_false]
        exact ⟨_, hm, by simp; exact hlf⟩
      rw [this]; rfl
    · have e1 : mdI X.st (k * 64 + l * 8) = (X.N 0).kd k := by unfold mdI; rw [show (k * 64 + l * 8) / 64 = k by omega]
      have e2 : lfI X.st (k * 64 + l * 8) = i := by
        unfold lfI
        rw [e1, if_neg c, show (k * 64 + l * 8) / 8 % 8 = l by omega]
        exact e
      obtain ⟨q, hq, hq2, hq3⟩ := (h.a.n (k * 64 + l * 8) (by omega)).2 (by rw [e2]; exact h0)
      have e3 : lfI X.st q = i := by
        unfold lfI mdI
        rw [show q / 64 = k by omega, if_neg c, show q / 8 % 8 = l by omega]
        exact e
      have hwq : (X.N i).wd (q % 8) ≠ 0 := by
        unfold wdI at hq3
        rw [e3, if_neg h0] at hq3
        exact hq3
      have hm : (X.N i).wd (q % 8) ∈ (rnOf (X.N i)).ws := List.mem_map.2 ⟨q % 8, List.mem_range.2 (by rw [g]; show q % 8 < 8; omega), rfl⟩
      unfold emN
      have : (rnOf (X.N i)).ws.all (fun u => u == 0) = false := by
        rw [List.all_eq_false]
        exact ⟨_, hm, by simp; exact hwq⟩
      rw [this, Bool.and_false]
/-- Check says nothing of the state of a map -/
theorem ck_stS (h : RGood X) (hn : X.st.length ≤ 145) : ckE (X.st.length : Int) (stS X) = 0 := by
  have := ckE_of (S := stS X) (by rw [stS_len]; exact h.a.i.n1) (by rw [stS_len]; exact hn) (fun i hi => by
    rw [stS_len] at hi
    rw [stS_get X hi]; exact rn_ok h hi)
  rwa [stS_len] at this
theorem wd_bd (h : RGood X) (i j : Nat) : ((stS X).getD i rn0).ws.getD j 0 < 18446744073709551616 := by
  by_cases hi : i < X.st.length
  · rw [stS_get X hi]
    by_cases hj : j < (rnOf (X.N i)).ws.length
    · have hw := fun hm => (rn_ok h hi).w ((rnOf (X.N i)).ws.getD j 0) hm
      generalize rnOf (X.N i) = x at hw hj ⊢
      have hw := hw (by simp [List.getD, hj])
      by_cases c : x.ws.getD j 0 = 0
      · rw [c]; decide
      · have := hw c
        unfold unE at this
        split at this
        · omega
        · cases this
    · rw [List.getD_eq_getElem?_getD, List.getElem?_eq_none (by omega)]; decide
  · rw [show (stS X).getD i rn0 = rn0 by rw [List.getD_eq_getElem?_getD, List.getElem?_eq_none (by rw [stS_len]; omega)]; rfl]
    show (0 : Nat) < _
    decide
/-! Load of the state -/
theorem ndOf_rnOf {x : Nd} (h : NrN x) (hm : x.mn = sumN (fun k => if x.kd k = 0 then 0 else 1) (kN x.lv) + sumN (fun k => if x.wd k = 0 then 0 else 1) (wN x.lv)) : ndOf (rnOf x) = x := by
  have e1 : kdF (rnOf x) = x.kd := by
    funext k
    unfold kdF rnOf
    by_cases c : k < kN x.lv
    · simp [List.getD, c]
    · rw [List.getD_eq_getElem?_getD, List.getElem?_eq_none (by simp; omega), h.k k (by omega)]; rfl
  have e2 : wdF (rnOf x) = x.wd := by
    funext k
    unfold wdF rnOf
    by_cases c : k < wN x.lv
    · simp [List.getD, c]
    · rw [List.getD_eq_getElem?_getD, List.getElem?_eq_none (by simp; omega), h.w k (by omega)]; rfl
  have e3 : nzK (rnOf x) (rnOf x).ks.length = sumN (fun k => if x.kd k = 0 then 0 else 1) (kN x.lv) := by
    unfold nzK
    rw [List.take_length]
    show ((List.range (kN x.lv)).map fun k => (x.kd k : Int)).countP (fun k => k != 0) = _
    rw [countP_range]
    exact sumN_congr _ fun k _ => by by_cases c : x.kd k = 0; · simp [c]
                                     · simp [c]
  have e4 : nzW (rnOf x) (rnOf x).ws.length = sumN (fun k => if x.wd k = 0 then 0 else 1) (wN x.lv) := by
    unfold nzW
    rw [List.take_length]
    show ((List.range (wN x.lv)).map x.wd).countP (fun k => k != 0) = _
    rw [countP_range]
    exact sumN_congr _ fun k _ => by by_cases c : x.wd k = 0; · simp [c]
                                     · simp [c]
  unfold ndOf
  rw [e1, e2, e3, e4, ← hm]
  rfl
theorem RGood.mn (h : RGood X) {i : Nat} (hi : i < X.st.length) : (X.N i).mn = sumN (fun k => if (X.N i).kd k = 0 then 0 else 1) (kN (X.N i).lv) + sumN (fun k => if (X.N i).wd k = 0 then 0 else 1) (wN (X.N i).lv) := by
  have hn := h.n i
  have lo : -1 ≤ (X.N i).lv := hn.lo
  have hi2 : (X.N i).lv ≤ 2 := hn.hi
  by_cases c0 : (X.N i).lv = 0
  · have := (h.a.i.root_only hi).1 c0
    subst this
    rw [c0, h.a.m.m0]; rfl
  by_cases c1 : (X.N i).lv = 1
  · rw [c1, h.a.m.m1 i hi c1]; rfl
  by_cases c2 : (X.N i).lv = 2
  · rw [c2, h.a.m.m2 i hi c2]
    show wordC _ = 0 + wordC _
    omega
  have c3 : (X.N i).lv = -1 := by omega
  rw [c3]
  show (X.N i).mn = 0 + 0
  exact hn.mn c3
theorem ld_at (h : RGood X) : ∀ k, k ≤ X.st.length → (∀ j, j < X.st.length → (ldN (stS X) k).N j = if j < k then X.N j else (newM X.st.length).N j) ∧ (∀ j, (ldN (stS X) k).r j = if j < k then X.r j else (newM X.st.length).r j) ∧ (ldN (stS X) k).m = cnt X.r 0 k
  | 0, _ => ⟨fun j hj => by rw [if_neg (Nat.not_lt_zero _)]; show (newM (stS X).length).N j = _; rw [stS_len], fun j => by rw [if_neg (Nat.not_lt_zero _)]; show (newM (stS X).length).r j = _; rw [stS_len], by simp [cnt, ldN]⟩
  | k + 1, hk => by
    obtain ⟨g1, g2, g3⟩ := ld_at h k (by omega)
    have hkl : k < X.st.length := by omega
    have hlen : (ldN (stS X) k).st.length = X.st.length := by rw [ldN_len, stS_len]
    have ecnt : cnt X.r 0 (k + 1) = cnt X.r 0 k + if X.r k = true then 1 else 0 := by simp [cnt]
    have hrt := h.a.i.rt k hkl
    have hstep : ldN (stS X) (k + 1) = ldX (ldN (stS X) k) k (rnOf (X.N k)) := by
      show ldX (ldN (stS X) k) k ((stS X).getD k rn0) = _
      rw [stS_get X hkl]
    rw [hstep]
    have hlv : (rnOf (X.N k)).lv = (X.N k).lv := rfl
    unfold ldX
    rw [hlv]
    have hn := h.n k
    have lo : -1 ≤ (X.N k).lv := hn.lo
    by_cases c : (X.N k).lv < 0
    · rw [if_pos c]
      have hk0 : k ≠ 0 := fun e => by rw [e, h.a.i.root] at c; omega
      have c3 : (X.N k).lv = -1 := by omega
      have rk : X.r k = false := by rw [hrt]; exact decide_eq_false (by omega)
      refine ⟨fun j hj => ?_, fun j => ?_, ?_⟩
      · rw [g1 j hj]
        by_cases e : j = k
        · subst e
          rw [if_neg (by omega), if_pos (by omega), newM_N h.a.i.n1 hkl, if_neg hk0]
          have q1 : (X.N j).kd = fun _ => 0 := funext fun q => hn.k q (by show kN (X.N j).lv ≤ q; rw [c3]; exact Nat.zero_le _)
          have q2 : (X.N j).wd = fun _ => 0 := funext fun q => hn.w q (by show wN (X.N j).lv ≤ q; rw [c3]; exact Nat.zero_le _)
          have q3 : (X.N j).mn = 0 := hn.mn c3
          show nd0 (-1) = X.N j
          cases hx : X.N j with
          | mk a b d e =>
            rw [hx] at q1 q2 q3 c3
            simp only at q1 q2 q3 c3
            rw [q1, q2, q3, c3]; rfl
        · by_cases e2 : j < k
          · rw [if_pos e2, if_pos (by omega)]
          · rw [if_neg e2, if_neg (by omega)]
      · rw [g2 j]
        by_cases e : j = k
        · subst e
          rw [if_neg (by omega), if_pos (by omega), rk]
          show filled (fun _ => false) 0 1 true j = false
          unfold filled
          rw [if_neg (by omega)]
        · by_cases e2 : j < k
          · rw [if_pos e2, if_pos (by omega)]
          · rw [if_neg e2, if_neg (by omega)]
      · rw [g3, ecnt, rk]; simp
    · rw [if_neg c]
      have rk : X.r k = true := by rw [hrt]; exact decide_eq_true (by omega)
      have hnd : ndOf (rnOf (X.N k)) = X.N k := ndOf_rnOf hn (h.mn hkl)
      refine ⟨fun j hj => ?_, fun j => ?_, ?_⟩
      · show ((ldN (stS X) k).st.set k (ndOf (rnOf (X.N k)))).getD j ndZ = _
        rw [N_set (by rw [hlen]; exact hkl), hnd]
        by_cases e : j = k
        · rw [if_pos e, if_pos (by omega), e]
        · rw [if_neg e]
          have := g1 j hj
          rw [show (ldN (stS X) k).st.getD j ndZ = (ldN (stS X) k).N j from rfl, this]
          by_cases e2 : j < k
          · rw [if_pos e2, if_pos (by omega)]
          · rw [if_neg e2, if_neg (by omega)]
      · show filled (ldN (stS X) k).r k (k + 1) true j = _
        unfold filled
        by_cases e : j = k
        · rw [if_pos (by omega), if_pos (by omega), e, rk]
        · rw [if_neg (by omega), g2 j]
          by_cases e2 : j < k
          · rw [if_pos e2, if_pos (by omega)]
          · rw [if_neg e2, if_neg (by omega)]
      · show (ldN (stS X) k).m + 1 = _
        rw [g3, ecnt, rk]; simp
/-- Load of the state of a map is the map -/
theorem ld_stS (h : RGood X) : ldM (stS X) = X := by
  obtain ⟨g1, g2, g3⟩ := ld_at h X.st.length (Nat.le_refl _)
  have hlen : (ldN (stS X) X.st.length).st.length = X.st.length := by rw [ldN_len, stS_len]
  unfold ldM
  rw [stS_len]
  have e1 : (ldN (stS X) X.st.length).st = X.st := by
    refine List.ext_getElem hlen fun i q1 q2 => ?_
    have := g1 i q2
    rw [if_pos q2] at this
    simpa [RM.N, List.getD, q1, q2] using this
  have e2 : (ldN (stS X) X.st.length).r = X.r := by
    funext j
    rw [g2 j]
    by_cases c : j < X.st.length
    · rw [if_pos c]
    · rw [if_neg c, h.a.i.rb j (by omega)]
      show filled (fun _ => false) 0 1 true j = false
      unfold filled
      have := h.a.i.n1
      rw [if_neg (by omega)]
  have e3 : (ldN (stS X) X.st.length).m = X.m := by rw [g3, h.a.i.cn]
  cases hx : ldN (stS X) X.st.length with
  | mk a b c =>
    rw [hx] at e1 e2 e3
    simp only at e1 e2 e3
    rw [e1, e2, e3]
end
end Go.Proofs.YtfmclbacoffdaaaDoor

namespace Go.Proofs.YtfmclbacoffdaaaDoor
open Go.RowKit Go.Sort Go.Joins
attribute [local go_sem] cell_grow frozen_grow size_grow Oper.semAt_some
/-- a block of numbers -/
def it7 (n : Nat) (f : Nat → Nat) : Array Value := ((List.range n).map fun k => Value.int .i64 (f k : Int)).toArray
abbrev It7 (w : World) (g n : Nat) (f : Nat → Nat) : Prop := w.heap[g]? = some (.cells (it7 n f) 3 (0, 0))
section
variable {w w' : World} {g n : Nat} {f : Nat → Nat}
theorem It7.below (h : It7 w g n f) (hb : Below w.heap.size w w') : It7 w' g n f := (hb.block _ (blk_lt h)).trans h
theorem It7.at_ (h : It7 w g n f) {k : Nat} (hk : k < n) : w.cell? ⟨g, k, none⟩ = some (.int .i64 (f k : Int)) := by
  rw [cell_of_block h]; unfold it7; simp [hk]
theorem It7.set (h : It7 w g n f) (k : Nat) (b : Nat) : It7 (w.setCell ⟨g, k, none⟩ (.int .i64 (b : Int))) g n (fun j => if j = k then b else f j) := by
  unfold It7
  rw [setCell_block h]
  unfold it7
  rw [List.setIfInBounds_toArray]
  have e : (Value.int .i64 (b : Int)) = (fun j => Value.int .i64 ((if j = k then b else f j : Nat) : Int)) k := by simp
  rw [e, map_upd (fun j => Value.int .i64 (f j : Int)) (fun j => Value.int .i64 ((if j = k then b else f j : Nat) : Int)) n k fun j _ hj => by simp [hj]]
theorem It7.other (h : It7 w g n f) {a : Addr} (hne : a.block ≠ g) (v : Value) : It7 (w.setCell a v) g n f := by
  unfold It7
  rw [Below.heap_setCell _ _ _ _ (fun e => hne e.symm)]
  exact h
theorem It7.congr (h : It7 w g n f) {r : Nat → Nat} (hr : ∀ j, j < n → r j = f j) : It7 w g n r := by
  have : it7 n r = it7 n f := by
    unfold it7
    rw [List.map_congr_left fun j hj => by rw [hr j (by simpa using hj)]]
  unfold It7
  rw [this]; exact h
end
theorem run_make_ints7 (n : Nat) (hn : n ≤ 10000) (w : World) :
    (Instr.makeSlice 52 (.int .i64 (n : Int)) (.int .i64 (n : Int))).run Tryd.prog w = .ok (.slice (some ⟨w.heap.size, 0, none⟩) n n) (w.alloc (.cells (it7 n fun _ => 0) 3)) := by
  obtain ⟨i0, hi, hz0, hz1, hz2⟩ := info_parts info_int7
  have h := run_make (P := Tryd.prog) w 52 3 i0 _ Tryd.underlying52 hi hz0 .i64 .i64 n n (by omega) (by omega) (by rw [hz2]; omega) (by omega)
  have e : madeCells #[.int .i64 0] (n * 1) = it7 n fun _ => 0 := by
    rw [Nat.mul_one]
    apply Array.ext'
    rw [toList_madeCells_one]
    unfold it7
    apply List.ext_getElem?
    intro i
    by_cases hi : i < n
    · simp [hi]
    · rw [List.getElem?_eq_none (by simpa using hi), List.getElem?_eq_none (by simpa using hi)]
  rw [h, Int.toNat_natCast, hz1]
  exact congrArg (fun c => Result.ok (Value.slice (some ⟨w.heap.size, 0, none⟩) n n) (w.alloc (.cells c 3))) e
theorem isK_ways (S : List Rn) (x : Rn) (k : Int) (m : Nat) (hm : S.length = m) :
    (Hid (isK S x k = false) ∧ decide (0 ≤ x.lv) = false) ∨ (Hid (isK S x k = false) ∧ decide (0 ≤ x.lv) = true ∧ decide (0 ≤ k) = false) ∨
    (Hid (isK S x k = false) ∧ decide (0 ≤ x.lv) = true ∧ decide (0 ≤ k) = true ∧ decide (k < (m : Int)) = false) ∨
    (Hid (isK S x k = false) ∧ decide (0 ≤ x.lv) = true ∧ decide (0 ≤ k) = true ∧ decide (k < (m : Int)) = true ∧ (lvA S k == lv1 x) = false) ∨
    (Hid (isK S x k = true) ∧ decide (0 ≤ x.lv) = true ∧ decide (0 ≤ k) = true ∧ decide (k < (m : Int)) = true ∧ (lvA S k == lv1 x) = true) := by
  unfold isK
  rw [hm]
  generalize decide (0 ≤ x.lv) = a
  generalize decide (0 ≤ k) = b
  generalize decide (k < (m : Int)) = c
  generalize (lvA S k == lv1 x) = d
  unfold Hid
  cases a <;> cases b <;> cases c <;> cases d <;> simp
/-- what Check holds -/
structure CkM (w wr : World) (m : Int) (a : Option Addr) (n c N : Nat) (f : Nat → Nat) : Prop where
  box : wr.heap[w.heap.size]? = some (.cells #[.int .i64 m, .slice a n c] 45 (0, 0))
  row : It7 wr (w.heap.size + 1) N f
  k : Below w.heap.size w wr
section
variable {w wr wr' : World} {m : Int} {a : Option Addr} {n c N : Nat} {f : Nat → Nat}
theorem CkM.below (h : CkM w wr m a n c N f) (hb : Below wr.heap.size wr wr') : CkM w wr' m a n c N f := ⟨(hb.block _ (blk_lt h.box)).trans h.box, h.row.below hb, below_tr h.k hb⟩
theorem CkM.set (h : CkM w wr m a n c N f) (k b : Nat) : CkM w (wr.setCell ⟨w.heap.size + 1, k, none⟩ (.int .i64 (b : Int))) m a n c N (fun j => if j = k then b else f j) :=
  ⟨by rw [Below.heap_setCell _ _ _ _ (by dsimp only; omega)]; exact h.box, h.row.set k b, h.k.setCell (p := ⟨w.heap.size + 1, k, none⟩) (Nat.le_succ _) _⟩
theorem CkM.congr (h : CkM w wr m a n c N f) {r : Nat → Nat} (hr : ∀ j, j < N → r j = f j) : CkM w wr m a n c N r := ⟨h.box, h.row.congr hr, h.k⟩
theorem CkM.c0 (h : CkM w wr m a n c N f) : wr.cell? ⟨w.heap.size, 0, none⟩ = some (.int .i64 m) := by rw [cell_of_block h.box]; rfl
theorem CkM.c1 (h : CkM w wr m a n c N f) : wr.cell? ⟨w.heap.size, 1, none⟩ = some (.slice a n c) := by rw [cell_of_block h.box]; rfl
end
theorem ck_1 {m : Int} {S : List Rn} (h : m < 1 ∨ 145 < m) : ckE m S = 7 ∧ ckV m S = 0 := ⟨if_pos h, if_pos h⟩
theorem ck_2 {m : Int} {S : List Rn} (h : ¬ (m < 1 ∨ 145 < m)) (h2 : (S.length : Int) ≠ m) : ckE m S = 6 ∧ ckV m S = 0 := by
  unfold ckE ckV
  rw [if_neg h, if_neg h, if_pos h2, if_pos h2]; exact ⟨rfl, rfl⟩
theorem ck_3 {N : Nat} {S : List Rn} (h : ¬ ((N : Int) < 1 ∨ 145 < (N : Int))) (h2 : S.length = N) : ckE (N : Int) S = (if ckI S < N then 6 else 0) ∧ ckV (N : Int) S = (if ckI S < N then (ckI S : Int) else 0) := by
  unfold ckE ckV
  have h3 : ¬ ((N : Int) ≠ (N : Int)) := fun h => h rfl
  rw [h2, if_neg h, if_neg h, if_neg h3, if_neg h3]; exact ⟨rfl, rfl⟩
section
variable {w : World} {a : Option Addr} {c : Nat} {S : List Rn}
set_option maxRecDepth 100000 in
set_option maxHeartbeats 6400000 in
theorem check_ok (m : Int) (hS : StR w a S) (hl : S.length ≤ 10000) (hk : ∀ j, (S.getD j rn0).ks.length ≤ 1000) (hu : ∀ j, (S.getD j rn0).ws.length ≤ 1000) (hw : ∀ i j, (S.getD i rn0).ws.getD j 0 < 18446744073709551616) :
    Calls Tryd.prog 28 #[.agg #[.int .i64 m, .slice a S.length c]] w fun e w' => e = .returned (.tuple #[.int .i64 (ckV m S), .int .i64 (ckE m S)]) ∧ Below w.heap.size w w' := by
  have HB0 := Lib.hid (below_box0 w (.cells #[.int .i64 m, .slice a S.length c] 45))
  by_cases hm1 : m < 1
  · obtain ⟨e1, e2⟩ := ck_1 (S := S) (.inl hm1 : m < 1 ∨ 145 < m)
    rw [e1, e2]
    clear e1 e2 hS hk hu hw
    go_enter Tryd.func28, Tryd.ntmps28
    go_wp2
    go_ret2
    exact ⟨rfl, HB0.out⟩
  by_cases hm2 : 145 < m
  · obtain ⟨e1, e2⟩ := ck_1 (S := S) (.inr hm2 : m < 1 ∨ 145 < m)
    rw [e1, e2]
    clear e1 e2 hS hk hu hw
    go_enter Tryd.func28, Tryd.ntmps28
    go_wp2
    go_ret2
    exact ⟨rfl, HB0.out⟩
  by_cases hm3 : (S.length : Int) = m
  case neg =>
    obtain ⟨e1, e2⟩ := ck_2 (S := S) (m := m) (by omega) hm3
    rw [e1, e2]
    have d1 : ((S.length : Int) != m) = true := by simpa using hm3
    clear e1 e2 hS hk hu hw hm3
    go_enter Tryd.func28, Tryd.ntmps28
    go_wp2
    go_ret2
    exact ⟨rfl, HB0.out⟩
  case pos =>
  subst hm3
  obtain ⟨N, hN⟩ : ∃ N, S.length = N := ⟨_, rfl⟩
  have HN := Lib.hid hN
  obtain ⟨q1, q2⟩ := ck_3 (N := N) (S := S) (by omega) hN
  have Q1 := Lib.hid q1
  have Q2 := Lib.hid q2
  obtain ⟨E, hE⟩ : ∃ E, ckE (N : Int) S = E := ⟨_, rfl⟩
  obtain ⟨V, hV⟩ : ∃ V, ckV (N : Int) S = V := ⟨_, rfl⟩
  rw [hE] at Q1
  rw [hV] at Q2
  rw [hN] at hm1 hm2 hl HB0 ⊢
  rw [hE, hV]
  have HS := Lib.hid hS
  have HK := Lib.hid hk
  have HU := Lib.hid hu
  have HW := Lib.hid hw
  have d1 : ((N : Int) != (N : Int)) = false := by simp
  have hmk := run_make_ints7 N (by omega)
  have HTB : Hid (∀ l, (∀ x ∈ l, x ∈ S) → ∀ k, tmS S l k ≤ l.length * 1000) := Lib.hid (fun l hl k => tmS_le (c := 1000) (fun x hx => by
    obtain ⟨i, hi, rfl⟩ := List.getElem_of_mem (hl x hx)
    have := hk i
    simpa [List.getD, hi] using this) k)
  clear hN q1 q2 hE hV hS hk hu hw
  go_enter Tryd.func28, Tryd.ntmps28
  go_wp2
  have M0 : CkM w ((w.alloc (.cells #[.int .i64 N, .slice a N c] 45)).alloc (.cells (it7 N fun _ => 0) 3)) N a N c N (fun _ => 0) := by
    refine ⟨?_, ?_, below_tr HB0.out (below_box0 _ _)⟩
    · rw [Below.heap_alloc _ _ _ (by simp)]; exact heap_alloc_new w _
    · have := heap_alloc_new (w.alloc (.cells #[.int .i64 N, .slice a N c] 45)) (.cells (it7 N fun _ => 0) 3)
      rwa [World.size_alloc] at this
  have HM0 := Lib.hid M0
  generalize World.alloc _ (Obj.cells (it7 _ _) _) = W0 at HM0 ⊢
  clear M0 hmk d1 HB0
  go_loopw [30] (fun v wr => ∃ i : Nat, i ≤ N ∧ v = .int .i64 i ∧ Hid (CkM w wr N a N c N (fun k => tmS S (S.take i) k))) (fun v _ => N - (intOf v).toNat)
  case atStart => exact ⟨0, Nat.zero_le _, rfl, HM0⟩
  case round =>
    obtain ⟨i, hi, rfl, M⟩ := hrel
    have c1 := M.out.c1
    by_cases hlt : i < N
    · obtain ⟨b, o, rfl, hb, hc⟩ : ∃ b o, a = some ⟨b, o, none⟩ ∧ b < w.heap.size ∧ ∀ j, j < S.length → NdR w b (o + j * 3) (S.getD j rn0) := HS.out.resolve_left (by rw [HN.out]; omega)
      have d := hc i (by rw [HN.out]; exact hlt)
      have HC : Hid (∀ j, j < N → w.cell? ⟨b, o + j * 3, none⟩ = some (.int .i64 (S.getD j rn0).lv)) := Lib.hid (fun j hj => (hc j (by rw [HN.out]; exact hj)).lv)
      have HTS : Hid (S.take (i + 1) = S.take i ++ [S.getD i rn0]) := Lib.hid (take_step rn0 _ (by rw [HN.out]; exact hlt))
      have hkx := HK.out i
      have htb : ∀ k, tmS S (S.take i) k ≤ 10000000 := fun k => by
        have := HTB.out (S.take i) (fun x hx => List.mem_of_mem_take hx) k
        rw [List.length_take, HN.out] at this
        have : min i N * 1000 ≤ N * 1000 := Nat.mul_le_mul_right _ (Nat.min_le_right _ _)
        omega
      have HTB1 := Lib.hid htb
      have hways := fun k => isK_ways S (S.getD i rn0) k N HN.out
      obtain ⟨x, hx⟩ : ∃ x, S.getD i rn0 = x := ⟨_, rfl⟩
      rw [hx] at d HTS hkx
      simp only [hx] at hways
      have HWY := Lib.hid hways
      have e0 := cell_later M.out.k d.lv
      obtain ⟨ka, kc, e1w, r1⟩ := d.ks
      obtain ⟨ua, uc, e2w, r2⟩ := d.ws
      have e1 := cell_later M.out.k e1w
      have e2 := cell_later M.out.k e2w
      have R1 := Lib.hid r1
      obtain ⟨nk, hnk⟩ : ∃ n, x.ks.length = n := ⟨_, rfl⟩
      rw [hnk] at e1 R1 hkx
      have HNK := Lib.hid hnk
      have i0 : (0 : Int) ≤ (i : Int) := by omega
      have i1 : (i : Int) < (N : Int) := by omega
      have hwi : IntKind.i64.wrap ((i : Int) + 1) = (i : Int) + 1 := IntWalk.i64_in _ (by omega)
      obtain ⟨W2, hW2⟩ : ∃ W, W = wr := ⟨_, rfl⟩
      subst hW2
      clear hx d hc r1 r2 hnk hways htb e1w e2w
      go_wp2
      have b3 := below_box0 W2 (.cells #[.int .i64 x.lv, .slice ka nk kc, .slice ua x.ws.length uc] 60)
      have M3 := Lib.hid (M.out.below b3)
      have z0 : (W2.alloc (.cells #[.int .i64 x.lv, .slice ka nk kc, .slice ua x.ws.length uc] 60)).cell? ⟨W2.heap.size, 0, none⟩ = some (.int .i64 x.lv) := by rw [cell_of_block (heap_alloc_new W2 _)]; rfl
      have Z0 := Lib.hid z0
      obtain ⟨nb, hnb⟩ : ∃ g, W2.heap.size = g := ⟨_, rfl⟩
      have hnbg : w.heap.size + 1 < nb := by rw [← hnb]; exact blk_lt M.out.row
      generalize World.alloc _ (Obj.cells #[Value.int IntKind.i64 x.lv, _, _] _) = W3 at M3 Z0 ⊢
      rw [hnb] at Z0 ⊢
      have HNBG := Lib.hid hnbg
      have HB3 := Lib.hid b3
      clear hnb hnbg b3
      have FIN : Hid (∀ (Wf : World), CkM w Wf N (some ⟨b, o, none⟩) N c N (fun k => tmS S (S.take i) k + tmK S x (x.ks.take nk) k) → CkM w Wf N (some ⟨b, o, none⟩) N c N (fun k => tmS S (S.take (i + 1)) k)) := Lib.hid (fun Wf h => h.congr fun k _ => by
        rw [HTS.out, tmS_snoc, show x.ks.take nk = x.ks from List.take_of_length_le (by rw [HNK.out]; exact Nat.le_refl _)])
      have M4 : Hid (CkM w W3 N (some ⟨b, o, none⟩) N c N (fun k => tmS S (S.take i) k + tmK S x (x.ks.take 0) k)) := Lib.hid (M3.out.congr fun k _ => rfl)
      clear HTS M3 M
      go_loopw [37] (fun v wk => ∃ j : Nat, j ≤ nk ∧ v = .int .i64 j ∧ Hid (CkM w wk N (some ⟨b, o, none⟩) N c N (fun k => tmS S (S.take i) k + tmK S x (x.ks.take j) k)) ∧ Hid (wk.cell? ⟨nb, 0, none⟩ = some (.int .i64 x.lv)) ∧ Hid (nb < wk.heap.size)) (fun v _ => nk - (intOf v).toNat)
      case atStart => exact ⟨0, Nat.zero_le _, rfl, M4, Z0, Lib.hid (World.block_lt_of_cell? _ _ Z0.out)⟩
      case round =>
        obtain ⟨j, hj, rfl, M, Z, LB⟩ := hrel
        by_cases hltj : j < nk
        · obtain ⟨pk, ok, rfl, hpk, hck⟩ := R1.out.resolve_left (by omega)
          have v1 := cell_later M.out.k (hck j hltj)
          simp only [kdV] at v1
          have HTJ : Hid (x.ks.take (j + 1) = x.ks.take j ++ [x.ks.getD j 0]) := Lib.hid (take_step 0 _ (by rw [HNK.out]; exact hltj))
          have hle : ∀ k', tmK S x (x.ks.take j) k' ≤ 10000000 := fun k' => by
            have := tmK_le S x (x.ks.take j) k'
            rw [List.length_take, HNK.out] at this
            omega
          have HLE := Lib.hid hle
          obtain ⟨k, hkv⟩ : ∃ k, x.ks.getD j 0 = k := ⟨_, rfl⟩
          rw [hkv] at v1 HTJ
          have hways := HWY.out k
          have j0 : (0 : Int) ≤ (j : Int) := by omega
          have j1 : (j : Int) < (nk : Int) := by omega
          have hwj : IntKind.i64.wrap ((j : Int) + 1) = (j : Int) + 1 := IntWalk.i64_in _ (by omega)
          have c0 := M.out.c0
          have c1 := M.out.c1
          have z0 := Z.out
          have HD : Hid (CkM w wr.drew N (some ⟨b, o, none⟩) N c N (fun k => tmS S (S.take i) k + tmK S x (x.ks.take j) k)) := Lib.hid (M.out.below (Below.refl _ _).drew)
          have HST : Hid (isK S x k = false → ∀ k', tmK S x (x.ks.take (j + 1)) k' = tmK S x (x.ks.take j) k') := Lib.hid (fun h k' => by rw [HTJ.out, tmK_snoc, h]; simp)
          have KEEP : Hid (isK S x k = false → ∀ q, CkM w (wr.drewN q) N (some ⟨b, o, none⟩) N c N (fun k => tmS S (S.take i) k + tmK S x (x.ks.take (j + 1)) k)) := Lib.hid (fun h q => (M.out.below (below_draw _ _)).congr fun k' _ => by rw [HST.out h])
          clear hck hkv hle
          rcases hways with ⟨HI, d1⟩ | ⟨HI, d1, d2⟩ | ⟨HI, d1, d2, d3⟩ | ⟨HI, d1, d2, d3, d4⟩ | ⟨HI, d1, d2, d3, d4⟩
          · have KP := Lib.hid (KEEP.out HI.out)
            clear KEEP HST
            go_upto_region 12 with fail
            go_quiet (fail)
            go_wp2
            go_roundw
            case rel => exact ⟨j + 1, by omega, by go_num, Lib.hid (KP.out _), Z, LB⟩
            case measure => simp [intOf]; omega
          · have KP := Lib.hid (KEEP.out HI.out)
            clear KEEP HST
            go_upto_region 12 with fail
            go_quiet (fail)
            go_wp2
            go_roundw
            case rel => exact ⟨j + 1, by omega, by go_num, Lib.hid (KP.out _), Z, LB⟩
            case measure => simp [intOf]; omega
          · have KP := Lib.hid (KEEP.out HI.out)
            have h2 := of_decide_eq_true d2
            obtain ⟨k', rfl⟩ := Int.eq_ofNat_of_zero_le h2
            have d3' : decide (k' < N) = false := decide_eq_false (by have := of_decide_eq_false d3; omega)
            clear KEEP HST
            go_upto_region 12 with fail
            go_quiet (fail)
            go_wp2
            go_roundw
            case rel => exact ⟨j + 1, by omega, by go_num, Lib.hid (KP.out _), Z, LB⟩
            case measure => simp [intOf]; omega
          · have KP := Lib.hid (KEEP.out HI.out)
            have h2 := of_decide_eq_true d2
            have h3 := of_decide_eq_true d3
            obtain ⟨k', rfl⟩ := Int.eq_ofNat_of_zero_le h2
            have d3' : decide (k' < N) = true := decide_eq_true (by omega)
            have v2 := cell_later M.out.k (HC.out k' (by omega))
            have hlvA : lvA S (k' : Int) = (S.getD k' rn0).lv := rfl
            rw [hlvA] at d4
            unfold lv1 at d4
            obtain ⟨lk, hlk⟩ : ∃ l, (S.getD k' rn0).lv = l := ⟨_, rfl⟩
            rw [hlk] at d4 v2 hlvA
            obtain ⟨L1, hL1⟩ : ∃ l, IntKind.i64.wrap (x.lv + 1) = l := ⟨_, rfl⟩
            rw [hL1] at d4
            have k0 : (0 : Int) ≤ (k' : Int) := by omega
            have k1 : (k' : Int) < (N : Int) := by omega
            clear KEEP HST hlk hlvA h2 h3
            go_upto_region 12 with fail
            go_quiet (fail)
            go_wp2
            go_roundw
            case rel => exact ⟨j + 1, by omega, by go_num, Lib.hid (KP.out _), Z, LB⟩
            case measure => simp [intOf]; omega
          · have h2 := of_decide_eq_true d2
            have h3 := of_decide_eq_true d3
            obtain ⟨k', rfl⟩ := Int.eq_ofNat_of_zero_le h2
            have d3' : decide (k' < N) = true := decide_eq_true (by omega)
            have v2 := cell_later M.out.k (HC.out k' (by omega))
            have hlvA : lvA S (k' : Int) = (S.getD k' rn0).lv := rfl
            rw [hlvA] at d4
            unfold lv1 at d4
            obtain ⟨lk, hlk⟩ : ∃ l, (S.getD k' rn0).lv = l := ⟨_, rfl⟩
            rw [hlk] at d4 v2 hlvA
            obtain ⟨L1, hL1⟩ : ∃ l, IntKind.i64.wrap (x.lv + 1) = l := ⟨_, rfl⟩
            rw [hL1] at d4
            have k0 : (0 : Int) ≤ (k' : Int) := by omega
            have k1 : (k' : Int) < (N : Int) := by omega
            obtain ⟨t0, ht0⟩ : ∃ t, tmS S (S.take i) k' + tmK S x (x.ks.take j) k' = t := ⟨_, rfl⟩
            have htb : t0 ≤ 20000000 := by have := HTB1.out k'; have := HLE.out k'; omega
            have hwt : IntKind.i64.wrap ((t0 : Int) + 1) = (t0 : Int) + 1 := IntWalk.i64_in _ (by omega)
            have HT0 := Lib.hid ht0
            have KP : Hid (∀ q, CkM w ((wr.drewN q).setCell ⟨w.heap.size + 1, k', none⟩ (.int .i64 ((t0 + 1 : Nat) : Int))) N (some ⟨b, o, none⟩) N c N (fun k => tmS S (S.take i) k + tmK S x (x.ks.take (j + 1)) k)) := Lib.hid (fun q => ((M.out.below (below_draw _ _)).set k' (t0 + 1)).congr fun k'' _ => by
              have e := tmK_snoc S x (x.ks.take j) (k' : Int) k''
              rw [HI.out, ← HTJ.out] at e
              rw [e]
              by_cases e2 : k'' = k'
              · subst e2
                rw [if_pos rfl, ← HT0.out]
                simp
                omega
              · rw [if_neg e2, if_neg (by simp; omega)]
                rfl)
            have ZP : Hid (∀ q v, ((wr.drewN q).setCell ⟨w.heap.size + 1, k', none⟩ v).cell? ⟨nb, 0, none⟩ = some (.int .i64 x.lv)) := Lib.hid (fun q v => by
              rw [World.cell?_setCell_other _ _ _ _ (fun e => by have h1 : w.heap.size + 1 = nb := congrArg Addr.block e; have := HNBG.out; omega)]
              exact Z.out)
            have LP : Hid (∀ q v, nb < ((wr.drewN q).setCell ⟨w.heap.size + 1, k', none⟩ v).heap.size) := Lib.hid (fun q v => by
              have := World.block_lt_of_cell? _ _ (ZP.out q v)
              exact this)
            have rowc := M.out.row.at_ (k := k') (by omega)
            rw [HT0.out] at rowc
            have fz : ∀ j, wr.frozen? ⟨w.heap.size + 1, j, none⟩ = false := fun j => unfrozen_of_block M.out.row j
            clear KEEP HST hlk hlvA h2 h3 ht0
            go_upto_region 12 with fail
            go_quiet (fail)
            go_wp2
            go_roundw
            case rel => exact ⟨j + 1, by omega, by go_num, Lib.hid (by have := KP.out nq; exact this), Lib.hid (ZP.out _ _), Lib.hid (LP.out _ _)⟩
            case measure => simp [intOf]; omega
        · obtain rfl : j = nk := by omega
          have i1 : ¬ ((j : Int) < (j : Int)) := by omega
          have MF := Lib.hid (FIN.out _ M.out)
          go_wp2
          go_roundw
          case rel => exact ⟨i + 1, by omega, by go_num, MF⟩
          case measure => simp [intOf]; omega
    · obtain rfl : i = N := by omega
      have hli : ¬ ((i : Int) < (i : Int)) := by omega
      obtain ⟨W2, hW2⟩ : ∃ W, W = wr := ⟨_, rfl⟩
      subst hW2
      have M2 : Hid (CkM w W2 i a i c i (fun k => tmS S S k)) := Lib.hid (M.out.congr fun k _ => by rw [show S.take i = S from List.take_of_length_le (by rw [HN.out]; exact Nat.le_refl _)])
      clear M
      go_wp2
      go_loopw [77] (fun v wr => ∃ j : Nat, j ≤ i ∧ v = .int .i64 j ∧ Hid (∀ k, k < j → wrI S k = false) ∧ Hid (Below W2.heap.size W2 wr)) (fun v _ => i - (intOf v).toNat)
      case atStart => exact ⟨0, Nat.zero_le _, rfl, Lib.hid (fun k hk => absurd hk (Nat.not_lt_zero _)), Lib.hid (Below.refl _ _)⟩
      case round =>
        obtain ⟨j, hj, rfl, HA, HB⟩ := hrel
        have MJ := Lib.hid (M2.out.below HB.out)
        by_cases hltj : j < i
        · have rowc := MJ.out.row.at_ (k := j) hltj
          have j0 : (0 : Int) ≤ (j : Int) := by omega
          have j1 : (j : Int) < (i : Int) := by omega
          have hwj : IntKind.i64.wrap ((j : Int) + 1) = (j : Int) + 1 := IntWalk.i64_in _ (by omega)
          have HW7 : Hid (∀ t : Nat, Calls Tryd.prog 52 #[.pointer (some ⟨w.heap.size, 0, none⟩), .int .i64 j, .int .i64 (t : Int)] wr fun e w' => e = .returned (.bool (wrN S j (t : Int))) ∧ Below wr.heap.size wr w') := Lib.hid (fun t =>
            wrong_ok (i := j) (by rw [HN.out]; exact MJ.out.box) (HS.out.below MJ.out.k) (by rw [HN.out]; exact hltj) (t : Int) (by rw [HN.out]; exact hl) (by have := HK.out j; omega) (by have := HU.out j; omega) (fun k => HW.out j k))
          have HWI : Hid (wrI S j = wrN S j (tmS S S j : Nat)) := Lib.hid rfl
          obtain ⟨t, ht⟩ : ∃ t, tmS S S j = t := ⟨_, rfl⟩
          rw [ht] at rowc HWI
          have HWT := Lib.hid (HW7.out t)
          rw [← HWI.out] at HWT
          obtain ⟨r, hr⟩ : ∃ r, wrI S j = r := ⟨_, rfl⟩
          rw [hr] at HWT
          have HR := Lib.hid hr
          clear ht hr HW7
          go_wp2_with fail
          refine HWT.out.mono ?_
          rintro e w5 ⟨rfl, b5⟩
          have B5 := Lib.hid (below_tr HB.out b5)
          clear b5
          cases r
          · go_wp2
            go_roundw
            case rel => exact ⟨j + 1, by omega, by go_num, Lib.hid (fun k hk => by
              by_cases e : k = j
              · rw [e]; exact HR.out
              · exact HA.out k (by omega)), B5⟩
            case measure => simp [intOf]; omega
          · have hck : ckI S = j := nxt_eq (Nat.zero_le _) (Nat.zero_le _) (by rw [HN.out]; omega) (fun k _ hk => HA.out k hk) (fun _ => HR.out)
            have hE : E = 6 := by rw [Q1.out, hck, if_pos hltj]
            have hV : V = (j : Int) := by rw [Q2.out, hck, if_pos hltj]
            subst hE
            subst hV
            clear Q1 Q2 hck
            go_wp2
            go_ret2
            exact ⟨rfl, below_tr M2.out.k B5.out⟩
        · obtain rfl : j = i := by omega
          have i1 : ¬ ((j : Int) < (j : Int)) := by omega
          have hck : ckI S = j := nxt_eq (Nat.zero_le _) (Nat.zero_le _) (by rw [HN.out]; omega) (fun k _ hk => HA.out k hk) (fun h => by rw [HN.out] at h; omega)
          have hE : E = 0 := by rw [Q1.out, hck, if_neg (Nat.lt_irrefl _)]
          have hV : V = 0 := by rw [Q2.out, hck, if_neg (Nat.lt_irrefl _)]
          subst hE
          subst hV
          clear Q1 Q2 hck
          go_wp2
          go_ret2
          exact ⟨rfl, below_tr M2.out.k HB.out⟩
end
end Go.Proofs.YtfmclbacoffdaaaDoor
