/- The radix map: Load. | The radix map: Same of the reference. -/
import Derived.Test.YtfmclbacoffdaaaDoorRSZ2
import Derived.Test.YtfmclbacoffdaaaDoorRSZ3
import Derived.Shelf.Spec.SlicesInsert
import Derived.Deep.RegionLaw
import Derived.Test.YtfmclbacoffdaaaDoorRSZ1
import Derived.Deep.RegionHeld3
import Derived.Deep.DrawnRows
namespace Go.Proofs.YtfmclbacoffdaaaDoor
open Go.RowKit Go.Sort Go.Joins
attribute [local go_sem] cell_grow frozen_grow size_grow Oper.semAt_some
section
variable {w : World} {B p q i : Nat} {m : Nat} {r : Nat → Bool}
theorem TM.le {B' : Nat} {st : List Nd} (h : TM w B p q st m r) (hB : B' ≤ B) : TM w B' p q st m r := by
  obtain ⟨ra, rcap, h1, h2⟩ := h.tbl
  exact ⟨Nat.le_trans hB h.hp, Nat.le_trans hB h.hq, h.ne, h.n1, h.n2, ⟨ra, rcap, h1, ownsRow_le h2 hB⟩, h.nodes, h.rb⟩
/-- kids are stored -/
theorem TM.kidsSet : ∀ (l : List Nat) (o : Nat) (x : Nd) (st : List Nd) (w : World), TM w B p q st m r → i < st.length → st.getD i ndZ = x → o + l.length ≤ 16 →
    TM (w.setCells q (i * 26 + 2 + o) (l.map fun (v : Nat) => Value.int .i64 (v : Int))) B p q (st.set i { x with kd := updL x.kd o l }) m r
  | [], o, x, st, w, h, hi, hx, _ => by
    show TM w B p q (st.set i x) m r
    have : st.set i x = st := by
      rw [← hx]
      refine List.ext_getElem (by simp) fun k h1 h2 => ?_
      rw [List.getElem_set]
      split
      · rename_i e; subst e; simp [List.getD, hi]
      · rfl
    rw [this]; exact h
  | v :: l, o, x, st, w, h, hi, hx, hl => by
    have h1 := h.cell (i := i) (j := 2 + o) (v := .int .i64 (v : Int)) (y := { x with kd := upd x.kd o v }) hi (by simp at hl; omega) (by rw [hx]; exact ndc_setKd x (by simp at hl; omega) v)
    have h2 := TM.kidsSet l (o + 1) { x with kd := upd x.kd o v } (st.set i { x with kd := upd x.kd o v }) _ h1 (by simpa using hi) (by simp [List.getD, hi]) (by simp at hl; omega)
    rw [List.set_set] at h2
    rw [List.map_cons]
    rw [show i * 26 + (2 + o) = i * 26 + 2 + o by omega] at h2
    exact h2
/-- words are stored -/
theorem TM.wordsSet : ∀ (l : List Nat) (o : Nat) (x : Nd) (st : List Nd) (w : World), TM w B p q st m r → i < st.length → st.getD i ndZ = x → o + l.length ≤ 8 →
    TM (w.setCells q (i * 26 + 18 + o) (l.map fun (v : Nat) => Value.int .u64 (v : Int))) B p q (st.set i { x with wd := updL x.wd o l }) m r
  | [], o, x, st, w, h, hi, hx, _ => by
    show TM w B p q (st.set i x) m r
    have : st.set i x = st := by
      rw [← hx]
      refine List.ext_getElem (by simp) fun k h1 h2 => ?_
      rw [List.getElem_set]
      split
      · rename_i e; subst e; simp [List.getD, hi]
      · rfl
    rw [this]; exact h
  | v :: l, o, x, st, w, h, hi, hx, hl => by
    have h1 := h.cell (i := i) (j := 18 + o) (v := .int .u64 (v : Int)) (y := { x with wd := upd x.wd o v }) hi (by simp at hl; omega) (by rw [hx]; exact ndc_setWd x o v)
    have h2 := TM.wordsSet l (o + 1) { x with wd := upd x.wd o v } (st.set i { x with wd := upd x.wd o v }) _ h1 (by simpa using hi) (by simp [List.getD, hi]) (by simp at hl; omega)
    rw [List.set_set] at h2
    rw [List.map_cons]
    rw [show i * 26 + (18 + o) = i * 26 + 18 + o by omega] at h2
    exact h2
theorem info_one_int : (Tryd.prog.info? 3).map (·.size) = some 1 := by kernel_rfl
theorem info_one_u64 : (Tryd.prog.info? 24).map (·.size) = some 1 := by kernel_rfl
/-- copy of a slice into a part of a block -/
theorem cpy_ok (W : World) (dT elem ty : TypeId) (b o dc n : Nat) (a : Option Addr) (nk kc : Nat) (f : Nat → Value) (hu : Tryd.prog.underlying dT = some (.slice elem)) (hs : (Tryd.prog.info? elem).map (·.size) = some 1) (hn : nk ≤ n)
    (hS : SlN W a nk f) (hc : ∀ j, j < nk → (W.cell? ⟨b, o + j, none⟩).isSome = true) (hf : ∀ j, W.frozen? ⟨b, j, none⟩ = false) (h1 : ∀ j, j < nk → (f j).oneCell' = true) :
    (Builtin.copy_ #[dT, dT] ty #[.slice (some ⟨b, o, none⟩) n dc, .slice a nk kc]).run Tryd.prog W = .ok (goInt nk) (W.setCells b o ((List.range nk).map f)) := by
  have hm : Nat.min nk n = nk := Nat.min_eq_left hn
  rcases hS with h0 | ⟨pb, po, rfl, hl, hcs⟩
  · subst h0
    have := run_copy_none (P := Tryd.prog) W dT dT ty elem (some ⟨b, o, none⟩) a n dc 0 kc hu hs (by rw [hm])
    rw [this]; rfl
  · have := run_copy_cells (P := Tryd.prog) W dT dT ty elem b o n dc ⟨pb, po, none⟩ nk kc ((List.range nk).map f) hu hs (by rw [hm]; simp) (fun j v hj => by
      have hj' : j < nk := by have := (List.getElem?_eq_some_iff.1 hj).1; simpa using this
      rw [Addr.add_lit, hcs j hj', ← hj]; simp [hj']) (fun j hj => hc j (by simpa using hj)) (fun j _ => hf _) (fun v hv => by
      obtain ⟨j, hj, rfl⟩ := List.mem_map.1 hv
      exact h1 j (List.mem_range.1 hj))
    rw [this]; simp
end
theorem kd_list {x : Rn} {nk : Nat} (hl : x.ks.length = nk) (h0 : ∀ k ∈ x.ks, 0 ≤ k) : (List.range nk).map (kdV x) = ((List.range nk).map (kdF x)).map (fun (v : Nat) => Value.int .i64 (v : Int)) ∧ (fun k => ((List.range nk).map (kdF x)).getD k 0) = kdF x := by
  constructor
  · rw [List.map_map]
    refine List.map_congr_left fun j hj => ?_
    have hj' : j < x.ks.length := by rw [hl]; exact List.mem_range.1 hj
    have hm : x.ks.getD j 0 ∈ x.ks := by simp [List.getD, hj']
    have := h0 _ hm
    show Value.int .i64 (x.ks.getD j 0) = Value.int .i64 ((x.ks.getD j 0).toNat : Int)
    rw [Int.toNat_of_nonneg this]
  · funext k
    by_cases c : k < nk
    · simp [List.getD, c]
    · unfold kdF
      have : x.ks.getD k 0 = 0 := by rw [List.getD_eq_getElem?_getD, List.getElem?_eq_none (by omega)]; rfl
      rw [this]
      simp [List.getD, c]
theorem wd_list {x : Rn} {nu : Nat} (hl : x.ws.length = nu) : (List.range nu).map (wdV x) = ((List.range nu).map (wdF x)).map (fun (v : Nat) => Value.int .u64 (v : Int)) ∧ (fun k => ((List.range nu).map (wdF x)).getD k 0) = wdF x := by
  constructor
  · rw [List.map_map]; rfl
  · funext k
    by_cases c : k < nu
    · simp [List.getD, c]
    · unfold wdF
      rw [List.getD_eq_getElem?_getD, List.getD_eq_getElem?_getD, List.getElem?_eq_none (by simp; omega), List.getElem?_eq_none (by omega)]
theorem kN_le (l : Int) : kN l ≤ 16 := by
  unfold kN
  split
  · omega
  · split <;> omega
theorem set_getD {st : List Nd} {i : Nat} {y : Nd} (hi : i < st.length) : (st.set i y).getD i ndZ = y := by simp [List.getD, hi]
section
variable {w : World} {a : Option Addr} {c : Nat} {S : List Rn}
set_option maxRecDepth 100000 in
set_option maxHeartbeats 1600000 in
theorem load_bad (m : Int) (hE : ckE m S ≠ 0) (hS : StR w a S) (hl : S.length ≤ 10000) (hk : ∀ j, (S.getD j rn0).ks.length ≤ 1000) (hu : ∀ j, (S.getD j rn0).ws.length ≤ 1000) (hw : ∀ i j, (S.getD i rn0).ws.getD j 0 < 18446744073709551616) :
    Calls Tryd.prog 30 #[.agg #[.int .i64 m, .slice a S.length c]] w fun e w' => e = .returned (.tuple #[.pointer none, .int .i64 (ckE m S)]) ∧ Below w.heap.size w w' := by
  have HB := Lib.hid (below_box0 w (.cells #[.int .i64 m, .slice a S.length c] 45))
  have HCK := Lib.hid (check_ok (c := c) m (hS.below HB.out) hl hk hu hw)
  have d1 : (ckE m S != 0) = true := by simpa using hE
  obtain ⟨E, hE'⟩ : ∃ E, ckE m S = E := ⟨_, rfl⟩
  obtain ⟨V, hV⟩ : ∃ E, ckV m S = E := ⟨_, rfl⟩
  rw [hE', hV] at HCK
  rw [hE'] at d1 ⊢
  clear hE hS hl hk hu hw hE' hV
  go_enter Tryd.func30, Tryd.ntmps30
  go_wp2_with fail
  refine HCK.out.mono ?_
  rintro e w1 ⟨rfl, b1⟩
  have B1 := Lib.hid (below_tr HB.out b1)
  clear b1
  go_wp2
  go_ret2
  exact ⟨rfl, B1.out⟩
set_option maxRecDepth 100000 in
set_option maxHeartbeats 6400000 in
theorem load_ok (m : Int) (hE : ckE m S = 0) (hS : StR w a S) (hw : ∀ i j, (S.getD i rn0).ws.getD j 0 < 18446744073709551616) :
    Calls Tryd.prog 30 #[.agg #[.int .i64 m, .slice a S.length c]] w fun e w' => ∃ g, w.heap.size ≤ g ∧ e = .returned (.tuple #[.pointer (some ⟨g + 1, 0, none⟩), .int .i64 0]) ∧ TM w' w.heap.size (g + 1) g (ldM S).st (ldM S).m (ldM S).r ∧ Below w.heap.size w w' := by
  obtain ⟨hm, h1, h145, hok⟩ := ckE_zero hE
  subst hm
  have hkl : ∀ j, (S.getD j rn0).ks.length ≤ 1000 ∧ (S.getD j rn0).ws.length ≤ 1000 := fun j => by
    by_cases hj : j < S.length
    · rw [(hok j hj).ks, (hok j hj).ws]
      unfold kN wN
      constructor
      · split
        · decide
        · split <;> decide
      · split <;> decide
    · rw [show S.getD j rn0 = rn0 by rw [List.getD_eq_getElem?_getD, List.getElem?_eq_none (by omega)]; rfl]; decide
  have HB := Lib.hid (below_box0 w (.cells #[.int .i64 S.length, .slice a S.length c] 45))
  have HCK := Lib.hid (check_ok (c := c) (S.length : Int) (hS.below HB.out) (by omega) (fun j => (hkl j).1) (fun j => (hkl j).2) hw)
  rw [hE] at HCK
  have HS := Lib.hid hS
  have HOK := Lib.hid hok
  have HW := Lib.hid hw
  have HST := Lib.hid (ldN_len S)
  have HMM := Lib.hid (ldN_m S)
  obtain ⟨V, hV⟩ : ∃ E, ckV (S.length : Int) S = E := ⟨_, rfl⟩
  rw [hV] at HCK
  have HX0 : Hid (TM = TM) := Lib.hid rfl
  have HL0 : Hid (ldM S = ldN S S.length) := Lib.hid rfl
  have HLZ : Hid (ldN S 0 = ⟨(newM S.length).st, 0, (newM S.length).r⟩) := Lib.hid rfl
  have HLS : Hid (∀ k, ldN S (k + 1) = ldX (ldN S k) k (S.getD k rn0)) := Lib.hid (fun k => rfl)
  obtain ⟨N, hN⟩ : ∃ N, S.length = N := ⟨_, rfl⟩
  have HN := Lib.hid hN
  rw [hN] at HB HCK HOK HST HL0 HLZ h1 h145 ⊢
  have HNW := Lib.hid (fun w => newm_ok N w h1 h145)
  clear hE hS hw hok hkl hV hN
  go_enter Tryd.func30, Tryd.ntmps30
  go_wp2_with fail
  refine HCK.out.mono ?_
  rintro e w1 ⟨rfl, b1⟩
  have bx1 := (b1.block _ (show w.heap.size < _ by simp)).trans (heap_alloc_new w (.cells #[.int .i64 N, .slice a N c] 45))
  have BX1 := Lib.hid bx1
  have B1 := Lib.hid (below_tr HB.out b1)
  have x0 : w1.cell? ⟨w.heap.size, 0, none⟩ = some (.int .i64 N) := by rw [cell_of_block bx1]; rfl
  clear b1 bx1 HCK
  go_wp2_with fail
  refine (HNW.out _).mono ?_
  rintro e w2 ⟨rfl, m2, b2⟩
  have M2 := Lib.hid m2
  have B2 := Lib.hid (below_tr B1.out b2)
  have hg := B1.out.size
  have hlt1 := blk_lt BX1.out
  have BX2 := Lib.hid ((b2.block _ hlt1).trans BX1.out)
  obtain ⟨g, hg1⟩ : ∃ g, w1.heap.size = g := ⟨_, rfl⟩
  rw [hg1] at M2 hg hlt1 ⊢
  have x1 : w2.cell? ⟨w.heap.size, 1, none⟩ = some (.slice a N c) := by rw [cell_of_block BX2.out]; rfl
  have f2 := M2.out.fp 3
  have M3 := Lib.hid ((M2.out.le hg).many 0)
  rw [← show (ldN S 0).st = (newM N).st by rw [HLZ.out], ← show (ldN S 0).r = (newM N).r by rw [HLZ.out]] at M3
  have B3 := Lib.hid (B2.out.setCell (p := ⟨g + 1, 3, none⟩) (by dsimp only; omega) (.int .i64 ((0 : Nat) : Int)))
  have BX3 : Hid ((w2.setCell ⟨g + 1, 3, none⟩ (.int .i64 ((0 : Nat) : Int))).heap[w.heap.size]? = some (.cells #[.int .i64 N, .slice a N c] 45 (0, 0))) := Lib.hid (by rw [Below.heap_setCell _ _ _ _ (by dsimp only; omega)]; exact BX2.out)
  have x3 : w2.cell? ⟨g + 1, 3, none⟩ = some (.int .i64 (newM N).m) := M2.out.c3
  clear m2 b2 HNW B1 BX1 x0
  have HLZ' : ldN S 0 = ⟨(newM N).st, 0, (newM N).r⟩ := HLZ.out
  go_wp2
  generalize World.setCell _ _ _ = W3 at M3 B3 ⊢
  clear M2 B2 BX2 BX3 f2 x1 x3 HLZ HB
  go_loopw [35] (fun v wr => ∃ i : Nat, i ≤ N ∧ v = .int .i64 i ∧ Hid (TM wr w.heap.size (g + 1) g (ldN S i).st (ldN S i).m (ldN S i).r) ∧ Hid (Below w.heap.size w wr)) (fun v _ => N - (intOf v).toNat)
  case atStart => exact ⟨0, Nat.zero_le _, rfl, by rw [HLZ'] at M3 ⊢; exact M3, B3⟩
  case round =>
    obtain ⟨i, hi, rfl, M, B⟩ := hrel
    by_cases hlt : i < N
    · obtain ⟨b, o, rfl, hb, hc⟩ : ∃ b o, a = some ⟨b, o, none⟩ ∧ b < w.heap.size ∧ ∀ j, j < S.length → NdR w b (o + j * 3) (S.getD j rn0) := HS.out.resolve_left (by rw [HN.out]; omega)
      have d := hc i (by rw [HN.out]; exact hlt)
      have ok := HOK.out i hlt
      have hls := HLS.out i
      have hwd := HW.out i
      have hst := HST.out i
      have hmm := HMM.out i
      obtain ⟨x, hx⟩ : ∃ x, S.getD i rn0 = x := ⟨_, rfl⟩
      obtain ⟨X, hX⟩ : ∃ X, ldN S i = X := ⟨_, rfl⟩
      rw [hx] at d ok hls hwd
      rw [hX] at hls hst hmm M
      have OK := Lib.hid ok
      have HLX := Lib.hid hls
      have HXL := Lib.hid hst
      have e0 := cell_later B.out d.lv
      obtain ⟨ka, kc, e1w, r1⟩ := d.ks
      obtain ⟨ua, uc, e2w, r2⟩ := d.ws
      have e1 := cell_later B.out e1w
      have e2 := cell_later B.out e2w
      have R1 := Lib.hid r1
      have R2 := Lib.hid r2
      obtain ⟨nk, hnk⟩ : ∃ n, x.ks.length = n := ⟨_, rfl⟩
      obtain ⟨nu, hnu⟩ : ∃ n, x.ws.length = n := ⟨_, rfl⟩
      rw [hnk] at e1 R1
      rw [hnu] at e2 R2
      have HNK := Lib.hid hnk
      have HNU := Lib.hid hnu
      have i0 : (0 : Int) ≤ (i : Int) := by omega
      have i1 : (i : Int) < (N : Int) := by omega
      have hwi : IntKind.i64.wrap ((i : Int) + 1) = (i : Int) + 1 := IntWalk.i64_in _ (by omega)
      have b4 := below_box0 wr (.cells #[.int .i64 x.lv, .slice ka nk kc, .slice ua nu uc] 60)
      have M4 := Lib.hid (M.out.below b4)
      have B4 := Lib.hid (below_tr B.out b4)
      have BXN : Hid ((wr.alloc (.cells #[.int .i64 x.lv, .slice ka nk kc, .slice ua nu uc] 60)).heap[wr.heap.size]? = some (.cells #[.int .i64 x.lv, .slice ka nk kc, .slice ua nu uc] 60 (0, 0))) := Lib.hid (heap_alloc_new wr _)
      have hpn := M.out.lp
      have hqn := M.out.lq
      clear d ok hls hst hx hX hc r1 r2 e1w e2w hnk hnu b4 M
      by_cases hlv : x.lv < 0
      · have HNX : Hid (ldN S (i + 1) = X) := Lib.hid (by rw [HLX.out]; unfold ldX; rw [if_pos hlv])
        go_wp2
        go_roundw
        case rel => exact ⟨i + 1, by omega, by go_num, Lib.hid (by rw [HNX.out]; exact M4.out), B4⟩
        case measure => simp [intOf]; omega
      · have HNX : Hid (ldN S (i + 1) = ⟨X.st.set i (ndOf x), X.m + 1, filled X.r i (i + 1) true⟩) := Lib.hid (by rw [HLX.out]; unfold ldX; rw [if_neg hlv])
        have HTK := Lib.hid (take_ok M4.out B4.out.size (i := i) (by rw [HXL.out]; exact hlt) x.lv (by omega))
        have hk16 : nk ≤ 16 := by rw [← HNK.out, OK.out.ks]; exact kN_le _
        have hu8 : nu ≤ 8 := by rw [← HNU.out, OK.out.ws]; unfold wN; split <;> omega
        go_wp2_with fail
        generalize World.alloc _ _ = W4 at HTK M4 B4 BXN ⊢
        obtain ⟨nb, hnb⟩ : ∃ n, wr.heap.size = n := ⟨_, rfl⟩
        rw [hnb] at BXN hpn hqn ⊢
        refine HTK.out.mono ?_
        rintro e w5 ⟨rfl, m5, f5⟩
        have M5 := Lib.hid m5
        have B5 := Lib.hid (Fr.below B4.out f5 (by omega) (by omega) B4.out.size)
        have bx5 := (f5.block nb (blk_lt BXN.out) (by omega) (by omega)).trans BXN.out
        have z1 : w5.cell? ⟨nb, 1, none⟩ = some (.slice ka nk kc) := by rw [cell_of_block bx5]; rfl
        have z2 : w5.cell? ⟨nb, 2, none⟩ = some (.slice ua nu uc) := by rw [cell_of_block bx5]; rfl
        have lnb := blk_lt bx5
        have hcl5 : (X.st.set i (nd0 x.lv)).length = N := by rw [List.length_set]; exact HXL.out
        have c0 := M5.out.c0
        rw [hcl5] at c0
        clear m5 f5 bx5 HTK M4 B4 BXN hnb e0 e1 e2
        -- the kids
        have hcp := cpy_ok w5.drew 52 3 3 g (i * 26 + 2) 16 16 ka nk kc (kdV x) Tryd.underlying52 info_one_int hk16 (R1.out.below (below_tr B5.out (Below.refl _ _).drew))
          (fun j hj => by
            have := (M5.out.below (Below.refl _ _).drew).kd (i := i) (k := j) (by rw [hcl5]; exact hlt) (by omega)
            rw [this]; rfl) (fun j => (M5.out.below (Below.refl _ _).drew).fq j) (fun j _ => rfl)
        obtain ⟨hkl1, hkl2⟩ := kd_list HNK.out (fun k hk => (OK.out.k k hk).1)
        obtain ⟨hwl1, hwl2⟩ := wd_list (x := x) HNU.out
        have M6 : Hid (TM (w5.drew.setCells g (i * 26 + 2) ((List.range nk).map (kdV x))) w.heap.size (g + 1) g (X.st.set i ⟨x.lv, 0, kdF x, fun _ => 0⟩) (X.m + 1) (filled X.r i (i + 1) true)) := Lib.hid (by
          have h := TM.kidsSet (i := i) ((List.range nk).map (kdF x)) 0 (nd0 x.lv) _ _ (M5.out.below (Below.refl _ _).drew) (by rw [hcl5]; exact hlt) (set_getD (by rw [HXL.out]; exact hlt)) (by simp; omega)
          rw [List.set_set, show (nd0 x.lv).kd = fun _ => 0 from rfl, updL_zero, hkl2, ← hkl1] at h
          exact h)
        have B6 : Hid (Below w.heap.size w (w5.drew.setCells g (i * 26 + 2) ((List.range nk).map (kdV x)))) := Lib.hid (Go.below_setCells (by omega) _ _ _ (below_tr B5.out (Below.refl _ _).drew))
        have z16 : ∀ o (l : List Value), (w5.drew.setCells g o l).heap[nb]? = w5.heap[nb]? := fun o l => (World.heap_setCells_other w5.drew g o l lnb (by omega)).trans rfl
        have HWL2 := Lib.hid hwl2
        have HWL1 := Lib.hid hwl1
        have HNB1 := Lib.hid (show (w5.drew.setCells g (i * 26 + 2) ((List.range nk).map (kdV x))).cell? ⟨nb, 1, none⟩ = some (.slice ka nk kc) from (World.cell?_of_block (a := ⟨nb, 1, none⟩) (z16 _ _)).trans z1)
        have HNB2 := Lib.hid (show (w5.drew.setCells g (i * 26 + 2) ((List.range nk).map (kdV x))).cell? ⟨nb, 2, none⟩ = some (.slice ua nu uc) from (World.cell?_of_block (a := ⟨nb, 2, none⟩) (z16 _ _)).trans z2)
        clear hkl1 hkl2 hwl1 hwl2 z16
        go_upto_region 12 with fail
        go_region_law (refine step_copy_runI rfl _ _ 52 52 rfl _ _ (by simp [Act.eval]) (by simp [Act.eval]) hcp ?_)
        (try simp only [Exit.then])
        generalize World.setCells _ _ _ _ = W6 at M6 B6 HNB1 HNB2 ⊢
        clear hcp z1 z2 c0 M5 B5 lnb
        have z1 := HNB1.out
        have z2 := HNB2.out
        have lnb : nb < W6.heap.size := World.block_lt_of_cell? _ _ z1
        have hcl6 : (X.st.set i ⟨x.lv, 0, kdF x, fun _ => 0⟩).length = N := by rw [List.length_set]; exact HXL.out
        have hcq := cpy_ok W6.drew 58 24 3 g (i * 26 + 18) 8 8 ua nu uc (wdV x) Tryd.underlying58 info_one_u64 hu8 (R2.out.below (below_tr B6.out (Below.refl _ _).drew))
          (fun j hj => by
            have := (M6.out.below (Below.refl _ _).drew).wd (i := i) (k := j) (by rw [hcl6]; exact hlt) (by omega)
            rw [this]; rfl) (fun j => (M6.out.below (Below.refl _ _).drew).fq j) (fun j _ => rfl)
        have M7 : Hid (TM (W6.drew.setCells g (i * 26 + 18) ((List.range nu).map (wdV x))) w.heap.size (g + 1) g (X.st.set i ⟨x.lv, nzK x 0, kdF x, wdF x⟩) (X.m + 1) (filled X.r i (i + 1) true)) := Lib.hid (by
          have h := TM.wordsSet (i := i) ((List.range nu).map (wdF x)) 0 ⟨x.lv, 0, kdF x, fun _ => 0⟩ _ _ (M6.out.below (Below.refl _ _).drew) (by rw [hcl6]; exact hlt) (set_getD (by rw [HXL.out]; exact hlt)) (by simp; omega)
          rw [List.set_set, updL_zero, HWL2.out, ← HWL1.out] at h
          exact h)
        have B7 : Hid (Below w.heap.size w (W6.drew.setCells g (i * 26 + 18) ((List.range nu).map (wdV x)))) := Lib.hid (Go.below_setCells (by omega) _ _ _ (below_tr B6.out (Below.refl _ _).drew))
        have z16 : ∀ o (l : List Value), (W6.drew.setCells g o l).heap[nb]? = W6.heap[nb]? := fun o l => (World.heap_setCells_other W6.drew g o l lnb (by omega)).trans rfl
        have HNC1 := Lib.hid (show (W6.drew.setCells g (i * 26 + 18) ((List.range nu).map (wdV x))).cell? ⟨nb, 1, none⟩ = some (.slice ka nk kc) from (World.cell?_of_block (a := ⟨nb, 1, none⟩) (z16 _ _)).trans z1)
        have HNC2 := Lib.hid (show (W6.drew.setCells g (i * 26 + 18) ((List.range nu).map (wdV x))).cell? ⟨nb, 2, none⟩ = some (.slice ua nu uc) from (World.cell?_of_block (a := ⟨nb, 2, none⟩) (z16 _ _)).trans z2)
        clear z16
        go_upto_region 13 with fail
        go_region_law (refine step_copy_runI rfl _ _ 58 58 rfl _ _ (by simp [Act.eval]) (by simp [Act.eval]) hcq ?_)
        (try simp only [Exit.then])
        generalize World.setCells _ _ _ _ = W7 at M7 B7 HNC1 HNC2 ⊢
        clear hcq z1 z2 M6 B6 lnb HWL1 HWL2 HNB1 HNB2 hcl6
        have z1 := HNC1.out
        have z2 := HNC2.out
        have HNBG : Hid (nb ≠ g) := Lib.hid (by omega)
        go_wp2
        go_loopw [71] (fun v wk => ∃ j : Nat, j ≤ nk ∧ v = .int .i64 j ∧ Hid (TM wk w.heap.size (g + 1) g (X.st.set i ⟨x.lv, nzK x j, kdF x, wdF x⟩) (X.m + 1) (filled X.r i (i + 1) true)) ∧ Hid (Below w.heap.size w wk) ∧ Hid (wk.cell? ⟨nb, 2, none⟩ = some (.slice ua nu uc))) (fun v _ => nk - (intOf v).toNat)
        case atStart => exact ⟨0, Nat.zero_le _, rfl, M7, B7, HNC2⟩
        case round =>
          obtain ⟨j, hj, rfl, MJ, BJ, ZJ⟩ := hrel
          by_cases hltj : j < nk
          · obtain ⟨pk, ok, rfl, hpk, hck⟩ := R1.out.resolve_left (by omega)
            have v1 := cell_later BJ.out (hck j hltj)
            simp only [kdV] at v1
            have hk0 := OK.out.k (x.ks.getD j 0) (by simp [List.getD, HNK.out, hltj])
            have HNZ : Hid (nzK x (j + 1) = nzK x j + if x.ks.getD j 0 = 0 then 0 else 1) := Lib.hid (nzK_step (by rw [HNK.out]; exact hltj))
            have hzl := nzK_le x j
            rw [HNK.out] at hzl
            obtain ⟨k, hkv⟩ : ∃ k, x.ks.getD j 0 = k := ⟨_, rfl⟩
            obtain ⟨z, hz⟩ : ∃ z, nzK x j = z := ⟨_, rfl⟩
            rw [hkv] at v1 HNZ hk0
            rw [hz] at HNZ MJ hzl
            have hcl : (X.st.set i ⟨x.lv, z, kdF x, wdF x⟩).length = N := by rw [List.length_set]; exact HXL.out
            have mn := MJ.out.mn (i := i) (by rw [hcl]; exact hlt)
            rw [set_getD (by rw [HXL.out]; exact hlt)] at mn
            have fq := MJ.out.fq
            have j0 : (0 : Int) ≤ (j : Int) := by omega
            have j1 : (j : Int) < (nk : Int) := by omega
            have hwj : IntKind.i64.wrap ((j : Int) + 1) = (j : Int) + 1 := IntWalk.i64_in _ (by omega)
            clear hck hkv hz
            go_upto_region 17 with fail
            have hv : (z : Int) + min k 1 = ((nzK x (j + 1) : Nat) : Int) := by
              rw [HNZ.out]
              by_cases e : k = 0
              · rw [if_pos e, e, show min (0 : Int) 1 = 0 by decide]; simp
              · rw [if_neg e, Int.min_eq_right (by omega)]; simp
            have MN : Hid (TM (wr.setCell ⟨g, i * 26 + 1, none⟩ (.int .i64 ((z : Int) + min k 1))) w.heap.size (g + 1) g (X.st.set i ⟨x.lv, nzK x (j + 1), kdF x, wdF x⟩) (X.m + 1) (filled X.r i (i + 1) true)) := Lib.hid (by
              have h := MJ.out.cell (i := i) (j := 1) (v := .int .i64 ((z : Int) + min k 1)) (y := ⟨x.lv, nzK x (j + 1), kdF x, wdF x⟩) (by rw [hcl]; exact hlt) (by decide) (by rw [set_getD (by rw [HXL.out]; exact hlt), hv]; rfl)
              rw [List.set_set] at h
              exact h)
            have BN := Lib.hid (BJ.out.setCell (p := ⟨g, i * 26 + 1, none⟩) (by dsimp only; omega) (.int .i64 ((z : Int) + min k 1)))
            have ZN : Hid ((wr.setCell ⟨g, i * 26 + 1, none⟩ (.int .i64 ((z : Int) + min k 1))).cell? ⟨nb, 2, none⟩ = some (.slice ua nu uc)) := Lib.hid (by
              rw [World.cell?_setCell_other _ _ _ _ (fun e => HNBG.out (congrArg Addr.block e).symm)]
              exact ZJ.out)
            clear hv
            go_wp2
            go_roundw
            case rel => exact ⟨j + 1, by omega, by go_num, MN, BN, ZN⟩
            case measure => simp [intOf]; omega
          · obtain rfl : j = nk := by omega
            have i1 : ¬ ((j : Int) < (j : Int)) := by omega
            have HKZ : Hid (nzK x j + nzW x 0 = nzK x j) := Lib.hid rfl
            have MJ' : Hid (TM wr w.heap.size (g + 1) g (X.st.set i ⟨x.lv, nzK x j + nzW x 0, kdF x, wdF x⟩) (X.m + 1) (filled X.r i (i + 1) true)) := Lib.hid (by rw [HKZ.out]; exact MJ.out)
            have z2 := ZJ.out
            have hzk := nzK_le x j
            rw [HNK.out] at hzk
            have HFN : Hid (nzK x j + nzW x nu = (ndOf x).mn) := Lib.hid (by show _ = nzK x x.ks.length + nzW x x.ws.length; rw [HNK.out, HNU.out])
            obtain ⟨zk, hzk'⟩ : ∃ z, nzK x j = z := ⟨_, rfl⟩
            rw [hzk'] at MJ' hzk HFN
            clear hzk' MJ HKZ
            go_wp2
            go_loopw [88] (fun v wk => ∃ u : Nat, u ≤ nu ∧ v = .int .i64 u ∧ Hid (TM wk w.heap.size (g + 1) g (X.st.set i ⟨x.lv, zk + nzW x u, kdF x, wdF x⟩) (X.m + 1) (filled X.r i (i + 1) true)) ∧ Hid (Below w.heap.size w wk)) (fun v _ => nu - (intOf v).toNat)
            case atStart => exact ⟨0, Nat.zero_le _, rfl, MJ', BJ⟩
            case round =>
              obtain ⟨u, hu, rfl, MU, BU⟩ := hrel
              by_cases hltu : u < nu
              · obtain ⟨pk, ok, rfl, hpk, hck⟩ := R2.out.resolve_left (by omega)
                have v1 := cell_later BU.out (hck u hltu)
                simp only [wdV] at v1
                have HNZ : Hid (nzW x (u + 1) = nzW x u + if x.ws.getD u 0 = 0 then 0 else 1) := Lib.hid (nzW_step (by rw [HNU.out]; exact hltu))
                have hzl := nzW_le x u
                have hwb := hwd u
                rw [HNU.out] at hzl
                obtain ⟨y, hyv⟩ : ∃ y, x.ws.getD u 0 = y := ⟨_, rfl⟩
                obtain ⟨z, hz⟩ : ∃ z, nzW x u = z := ⟨_, rfl⟩
                rw [hyv] at v1 HNZ hwb
                rw [hz] at HNZ MU hzl
                have hcl : (X.st.set i ⟨x.lv, zk + z, kdF x, wdF x⟩).length = N := by rw [List.length_set]; exact HXL.out
                have mn := MU.out.mn (i := i) (by rw [hcl]; exact hlt)
                rw [set_getD (by rw [HXL.out]; exact hlt)] at mn
                have fq := MU.out.fq
                have j0 : (0 : Int) ≤ (u : Int) := by omega
                have j1 : (u : Int) < (nu : Int) := by omega
                have hwj : IntKind.i64.wrap ((u : Int) + 1) = (u : Int) + 1 := IntWalk.i64_in _ (by omega)
                clear hck hyv hz
                go_upto_region 22 with fail
                have hv : (zk : Int) + (z : Int) + min (y : Int) 1 = ((zk + nzW x (u + 1) : Nat) : Int) := by
                  rw [HNZ.out]
                  by_cases e : y = 0
                  · rw [if_pos e, e, show min ((0 : Nat) : Int) 1 = 0 by decide]; simp
                  · rw [if_neg e, Int.min_eq_right (by omega)]; omega
                have MN : Hid (TM (wr.setCell ⟨g, i * 26 + 1, none⟩ (.int .i64 ((zk : Int) + (z : Int) + min (y : Int) 1))) w.heap.size (g + 1) g (X.st.set i ⟨x.lv, zk + nzW x (u + 1), kdF x, wdF x⟩) (X.m + 1) (filled X.r i (i + 1) true)) := Lib.hid (by
                  have h := MU.out.cell (i := i) (j := 1) (v := .int .i64 ((zk : Int) + (z : Int) + min (y : Int) 1)) (y := ⟨x.lv, zk + nzW x (u + 1), kdF x, wdF x⟩) (by rw [hcl]; exact hlt) (by decide) (by rw [set_getD (by rw [HXL.out]; exact hlt), hv]; rfl)
                  rw [List.set_set] at h
                  exact h)
                have BN := Lib.hid (BU.out.setCell (p := ⟨g, i * 26 + 1, none⟩) (by dsimp only; omega) (.int .i64 ((zk : Int) + (z : Int) + min (y : Int) 1)))
                clear hv
                go_wp2
                go_roundw
                case rel => exact ⟨u + 1, by omega, by go_num, MN, BN⟩
                case measure => simp [intOf]; omega
              · obtain rfl : u = nu := by omega
                have i1 : ¬ ((u : Int) < (u : Int)) := by omega
                have MF : Hid (TM wr w.heap.size (g + 1) g (ldN S (i + 1)).st (ldN S (i + 1)).m (ldN S (i + 1)).r) := Lib.hid (by
                  rw [HNX.out]
                  have h := MU.out
                  rw [HFN.out] at h
                  exact h)
                go_wp2
                go_roundw
                case rel => exact ⟨i + 1, by omega, by go_num, MF, BU⟩
                case measure => simp [intOf]; omega
    · obtain rfl : i = N := by omega
      have hli : ¬ ((i : Int) < (i : Int)) := by omega
      go_wp2
      go_ret2
      exact ⟨g, hg, rfl, by rw [HL0.out]; exact M.out, B.out⟩
end
end Go.Proofs.YtfmclbacoffdaaaDoor

namespace Go.Proofs.YtfmclbacoffdaaaDoor
open Go.RowKit Go.Sort Go.Joins
attribute [local go_sem] cell_grow frozen_grow size_grow
attribute [local go_sem ↓] Go.wp_at_zero Go.wp_at_succ
deriving instance DecidableEq for Rn
/-- are two states equal? -/
def smS (m1 m2 : Int) (S1 S2 : List Rn) : Bool := decide (m1 = m2 ∧ S1 = S2)
theorem list_ext0 {α : Type} {d : α} {l1 l2 : List α} (hl : l1.length = l2.length) (h : ∀ j, j < l1.length → l1.getD j d = l2.getD j d) : l1 = l2 := by
  refine List.ext_getElem hl fun i h1 h2 => ?_
  have := h i h1
  simpa [List.getD, h1, h2] using this
theorem smS_yes {m1 m2 : Int} {S1 S2 : List Rn} (hm : m1 = m2) (hl : S1.length = S2.length) (h : ∀ j, j < S1.length → S1.getD j rn0 = S2.getD j rn0) : smS m1 m2 S1 S2 = true := by
  unfold smS
  exact decide_eq_true ⟨hm, list_ext0 hl h⟩
theorem smS_no {m1 m2 : Int} {S1 S2 : List Rn} (h : ¬ (m1 = m2 ∧ S1 = S2)) : smS m1 m2 S1 S2 = false := decide_eq_false h
/-- two boxes of nodes -/
structure Bx2 (w : World) (b : Nat) (x : Rn) (ka : Option Addr) (kc : Nat) (ua : Option Addr) (uc : Nat) : Prop where
  h : w.heap[b]? = some (.cells #[.int .i64 x.lv, .slice ka x.ks.length kc, .slice ua x.ws.length uc] 60 (0, 0))
  k : SlN w ka x.ks.length (kdV x)
  w : SlN w ua x.ws.length (wdV x)
theorem Bx2.below {w w' : World} {b : Nat} {x : Rn} {ka : Option Addr} {kc : Nat} {ua : Option Addr} {uc : Nat} (h : Bx2 w b x ka kc ua uc) (hb : Below w.heap.size w w') : Bx2 w' b x ka kc ua uc :=
  ⟨(hb.block _ (blk_lt h.h)).trans h.h, h.k.below hb, h.w.below hb⟩
theorem Bx2.c0 {w : World} {b : Nat} {x : Rn} {ka : Option Addr} {kc : Nat} {ua : Option Addr} {uc : Nat} (h : Bx2 w b x ka kc ua uc) : w.cell? ⟨b, 0, none⟩ = some (.int .i64 x.lv) := by rw [cell_of_block h.h]; rfl
theorem Bx2.c1 {w : World} {b : Nat} {x : Rn} {ka : Option Addr} {kc : Nat} {ua : Option Addr} {uc : Nat} (h : Bx2 w b x ka kc ua uc) : w.cell? ⟨b, 1, none⟩ = some (.slice ka x.ks.length kc) := by rw [cell_of_block h.h]; rfl
theorem Bx2.c2 {w : World} {b : Nat} {x : Rn} {ka : Option Addr} {kc : Nat} {ua : Option Addr} {uc : Nat} (h : Bx2 w b x ka kc ua uc) : w.cell? ⟨b, 2, none⟩ = some (.slice ua x.ws.length uc) := by rw [cell_of_block h.h]; rfl
theorem alloc2_l (w : World) (A B : Array Value) (t u : TypeId) : ((w.alloc (.cells A t)).alloc (.cells B u)).heap[w.heap.size]? = some (.cells A t (0, 0)) := by
  rw [Below.heap_alloc _ _ _ (by simp)]
  exact heap_alloc_new w _
theorem alloc2_r (w : World) (A B : Array Value) (t u : TypeId) : ((w.alloc (.cells A t)).alloc (.cells B u)).heap[w.heap.size + 1]? = some (.cells B u (0, 0)) := by
  have := heap_alloc_new (w.alloc (.cells A t)) (.cells B u)
  rw [World.size_alloc] at this
  exact this
theorem alloc2_ld (w : World) (A B : Array Value) (t u : TypeId) : ((w.alloc (.cells A t)).alloc (.cells B u)).drew.heap[w.heap.size]? = some (.cells A t (0, 0)) := by
  show ((w.alloc (.cells A t)).alloc (.cells B u)).heap[w.heap.size]? = _
  exact alloc2_l w A B t u
theorem alloc2_rd (w : World) (A B : Array Value) (t u : TypeId) : ((w.alloc (.cells A t)).alloc (.cells B u)).drew.heap[w.heap.size + 1]? = some (.cells B u (0, 0)) := by
  show ((w.alloc (.cells A t)).alloc (.cells B u)).heap[w.heap.size + 1]? = _
  exact alloc2_r w A B t u
theorem below2 (w : World) (A B : Obj) : Below w.heap.size w ((w.alloc A).alloc B) := below_tr (below_box0 w A) (below_box0 _ B)
theorem below2d (w : World) (A B : Obj) : Below w.heap.size w ((w.alloc A).alloc B).drew := below_tr (below_box0 w A) (below_tr (below_box0 _ B) (Below.refl _ _).drew)
set_option maxRecDepth 100000 in
set_option maxHeartbeats 6400000 in
theorem same_ok {w : World} {a1 a2 : Option Addr} {c1 c2 : Nat} {m1 m2 : Int} {S1 S2 : List Rn} (h1 : StR w a1 S1) (h2 : StR w a2 S2) (l1 : S1.length ≤ 10000) (k1 : ∀ j, (S1.getD j rn0).ks.length ≤ 10000) (u1 : ∀ j, (S1.getD j rn0).ws.length ≤ 10000) :
    Calls Tryd.prog 23 #[.agg #[.int .i64 m1, .slice a1 S1.length c1], .agg #[.int .i64 m2, .slice a2 S2.length c2]] w fun e w' => e = .returned (.bool (smS m1 m2 S1 S2)) ∧ Below w.heap.size w w' := by
  have H1 := Lib.hid h1
  have H2 := Lib.hid h2
  have K1 := Lib.hid k1
  have U1 := Lib.hid u1
  obtain ⟨n1, hn1⟩ : ∃ n, S1.length = n := ⟨_, rfl⟩
  obtain ⟨n2, hn2⟩ : ∃ n, S2.length = n := ⟨_, rfl⟩
  have HN1 := Lib.hid hn1
  have HN2 := Lib.hid hn2
  obtain ⟨R, hR⟩ : ∃ R, smS m1 m2 S1 S2 = R := ⟨_, rfl⟩
  have HR := Lib.hid hR
  rw [hn1] at l1
  rw [hn1, hn2, hR]
  have BW := Lib.hid (below_tr (below_box0 w (.cells #[.int .i64 m1, .slice a1 n1 c1] 45)) (below_box0 _ (.cells #[.int .i64 m2, .slice a2 n2 c2] 45)))
  clear h1 h2 k1 u1 hn1 hn2 hR
  by_cases hm : m1 = m2
  case neg =>
    have dm : (m1 != m2) = true := by simpa using hm
    obtain rfl : false = R := by rw [← HR.out]; exact (smS_no (fun h => hm h.1)).symm
    clear hm HR
    go_enter Tryd.func23, Tryd.ntmps23
    go_wp2
    go_ret
    exact ⟨rfl, BW.out⟩
  case pos =>
  have dm : (m1 != m2) = false := by simpa using hm
  by_cases hl : n1 = n2
  case neg =>
    have dl : ((n1 : Int) != (n2 : Int)) = true := by simp; omega
    obtain rfl : false = R := by
      rw [← HR.out]
      exact (smS_no (fun h => hl (by rw [← HN1.out, ← HN2.out, h.2]))).symm
    clear hm hl HR
    go_enter Tryd.func23, Tryd.ntmps23
    go_wp2
    go_ret
    exact ⟨rfl, BW.out⟩
  case pos =>
  subst hl
  have HM := Lib.hid hm
  have dl : ((n1 : Int) != (n1 : Int)) = false := by simp
  clear hm
  go_enter Tryd.func23, Tryd.ntmps23
  go_wp2
  go_loopw [5] (fun x wr => ∃ i : Nat, i ≤ n1 ∧ x = .int .i64 i ∧ Hid (Below w.heap.size w wr) ∧ Hid (wr.heap[w.heap.size]? = some (.cells #[.int .i64 m1, .slice a1 n1 c1] 45 (0, 0))) ∧ Hid (wr.heap[w.heap.size + 1]? = some (.cells #[.int .i64 m2, .slice a2 n1 c2] 45 (0, 0))) ∧ Hid (∀ j, j < i → S1.getD j rn0 = S2.getD j rn0)) (fun x _ => n1 - (intOf x).toNat)
  case atStart => exact ⟨0, Nat.zero_le _, rfl, BW, Lib.hid (alloc2_l _ _ _ _ _), Lib.hid (alloc2_r _ _ _ _ _), Lib.hid (fun j hj => absurd hj (Nat.not_lt_zero _))⟩
  case round =>
    obtain ⟨i, hi, rfl, HB, X1, X2, HE⟩ := hrel
    clear dm dl
    have p1 : wr.cell? ⟨w.heap.size, 1, none⟩ = some (.slice a1 n1 c1) := by rw [cell_of_block X1.out]; rfl
    have p2 : wr.cell? ⟨w.heap.size + 1, 1, none⟩ = some (.slice a2 n1 c2) := by rw [cell_of_block X2.out]; rfl
    by_cases hlt : i < n1
    · obtain ⟨b1, o1, rfl, hb1, hc1⟩ : ∃ b o, a1 = some ⟨b, o, none⟩ ∧ b < w.heap.size ∧ ∀ j, j < S1.length → NdR w b (o + j * 3) (S1.getD j rn0) := H1.out.resolve_left (by rw [HN1.out]; omega)
      obtain ⟨b2, o2, rfl, hb2, hc2⟩ : ∃ b o, a2 = some ⟨b, o, none⟩ ∧ b < w.heap.size ∧ ∀ j, j < S2.length → NdR w b (o + j * 3) (S2.getD j rn0) := H2.out.resolve_left (by rw [HN2.out]; omega)
      have d1 := (hc1 i (by rw [HN1.out]; exact hlt)).below HB.out
      have d2 := (hc2 i (by rw [HN2.out]; exact hlt)).below HB.out
      have k1 := K1.out i
      have u1 := U1.out i
      obtain ⟨x, hx⟩ : ∃ x, S1.getD i rn0 = x := ⟨_, rfl⟩
      obtain ⟨y, hy⟩ : ∃ y, S2.getD i rn0 = y := ⟨_, rfl⟩
      rw [hx] at d1 k1 u1
      rw [hy] at d2
      have HX := Lib.hid hx
      have HY := Lib.hid hy
      have e1 := d1.lv
      obtain ⟨ka, kc, e2, r2⟩ := d1.ks
      obtain ⟨ua, uc, e3, r3⟩ := d1.ws
      have g1 := d2.lv
      obtain ⟨kb, kd, g2, s2⟩ := d2.ks
      obtain ⟨ub, ud, g3, s3⟩ := d2.ws
      have hli : (i : Int) < (n1 : Int) := by omega
      have hi0 : (0 : Int) ≤ (i : Int) := by omega
      have R2 := Lib.hid r2
      have R3 := Lib.hid r3
      have T2 := Lib.hid s2
      have T3 := Lib.hid s3
      have hwi : IntKind.i64.wrap ((i : Int) + 1) = (i : Int) + 1 := IntWalk.i64_in _ (by omega)
      have hz1 := HB.out.size
      have q1 : b1 < wr.heap.size := by omega
      have q2 : b2 < wr.heap.size := by omega
      have q3 : w.heap.size < wr.heap.size := by have := blk_lt X1.out; omega
      have q4 : w.heap.size + 1 < wr.heap.size := blk_lt X2.out
      clear hx hy d1 d2 hc1 hc2 r2 r3 s2 s3
      have HKP : Hid (∀ w', Below wr.heap.size wr w' → (Below wr.heap.size wr w' ∧ w'.cell? ⟨w.heap.size, 1, none⟩ = some (.slice (some ⟨b1, o1, none⟩) n1 c1) ∧ w'.cell? ⟨w.heap.size + 1, 1, none⟩ = some (.slice (some ⟨b2, o2, none⟩) n1 c2) ∧
          w'.cell? ⟨b1, o1 + i * 3, none⟩ = some (.int .i64 x.lv) ∧ w'.cell? ⟨b1, o1 + i * 3 + 1, none⟩ = some (.slice ka x.ks.length kc) ∧ w'.cell? ⟨b1, o1 + i * 3 + 2, none⟩ = some (.slice ua x.ws.length uc) ∧
          w'.cell? ⟨b2, o2 + i * 3, none⟩ = some (.int .i64 y.lv) ∧ w'.cell? ⟨b2, o2 + i * 3 + 1, none⟩ = some (.slice kb y.ks.length kd) ∧ w'.cell? ⟨b2, o2 + i * 3 + 2, none⟩ = some (.slice ub y.ws.length ud))) := Lib.hid (fun w' hb => ⟨hb, cell_later hb p1, cell_later hb p2, cell_later hb e1, cell_later hb e2, cell_later hb e3, cell_later hb g1, cell_later hb g2, cell_later hb g3⟩)
      go_upto_region 6 with fail
      go_region_held3 (fun w' => Below wr.heap.size wr w' ∧ w'.cell? ⟨w.heap.size, 1, none⟩ = some (.slice (some ⟨b1, o1, none⟩) n1 c1) ∧ w'.cell? ⟨w.heap.size + 1, 1, none⟩ = some (.slice (some ⟨b2, o2, none⟩) n1 c2) ∧
          w'.cell? ⟨b1, o1 + i * 3, none⟩ = some (.int .i64 x.lv) ∧ w'.cell? ⟨b1, o1 + i * 3 + 1, none⟩ = some (.slice ka x.ks.length kc) ∧ w'.cell? ⟨b1, o1 + i * 3 + 2, none⟩ = some (.slice ua x.ws.length uc) ∧
          w'.cell? ⟨b2, o2 + i * 3, none⟩ = some (.int .i64 y.lv) ∧ w'.cell? ⟨b2, o2 + i * 3 + 1, none⟩ = some (.slice kb y.ks.length kd) ∧ w'.cell? ⟨b2, o2 + i * 3 + 2, none⟩ = some (.slice ub y.ws.length ud))
        ((refine HKP.out _ ?_; first | exact (Below.refl _ _).drew | exact (below_box0 _ _).drew | exact below2d _ _ _ | exact (below2 _ _ _)))
        (first | fail)
      all_goals
        first
          | (obtain ⟨W2, hW2⟩ : ∃ W, ((wr.alloc (.cells #[.int .i64 x.lv, .slice ka x.ks.length kc, .slice ua x.ws.length uc] 60)).alloc (.cells #[.int .i64 y.lv, .slice kb y.ks.length kd, .slice ub y.ws.length ud] 60)).drew = W := ⟨_, rfl⟩
             rw [hW2]
             have b2 : Below wr.heap.size wr W2 := by rw [← hW2]; exact below2d _ _ _
             have Y1 : Hid (Bx2 W2 wr.heap.size x ka kc ua uc) := Lib.hid ⟨by rw [← hW2]; exact alloc2_ld _ _ _ _ _, R2.out.below b2, R3.out.below b2⟩
             have Y2 : Hid (Bx2 W2 (wr.heap.size + 1) y kb kd ub ud) := Lib.hid ⟨by rw [← hW2]; exact alloc2_rd _ _ _ _ _, T2.out.below b2, T3.out.below b2⟩
             clear hW2
             obtain ⟨gx, hgx⟩ : ∃ g, wr.heap.size = g := ⟨_, rfl⟩
             obtain ⟨gy, hgy⟩ : ∃ g, wr.heap.size + 1 = g := ⟨_, rfl⟩
             rw [hgx] at Y1
             rw [hgy] at Y2
             rw [hgy, hgx])
          | (obtain ⟨W2, hW2⟩ : ∃ W, ((wr.alloc (.cells #[.int .i64 y.lv, .slice kb y.ks.length kd, .slice ub y.ws.length ud] 60)).alloc (.cells #[.int .i64 x.lv, .slice ka x.ks.length kc, .slice ua x.ws.length uc] 60)).drew = W := ⟨_, rfl⟩
             rw [hW2]
             have b2 : Below wr.heap.size wr W2 := by rw [← hW2]; exact below2d _ _ _
             have Y1 : Hid (Bx2 W2 (wr.heap.size + 1) x ka kc ua uc) := Lib.hid ⟨by rw [← hW2]; exact alloc2_rd _ _ _ _ _, R2.out.below b2, R3.out.below b2⟩
             have Y2 : Hid (Bx2 W2 wr.heap.size y kb kd ub ud) := Lib.hid ⟨by rw [← hW2]; exact alloc2_ld _ _ _ _ _, T2.out.below b2, T3.out.below b2⟩
             clear hW2
             obtain ⟨gx, hgx⟩ : ∃ g, wr.heap.size + 1 = g := ⟨_, rfl⟩
             obtain ⟨gy, hgy⟩ : ∃ g, wr.heap.size = g := ⟨_, rfl⟩
             rw [hgx] at Y1
             rw [hgy] at Y2
             rw [hgx, hgy])
        have B2 := Lib.hid b2
        have X1' := Lib.hid ((b2.block _ q3).trans X1.out)
        have X2' := Lib.hid ((b2.block _ q4).trans X2.out)
        have BB := Lib.hid (HB.out.trans (b2.mono hz1))
        clear b2 R2 R3 T2 T3 e1 e2 e3 g1 g2 g3 q1 q2 q3 q4 hgx hgy p1 p2 hb1 hb2 X1 X2
        have x0 := Y1.out.c0
        have x1 := Y1.out.c1
        have x2 := Y1.out.c2
        have y0 := Y2.out.c0
        have y1 := Y2.out.c1
        have y2 := Y2.out.c2
        by_cases hlv : x.lv = y.lv
        case neg =>
          have t1 : (x.lv != y.lv) = true := by simpa using hlv
          obtain rfl : false = R := by rw [← HR.out]; exact (smS_no (fun h => hlv (by rw [← HX.out, ← HY.out, h.2]))).symm
          clear hlv HR
          go_wp2
          go_ret
          exact ⟨rfl, BB.out⟩
        case pos =>
        by_cases hkl : x.ks.length = y.ks.length
        case neg =>
          have t1 : (x.lv != y.lv) = false := by simpa using hlv
          have t2 : ((x.ks.length : Int) != (y.ks.length : Int)) = true := by simp; omega
          obtain rfl : false = R := by rw [← HR.out]; exact (smS_no (fun h => hkl (by rw [← HX.out, ← HY.out, h.2]))).symm
          clear hlv hkl HR
          go_wp2
          go_ret
          exact ⟨rfl, BB.out⟩
        case pos =>
        by_cases hul : x.ws.length = y.ws.length
        case neg =>
          have t1 : (x.lv != y.lv) = false := by simpa using hlv
          have t2 : ((x.ks.length : Int) != (y.ks.length : Int)) = false := by simp; omega
          have t3 : ((x.ws.length : Int) != (y.ws.length : Int)) = true := by simp; omega
          obtain rfl : false = R := by rw [← HR.out]; exact (smS_no (fun h => hul (by rw [← HX.out, ← HY.out, h.2]))).symm
          clear hlv hul hkl HR
          go_wp2
          go_ret
          exact ⟨rfl, BB.out⟩
        case pos =>
        have t1 : (x.lv != y.lv) = false := by simpa using hlv
        have t2 : ((x.ks.length : Int) != (y.ks.length : Int)) = false := by simp; omega
        have t3 : ((x.ws.length : Int) != (y.ws.length : Int)) = false := by simp; omega
        have HLV := Lib.hid hlv
        have HKL := Lib.hid hkl
        have HUL := Lib.hid hul
        have SKX := Lib.hid Y1.out.k
        have SKY := Lib.hid Y2.out.k
        have SWX := Lib.hid Y1.out.w
        have SWY := Lib.hid Y2.out.w
        clear hlv hkl hul
        obtain ⟨nk, hnk⟩ : ∃ n, x.ks.length = n := ⟨_, rfl⟩
        obtain ⟨nu, hnu⟩ : ∃ n, x.ws.length = n := ⟨_, rfl⟩
        rw [hnk] at k1 x1 t2 SKX
        rw [hnu] at u1 x2 t3 SWX
        have HNK := Lib.hid hnk
        have HNU := Lib.hid hnu
        clear hnk hnu
        go_wp2
        clear t1 t2 t3
        go_loopw [8] (fun v wk => ∃ k : Nat, k ≤ nk ∧ v = .int .i64 k ∧ Hid (Below W2.heap.size W2 wk) ∧ Hid (∀ j, j < k → x.ks.getD j 0 = y.ks.getD j 0)) (fun v _ => nk - (intOf v).toNat)
        case atStart => exact ⟨0, Nat.zero_le _, rfl, Lib.hid (Below.refl _ _), Lib.hid (fun j hj => absurd hj (Nat.not_lt_zero _))⟩
        case round =>
          obtain ⟨k, hk, rfl, HBk, HEk⟩ := hrel
          have x1 := cell_later HBk.out x1
          have y1 := cell_later HBk.out y1
          have x2 := cell_later HBk.out x2
          have y2 := cell_later HBk.out y2
          by_cases hltk : k < nk
          · obtain ⟨pk, ok, rfl, hpk, hck⟩ := SKX.out.resolve_left (by omega)
            obtain ⟨pl, ol, rfl, hpl, hcl⟩ := SKY.out.resolve_left (by rw [← HKL.out, HNK.out]; omega)
            have v1 := cell_later HBk.out (hck k hltk)
            have v2 := cell_later HBk.out (hcl k (by rw [← HKL.out, HNK.out]; omega))
            obtain ⟨xv, hxv⟩ : ∃ v, x.ks.getD k 0 = v := ⟨_, rfl⟩
            obtain ⟨yv, hyv⟩ : ∃ v, y.ks.getD k 0 = v := ⟨_, rfl⟩
            simp only [kdV] at v1 v2
            rw [hxv] at v1
            rw [hyv] at v2
            have HXV := Lib.hid hxv
            have HYV := Lib.hid hyv
            have i0 : (0 : Int) ≤ (k : Int) := by omega
            have i1 : (k : Int) < (nk : Int) := by omega
            have i2 : (k : Int) < (y.ks.length : Int) := by rw [← HKL.out, HNK.out]; exact i1
            have hwk : IntKind.i64.wrap ((k : Int) + 1) = (k : Int) + 1 := IntWalk.i64_in _ (by omega)
            clear hck hcl hxv hyv
            by_cases hv : xv = yv
            · have t1 : (xv != yv) = false := by simpa using hv
              have HV := Lib.hid hv
              clear hv
              go_wp2_with fail
              go_quiet (fail)
              go_wp2
              go_roundw
              case rel => exact ⟨k + 1, by omega, by go_num, Lib.hid (HBk.out.trans ((below_draw _ _).mono HBk.out.size)), Lib.hid (fun j hj => by
                by_cases ej : j = k
                · rw [ej, HXV.out, HYV.out]; exact HV.out
                · exact HEk.out j (by omega))⟩
              case measure => simp [intOf]; omega
            · have t1 : (xv != yv) = true := by simpa using hv
              obtain rfl : false = R := by
                rw [← HR.out]
                exact (smS_no (fun h => hv (by rw [← HXV.out, ← HYV.out, ← HX.out, ← HY.out, h.2]))).symm
              clear hv HR
              go_wp2_with fail
              go_quiet (fail)
              go_wp2
              go_ret
              exact ⟨rfl, BB.out.trans ((HBk.out.trans ((below_draw _ _).mono HBk.out.size)).mono BB.out.size)⟩
          · obtain rfl : k = nk := by omega
            have i1 : ¬ ((k : Int) < (k : Int)) := by omega
            obtain ⟨Wm, hWm⟩ : ∃ W, W = wr := ⟨_, rfl⟩
            subst hWm
            go_wp2
            go_loopw [9] (fun v wu => ∃ u : Nat, u ≤ nu ∧ v = .int .i64 u ∧ Hid (Below Wm.heap.size Wm wu) ∧ Hid (∀ j, j < u → x.ws.getD j 0 = y.ws.getD j 0)) (fun v _ => nu - (intOf v).toNat)
            case atStart => exact ⟨0, Nat.zero_le _, rfl, Lib.hid (Below.refl _ _), Lib.hid (fun j hj => absurd hj (Nat.not_lt_zero _))⟩
            case round =>
              obtain ⟨u, hu, rfl, HBu, HEu⟩ := hrel
              have x2 := cell_later HBu.out x2
              have y2 := cell_later HBu.out y2
              by_cases hltu : u < nu
              · obtain ⟨pk, ok, rfl, hpk, hck⟩ := SWX.out.resolve_left (by omega)
                obtain ⟨pl, ol, rfl, hpl, hcl⟩ := SWY.out.resolve_left (by rw [← HUL.out, HNU.out]; omega)
                have v1 := cell_later HBu.out (cell_later HBk.out (hck u hltu))
                have v2 := cell_later HBu.out (cell_later HBk.out (hcl u (by rw [← HUL.out, HNU.out]; omega)))
                obtain ⟨xv, hxv⟩ : ∃ v, x.ws.getD u 0 = v := ⟨_, rfl⟩
                obtain ⟨yv, hyv⟩ : ∃ v, y.ws.getD u 0 = v := ⟨_, rfl⟩
                simp only [wdV] at v1 v2
                rw [hxv] at v1
                rw [hyv] at v2
                have HXV := Lib.hid hxv
                have HYV := Lib.hid hyv
                have i0 : (0 : Int) ≤ (u : Int) := by omega
                have i1 : (u : Int) < (nu : Int) := by omega
                have i2 : (u : Int) < (y.ws.length : Int) := by rw [← HUL.out, HNU.out]; exact i1
                have hwk : IntKind.i64.wrap ((u : Int) + 1) = (u : Int) + 1 := IntWalk.i64_in _ (by omega)
                clear hck hcl hxv hyv
                by_cases hv : xv = yv
                · have t1 : ((xv : Int) != (yv : Int)) = false := by simp; omega
                  have HV := Lib.hid hv
                  clear hv
                  go_wp2_with fail
                  go_quiet (fail)
                  go_wp2
                  go_roundw
                  case rel => exact ⟨u + 1, by omega, by go_num, Lib.hid (HBu.out.trans ((below_draw _ _).mono HBu.out.size)), Lib.hid (fun j hj => by
                    by_cases ej : j = u
                    · rw [ej, HXV.out, HYV.out]; exact HV.out
                    · exact HEu.out j (by omega))⟩
                  case measure => simp [intOf]; omega
                · have t1 : ((xv : Int) != (yv : Int)) = true := by simp; omega
                  obtain rfl : false = R := by
                    rw [← HR.out]
                    exact (smS_no (fun h => hv (by rw [← HXV.out, ← HYV.out, ← HX.out, ← HY.out, h.2]))).symm
                  clear hv HR
                  go_wp2_with fail
                  go_quiet (fail)
                  go_wp2
                  go_ret
                  exact ⟨rfl, BB.out.trans ((HBk.out.trans ((HBu.out.trans ((below_draw _ _).mono HBu.out.size)).mono HBk.out.size)).mono BB.out.size)⟩
              · obtain rfl : u = nu := by omega
                have i1 : ¬ ((u : Int) < (u : Int)) := by omega
                have bk := HBk.out.trans (HBu.out.mono HBk.out.size)
                have BE := Lib.hid (BB.out.trans (bk.mono BB.out.size))
                have Z1 := Lib.hid ((bk.block _ (blk_lt X1'.out)).trans X1'.out)
                have Z2 := Lib.hid ((bk.block _ (blk_lt X2'.out)).trans X2'.out)
                have HXY : Hid (x = y) := Lib.hid (by
                  have e1 := list_ext0 (d := 0) HKL.out (by rw [HNK.out]; exact HEk.out)
                  have e2 := list_ext0 (d := 0) HUL.out (by rw [HNU.out]; exact HEu.out)
                  have e0 := HLV.out
                  obtain ⟨xa, xb, xc⟩ := x
                  obtain ⟨ya, yb, yc⟩ := y
                  simp only at e0 e1 e2
                  rw [e0, e1, e2])
                clear bk
                go_wp2
                go_roundw
                case rel => exact ⟨i + 1, by omega, by go_num, BE, Z1, Z2, Lib.hid (fun j hj => by
                  by_cases ej : j = i
                  · rw [ej, HX.out, HY.out]; exact HXY.out
                  · exact HE.out j (by omega))⟩
                case measure => simp [intOf]; omega
    · obtain rfl : i = n1 := by omega
      obtain rfl : true = R := by rw [← HR.out]; exact (smS_yes HM.out (by rw [HN1.out, HN2.out]) (by rw [HN1.out]; exact HE.out)).symm
      have hli : ¬ ((i : Int) < (i : Int)) := by omega
      go_wp2
      go_ret
      exact ⟨rfl, HB.out⟩
end Go.Proofs.YtfmclbacoffdaaaDoor
