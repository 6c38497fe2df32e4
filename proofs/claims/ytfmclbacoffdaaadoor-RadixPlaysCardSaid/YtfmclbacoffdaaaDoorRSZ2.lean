/- The radix map: wrong. | The radix map, plain: the map that Load makes of a state. | The radix map, plain: what a node does not use is zero; it stays so. | The radix map, plain: the state of a map is right; Load of it gives the map. -/
import Derived.Test.YtfmclbacoffdaaaDoorRSZ1
namespace Go.Proofs.YtfmclbacoffdaaaDoor
open Go.RowKit Go.Sort Go.Joins
attribute [local go_sem] cell_grow frozen_grow size_grow Oper.semAt_some
theorem sz_ways (x : Rn) (i : Nat) :
    (Hid (szBad x i = true) ∧ decide (x.lv < -1) = true) ∨ (Hid (szBad x i = true) ∧ decide (x.lv < -1) = false ∧ decide (2 < x.lv) = true) ∨
    (Hid (szBad x i = true) ∧ decide (x.lv < -1) = false ∧ decide (2 < x.lv) = false ∧ ((x.lv == 0) == ((i : Int) == 0)) = false) ∨
    (Hid (szBad x i = true) ∧ decide (x.lv < -1) = false ∧ decide (2 < x.lv) = false ∧ ((x.lv == 0) == ((i : Int) == 0)) = true ∧ ((x.ks.length : Int) != (kN x.lv : Int)) = true) ∨
    (Hid (szBad x i = true) ∧ decide (x.lv < -1) = false ∧ decide (2 < x.lv) = false ∧ ((x.lv == 0) == ((i : Int) == 0)) = true ∧ ((x.ks.length : Int) != (kN x.lv : Int)) = false ∧ ((x.ws.length : Int) != (wN x.lv : Int)) = true) ∨
    (Hid (szBad x i = false) ∧ decide (x.lv < -1) = false ∧ decide (2 < x.lv) = false ∧ ((x.lv == 0) == ((i : Int) == 0)) = true ∧ ((x.ks.length : Int) != (kN x.lv : Int)) = false ∧ ((x.ws.length : Int) != (wN x.lv : Int)) = false) := by
  unfold szBad
  have e : ((x.lv == 0) != ((i : Int) == 0)) = !((x.lv == 0) == ((i : Int) == 0)) := rfl
  rw [e]
  generalize decide (x.lv < -1) = a
  generalize decide (2 < x.lv) = b
  generalize ((x.lv == 0) == ((i : Int) == 0)) = c
  generalize ((x.ks.length : Int) != (kN x.lv : Int)) = d
  generalize ((x.ws.length : Int) != (wN x.lv : Int)) = f
  unfold Hid
  cases a <;> cases b <;> cases c <;> cases d <;> cases f <;> simp
theorem badK_ways (S : List Rn) (x : Rn) (k : Int) :
    (Hid (badK S x k = true) ∧ decide (k < 0) = true) ∨ (Hid (badK S x k = true) ∧ decide (k < 0) = false ∧ decide ((S.length : Int) ≤ k) = true) ∨
    (Hid (badK S x k = false) ∧ decide (k < 0) = false ∧ decide ((S.length : Int) ≤ k) = false ∧ decide (0 < k) = false) ∨
    (Hid (badK S x k = true) ∧ decide (k < 0) = false ∧ decide ((S.length : Int) ≤ k) = false ∧ decide (0 < k) = true ∧ (lvA S k != lv1 x) = true) ∨
    (Hid (badK S x k = false) ∧ decide (k < 0) = false ∧ decide ((S.length : Int) ≤ k) = false ∧ decide (0 < k) = true ∧ (lvA S k != lv1 x) = false) := by
  unfold badK
  generalize decide (k < 0) = a
  generalize decide ((S.length : Int) ≤ k) = b
  generalize decide (0 < k) = c
  generalize (lvA S k != lv1 x) = d
  unfold Hid
  cases a <;> cases b <;> cases c <;> cases d <;> simp
theorem un_ds (x : Int) : ∃ o s t g, unV x = dsV o s t g := by
  unfold unV
  split
  · exact ⟨_, _, _, _, rfl⟩
  · exact ⟨_, _, _, _, rfl⟩
theorem take_step {α : Type} (d : α) (l : List α) {j : Nat} (h : j < l.length) : l.take (j + 1) = l.take j ++ [l.getD j d] := by
  rw [List.take_succ_eq_append_getElem h]
  simp [List.getD, h]
theorem any_of_getD {α : Type} {d : α} {l : List α} {p : α → Bool} {j : Nat} (h : j < l.length) (hp : p (l.getD j d) = true) : l.any p = true := by
  rw [List.any_eq_true]
  refine ⟨l.getD j d, ?_, hp⟩
  simp [List.getD, h]
/-- are the first j all zero? -/
def zK (x : Rn) (j : Nat) : Bool := (x.ks.take j).all fun k => k == 0
def zW (x : Rn) (j : Nat) : Bool := (x.ws.take j).all fun u => u == 0
theorem zK_step {x : Rn} {j : Nat} (h : j < x.ks.length) : zK x (j + 1) = (zK x j && (x.ks.getD j 0 == 0)) := by
  unfold zK; rw [take_step 0 _ h]; simp
theorem zW_step {x : Rn} {j : Nat} (h : j < x.ws.length) : zW x (j + 1) = (zW x j && (x.ws.getD j 0 == 0)) := by
  unfold zW; rw [take_step 0 _ h]; simp
section
variable {w : World} {sp : Nat} {m : Int} {a : Option Addr} {c : Nat} {S : List Rn}
set_option maxRecDepth 100000 in
set_option maxHeartbeats 6400000 in
theorem wrong_ok (hx : w.heap[sp]? = some (.cells #[.int .i64 m, .slice a S.length c] 45 (0, 0))) (hS : StR w a S) {i : Nat} (hi : i < S.length) (t : Int)
    (hl : S.length ≤ 10000) (hk : (S.getD i rn0).ks.length ≤ 10000) (hu : (S.getD i rn0).ws.length ≤ 10000) (hw : ∀ j, (S.getD i rn0).ws.getD j 0 < 18446744073709551616) :
    Calls Tryd.prog 52 #[.pointer (some ⟨sp, 0, none⟩), .int .i64 i, .int .i64 t] w fun e w' => e = .returned (.bool (wrN S i t)) ∧ Below w.heap.size w w' := by
  obtain ⟨b, o, rfl, hb, hc⟩ : ∃ b o, a = some ⟨b, o, none⟩ ∧ b < w.heap.size ∧ ∀ j, j < S.length → NdR w b (o + j * 3) (S.getD j rn0) := hS.resolve_left (by omega)
  have d := hc i hi
  have HC := Lib.hid (fun j hj => (hc j hj).lv)
  have hways := sz_ways (S.getD i rn0) i
  have HR0 : Hid (wrN S i t = (szBad (S.getD i rn0) i || (S.getD i rn0).ks.any (badK S (S.getD i rn0)) || (S.getD i rn0).ws.any badW || (decide (0 < (S.getD i rn0).lv) && (emN (S.getD i rn0) || (t != 1))))) := Lib.hid rfl
  have hbk := badK_ways S (S.getD i rn0)
  obtain ⟨x, hxx⟩ : ∃ x, S.getD i rn0 = x := ⟨_, rfl⟩
  rw [hxx] at d hways HR0 hk hu hw hbk
  obtain ⟨R, hR⟩ : ∃ R, wrN S i t = R := ⟨_, rfl⟩
  rw [hR] at HR0 ⊢
  have HBK := Lib.hid hbk
  have HW := Lib.hid hw
  have p1 : w.cell? ⟨sp, 1, none⟩ = some (.slice (some ⟨b, o, none⟩) S.length c) := by rw [cell_of_block hx]; rfl
  have e0 := d.lv
  obtain ⟨ka, kc, e1, r1⟩ := d.ks
  obtain ⟨ua, uc, e2, r2⟩ := d.ws
  have R1 := Lib.hid r1
  have R2 := Lib.hid r2
  have HSZ := Lib.hid (sizes_ok x.lv)
  have i0 : (0 : Int) ≤ (i : Int) := by omega
  have i1 : (i : Int) < (S.length : Int) := by omega
  obtain ⟨N, hN⟩ : ∃ N, S.length = N := ⟨_, rfl⟩
  rw [hN] at p1 i1 hl HC HBK
  have HN := Lib.hid hN
  clear hR hxx hN d hc hS hx r1 r2 hi hw hbk
  rcases hways with ⟨HZ, d1⟩ | ⟨HZ, d1, d2⟩ | ⟨HZ, d1, d2, d3⟩ | ⟨HZ, d1, d2, d3, d4⟩ | ⟨HZ, d1, d2, d3, d4, d5⟩ | ⟨HZ, d1, d2, d3, d4, d5⟩
  case inr.inr.inr.inr.inr =>
    go_enter Tryd.func52, Tryd.ntmps52
    go_wp2_with fail
    refine (HSZ.out _).mono ?_
    rintro e w1 ⟨rfl, rfl⟩
    obtain ⟨nk, hnk⟩ : ∃ n, x.ks.length = n := ⟨_, rfl⟩
    obtain ⟨nu, hnu⟩ : ∃ n, x.ws.length = n := ⟨_, rfl⟩
    rw [hnk] at e1 R1 d4 hk
    rw [hnu] at e2 R2 d5 hu
    have HNK := Lib.hid hnk
    have HNU := Lib.hid hnu
    clear hnk hnu
    go_wp2_with fail
    clear d1 d2 d3 d4 d5 HSZ
    go_loopw [10, 76] (fun q v wr => ∃ j : Nat, j ≤ nk ∧ v = .int .i64 j ∧ q = .bool (zK x j) ∧ Hid (Below w.heap.size w wr) ∧ Hid ((x.ks.take j).any (badK S x) = false)) (fun _ v _ => nk - (intOf v).toNat)
    case atStart => exact ⟨0, Nat.zero_le _, rfl, rfl, Lib.hid (Below.refl _ _), Lib.hid rfl⟩
    case round =>
      obtain ⟨j, hj, rfl, rfl, HB, HBad⟩ := hrel
      have p1 := cell_later HB.out p1
      have e0 := cell_later HB.out e0
      have e1 := cell_later HB.out e1
      have e2 := cell_later HB.out e2
      by_cases hlt : j < nk
      · obtain ⟨pk, ok, rfl, hpk, hck⟩ := R1.out.resolve_left (by omega)
        have v1 := cell_later HB.out (hck j hlt)
        simp only [kdV] at v1
        have HZS : Hid (zK x (j + 1) = (zK x j && (x.ks.getD j 0 == 0))) := Lib.hid (zK_step (by rw [HNK.out]; exact hlt))
        have HTS : Hid (x.ks.take (j + 1) = x.ks.take j ++ [x.ks.getD j 0]) := Lib.hid (take_step 0 _ (by rw [HNK.out]; exact hlt))
        have HBJ : Hid (badK S x (x.ks.getD j 0) = true → R = true) := Lib.hid (fun h => by
          rw [HR0.out, any_of_getD (d := 0) (j := j) (by rw [HNK.out]; exact hlt) h]
          simp)
        obtain ⟨k, hkv⟩ : ∃ k, x.ks.getD j 0 = k := ⟨_, rfl⟩
        obtain ⟨q0, hq0⟩ : ∃ q, zK x j = q := ⟨_, rfl⟩
        rw [hkv] at v1 HZS HTS HBJ
        rw [hq0] at HZS ⊢
        have hbk := HBK.out k
        have j0 : (0 : Int) ≤ (j : Int) := by omega
        have j1 : (j : Int) < (nk : Int) := by omega
        have hwj : IntKind.i64.wrap ((j : Int) + 1) = (j : Int) + 1 := IntWalk.i64_in _ (by omega)
        clear hck hkv hq0
        have HGO : Hid (badK S x k = false → (x.ks.take (j + 1)).any (badK S x) = false) := Lib.hid (fun h => by rw [HTS.out, List.any_append, HBad.out]; simp [h])
        rcases hbk with ⟨HK, d1⟩ | ⟨HK, d1, d2⟩ | ⟨HK, d1, d2, d3⟩ | ⟨HK, d1, d2, d3, d4⟩ | ⟨HK, d1, d2, d3, d4⟩
        · have hRt := HBJ.out HK.out
          subst hRt
          clear HR0 HBJ
          go_upto_region 9 with fail
          go_quiet (fail)
          go_wp2
          go_ret
          exact ⟨rfl, HB.out.trans ((below_draw _ _).mono HB.out.size)⟩
        · have hRt := HBJ.out HK.out
          subst hRt
          clear HR0 HBJ
          go_upto_region 9 with fail
          go_quiet (fail)
          go_wp2
          go_ret
          exact ⟨rfl, HB.out.trans ((below_draw _ _).mono HB.out.size)⟩
        · have hk0 : k = 0 := by have h1 := of_decide_eq_false d1; have h2 := of_decide_eq_false d3; omega
          have z1 : (k == 0) = true := by simpa using hk0
          have HNX := Lib.hid (HGO.out HK.out)
          rw [z1] at HZS
          clear HGO HBJ hk0
          go_upto_region 9 with fail
          go_quiet (fail)
          cases q0
          · go_wp2
            go_roundw
            case rel => exact ⟨j + 1, by omega, by go_num, by rw [HZS.out]; rfl, Lib.hid (HB.out.trans ((below_draw _ _).mono HB.out.size)), HNX⟩
            case measure => simp [intOf]; omega
          · go_wp2
            go_roundw
            case rel => exact ⟨j + 1, by omega, by go_num, by rw [HZS.out]; rfl, Lib.hid (HB.out.trans ((below_draw _ _).mono HB.out.size)), HNX⟩
            case measure => simp [intOf]; omega
        · have hRt := HBJ.out HK.out
          have h1 := of_decide_eq_false d1
          have h2 := of_decide_eq_false d2
          obtain ⟨k', rfl⟩ := Int.eq_ofNat_of_zero_le (show 0 ≤ k by omega)
          have v2 := cell_later HB.out (HC.out k' (by omega))
          have hlvA : lvA S (k' : Int) = (S.getD k' rn0).lv := rfl
          rw [hlvA] at d4
          unfold lv1 at d4
          obtain ⟨lk, hlk⟩ : ∃ l, (S.getD k' rn0).lv = l := ⟨_, rfl⟩
          rw [hlk] at d4 v2 hlvA
          obtain ⟨L1, hL1⟩ : ∃ l, IntKind.i64.wrap (x.lv + 1) = l := ⟨_, rfl⟩
          rw [hL1] at d4
          have k0 : (0 : Int) ≤ (k' : Int) := by omega
          have k1 : (k' : Int) < (N : Int) := by omega
          have d2' : decide (N ≤ k') = false := decide_eq_false (by omega)
          have d3' : decide (0 < k') = true := decide_eq_true (by have := of_decide_eq_true d3; omega)
          subst hRt
          clear HR0 HBJ h1 h2 hlvA hlk
          go_upto_region 9 with fail
          go_quiet (fail)
          go_wp2
          go_ret
          exact ⟨rfl, HB.out.trans ((below_draw _ _).mono HB.out.size)⟩
        · have h1 := of_decide_eq_false d1
          have h2 := of_decide_eq_false d2
          have h3 := of_decide_eq_true d3
          obtain ⟨k', rfl⟩ := Int.eq_ofNat_of_zero_le (show 0 ≤ k by omega)
          have v2 := cell_later HB.out (HC.out k' (by omega))
          have hlvA : lvA S (k' : Int) = (S.getD k' rn0).lv := rfl
          rw [hlvA] at d4
          unfold lv1 at d4
          obtain ⟨lk, hlk⟩ : ∃ l, (S.getD k' rn0).lv = l := ⟨_, rfl⟩
          rw [hlk] at d4 v2 hlvA
          obtain ⟨L1, hL1⟩ : ∃ l, IntKind.i64.wrap (x.lv + 1) = l := ⟨_, rfl⟩
          rw [hL1] at d4
          have k0 : (0 : Int) ≤ (k' : Int) := by omega
          have k1 : (k' : Int) < (N : Int) := by omega
          have d2' : decide (N ≤ k') = false := decide_eq_false (by omega)
          have d3' : decide (0 < k') = true := decide_eq_true (by have := of_decide_eq_true d3; omega)
          have z1 : ((k' : Int) == 0) = false := by simp; omega
          have HNX := Lib.hid (HGO.out HK.out)
          rw [z1] at HZS
          clear HGO HBJ h1 h2 h3 hlvA hlk
          go_upto_region 9 with fail
          go_quiet (fail)
          cases q0
          · go_wp2
            go_roundw
            case rel => exact ⟨j + 1, by omega, by go_num, by rw [HZS.out]; rfl, Lib.hid (HB.out.trans ((below_draw _ _).mono HB.out.size)), HNX⟩
            case measure => simp [intOf]; omega
          · go_wp2
            go_roundw
            case rel => exact ⟨j + 1, by omega, by go_num, by rw [HZS.out]; rfl, Lib.hid (HB.out.trans ((below_draw _ _).mono HB.out.size)), HNX⟩
            case measure => simp [intOf]; omega
      · obtain rfl : j = nk := by omega
        have i1 : ¬ ((j : Int) < (j : Int)) := by omega
        obtain ⟨q1, hq1⟩ : ∃ q, zK x j = q := ⟨_, rfl⟩
        have HQ1 := Lib.hid hq1
        rw [hq1]
        obtain ⟨Wm, hWm⟩ : ∃ W, W = wr := ⟨_, rfl⟩
        subst hWm
        clear hq1
        go_wp2
        go_loopw [10, 122] (fun q v wr => ∃ u : Nat, u ≤ nu ∧ v = .int .i64 u ∧ q = .bool (q1 && zW x u) ∧ Hid (Below Wm.heap.size Wm wr) ∧ Hid ((x.ws.take u).any badW = false)) (fun _ v _ => nu - (intOf v).toNat)
        case atStart => exact ⟨0, Nat.zero_le _, rfl, by rw [show zW x 0 = true from rfl, Bool.and_true], Lib.hid (Below.refl _ _), Lib.hid rfl⟩
        case round =>
          obtain ⟨u, hu', rfl, rfl, HBu, HBadu⟩ := hrel
          have e0 := cell_later HBu.out e0
          by_cases hltu : u < nu
          · obtain ⟨pk, ok, rfl, hpk, hck⟩ := R2.out.resolve_left (by omega)
            have v1 := cell_later HBu.out (cell_later HB.out (hck u hltu))
            simp only [wdV] at v1
            have HZS : Hid (zW x (u + 1) = (zW x u && (x.ws.getD u 0 == 0))) := Lib.hid (zW_step (by rw [HNU.out]; exact hltu))
            have HTS : Hid (x.ws.take (u + 1) = x.ws.take u ++ [x.ws.getD u 0]) := Lib.hid (take_step 0 _ (by rw [HNU.out]; exact hltu))
            have HBJ : Hid (badW (x.ws.getD u 0) = true → R = true) := Lib.hid (fun h => by
              rw [HR0.out, any_of_getD (d := 0) (j := u) (by rw [HNU.out]; exact hltu) h]
              simp)
            have hwu := HW.out u
            obtain ⟨y, hy⟩ : ∃ y, x.ws.getD u 0 = y := ⟨_, rfl⟩
            obtain ⟨q0, hq0⟩ : ∃ q, zW x u = q := ⟨_, rfl⟩
            rw [hy] at v1 HZS HTS HBJ hwu
            rw [hq0] at HZS ⊢
            have j0 : (0 : Int) ≤ (u : Int) := by omega
            have j1 : (u : Int) < (nu : Int) := by omega
            have hwj : IntKind.i64.wrap ((u : Int) + 1) = (u : Int) + 1 := IntWalk.i64_in _ (by omega)
            clear hck hy hq0
            have HGO : Hid (badW y = false → (x.ws.take (u + 1)).any badW = false) := Lib.hid (fun h => by rw [HTS.out, List.any_append, HBadu.out]; simp [h])
            by_cases hy0 : y = 0
            · subst hy0
              have HNX := Lib.hid (HGO.out rfl)
              have HZN : Hid (zW x (u + 1) = q0) := Lib.hid (by rw [HZS.out]; simp)
              clear HGO HBJ
              go_wp2
              go_roundw
              case rel => exact ⟨u + 1, by omega, by go_num, by rw [HZN.out], HBu, HNX⟩
              case measure => simp [intOf]; omega
            · have d1 : ((y : Int) == 0) = false := by simp; omega
              have HUN := Lib.hid (unpack_ok (y : Int) (by omega) (by omega))
              obtain ⟨vo, vs, vt, vg, hv⟩ := un_ds (y : Int)
              rw [hv] at HUN
              by_cases hE : unE (y : Int) = 0
              · rw [hE] at HUN
                have HNX := Lib.hid (HGO.out (by unfold badW; rw [hE]; simp))
                have HZN : Hid ((q1 && zW x (u + 1)) = false) := Lib.hid (by rw [HZS.out]; simp [hy0])
                clear HGO HBJ hv hE hy0
                go_wp2_with fail
                refine (HUN.out _).mono ?_
                rintro e w3 ⟨rfl, b3⟩
                have b4 := below_box0 w3 (.cells #[.int .i64 vo, .int .i64 vs, .int .i64 vt, .bool vg] 23)
                have B4 := Lib.hid (below_tr HBu.out (below_tr b3 b4))
                clear b3 b4
                go_wp2
                go_roundw
                case rel => exact ⟨u + 1, by omega, by go_num, by rw [HZN.out], B4, HNX⟩
                case measure => simp [intOf]; omega
              · have hRt := HBJ.out (by unfold badW; simp [hE, hy0])
                have d2 : (unE (y : Int) != 0) = true := by simpa using hE
                subst hRt
                clear HGO HBJ hv hE hy0 HR0
                go_wp2_with fail
                refine (HUN.out _).mono ?_
                rintro e w3 ⟨rfl, b3⟩
                have b4 := below_box0 w3 (.cells #[.int .i64 vo, .int .i64 vs, .int .i64 vt, .bool vg] 23)
                have B4 := Lib.hid (below_tr HBu.out (below_tr b3 b4))
                clear b3 b4
                go_wp2
                go_ret
                exact ⟨rfl, below_tr HB.out B4.out⟩
          · obtain rfl : u = nu := by omega
            have i1 : ¬ ((u : Int) < (u : Int)) := by omega
            have HBE := Lib.hid (below_tr HB.out HBu.out)
            have HRE : Hid (R = (decide (0 < x.lv) && ((q1 && zW x u) || (t != 1)))) := Lib.hid (by
              have a1 : x.ks.any (badK S x) = false := by have := HBad.out; rwa [List.take_of_length_le (by rw [HNK.out]; exact Nat.le_refl _)] at this
              have a2 : x.ws.any badW = false := by have := HBadu.out; rwa [List.take_of_length_le (by rw [HNU.out]; exact Nat.le_refl _)] at this
              have a3 : emN x = (q1 && zW x u) := by
                rw [← HQ1.out]
                unfold emN zK zW
                rw [List.take_of_length_le (by rw [HNK.out]; exact Nat.le_refl _), List.take_of_length_le (by rw [HNU.out]; exact Nat.le_refl _)]
              rw [HR0.out, HZ.out, a1, a2, a3]
              rfl)
            obtain ⟨qq, hqq⟩ : ∃ q, (q1 && zW x u) = q := ⟨_, rfl⟩
            rw [hqq] at HRE ⊢
            obtain ⟨A, hA⟩ : ∃ b, decide (0 < x.lv) = b := ⟨_, rfl⟩
            obtain ⟨D, hD⟩ : ∃ b, (t != 1) = b := ⟨_, rfl⟩
            rw [hA, hD] at HRE
            have HRE' := HRE.out
            subst HRE'
            clear HR0 hqq HBu HRE
            cases A <;> cases qq <;> cases D
            all_goals
              go_wp2
              go_ret
              exact ⟨rfl, HBE.out⟩
  all_goals
    have hRt : R = true := by rw [HR0.out, HZ.out]; rfl
    subst hRt
    clear HR0
    go_enter Tryd.func52, Tryd.ntmps52
    go_wp2_with fail
    refine (HSZ.out _).mono ?_
    rintro e w1 ⟨rfl, rfl⟩
    go_wp2
    go_ret
    exact ⟨rfl, Below.refl _ _⟩
end
end Go.Proofs.YtfmclbacoffdaaaDoor

namespace Go.Proofs.YtfmclbacoffdaaaDoor
def kdF (x : Rn) : Nat → Nat := fun k => (x.ks.getD k 0).toNat
def wdF (x : Rn) : Nat → Nat := fun k => x.ws.getD k 0
def nzK (x : Rn) (j : Nat) : Nat := (x.ks.take j).countP fun k => k != 0
def nzW (x : Rn) (j : Nat) : Nat := (x.ws.take j).countP fun u => u != 0
/-- a node of a state as one of a map -/
def ndOf (x : Rn) : Nd := ⟨x.lv, nzK x x.ks.length + nzW x x.ws.length, kdF x, wdF x⟩
def ldX (X : RM) (i : Nat) (x : Rn) : RM := if x.lv < 0 then X else ⟨X.st.set i (ndOf x), X.m + 1, filled X.r i (i + 1) true⟩
def ldN (S : List Rn) : Nat → RM
  | 0 => ⟨(newM S.length).st, 0, (newM S.length).r⟩
  | k + 1 => ldX (ldN S k) k (S.getD k rn0)
def ldM (S : List Rn) : RM := ldN S S.length
theorem ldN_len (S : List Rn) : ∀ k, (ldN S k).st.length = S.length
  | 0 => newM_len _
  | k + 1 => by
    show (ldX (ldN S k) k (S.getD k rn0)).st.length = _
    unfold ldX
    split
    · exact ldN_len S k
    · simp only [List.length_set]; exact ldN_len S k
theorem ldN_m (S : List Rn) : ∀ k, (ldN S k).m ≤ k
  | 0 => Nat.le_refl _
  | k + 1 => by
    have := ldN_m S k
    show (ldX (ldN S k) k (S.getD k rn0)).m ≤ _
    unfold ldX
    split
    · omega
    · show (ldN S k).m + 1 ≤ k + 1; omega
/-- a list written over a function from a place on -/
def updL (f : Nat → Nat) : Nat → List Nat → Nat → Nat
  | _, [] => f
  | o, v :: r => updL (upd f o v) (o + 1) r
theorem updL_eq : ∀ (l : List Nat) (f : Nat → Nat) (o j : Nat), updL f o l j = if o ≤ j ∧ j < o + l.length then l.getD (j - o) 0 else f j
  | [], f, o, j => by rw [if_neg (by rw [List.length_nil]; omega)]; rfl
  | v :: r, f, o, j => by
    show updL (upd f o v) (o + 1) r j = _
    rw [updL_eq r (upd f o v) (o + 1) j]
    by_cases e : j = o
    · subst e
      rw [if_neg (by omega), if_pos (by rw [List.length_cons]; omega)]
      unfold upd
      simp
    · unfold upd
      rw [if_neg e]
      by_cases c : o + 1 ≤ j ∧ j < o + 1 + r.length
      · rw [if_pos c, if_pos (by simp; omega), show j - o = (j - (o + 1)) + 1 by omega]
        rfl
      · rw [if_neg c, if_neg (by simp; omega)]
theorem updL_zero (l : List Nat) : updL (fun _ => 0) 0 l = fun k => l.getD k 0 := by
  funext k
  rw [updL_eq]
  by_cases c : k < l.length
  · rw [if_pos (by omega)]; rfl
  · rw [if_neg (by omega)]
    simp [List.getD, c]
theorem nzK_step {x : Rn} {j : Nat} (h : j < x.ks.length) : nzK x (j + 1) = nzK x j + if x.ks.getD j 0 = 0 then 0 else 1 := by
  unfold nzK
  rw [take_step 0 _ h, List.countP_append, List.countP_singleton]
  by_cases e : x.ks.getD j 0 = 0
  · rw [e]; simp
  · rw [if_neg e, if_pos (by simpa using e)]
theorem nzW_step {x : Rn} {j : Nat} (h : j < x.ws.length) : nzW x (j + 1) = nzW x j + if x.ws.getD j 0 = 0 then 0 else 1 := by
  unfold nzW
  rw [take_step 0 _ h, List.countP_append, List.countP_singleton]
  by_cases e : x.ws.getD j 0 = 0
  · rw [e]; simp
  · rw [if_neg e, if_pos (by simpa using e)]
theorem nzK_le (x : Rn) (j : Nat) : nzK x j ≤ x.ks.length := Nat.le_trans List.countP_le_length (by rw [List.length_take]; exact Nat.min_le_right _ _)
theorem nzW_le (x : Rn) (j : Nat) : nzW x j ≤ x.ws.length := Nat.le_trans List.countP_le_length (by rw [List.length_take]; exact Nat.min_le_right _ _)
/-- what holds of each node of a state that is right -/
structure RnOk (S : List Rn) (i : Nat) (x : Rn) : Prop where
  lo : -1 ≤ x.lv
  hi : x.lv ≤ 2
  z : x.lv = 0 ↔ i = 0
  ks : x.ks.length = kN x.lv
  ws : x.ws.length = wN x.lv
  k : ∀ k ∈ x.ks, 0 ≤ k ∧ k < (S.length : Int) ∧ (0 < k → lvA S k = x.lv + 1)
  w : ∀ u ∈ x.ws, u ≠ 0 → unE (u : Int) = 0
  e : 0 < x.lv → emN x = false ∧ tmS S S i = 1
theorem wrI_false {S : List Rn} {i : Nat} (h : wrI S i = false) : RnOk S i (S.getD i rn0) := by
  unfold wrI wrN at h
  simp only [Bool.or_eq_false_iff] at h
  obtain ⟨⟨⟨h1, h2⟩, h3⟩, h4⟩ := h
  unfold szBad at h1
  simp only [Bool.or_eq_false_iff, decide_eq_false_iff_not, bne_eq_false_iff_eq] at h1
  obtain ⟨⟨⟨⟨a1, a2⟩, a3⟩, a4⟩, a5⟩ := h1
  generalize S.getD i rn0 = x at *
  refine ⟨by omega, by omega, ?_, by omega, by omega, fun k hk => ?_, fun u hu hne => ?_, fun hp => ?_⟩
  · have : (x.lv = 0) ↔ ((i : Int) = 0) := by
      have := congrArg (· = true) a3
      simpa using this
    constructor
    · intro e; have := this.1 e; omega
    · intro e; exact this.2 (by omega)
  · have := List.any_eq_false.1 h2 k hk
    unfold badK at this
    simp only [Bool.or_eq_true, Bool.and_eq_true, decide_eq_true_eq, bne_iff_ne, not_or, not_and, ne_eq, Decidable.not_not] at this
    obtain ⟨⟨b1, b2⟩, b3⟩ := this
    refine ⟨by omega, by omega, fun hp => ?_⟩
    have e := b3 hp
    unfold lv1 at e
    rw [IntWalk.i64_in _ (by omega)] at e
    exact e
  · have := List.any_eq_false.1 h3 u hu
    unfold badW at this
    simpa [hne] using this
  · rw [decide_eq_true hp, Bool.true_and, Bool.or_eq_false_iff] at h4
    exact ⟨h4.1, by have := h4.2; simp at this; omega⟩
theorem ckE_zero {m : Int} {S : List Rn} (h : ckE m S = 0) : (S.length : Int) = m ∧ 1 ≤ S.length ∧ S.length ≤ 145 ∧ ∀ i, i < S.length → RnOk S i (S.getD i rn0) := by
  unfold ckE at h
  split at h
  · cases h
  · rename_i h1
    split at h
    · cases h
    · rename_i h2
      split at h
      · cases h
      · rename_i h3
        have h2' : (S.length : Int) = m := by omega
        refine ⟨h2', by omega, by omega, fun i hi => wrI_false ?_⟩
        exact (nxt_spec (p := wrI S) (Nat.zero_le S.length)).2.2.1 i (Nat.zero_le _) (by have : ckI S = nxt (wrI S) 0 S.length := rfl; omega)
end Go.Proofs.YtfmclbacoffdaaaDoor

namespace Go.Proofs.YtfmclbacoffdaaaDoor
/-- a node of level -1 to 2 that holds nothing outside of what its level has -/
structure NrN (x : Nd) : Prop where
  lo : -1 ≤ x.lv
  hi : x.lv ≤ 2
  k : ∀ k, kN x.lv ≤ k → x.kd k = 0
  w : ∀ k, wN x.lv ≤ k → x.wd k = 0
  mn : x.lv = -1 → x.mn = 0
def NrS (st : List Nd) : Prop := ∀ j, NrN (st.getD j ndZ)
theorem NrN.nd0 {l : Int} (h1 : -1 ≤ l) (h2 : l ≤ 2) : NrN (nd0 l) := ⟨h1, h2, fun _ _ => rfl, fun _ _ => rfl, fun _ => rfl⟩
theorem NrN.kid {x : Nd} (h : NrN x) {k v : Nat} (hk : k < kN x.lv) : NrN (kidN x k v) := by
  refine ⟨h.lo, h.hi, fun j hj => ?_, h.w, fun e => ?_⟩
  · show upd x.kd k v j = 0
    have hj' : kN x.lv ≤ j := hj
    unfold upd
    rw [if_neg (by omega)]
    exact h.k j hj'
  · have e' : x.lv = -1 := e
    rw [e'] at hk
    exact absurd (show k < 0 from hk) (Nat.not_lt_zero _)
theorem NrN.word {x : Nd} (h : NrN x) {k v : Nat} (hk : k < wN x.lv) : NrN (wordN x k v) := by
  refine ⟨h.lo, h.hi, h.k, fun j hj => ?_, fun e => ?_⟩
  · show upd x.wd k v j = 0
    have hj' : wN x.lv ≤ j := hj
    unfold upd
    rw [if_neg (by omega)]
    exact h.w j hj'
  · have e' : x.lv = -1 := e
    rw [e'] at hk
    exact absurd (show k < 0 from hk) (Nat.not_lt_zero _)
theorem NrN.kidZ {x : Nd} (h : NrN x) (k : Nat) : NrN (kidZ x k) := by
  refine ⟨h.lo, h.hi, fun j hj => ?_, h.w, fun e => ?_⟩
  · show upd x.kd k 0 j = 0
    unfold upd
    split
    · rfl
    · exact h.k j hj
  · show x.mn - 1 = 0
    rw [h.mn e]
theorem NrN.wordZ {x : Nd} (h : NrN x) (k : Nat) : NrN (wordZ x k) := by
  refine ⟨h.lo, h.hi, h.k, fun j hj => ?_, fun e => ?_⟩
  · show upd x.wd k 0 j = 0
    unfold upd
    split
    · rfl
    · exact h.w j hj
  · show x.mn - 1 = 0
    rw [h.mn e]
theorem NrS.set {st : List Nd} (h : NrS st) (i : Nat) {y : Nd} (hy : NrN y) : NrS (st.set i y) := fun j => by
  by_cases hi : i < st.length
  · rw [N_set hi]; split
    · exact hy
    · exact h j
  · rw [List.set_eq_of_length_le (by omega)]; exact h j
theorem NrS.give {X : RM} (h : NrS X.st) (i k : Nat) : NrS (giveM X i k).st := by
  have h1 : NrS (X.st.set ((X.N i).kd k) (nd0 (-1))) := h.set _ (NrN.nd0 (by decide) (by decide))
  exact h1.set _ ((h1 i).kidZ k)
theorem NrS.clrW {X : RM} (h : NrS X.st) (p : Nat) : NrS (clrW X p).st := h.set _ ((h _).wordZ _)
theorem NrS.clr {X : RM} (h : NrS X.st) (p : Nat) : NrS (clrM X p).st := by
  have h1 := h.clrW p
  have h2 : NrS (clrL X p).st := h1.give _ _
  unfold clrM
  split
  · exact h
  · split
    · exact h1
    · split
      · exact h2
      · exact h2.give _ _
theorem NrS.clrs {X : RM} (h : NrS X.st) (p : Nat) : ∀ n, NrS (clrN n X p).st
  | 0 => h
  | n + 1 => (h.clrs p n).clr _
theorem NrS.grow {X : RM} (h : NrS X.st) {i k : Nat} (hl : (X.N i).lv ≤ 1) (hf : frI X ≠ i) (hfl : frI X < X.st.length) (hk : k < kN (X.N i).lv) : NrS (growM X i k).st := by
  have hlo := (h i).lo
  have hlo' : -1 ≤ (X.N i).lv := hlo
  have h1 : NrS (X.st.set (frI X) (nd0 ((X.st.getD i ndZ).lv + 1))) := h.set _ (NrN.nd0 (by show -1 ≤ (X.N i).lv + 1; omega) (by show (X.N i).lv + 1 ≤ 2; omega))
  refine h1.set _ ((h1 i).kid ?_)
  rw [N_set hfl, if_neg (fun e => hf e.symm)]
  exact hk
theorem NrS.put {X : RM} (hm : NrS X.st) (h : RInv X) {x p : Nat} (hp : p < 1024) (hr : X.m + (if mdI X.st p = 0 then 1 else 0) + (if lfI X.st p = 0 then 1 else 0) ≤ X.st.length) : NrS (putM X x p).st := by
  have hA : RInv (putA X p) ∧ NrS (putA X p).st ∧ (putA X p).m = X.m + (if mdI X.st p = 0 then 1 else 0) ∧ putAI X p ≠ 0 ∧ ((putA X p).N 0).kd (p / 64) = putAI X p ∧ lfI (putA X p).st p = lfI X.st p := by
    unfold putA putAI
    by_cases e : mdI X.st p = 0
    · rw [if_pos e] at hr
      rw [if_pos e, if_pos e, if_pos e]
      have hf := h.room (by omega)
      obtain ⟨g1, g2, _⟩ := h.grow0_rd hf (show p / 64 < 16 by omega) e p hp
      rw [if_pos rfl] at g1
      exact ⟨h.grow0 hf (by omega) e, hm.grow (by rw [h.root]; decide) (h.fr hf).2 hf (by rw [h.root]; show p / 64 < 16; omega), rfl, (h.fr hf).2, g1, g2⟩
    · rw [if_neg e, if_neg e, if_neg e]
      exact ⟨h, hm, rfl, e, rfl, rfl⟩
  obtain ⟨hAi, hAn, hAm, hA0, hAk, hAl2⟩ := hA
  have hAl := putA_len X p
  have hAkk : ((putA X p).N (putAI X p)).kd (p / 8 % 8) = lfI X.st p := by
    rw [← hAl2]
    unfold lfI
    have p1 : mdI (putA X p).st p = putAI X p := hAk
    rw [p1, if_neg hA0]
  obtain ⟨hAi1, hAi2⟩ := hAi.k0 (p / 64) (by omega) (by rw [hAk]; exact hA0)
  rw [hAk] at hAi1 hAi2
  have hB : RInv (putB X p) ∧ NrS (putB X p).st ∧ putBI X p ≠ 0 ∧ lfI (putB X p).st p = putBI X p := by
    unfold putB putBI
    by_cases e : lfI X.st p = 0
    · rw [if_pos e] at hr
      rw [if_pos e, if_pos e]
      have hf := hAi.room (by omega)
      obtain ⟨_, g2, _⟩ := hAi.grow1_rd hf (show p / 64 < 16 by omega) hAk hA0 (k := p / 8 % 8) (by rw [hAkk]; exact e) p hp
      rw [if_pos ⟨rfl, rfl⟩] at g2
      refine ⟨hAi.grow1 hf (show p / 64 < 16 by omega) hAk hA0 (by omega) (by rw [hAkk]; exact e), hAn.grow (by rw [hAi2]; decide) (fun e2 => ?_) hf (by rw [hAi2]; show p / 8 % 8 < 8; omega), (hAi.fr hf).2, g2⟩
      have := (hAi.fr hf).1
      rw [e2, hAi2] at this
      omega
    · rw [if_neg e, if_neg e]
      exact ⟨hAi, hAn, e, hAl2⟩
  obtain ⟨hBi, hBn, hB0, hB2⟩ := hB
  obtain ⟨c1, c2, c3, c4, c5, c6⟩ := hBi.leaf hp (by rw [hB2]; exact hB0)
  rw [hB2] at c5 c6
  exact hBn.set _ ((hBn _).word (by show p % 8 < wN ((putB X p).N (putBI X p)).lv; rw [c6]; show p % 8 < 8; omega))
theorem NrS.sets (x : Nat) : ∀ (n : Nat) {X : RM} {p : Nat} {b s : Int}, NrS X.st → RInv X → p + n ≤ 1024 → (((p / 64 : Nat) : Int) = b → mdI X.st p ≠ 0) → (((p / 8 : Nat) : Int) = s → lfI X.st p ≠ 0) → X.m + needF X.st n p b s ≤ X.st.length → NrS (setM x n X p).st
  | 0, _, _, _, _, hm, _, _, _, _, _ => hm
  | n + 1, X, p, b, s, hm, h, hn, hb, hs, hr => by
    have t1 : (if mdI X.st p = 0 ∧ ((p / 64 : Nat) : Int) ≠ b then (1 : Nat) else 0) = if mdI X.st p = 0 then 1 else 0 := ite_congr' ⟨fun h => h.1, fun h => ⟨h, fun e => hb e h⟩⟩
    have t2 : (if lfI X.st p = 0 ∧ ((p / 8 : Nat) : Int) ≠ s then (1 : Nat) else 0) = if lfI X.st p = 0 then 1 else 0 := ite_congr' ⟨fun h => h.1, fun h => ⟨h, fun e => hs e h⟩⟩
    simp only [needF] at hr
    rw [t1, t2] at hr
    obtain ⟨hS, _⟩ := h.put (x := x) (p := p) (by omega) (by omega)
    have hne := need_put hS n (p + 1) (by omega) (by omega)
    rw [show p + 1 - 1 = p by omega] at hne
    rw [setM_cons]
    exact NrS.sets x n (b := ((p / 64 : Nat) : Int)) (s := ((p / 8 : Nat) : Int)) (hm.put h (by omega) (by omega)) hS.inv (by omega)
      (fun e h0 => by have := (hS.md (p + 1) (by omega)).1 h0; omega) (fun e h0 => by have := (hS.lf (p + 1) (by omega)).1 h0; omega) (by rw [hS.m, hS.len, hne]; omega)
/-- what holds of each map that the laws make -/
structure RGood (X : RM) : Prop where
  a : RAll X
  w : RWk X
  n : NrS X.st
theorem RGood.setX {X : RM} (h : RGood X) (f t o s c : Int) (g : Bool) : RGood (setX X f t o s c g) := by
  obtain ⟨h1, h2, _⟩ := h.a.setX h.w f t o s c g
  refine ⟨h1, h2, ?_⟩
  unfold Go.Proofs.YtfmclbacoffdaaaDoor.setX
  by_cases e : setE X f t o s c = 0
  · rw [if_pos e]
    obtain ⟨e1, e2, e3⟩ := setE_zero e
    obtain ⟨p1, p2, p3⟩ := paE_zero e1
    exact NrS.sets _ _ h.n h.a.i (show f.toNat + (t - f).toNat ≤ 1024 by omega) (fun e => by omega) (fun e => by omega) e3
  · rw [if_neg e]; exact h.n
theorem RGood.clrX {X : RM} (h : RGood X) (f t : Int) : RGood (clrX X f t) := by
  obtain ⟨h1, h2, _⟩ := h.a.clrX h.w f t
  refine ⟨h1, h2, ?_⟩
  unfold Go.Proofs.YtfmclbacoffdaaaDoor.clrX
  split
  · exact h.n.clrs _ _
  · exact h.n
theorem RGood.step {X : RM} (h : RGood X) (c : Cl) : RGood (stepC X c) := by
  unfold stepC
  split
  · exact h.clrX _ _
  · exact h.setX _ _ _ _ _ _
theorem RGood.newM {n : Nat} (hn : 1 ≤ n) : RGood (newM n) := by
  refine ⟨newM_all hn, newM_wk hn, NrS.set (fun j => ?_) 0 (NrN.nd0 (by decide) (by decide))⟩
  simp only [List.getD, List.getElem?_replicate]
  split
  · exact NrN.nd0 (by decide) (by decide)
  · exact NrN.nd0 (by decide) (by decide)
theorem RGood.steps {X : RM} (h : RGood X) (C : Nat → Cl) : ∀ k, RGood (stepsC C X k)
  | 0 => h
  | k + 1 => (h.steps C k).step _
theorem RGood.mkM {N : Nat} (hN : 1 ≤ N) (C : Nat → Cl) (n : Nat) : RGood (mkM N C n) := (RGood.newM hN).steps C n
end Go.Proofs.YtfmclbacoffdaaaDoor

namespace Go.Proofs.YtfmclbacoffdaaaDoor
/-! sums -/
theorem sumN_single {f : Nat → Nat} {a v : Nat} : ∀ {n : Nat}, a < n → f a = v → (∀ j, j < n → j ≠ a → f j = 0) → sumN f n = v := fun {n} ha hv h0 => by
  have h1 := sumN_at (f := fun j => if j = a then 0 else f j) (g := f) (k := a) n ha (fun j hj hne => by rw [if_neg hne])
  have h2 : sumN (fun j => if j = a then 0 else f j) n = 0 := sumN_zero n (fun j hj => by
    by_cases e : j = a
    · rw [if_pos e]
    · rw [if_neg e]; exact h0 j hj e)
  rw [if_pos rfl, hv, h2] at h1
  omega
theorem sumN_swap (f : Nat → Nat → Nat) (m : Nat) : ∀ n, sumN (fun i => sumN (fun k => f i k) m) n = sumN (fun k => sumN (fun i => f i k) n) m
  | 0 => (sumN_zero m fun _ _ => rfl).symm
  | n + 1 => by
    simp only [sumN]
    rw [sumN_swap f m n, ← sumN_add]
theorem sumN_le {f g : Nat → Nat} : ∀ {n}, (∀ j, j < n → f j ≤ g j) → sumN f n ≤ sumN g n
  | 0, _ => Nat.le_refl _
  | n + 1, h => by simp only [sumN]; have := sumN_le (n := n) fun j hj => h j (by omega); have := h n (by omega); omega
theorem sumN_eq {f g : Nat → Nat} : ∀ {n}, (∀ j, j < n → f j ≤ g j) → sumN f n = sumN g n → ∀ j, j < n → f j = g j
  | 0, _, _, j, hj => absurd hj (Nat.not_lt_zero _)
  | n + 1, h, he, j, hj => by
    simp only [sumN] at he
    have h1 := sumN_le (n := n) fun j hj => h j (by omega)
    have h2 := h n (by omega)
    by_cases e : j = n
    · subst e; omega
    · exact sumN_eq (n := n) (fun j hj => h j (by omega)) (by omega) j (by omega)
/-- at most one -/
theorem sumN_uniq {f : Nat → Nat} : ∀ {n}, (∀ j, j < n → f j ≤ 1) → (∀ i j, i < n → j < n → f i ≠ 0 → f j ≠ 0 → i = j) → sumN f n ≤ 1
  | 0, _, _ => by simp [sumN]
  | n + 1, h, hu => by
    simp only [sumN]
    have h2 := h n (by omega)
    by_cases e : f n = 0
    · have := sumN_uniq (n := n) (fun j hj => h j (by omega)) (fun i j hi hj => hu i j (by omega) (by omega)); omega
    · rw [sumN_zero n fun j hj => by
        refine Classical.byContradiction fun hne => ?_
        have := hu j n (by omega) (by omega) hne e
        omega]
      omega
theorem sumN_pos {f : Nat → Nat} : ∀ {n}, sumN f n ≠ 0 → ∃ j, j < n ∧ f j ≠ 0
  | 0, h => absurd rfl h
  | n + 1, h => by
    by_cases e : f n = 0
    · simp only [sumN] at h
      obtain ⟨j, hj, hf⟩ := sumN_pos (f := f) (n := n) (by omega)
      exact ⟨j, by omega, hf⟩
    · exact ⟨n, by omega, e⟩
theorem cnt_sumN (r : Nat → Bool) : ∀ n, cnt r 0 n = sumN (fun i => if r i = true then 1 else 0) n
  | 0 => by simp [cnt, sumN]
  | n + 1 => by
    have e2 : cnt r 0 (n + 1) = cnt r 0 n + if r n = true then 1 else 0 := by simp [cnt]
    rw [e2, cnt_sumN r n]; rfl
theorem countP_range {α : Type} (p : α → Bool) (g : Nat → α) : ∀ n, ((List.range n).map g).countP p = sumN (fun k => if p (g k) = true then 1 else 0) n
  | 0 => rfl
  | n + 1 => by
    rw [List.range_succ, List.map_append, List.countP_append, countP_range p g n]
    simp only [List.map_cons, List.map_nil, List.countP_singleton, sumN]
theorem sum_sumN {α : Type} (d : α) (f : α → Nat) : ∀ l : List α, (l.map f).sum = sumN (fun j => f (l.getD j d)) l.length
  | [] => rfl
  | x :: l => by
    rw [List.map_cons, List.sum_cons, sum_sumN d f l, List.length_cons, Nat.add_comm l.length 1, sumN_more]
    simp only [sumN, Nat.zero_add]
    congr 1
    exact sumN_congr _ fun j _ => by rw [Nat.add_comm 1 j]; rfl
/-! the map's nodes hang at it -/
def P1 (X : RM) (i : Nat) : Nat := sumN (fun k => if (X.N 0).kd k = i then 1 else 0) 16
def P2 (X : RM) (i : Nat) : Nat := sumN (fun k => if (X.N 0).kd k = 0 then 0 else sumN (fun l => if (X.N ((X.N 0).kd k)).kd l = i then 1 else 0) 8) 16
theorem sum_hit {v n : Nat} (hv : v < n ∨ v = 0) : sumN (fun i => if i = 0 then 0 else if v = i then 1 else 0) n = if v = 0 then 0 else 1 := by
  by_cases e : v = 0
  · rw [if_pos e]
    exact sumN_zero n fun j _ => by
      by_cases c : j = 0
      · rw [if_pos c]
      · rw [if_neg c, if_neg (by omega)]
  · rw [if_neg e]
    exact sumN_single (a := v) (by omega) (by rw [if_neg e, if_pos rfl]) (fun j _ hne => by
      by_cases c : j = 0
      · rw [if_pos c]
      · rw [if_neg c, if_neg (by omega)])
section
variable {X : RM}
theorem P1_sum (h : RInv X) : sumN (fun i => if i = 0 then 0 else P1 X i) X.st.length = sumN (fun k => if (X.N 0).kd k = 0 then 0 else 1) 16 := by
  have e : ∀ i, (if i = 0 then 0 else P1 X i) = sumN (fun k => if i = 0 then 0 else if (X.N 0).kd k = i then 1 else 0) 16 := fun i => by
    by_cases c : i = 0
    · rw [if_pos c]; exact (sumN_zero 16 fun _ _ => by rw [if_pos c]).symm
    · rw [if_neg c]; exact sumN_congr 16 fun _ _ => by rw [if_neg c]
  rw [sumN_congr _ fun i _ => e i, sumN_swap]
  refine sumN_congr 16 fun k hk => sum_hit ?_
  by_cases c : (X.N 0).kd k = 0
  · exact .inr c
  · exact .inl (h.k0 k hk c).1
theorem P2_sum (h : RInv X) : sumN (fun i => if i = 0 then 0 else P2 X i) X.st.length = sumN (fun k => if (X.N 0).kd k = 0 then 0 else kidC (X.N ((X.N 0).kd k))) 16 := by
  have e : ∀ i, (if i = 0 then 0 else P2 X i) = sumN (fun k => if i = 0 then 0 else if (X.N 0).kd k = 0 then 0 else sumN (fun l => if (X.N ((X.N 0).kd k)).kd l = i then 1 else 0) 8) 16 := fun i => by
    by_cases c : i = 0
    · rw [if_pos c]; exact (sumN_zero 16 fun _ _ => by rw [if_pos c]).symm
    · rw [if_neg c]; exact sumN_congr 16 fun _ _ => by rw [if_neg c]
  rw [sumN_congr _ fun i _ => e i, sumN_swap]
  refine sumN_congr 16 fun k hk => ?_
  by_cases c : (X.N 0).kd k = 0
  · rw [if_pos c]
    exact sumN_zero _ fun i _ => by rw [if_pos c]; split <;> rfl
  · rw [if_neg c]
    obtain ⟨h1, h2⟩ := h.k0 k hk c
    have e2 : ∀ i, (if i = 0 then 0 else if (X.N 0).kd k = 0 then 0 else sumN (fun l => if (X.N ((X.N 0).kd k)).kd l = i then 1 else 0) 8) = sumN (fun l => if i = 0 then 0 else if (X.N ((X.N 0).kd k)).kd l = i then 1 else 0) 8 := fun i => by
      by_cases d : i = 0
      · rw [if_pos d]; exact (sumN_zero 8 fun _ _ => by rw [if_pos d]).symm
      · rw [if_neg d, if_neg c]; exact sumN_congr 8 fun _ _ => by rw [if_neg d]
    rw [sumN_congr _ fun i _ => e2 i, sumN_swap]
    unfold kidC
    refine sumN_congr 8 fun l hl => sum_hit ?_
    by_cases d : (X.N ((X.N 0).kd k)).kd l = 0
    · exact .inr d
    · exact .inl (h.k1 _ h1 h2 l hl d).1
theorem P1_spec (h : RInv X) {i : Nat} (hi : i ≠ 0) : P1 X i ≤ 1 ∧ (P1 X i ≠ 0 → ∃ k, k < 16 ∧ (X.N 0).kd k = i) := by
  constructor
  · refine sumN_uniq (fun j _ => by split <;> omega) fun a b ha hb h1 h2 => ?_
    have e1 : (X.N 0).kd a = i := by by_cases c : (X.N 0).kd a = i; · exact c
                                     · rw [if_neg c] at h1; exact absurd rfl h1
    have e2 : (X.N 0).kd b = i := by by_cases c : (X.N 0).kd b = i; · exact c
                                     · rw [if_neg c] at h2; exact absurd rfl h2
    exact h.i0 a b ha hb (by rw [e1]; exact hi) (by rw [e1, e2])
  · intro hne
    obtain ⟨k, hk, hf⟩ := sumN_pos hne
    by_cases c : (X.N 0).kd k = i
    · exact ⟨k, hk, c⟩
    · rw [if_neg c] at hf; exact absurd rfl hf
theorem P2_spec (h : RInv X) {i : Nat} (hi : i ≠ 0) : P2 X i ≤ 1 ∧ (P2 X i ≠ 0 → ∃ k l, k < 16 ∧ l < 8 ∧ (X.N 0).kd k ≠ 0 ∧ (X.N ((X.N 0).kd k)).kd l = i) := by
  have hin : ∀ k, k < 16 → (X.N 0).kd k ≠ 0 → sumN (fun l => if (X.N ((X.N 0).kd k)).kd l = i then 1 else 0) 8 ≠ 0 → ∃ l, l < 8 ∧ (X.N ((X.N 0).kd k)).kd l = i := fun k hk c hne => by
    obtain ⟨l, hl, hf⟩ := sumN_pos hne
    by_cases d : (X.N ((X.N 0).kd k)).kd l = i
    · exact ⟨l, hl, d⟩
    · rw [if_neg d] at hf; exact absurd rfl hf
  constructor
  · refine sumN_uniq (fun k hk => ?_) fun a b ha hb h1 h2 => ?_
    · by_cases c : (X.N 0).kd k = 0
      · rw [if_pos c]; omega
      · rw [if_neg c]
        obtain ⟨g1, g2⟩ := h.k0 k hk c
        refine sumN_uniq (fun j _ => by split <;> omega) fun a b ha hb h1 h2 => ?_
        have e1 : (X.N ((X.N 0).kd k)).kd a = i := by by_cases c : (X.N ((X.N 0).kd k)).kd a = i; · exact c
                                                      · rw [if_neg c] at h1; exact absurd rfl h1
        have e2 : (X.N ((X.N 0).kd k)).kd b = i := by by_cases c : (X.N ((X.N 0).kd k)).kd b = i; · exact c
                                                      · rw [if_neg c] at h2; exact absurd rfl h2
        exact (h.i1 _ _ a b g1 g1 g2 g2 ha hb (by rw [e1]; exact hi) (by rw [e1, e2])).2
    · by_cases c : (X.N 0).kd a = 0
      · rw [if_pos c] at h1; exact absurd rfl h1
      by_cases d : (X.N 0).kd b = 0
      · rw [if_pos d] at h2; exact absurd rfl h2
      rw [if_neg c] at h1
      rw [if_neg d] at h2
      obtain ⟨l, hl, e1⟩ := hin a ha c h1
      obtain ⟨l', hl', e2⟩ := hin b hb d h2
      obtain ⟨a1, a2⟩ := h.k0 a ha c
      obtain ⟨b1, b2⟩ := h.k0 b hb d
      have := (h.i1 _ _ l l' a1 b1 a2 b2 hl hl' (by rw [e1]; exact hi) (by rw [e1, e2])).1
      exact h.i0 a b ha hb c this
  · intro hne
    obtain ⟨k, hk, hf⟩ := sumN_pos hne
    by_cases c : (X.N 0).kd k = 0
    · rw [if_pos c] at hf; exact absurd rfl hf
    · rw [if_neg c] at hf
      obtain ⟨l, hl, e⟩ := hin k hk c hf
      exact ⟨k, l, hk, hl, c, e⟩
/-- each node but the root is a kid -/
theorem RInv.hangs (h : RInv X) {i : Nat} (hi : i < X.st.length) (h0 : i ≠ 0) (hl : 0 ≤ (X.N i).lv) :
    ((X.N i).lv = 1 ∧ ∃ k, k < 16 ∧ (X.N 0).kd k = i) ∨ ((X.N i).lv = 2 ∧ ∃ k l, k < 16 ∧ l < 8 ∧ (X.N 0).kd k ≠ 0 ∧ (X.N ((X.N 0).kd k)).kd l = i) := by
  have lv1 : P1 X i ≠ 0 → (X.N i).lv = 1 ∧ ∃ k, k < 16 ∧ (X.N 0).kd k = i := fun hne => by
    obtain ⟨k, hk, e⟩ := (P1_spec h h0).2 hne
    have := (h.k0 k hk (by rw [e]; exact h0)).2
    rw [e] at this
    exact ⟨this, k, hk, e⟩
  have lv2 : P2 X i ≠ 0 → (X.N i).lv = 2 ∧ ∃ k l, k < 16 ∧ l < 8 ∧ (X.N 0).kd k ≠ 0 ∧ (X.N ((X.N 0).kd k)).kd l = i := fun hne => by
    obtain ⟨k, l, hk, hl, c, e⟩ := (P2_spec h h0).2 hne
    obtain ⟨g1, g2⟩ := h.k0 k hk c
    have := (h.k1 _ g1 g2 l hl (by rw [e]; exact h0)).2
    rw [e] at this
    exact ⟨this, k, l, hk, hl, c, e⟩
  have hle : ∀ j, j < X.st.length → (if j = 0 then 0 else P1 X j + P2 X j) ≤ (if j = 0 then 0 else if X.r j = true then 1 else 0) := fun j hj => by
    by_cases c : j = 0
    · rw [if_pos c, if_pos c]; exact Nat.le_refl _
    · rw [if_neg c, if_neg c]
      have a1 := (P1_spec h c).1
      have a2 := (P2_spec h c).1
      have b1 : P1 X j ≠ 0 → (X.N j).lv = 1 := fun hne => by
        obtain ⟨k, hk, e⟩ := (P1_spec h c).2 hne
        have := (h.k0 k hk (by rw [e]; exact c)).2
        rwa [e] at this
      have b2 : P2 X j ≠ 0 → (X.N j).lv = 2 := fun hne => by
        obtain ⟨k, l, hk, hl, d, e⟩ := (P2_spec h c).2 hne
        obtain ⟨g1, g2⟩ := h.k0 k hk d
        have := (h.k1 _ g1 g2 l hl (by rw [e]; exact c)).2
        rwa [e] at this
      by_cases d1 : P1 X j = 0
      · by_cases d2 : P2 X j = 0
        · omega
        · rw [h.rt j hj, b2 d2]; simp; omega
      · have := b1 d1
        have d2 : P2 X j = 0 := Classical.byContradiction fun hne => by have := b2 hne; omega
        rw [h.rt j hj, this]; simp; omega
  have hsum : sumN (fun j => if j = 0 then 0 else P1 X j + P2 X j) X.st.length = sumN (fun j => if j = 0 then 0 else if X.r j = true then 1 else 0) X.st.length := by
    have e1 : sumN (fun j => if j = 0 then 0 else P1 X j + P2 X j) X.st.length = sumN (fun j => if j = 0 then 0 else P1 X j) X.st.length + sumN (fun j => if j = 0 then 0 else P2 X j) X.st.length := by
      rw [← sumN_add]
      exact sumN_congr _ fun j _ => by by_cases c : j = 0; · simp [c]
                                       · simp [c]
    have e2 : sumN (fun j => if X.r j = true then 1 else 0) X.st.length = 1 + sumN (fun j => if j = 0 then 0 else if X.r j = true then 1 else 0) X.st.length := by
      have := sumN_at (f := fun j => if X.r j = true then 1 else 0) (g := fun j => if j = 0 then 0 else if X.r j = true then 1 else 0) (k := 0) X.st.length h.n1 (fun j _ hne => by rw [if_neg hne])
      have r0 : X.r 0 = true := by rw [h.rt 0 h.n1, h.root]; rfl
      rw [if_pos rfl, if_pos r0] at this
      omega
    have e3 := h.tree
    have e4 := h.cn
    rw [cnt_sumN, e2] at e4
    have e5 : sumN (fun k => if (X.N 0).kd k = 0 then 0 else 1 + kidC (X.N ((X.N 0).kd k))) 16 = sumN (fun k => if (X.N 0).kd k = 0 then 0 else 1) 16 + sumN (fun k => if (X.N 0).kd k = 0 then 0 else kidC (X.N ((X.N 0).kd k))) 16 := by
      rw [← sumN_add]
      exact sumN_congr _ fun j _ => by by_cases c : (X.N 0).kd j = 0; · rw [if_pos c, if_pos c, if_pos c]
                                       · rw [if_neg c, if_neg c, if_neg c]
    unfold treeC at e3
    rw [e1, P1_sum h, P2_sum h, ← e5]
    omega
  have := sumN_eq hle hsum i hi
  have ri : X.r i = true := by rw [h.rt i hi]; exact decide_eq_true hl
  rw [if_neg h0, if_neg h0, if_pos ri] at this
  by_cases d1 : P1 X i = 0
  · exact .inr (lv2 (by omega))
  · exact .inl (lv1 d1)
end
end Go.Proofs.YtfmclbacoffdaaaDoor
