/- The radix map: sized, empty, parents of the reference. | The radix map: parents, wrong, Check of the reference. | The radix map: wrong, Check of the reference. | The radix map: Check of the reference. -/
import Derived.Test.YtfmclbacoffdaaaDoorRYZ1
import Derived.Test.YtfmclbacoffdaaaDoorRSZ1
import Derived.Deep.QuietTactic
import Derived.BigQuiet
import Derived.Test.YtfmclbacoffdaaaDoorRZ8
import Derived.Test.YtfmclbacoffdaaaDoorRSZ2
namespace Go.Proofs.YtfmclbacoffdaaaDoor
open Go.RowKit Go.Sort Go.Joins
attribute [local go_sem] cell_grow frozen_grow size_grow Oper.semAt_some
theorem ndBox (w : World) (A : Array Value) (t : TypeId) : Below w.heap.size w (w.alloc (.cells A t)) ∧ (w.alloc (.cells A t)).heap[w.heap.size]? = some (.cells A t (0, 0)) := ⟨below_box0 w _, heap_alloc_new w _⟩
set_option maxRecDepth 100000 in
theorem sized_ok (x : Rn) (ka ua : Option Addr) (kc uc : Nat) (w : World) :
    Calls Tryd.prog 63 #[.agg #[.int .i64 x.lv, .slice ka x.ks.length kc, .slice ua x.ws.length uc]] w fun e w' => e = .returned (.bool (szd x)) ∧ Below w.heap.size w w' := by
  have HB := Lib.hid (below_box0 w (.cells #[.int .i64 x.lv, .slice ka x.ks.length kc, .slice ua x.ws.length uc] 60))
  have hR : Hid (szd x = (((x.ks.length : Int) == (kN x.lv : Int)) && ((x.ws.length : Int) == (wN x.lv : Int)))) := Lib.hid rfl
  obtain ⟨R, hr⟩ : ∃ R, szd x = R := ⟨_, rfl⟩
  rw [hr] at hR ⊢
  have hways : (x.lv = 0 ∧ (kN x.lv : Int) = 16 ∧ (wN x.lv : Int) = 0) ∨ ((x.lv == 0) = false ∧ x.lv = 1 ∧ (kN x.lv : Int) = 8 ∧ (wN x.lv : Int) = 0) ∨ ((x.lv == 0) = false ∧ (x.lv == 1) = false ∧ x.lv = 2 ∧ (kN x.lv : Int) = 0 ∧ (wN x.lv : Int) = 8) ∨ ((x.lv == 0) = false ∧ (x.lv == 1) = false ∧ (x.lv == 2) = false ∧ (kN x.lv : Int) = 0 ∧ (wN x.lv : Int) = 0) := by
    by_cases h0 : x.lv = 0
    · exact .inl ⟨h0, by rw [h0]; rfl, by rw [h0]; rfl⟩
    · by_cases h1 : x.lv = 1
      · exact .inr (.inl ⟨by simpa using h0, h1, by rw [h1]; rfl, by rw [h1]; rfl⟩)
      · by_cases h2 : x.lv = 2
        · exact .inr (.inr (.inl ⟨by simpa using h0, by simpa using h1, h2, by rw [h2]; rfl, by rw [h2]; rfl⟩))
        · refine .inr (.inr (.inr ⟨by simpa using h0, by simpa using h1, by simpa using h2, ?_, ?_⟩))
          · unfold kN; rw [if_neg h0, if_neg h1]; rfl
          · unfold wN; rw [if_neg h2]; rfl
  obtain ⟨nk, hnk⟩ : ∃ n, x.ks.length = n := ⟨_, rfl⟩
  obtain ⟨nu, hnu⟩ : ∃ n, x.ws.length = n := ⟨_, rfl⟩
  obtain ⟨lv, hlv⟩ : ∃ n, x.lv = n := ⟨_, rfl⟩
  rw [hnk, hnu, hlv] at hR HB ⊢
  rw [hlv] at hways
  clear hr hnk hnu hlv
  rcases hways with ⟨q0, q1, q2⟩ | ⟨d0, q0, q1, q2⟩ | ⟨d0, d1, q0, q1, q2⟩ | ⟨d0, d1, d2, q1, q2⟩
  all_goals
    rw [q1, q2] at hR
    clear q1 q2
    first | subst q0 | skip
  · obtain ⟨A, hA⟩ : ∃ b, ((nk : Int) == 16) = b := ⟨_, rfl⟩
    obtain ⟨B, hB⟩ : ∃ b, ((nu : Int) == 0) = b := ⟨_, rfl⟩
    rw [hA, hB] at hR
    have hR' := hR.out
    subst hR'
    clear hR
    cases A <;> cases B
    all_goals
      go_enter Tryd.func63, Tryd.ntmps63
      go_wp2
      go_ret
      exact ⟨rfl, HB.out⟩
  · obtain ⟨A, hA⟩ : ∃ b, ((nk : Int) == 8) = b := ⟨_, rfl⟩
    obtain ⟨B, hB⟩ : ∃ b, ((nu : Int) == 0) = b := ⟨_, rfl⟩
    rw [hA, hB] at hR
    have hR' := hR.out
    subst hR'
    clear hR
    cases A <;> cases B
    all_goals
      go_enter Tryd.func63, Tryd.ntmps63
      go_wp2
      go_ret
      exact ⟨rfl, HB.out⟩
  · obtain ⟨A, hA⟩ : ∃ b, ((nk : Int) == 0) = b := ⟨_, rfl⟩
    obtain ⟨B, hB⟩ : ∃ b, ((nu : Int) == 8) = b := ⟨_, rfl⟩
    rw [hA, hB] at hR
    have hR' := hR.out
    subst hR'
    clear hR
    cases A <;> cases B
    all_goals
      go_enter Tryd.func63, Tryd.ntmps63
      go_wp2
      go_ret
      exact ⟨rfl, HB.out⟩
  · obtain ⟨A, hA⟩ : ∃ b, ((nk : Int) == 0) = b := ⟨_, rfl⟩
    obtain ⟨B, hB⟩ : ∃ b, ((nu : Int) == 0) = b := ⟨_, rfl⟩
    rw [hA, hB] at hR
    have hR' := hR.out
    subst hR'
    clear hR
    cases A <;> cases B
    all_goals
      go_enter Tryd.func63, Tryd.ntmps63
      go_wp2
      go_ret
      exact ⟨rfl, HB.out⟩
theorem all_no {α : Type} {d : α} {l : List α} {p : α → Bool} {j : Nat} (h : j < l.length) (hp : p (l.getD j d) = false) : l.all p = false := by
  rw [List.all_eq_false]
  exact ⟨l.getD j d, by simp [List.getD, h], by simpa using hp⟩
set_option maxRecDepth 100000 in
set_option maxHeartbeats 1600000 in
theorem empty_ok {x : Rn} {ka ua : Option Addr} {kc uc : Nat} {w : World} (hk : SlN w ka x.ks.length (kdV x)) (hu : SlN w ua x.ws.length (wdV x)) (lk : x.ks.length ≤ 10000) (lu : x.ws.length ≤ 10000) :
    Calls Tryd.prog 64 #[.agg #[.int .i64 x.lv, .slice ka x.ks.length kc, .slice ua x.ws.length uc]] w fun e w' => e = .returned (.bool (emN x)) ∧ Below w.heap.size w w' := by
  obtain ⟨hB, hX⟩ := ndBox w #[.int .i64 x.lv, .slice ka x.ks.length kc, .slice ua x.ws.length uc] 60
  have HR : Hid (emN x = (x.ks.all (fun k => k == 0) && x.ws.all (fun u => u == 0))) := Lib.hid rfl
  obtain ⟨R, hr⟩ : ∃ R, emN x = R := ⟨_, rfl⟩
  rw [hr] at HR ⊢
  have HK := Lib.hid hk
  have HU := Lib.hid hu
  obtain ⟨nk, hnk⟩ : ∃ n, x.ks.length = n := ⟨_, rfl⟩
  obtain ⟨nu, hnu⟩ : ∃ n, x.ws.length = n := ⟨_, rfl⟩
  rw [hnk] at hB hX HK lk ⊢
  rw [hnu] at hB hX HU lu ⊢
  have HNK := Lib.hid hnk
  have HNU := Lib.hid hnu
  have HB := Lib.hid hB
  have HX := Lib.hid hX
  clear hk hu hr hnk hnu hB hX
  go_enter Tryd.func64, Tryd.ntmps64
  go_upto_region 2 with fail
  generalize World.alloc _ _ = W1 at HB HX ⊢
  have x1 : W1.cell? ⟨w.heap.size, 1, none⟩ = some (.slice ka nk kc) := by rw [cell_of_block HX.out]; rfl
  have x2 : W1.cell? ⟨w.heap.size, 2, none⟩ = some (.slice ua nu uc) := by rw [cell_of_block HX.out]; rfl
  go_loopw [3] (fun v wr => ∃ j : Nat, j ≤ nk ∧ v = .int .i64 j ∧ wr = W1 ∧ Hid (∀ q, q < j → x.ks.getD q 0 = 0)) (fun v _ => nk - (intOf v).toNat)
  case atStart => exact ⟨0, Nat.zero_le _, rfl, rfl, Lib.hid (fun q hq => absurd hq (Nat.not_lt_zero _))⟩
  case round =>
    obtain ⟨j, hj, rfl, rfl, HA⟩ := hrel
    by_cases hlt : j < nk
    · obtain ⟨pk, ok, rfl, hpk, hck⟩ := HK.out.resolve_left (by omega)
      have v1 := cell_later HB.out (hck j hlt)
      simp only [kdV] at v1
      obtain ⟨k, hkv⟩ : ∃ k, x.ks.getD j 0 = k := ⟨_, rfl⟩
      rw [hkv] at v1
      have HKV := Lib.hid hkv
      have j0 : (0 : Int) ≤ (j : Int) := by omega
      have j1 : (j : Int) < (nk : Int) := by omega
      have hwj : IntKind.i64.wrap ((j : Int) + 1) = (j : Int) + 1 := IntWalk.i64_in _ (by omega)
      clear hck hkv
      by_cases hz : k = 0
      · have d1 : (k != 0) = false := by simpa using hz
        have HZ := Lib.hid hz
        clear hz
        go_wp2
        go_roundw
        case rel => exact ⟨j + 1, by omega, by go_num, by first | rfl | trivial, Lib.hid (fun q hq => by
          by_cases e : q = j
          · rw [e, HKV.out]; exact HZ.out
          · exact HA.out q (by omega))⟩
        case measure => simp [intOf]; omega
      · have d1 : (k != 0) = true := by simpa using hz
        have hRf : R = false := by rw [HR.out, all_no (d := 0) (j := j) (by rw [HNK.out]; exact hlt) (by rw [HKV.out]; simpa using hz)]; rfl
        subst hRf
        clear hz HR
        go_wp2
        go_ret
        exact ⟨rfl, HB.out⟩
    · obtain rfl : j = nk := by omega
      have i1 : ¬ ((j : Int) < (j : Int)) := by omega
      obtain ⟨W2, hW2⟩ : ∃ W, W = wr := ⟨_, rfl⟩
      subst hW2
      go_wp2
      go_loopw [4] (fun v wr => ∃ u : Nat, u ≤ nu ∧ v = .int .i64 u ∧ wr = W2 ∧ Hid (∀ q, q < u → x.ws.getD q 0 = 0)) (fun v _ => nu - (intOf v).toNat)
      case atStart => exact ⟨0, Nat.zero_le _, rfl, rfl, Lib.hid (fun q hq => absurd hq (Nat.not_lt_zero _))⟩
      case round =>
        obtain ⟨u, hu, rfl, rfl, HA2⟩ := hrel
        by_cases hltu : u < nu
        · obtain ⟨pk, ok, rfl, hpk, hck⟩ := HU.out.resolve_left (by omega)
          have v1 := cell_later HB.out (hck u hltu)
          simp only [wdV] at v1
          obtain ⟨k, hkv⟩ : ∃ k, x.ws.getD u 0 = k := ⟨_, rfl⟩
          rw [hkv] at v1
          have HKV := Lib.hid hkv
          have j0 : (0 : Int) ≤ (u : Int) := by omega
          have j1 : (u : Int) < (nu : Int) := by omega
          have hwj : IntKind.i64.wrap ((u : Int) + 1) = (u : Int) + 1 := IntWalk.i64_in _ (by omega)
          clear hck hkv
          by_cases hz : k = 0
          · have d1 : ((k : Int) != 0) = false := by simp; omega
            have HZ := Lib.hid hz
            clear hz
            go_wp2
            go_roundw
            case rel => exact ⟨u + 1, by omega, by go_num, by first | rfl | trivial, Lib.hid (fun q hq => by
              by_cases e : q = u
              · rw [e, HKV.out]; exact HZ.out
              · exact HA2.out q (by omega))⟩
            case measure => simp [intOf]; omega
          · have d1 : ((k : Int) != 0) = true := by simp; omega
            have hRf : R = false := by rw [HR.out, all_no (l := x.ws) (d := 0) (j := u) (by rw [HNU.out]; exact hltu) (by rw [HKV.out]; simpa using hz), Bool.and_false]
            subst hRf
            clear hz HR
            go_wp2
            go_ret
            exact ⟨rfl, HB.out⟩
        · obtain rfl : u = nu := by omega
          have i2 : ¬ ((u : Int) < (u : Int)) := by omega
          have hRt : R = true := by
            rw [HR.out, Bool.and_eq_true, List.all_eq_true, List.all_eq_true]
            constructor
            · intro k hk
              obtain ⟨q, hq, rfl⟩ := List.getElem_of_mem hk
              have := HA.out q (by rw [← HNK.out]; exact hq)
              simpa [List.getD, hq] using this
            · intro k hk
              obtain ⟨q, hq, rfl⟩ := List.getElem_of_mem hk
              have := HA2.out q (by rw [← HNU.out]; exact hq)
              simpa [List.getD, hq] using this
          subst hRt
          go_wp2
          go_ret
          exact ⟨rfl, HB.out⟩
end Go.Proofs.YtfmclbacoffdaaaDoor

namespace Go.Proofs.YtfmclbacoffdaaaDoor
open Go.RowKit Go.Sort Go.Joins
attribute [local go_sem] cell_grow frozen_grow size_grow Oper.semAt_some
theorem cntI_snoc (l : List Int) (k i : Int) : (l ++ [k]).countP (fun q => q == i) = l.countP (fun q => q == i) + if k = i then 1 else 0 := by
  rw [List.countP_append, List.countP_singleton]
  by_cases c : k = i
  · rw [if_pos c, if_pos (by simpa using c)]
  · rw [if_neg c, if_neg (by simpa using c)]
section
variable {w : World} {a : Option Addr} {c : Nat} {S : List Rn}
set_option maxRecDepth 100000 in
set_option maxHeartbeats 3200000 in
theorem parents_ok (m : Int) (hS : StR w a S) (hl : S.length ≤ 10000) (hk : ∀ j, (S.getD j rn0).ks.length ≤ 1000) {i : Nat} (hi : i < S.length) :
    Calls Tryd.prog 65 #[.agg #[.int .i64 m, .slice a S.length c], .int .i64 i] w fun e w' => e = .returned (.int .i64 (parN S i S)) ∧ Below w.heap.size w w' := by
  obtain ⟨b, o, rfl, hb, hc⟩ : ∃ b o, a = some ⟨b, o, none⟩ ∧ b < w.heap.size ∧ ∀ j, j < S.length → NdR w b (o + j * 3) (S.getD j rn0) := hS.resolve_left (by omega)
  obtain ⟨hB, hX⟩ := ndBox w #[.int .i64 m, .slice (some ⟨b, o, none⟩) S.length c] 45
  have HC := Lib.hid hc
  have HK := Lib.hid hk
  have hm : lvm (S.getD i rn0) = IntKind.i64.wrap ((S.getD i rn0).lv - 1) := rfl
  have ci := (hc i hi).lv
  have HTB : Hid (∀ l, (∀ x ∈ l, x ∈ S) → parN S i l ≤ l.length * 1000) := Lib.hid (fun l hl => parN_le (c := 1000) (fun x hx => by
    obtain ⟨q, hq, rfl⟩ := List.getElem_of_mem (hl x hx)
    have := hk q
    simpa [List.getD, hq] using this))
  have HPS : Hid (∀ x, parK S i x x.ks = if x.lv = lvm (S.getD i rn0) ∧ 0 ≤ x.lv then x.ks.countP (fun k => k == (i : Int)) else 0) := Lib.hid (fun x => rfl)
  obtain ⟨Lm, hLm⟩ : ∃ l, lvm (S.getD i rn0) = l := ⟨_, rfl⟩
  rw [hLm] at hm HPS
  obtain ⟨li, hli⟩ : ∃ l, (S.getD i rn0).lv = l := ⟨_, rfl⟩
  rw [hli] at hm ci
  obtain ⟨N, hN⟩ : ∃ N, S.length = N := ⟨_, rfl⟩
  have HN := Lib.hid hN
  rw [hN] at hB hX hl hi HC ⊢
  have HB := Lib.hid hB
  have HX := Lib.hid hX
  have hLi : IntKind.i64.wrap (li - 1) = Lm := hm.symm
  have i0 : (0 : Int) ≤ (i : Int) := by omega
  have i1 : (i : Int) < (N : Int) := by omega
  clear hS hc hk hm hLm hli hN hB hX
  go_enter Tryd.func65, Tryd.ntmps65
  go_upto_region 3 with fail
  generalize World.alloc _ _ = W1 at HB HX ⊢
  go_loopw [5, 6] (fun t v wr => ∃ j : Nat, j ≤ N ∧ v = .int .i64 j ∧ t = .int .i64 (parN S i (S.take j)) ∧ Hid (Below W1.heap.size W1 wr)) (fun _ v _ => N - (intOf v).toNat)
  case atStart => exact ⟨0, Nat.zero_le _, rfl, rfl, Lib.hid (Below.refl _ _)⟩
  case round =>
    obtain ⟨j, hj, rfl, rfl, BR⟩ := hrel
    have BW := Lib.hid (below_tr HB.out BR.out)
    have hx := (BR.out.block _ (blk_lt HX.out)).trans HX.out
    have x1 : wr.cell? ⟨w.heap.size, 1, none⟩ = some (.slice (some ⟨b, o, none⟩) N c) := by rw [cell_of_block hx]; rfl
    by_cases hlt : j < N
    · have d := HC.out j hlt
      have hkx := HK.out j
      have HTS : Hid (S.take (j + 1) = S.take j ++ [S.getD j rn0]) := Lib.hid (take_step rn0 _ (by rw [HN.out]; exact hlt))
      have htb : parN S i (S.take j) ≤ 10000000 := by
        have := HTB.out (S.take j) (fun x hx => List.mem_of_mem_take hx)
        rw [List.length_take, HN.out] at this
        have : min j N * 1000 ≤ N * 1000 := Nat.mul_le_mul_right _ (Nat.min_le_right _ _)
        omega
      obtain ⟨x, hxx⟩ : ∃ x, S.getD j rn0 = x := ⟨_, rfl⟩
      rw [hxx] at d HTS hkx
      obtain ⟨tc, htc⟩ : ∃ t, parN S i (S.take j) = t := ⟨_, rfl⟩
      have HST : Hid (parN S i (S.take (j + 1)) = tc + if x.lv = Lm ∧ 0 ≤ x.lv then x.ks.countP (fun k => k == (i : Int)) else 0) := Lib.hid (by rw [HTS.out, parN_snoc, HPS.out, htc])
      rw [htc] at htb ⊢
      have e0 := cell_later BW.out d.lv
      have ei := cell_later BW.out ci
      obtain ⟨ka, kc, e1w, r1⟩ := d.ks
      have e1 := cell_later BW.out e1w
      have R1 := Lib.hid r1
      obtain ⟨nk, hnk⟩ : ∃ n, x.ks.length = n := ⟨_, rfl⟩
      rw [hnk] at e1 R1 hkx
      have HNK := Lib.hid hnk
      have j0 : (0 : Int) ≤ (j : Int) := by omega
      have j1 : (j : Int) < (N : Int) := by omega
      have hwj : IntKind.i64.wrap ((j : Int) + 1) = (j : Int) + 1 := IntWalk.i64_in _ (by omega)
      have BD : Hid (∀ q, Below W1.heap.size W1 (wr.drewN q)) := Lib.hid (fun q => below_tr BR.out (below_draw _ _))
      have CD : Hid (∀ q p u, wr.cell? p = some u → (wr.drewN q).cell? p = some u) := Lib.hid (fun q p u h => cell_later (below_draw _ _) h)
      obtain ⟨lj, hlj⟩ : ∃ l, x.lv = l := ⟨_, rfl⟩
      rw [hlj] at e0 HST
      clear hxx htc d e1w r1 hnk hlj hx
      by_cases c1 : lj = Lm
      · by_cases c2 : 0 ≤ lj
        · have d1 : (lj != Lm) = false := by simpa using c1
          have d2 : decide (lj < 0) = false := decide_eq_false (by omega)
          have HSS : Hid (parN S i (S.take (j + 1)) = tc + x.ks.countP (fun k => k == (i : Int))) := Lib.hid (by rw [HST.out, if_pos ⟨c1, c2⟩])
          clear c1 c2 HST
          go_upto_region 5 with fail
          go_quiet (fail)
          obtain ⟨W2, hW2⟩ : ∃ W, wr.drewN nq = W := ⟨_, rfl⟩
          have B2 := Lib.hid (BD.out nq)
          have x1 := CD.out nq _ _ x1
          have e1 := CD.out nq _ _ e1
          rw [hW2] at B2 x1 e1 ⊢
          have BW2 := Lib.hid (below_tr HB.out B2.out)
          clear hW2 e0 ei
          go_wp2
          go_loopw [5, 7] (fun t v wr' => ∃ k : Nat, k ≤ nk ∧ v = .int .i64 k ∧ t = .int .i64 ((tc + (x.ks.take k).countP (fun q => q == (i : Int)) : Nat) : Int) ∧ wr' = W2) (fun _ v _ => nk - (intOf v).toNat)
          case atStart => exact ⟨0, Nat.zero_le _, rfl, rfl, rfl⟩
          case round =>
            obtain ⟨k, hk, rfl, rfl, rfl⟩ := hrel
            by_cases hltk : k < nk
            · obtain ⟨pk, ok, rfl, hpk, hck⟩ := R1.out.resolve_left (by omega)
              have v1 := cell_later BW2.out (hck k hltk)
              simp only [kdV] at v1
              have HTK : Hid ((x.ks.take (k + 1)).countP (fun q => q == (i : Int)) = (x.ks.take k).countP (fun q => q == (i : Int)) + if x.ks.getD k 0 = (i : Int) then 1 else 0) := Lib.hid (by rw [take_step 0 _ (by rw [HNK.out]; exact hltk), cntI_snoc])
              have hle : (x.ks.take k).countP (fun q => q == (i : Int)) ≤ 1000 := by
                have h1 : (x.ks.take k).countP (fun q => q == (i : Int)) ≤ (x.ks.take k).length := List.countP_le_length
                rw [List.length_take] at h1
                omega
              obtain ⟨y, hy⟩ : ∃ y, x.ks.getD k 0 = y := ⟨_, rfl⟩
              obtain ⟨z, hz⟩ : ∃ z, (x.ks.take k).countP (fun q => q == (i : Int)) = z := ⟨_, rfl⟩
              rw [hy] at v1 HTK
              rw [hz] at HTK hle ⊢
              have k0 : (0 : Int) ≤ (k : Int) := by omega
              have k1 : (k : Int) < (nk : Int) := by omega
              have hwk : IntKind.i64.wrap ((k : Int) + 1) = (k : Int) + 1 := IntWalk.i64_in _ (by omega)
              have hwz : IntKind.i64.wrap (((tc + z : Nat) : Int) + 1) = ((tc + z : Nat) : Int) + 1 := IntWalk.i64_in _ (by omega)
              clear hck hy hz
              by_cases hyi : y = (i : Int)
              · have d3 : (y == (i : Int)) = true := by simpa using hyi
                have HNX : Hid ((x.ks.take (k + 1)).countP (fun q => q == (i : Int)) = z + 1) := Lib.hid (by rw [HTK.out, if_pos hyi])
                clear hyi
                go_wp2
                go_roundw
                case rel => exact ⟨k + 1, by omega, by go_num, by rw [HNX.out]; go_num, by first | rfl | trivial⟩
                case measure => simp [intOf]; omega
              · have d3 : (y == (i : Int)) = false := by simpa using hyi
                have HNX : Hid ((x.ks.take (k + 1)).countP (fun q => q == (i : Int)) = z) := Lib.hid (by rw [HTK.out, if_neg hyi]; rfl)
                clear hyi
                go_wp2
                go_roundw
                case rel => exact ⟨k + 1, by omega, by go_num, by rw [HNX.out], by first | rfl | trivial⟩
                case measure => simp [intOf]; omega
            · obtain rfl : k = nk := by omega
              have k1 : ¬ ((k : Int) < (k : Int)) := by omega
              have HFN : Hid (tc + (x.ks.take k).countP (fun q => q == (i : Int)) = parN S i (S.take (j + 1))) := Lib.hid (by rw [HSS.out, List.take_of_length_le (by rw [HNK.out]; exact Nat.le_refl _)])
              rw [HFN.out]
              go_wp2
              go_roundw
              case rel => exact ⟨j + 1, by omega, by go_num, rfl, B2⟩
              case measure => simp [intOf]; omega
        · have d1 : (lj != Lm) = false := by simpa using c1
          have d2 : decide (lj < 0) = true := decide_eq_true (by omega)
          have HSS : Hid (parN S i (S.take (j + 1)) = tc) := Lib.hid (by rw [HST.out, if_neg (fun h => c2 h.2)]; rfl)
          clear c1 c2 HST
          go_upto_region 5 with fail
          go_quiet (fail)
          go_wp2
          go_roundw
          case rel => exact ⟨j + 1, by omega, by go_num, by rw [HSS.out], Lib.hid (BD.out _)⟩
          case measure => simp [intOf]; omega
      · have d1 : (lj != Lm) = true := by simpa using c1
        have HSS : Hid (parN S i (S.take (j + 1)) = tc) := Lib.hid (by rw [HST.out, if_neg (fun h => c1 h.1)]; rfl)
        clear c1 HST
        go_upto_region 5 with fail
        go_quiet (fail)
        go_wp2
        go_roundw
        case rel => exact ⟨j + 1, by omega, by go_num, by rw [HSS.out], Lib.hid (BD.out _)⟩
        case measure => simp [intOf]; omega
    · obtain rfl : j = N := by omega
      have hli2 : ¬ ((j : Int) < (j : Int)) := by omega
      have HFN : Hid (S.take j = S) := Lib.hid (List.take_of_length_le (by rw [HN.out]; exact Nat.le_refl _))
      rw [HFN.out]
      go_wp2
      go_ret
      exact ⟨rfl, BW.out⟩
end
end Go.Proofs.YtfmclbacoffdaaaDoor

namespace Go.Proofs.YtfmclbacoffdaaaDoor
open Go.RowKit Go.Sort Go.Joins
attribute [local go_sem] cell_grow frozen_grow size_grow Oper.semAt_some
theorem rl_ways (x : Rn) (i : Nat) :
    (Hid (rlB x i = true) ∧ ((i : Int) == 0) = true ∧ (x.lv != 0) = true) ∨ (Hid (rlB x i = true) ∧ ((i : Int) == 0) = false ∧ decide (0 < (i : Int)) = true ∧ decide (0 < i) = true ∧ (x.lv != -1) = true ∧ (x.lv != 1) = true ∧ (x.lv != 2) = true) ∨
    (Hid (rlB x i = false) ∧ ((i : Int) == 0) = true ∧ (x.lv != 0) = false ∧ decide (0 < (i : Int)) = false ∧ decide (0 < i) = false) ∨
    (Hid (rlB x i = false) ∧ ((i : Int) == 0) = false ∧ decide (0 < (i : Int)) = true ∧ decide (0 < i) = true ∧ (x.lv != -1) = false) ∨
    (Hid (rlB x i = false) ∧ ((i : Int) == 0) = false ∧ decide (0 < (i : Int)) = true ∧ decide (0 < i) = true ∧ (x.lv != -1) = true ∧ (x.lv != 1) = false) ∨
    (Hid (rlB x i = false) ∧ ((i : Int) == 0) = false ∧ decide (0 < (i : Int)) = true ∧ decide (0 < i) = true ∧ (x.lv != -1) = true ∧ (x.lv != 1) = true ∧ (x.lv != 2) = false) := by
  unfold rlB Hid
  have e : decide (0 < i) = decide (0 < (i : Int)) := by
    by_cases c : 0 < i
    · rw [decide_eq_true c, decide_eq_true (by omega)]
    · rw [decide_eq_false c, decide_eq_false (by omega)]
  have e2 : ((i : Int) == 0) = !decide (0 < (i : Int)) := by
    by_cases c : 0 < i
    · rw [decide_eq_true (show (0 : Int) < (i : Int) by omega)]; simp; omega
    · rw [decide_eq_false (show ¬ (0 : Int) < (i : Int) by omega)]; simp; omega
  rw [e, e2]
  generalize decide (0 < (i : Int)) = a
  generalize (x.lv != 0) = b
  generalize (x.lv != -1) = c
  generalize (x.lv != 1) = d
  generalize (x.lv != 2) = f
  cases a <;> cases b <;> cases c <;> cases d <;> cases f <;> simp
section
variable {w : World} {a : Option Addr} {c : Nat} {S : List Rn}
set_option maxRecDepth 100000 in
set_option maxHeartbeats 12800000 in
theorem rwrong_ok (m : Int) (hS : StR w a S) (hl : S.length ≤ 10000) (hk : ∀ j, (S.getD j rn0).ks.length ≤ 1000) (hu : ∀ j, (S.getD j rn0).ws.length ≤ 1000) (hw : ∀ i j, (S.getD i rn0).ws.getD j 0 < 18446744073709551616) {i : Nat} (hi : i < S.length) :
    Calls Tryd.prog 53 #[.agg #[.int .i64 m, .slice a S.length c], .int .i64 i] w fun e w' => e = .returned (.bool (rwr S i)) ∧ Below w.heap.size w w' := by
  obtain ⟨b, o, rfl, hb, hc⟩ : ∃ b o, a = some ⟨b, o, none⟩ ∧ b < w.heap.size ∧ ∀ j, j < S.length → NdR w b (o + j * 3) (S.getD j rn0) := hS.resolve_left (by omega)
  obtain ⟨hB, hX⟩ := ndBox w #[.int .i64 m, .slice (some ⟨b, o, none⟩) S.length c] 45
  have HC := Lib.hid (fun j hj => (hc j hj).lv)
  have d := hc i hi
  have HPA := Lib.hid (fun W hb => parents_ok (c := c) m (hS.below (w' := W) hb) hl hk hi)
  have HR0 : Hid (rwr S i = ((rlB (S.getD i rn0) i || !szd (S.getD i rn0)) || (S.getD i rn0).ks.any (badK S (S.getD i rn0)) || (S.getD i rn0).ws.any badW || (decide (0 < (S.getD i rn0).lv) && (emN (S.getD i rn0) || (((parN S i S : Nat) : Int) != 1))))) := Lib.hid rfl
  have hways := rl_ways (S.getD i rn0) i
  have hbk := badK_ways S (S.getD i rn0)
  have hkx := hk i
  have hux := hu i
  have hwx := hw i
  obtain ⟨x, hxx⟩ : ∃ x, S.getD i rn0 = x := ⟨_, rfl⟩
  rw [hxx] at d hways HR0 hkx hux hwx hbk
  obtain ⟨pn, hpn⟩ : ∃ p, parN S i S = p := ⟨_, rfl⟩
  rw [hpn] at HR0 HPA
  obtain ⟨R, hR⟩ : ∃ R, rwr S i = R := ⟨_, rfl⟩
  rw [hR] at HR0 ⊢
  have HBK := Lib.hid hbk
  have HW := Lib.hid hwx
  have e0w := d.lv
  obtain ⟨ka, kc, e1w, r1⟩ := d.ks
  obtain ⟨ua, uc, e2w, r2⟩ := d.ws
  have HEM := Lib.hid (fun W (hb : Below w.heap.size w W) => empty_ok (kc := kc) (uc := uc) (r1.below hb) (r2.below hb) (by omega) (by omega))
  have HSD := Lib.hid (sized_ok x ka ua kc uc)
  have R1 := Lib.hid r1
  have R2 := Lib.hid r2
  have i0 : (0 : Int) ≤ (i : Int) := by omega
  have i1 : (i : Int) < (S.length : Int) := by omega
  obtain ⟨N, hN⟩ : ∃ N, S.length = N := ⟨_, rfl⟩
  rw [hN] at i1 hl HC HBK HPA hB hX ⊢
  have HN := Lib.hid hN
  obtain ⟨nk, hnk⟩ : ∃ n, x.ks.length = n := ⟨_, rfl⟩
  obtain ⟨nu, hnu⟩ : ∃ n, x.ws.length = n := ⟨_, rfl⟩
  rw [hnk] at e1w R1 hkx HEM HSD
  rw [hnu] at e2w R2 hux HEM HSD
  have HNK := Lib.hid hnk
  have HNU := Lib.hid hnu
  have HB := Lib.hid hB
  have HX := Lib.hid hX
  have e0 := cell_later hB e0w
  have e1 := cell_later hB e1w
  have e2 := cell_later hB e2w
  have lbw : b < (w.alloc (.cells #[.int .i64 m, .slice (some ⟨b, o, none⟩) N c] 45)).heap.size := by simp; omega
  clear hR hxx hN d hc hS hX r1 r2 hi hw hbk hwx hpn hk hu hnk hnu hB e0w e1w e2w
  go_enter Tryd.func53, Tryd.ntmps53
  go_upto_region 1 with fail
  have hsz : (w.alloc (.cells #[.int .i64 m, .slice (some ⟨b, o, none⟩) N c] 45)).heap.size = w.heap.size + 1 := by simp
  generalize World.alloc _ _ = W0 at HB HX e0 e1 e2 lbw hsz ⊢
  have p1 : W0.cell? ⟨w.heap.size, 1, none⟩ = some (.slice (some ⟨b, o, none⟩) N c) := by rw [cell_of_block HX.out]; rfl
  go_upto_region 2 with fail
  obtain ⟨b3, x3⟩ := ndBox W0 #[.int .i64 x.lv, .slice ka nk kc, .slice ua nu uc] 60
  have HB1 := Lib.hid (below_tr HB.out b3)
  have HX1 := Lib.hid ((b3.block _ (blk_lt HX.out)).trans HX.out)
  have HN1 := Lib.hid x3
  clear b3 x3
  rw [hsz] at HN1
  generalize World.alloc _ _ = W1 at HB1 HX1 HN1 ⊢
  clear HB HX e0 e1 e2 lbw p1 hsz
  have p0 : W1.cell? ⟨w.heap.size, 0, none⟩ = some (.int .i64 m) := by rw [cell_of_block HX1.out]; rfl
  have p1 : W1.cell? ⟨w.heap.size, 1, none⟩ = some (.slice (some ⟨b, o, none⟩) N c) := by rw [cell_of_block HX1.out]; rfl
  have q0 : W1.cell? ⟨w.heap.size + 1, 0, none⟩ = some (.int .i64 x.lv) := by rw [cell_of_block HN1.out]; rfl
  have q1 : W1.cell? ⟨w.heap.size + 1, 1, none⟩ = some (.slice ka nk kc) := by rw [cell_of_block HN1.out]; rfl
  have q2 : W1.cell? ⟨w.heap.size + 1, 2, none⟩ = some (.slice ua nu uc) := by rw [cell_of_block HN1.out]; rfl
  rcases hways with ⟨HZ, d1, d2⟩ | ⟨HZ, d1, d2, d3, d4, d5, d6⟩ | ⟨HZ, d1, d2, d3, d4⟩ | ⟨HZ, d1, d2, d3, d4⟩ | ⟨HZ, d1, d2, d3, d4, d5⟩ | ⟨HZ, d1, d2, d3, d4, d5, d6⟩
  case' inl =>
    have hRt : R = true := by rw [HR0.out, HZ.out]; rfl
    subst hRt
    clear HR0
    go_wp2
    go_ret
    exact ⟨rfl, HB1.out⟩
  case' inr.inl =>
    have hRt : R = true := by rw [HR0.out, HZ.out]; rfl
    subst hRt
    clear HR0
    go_wp2
    go_ret
    exact ⟨rfl, HB1.out⟩
  all_goals
    go_wp2_with fail
    refine (HSD.out _).mono ?_
    rintro e w2 ⟨rfl, b2⟩
    have B2 := Lib.hid (below_tr HB1.out b2)
    have p0 := cell_later b2 p0
    have p1 := cell_later b2 p1
    have q0 := cell_later b2 q0
    have q1 := cell_later b2 q1
    have q2 := cell_later b2 q2
    obtain ⟨sd, hsd⟩ : ∃ s, szd x = s := ⟨_, rfl⟩
    rw [hsd] at HR0 ⊢
    clear hsd b2 HSD
    cases sd
    case false =>
      have hRt : R = true := by rw [HR0.out, HZ.out]; rfl
      subst hRt
      clear HR0
      go_wp2
      go_ret
      exact ⟨rfl, B2.out⟩
    case true =>
    have HZZ : Hid ((rlB x i || !true) = false) := Lib.hid (by rw [HZ.out]; rfl)
    rw [HZZ.out] at HR0
    clear HZ HZZ HX1 HN1 HB1
    first | clear d6 | skip
    first | clear d5 | skip
    first | clear d4 | skip
    first | clear d3 | skip
    clear d1 d2
    go_wp2
    go_loopw [6] (fun v wr => ∃ j : Nat, j ≤ nk ∧ v = .int .i64 j ∧ Hid (Below w2.heap.size w2 wr) ∧ Hid ((x.ks.take j).any (badK S x) = false)) (fun v _ => nk - (intOf v).toNat)
    case atStart => exact ⟨0, Nat.zero_le _, rfl, Lib.hid (Below.refl _ _), Lib.hid rfl⟩
    case round =>
      obtain ⟨j, hj, rfl, HBr, HBad⟩ := hrel
      have p0 := cell_later HBr.out p0
      have p1 := cell_later HBr.out p1
      have q0 := cell_later HBr.out q0
      have q1 := cell_later HBr.out q1
      have q2 := cell_later HBr.out q2
      have BW := Lib.hid (below_tr B2.out HBr.out)
      by_cases hlt : j < nk
      · obtain ⟨pk, ok, rfl, hpk, hck⟩ := R1.out.resolve_left (by omega)
        have v1 := cell_later BW.out (hck j hlt)
        simp only [kdV] at v1
        have HTS : Hid (x.ks.take (j + 1) = x.ks.take j ++ [x.ks.getD j 0]) := Lib.hid (take_step 0 _ (by rw [HNK.out]; exact hlt))
        have HBJ : Hid (badK S x (x.ks.getD j 0) = true → R = true) := Lib.hid (fun h => by
          rw [HR0.out, any_of_getD (d := 0) (j := j) (by rw [HNK.out]; exact hlt) h]
          simp)
        obtain ⟨k, hkv⟩ : ∃ k, x.ks.getD j 0 = k := ⟨_, rfl⟩
        rw [hkv] at v1 HTS HBJ
        have hbk := HBK.out k
        have j0 : (0 : Int) ≤ (j : Int) := by omega
        have j1 : (j : Int) < (nk : Int) := by omega
        have hwj : IntKind.i64.wrap ((j : Int) + 1) = (j : Int) + 1 := IntWalk.i64_in _ (by omega)
        have HGO : Hid (badK S x k = false → (x.ks.take (j + 1)).any (badK S x) = false) := Lib.hid (fun h => by rw [HTS.out, List.any_append, HBad.out]; simp [h])
        have BDW : Hid (∀ q, Below w.heap.size w (wr.drewN q)) := Lib.hid (fun q => below_tr BW.out (below_draw _ _))
        have BDR : Hid (∀ q, Below w2.heap.size w2 (wr.drewN q)) := Lib.hid (fun q => below_tr HBr.out (below_draw _ _))
        clear hck hkv HBad HTS
        rcases hbk with ⟨HK, d1⟩ | ⟨HK, d1, d2⟩ | ⟨HK, d1, d2, d3⟩ | ⟨HK, d1, d2, d3, d4⟩ | ⟨HK, d1, d2, d3, d4⟩
        · have hRt := HBJ.out HK.out
          subst hRt
          clear HR0 HBJ
          go_upto_region 8 with fail
          go_quiet (fail)
          go_wp2
          go_ret
          exact ⟨rfl, BDW.out _⟩
        · have hRt := HBJ.out HK.out
          subst hRt
          clear HR0 HBJ
          go_upto_region 8 with fail
          go_quiet (fail)
          go_wp2
          go_ret
          exact ⟨rfl, BDW.out _⟩
        · have HNX := Lib.hid (HGO.out HK.out)
          clear HGO HBJ
          go_upto_region 8 with fail
          go_quiet (fail)
          go_wp2
          go_roundw
          case rel => exact ⟨j + 1, by omega, by go_num, Lib.hid (BDR.out _), HNX⟩
          case measure => simp [intOf]; omega
        · have hRt := HBJ.out HK.out
          have h1 := of_decide_eq_false d1
          have h2 := of_decide_eq_false d2
          obtain ⟨k', rfl⟩ := Int.eq_ofNat_of_zero_le (show 0 ≤ k by omega)
          have v2 := cell_later BW.out (HC.out k' (by omega))
          have hlvA : lvA S (k' : Int) = (S.getD k' rn0).lv := rfl
          rw [hlvA] at d4
          unfold lv1 at d4
          obtain ⟨lk, hlk⟩ : ∃ l, (S.getD k' rn0).lv = l := ⟨_, rfl⟩
          rw [hlk] at d4 v2 hlvA
          obtain ⟨L1, hL1⟩ : ∃ l, IntKind.i64.wrap (x.lv + 1) = l := ⟨_, rfl⟩
          rw [hL1] at d4
          have k0 : (0 : Int) ≤ (k' : Int) := by omega
          have k1 : (k' : Int) < (N : Int) := by omega
          have d2' : decide (N ≤ k') = false := decide_eq_false (by omega)
          have d3' : decide (0 < k') = true := decide_eq_true (by have := of_decide_eq_true d3; omega)
          subst hRt
          clear HR0 HBJ h1 h2 hlvA hlk
          go_upto_region 8 with fail
          go_quiet (fail)
          go_wp2
          go_ret
          exact ⟨rfl, BDW.out _⟩
        · have h1 := of_decide_eq_false d1
          have h2 := of_decide_eq_false d2
          obtain ⟨k', rfl⟩ := Int.eq_ofNat_of_zero_le (show 0 ≤ k by omega)
          have v2 := cell_later BW.out (HC.out k' (by omega))
          have hlvA : lvA S (k' : Int) = (S.getD k' rn0).lv := rfl
          rw [hlvA] at d4
          unfold lv1 at d4
          obtain ⟨lk, hlk⟩ : ∃ l, (S.getD k' rn0).lv = l := ⟨_, rfl⟩
          rw [hlk] at d4 v2 hlvA
          obtain ⟨L1, hL1⟩ : ∃ l, IntKind.i64.wrap (x.lv + 1) = l := ⟨_, rfl⟩
          rw [hL1] at d4
          have k0 : (0 : Int) ≤ (k' : Int) := by omega
          have k1 : (k' : Int) < (N : Int) := by omega
          have d2' : decide (N ≤ k') = false := decide_eq_false (by omega)
          have d3' : decide (0 < k') = true := decide_eq_true (by have := of_decide_eq_true d3; omega)
          have HNX := Lib.hid (HGO.out HK.out)
          clear HGO HBJ h1 h2 hlvA hlk
          go_upto_region 8 with fail
          go_quiet (fail)
          go_wp2
          go_roundw
          case rel => exact ⟨j + 1, by omega, by go_num, Lib.hid (BDR.out _), HNX⟩
          case measure => simp [intOf]; omega
      · obtain rfl : j = nk := by omega
        have i2 : ¬ ((j : Int) < (j : Int)) := by omega
        obtain ⟨Wm, hWm⟩ : ∃ W, W = wr := ⟨_, rfl⟩
        subst hWm
        go_wp2
        go_loopw [8] (fun v wr => ∃ u : Nat, u ≤ nu ∧ v = .int .i64 u ∧ Hid (Below Wm.heap.size Wm wr) ∧ Hid ((x.ws.take u).any badW = false)) (fun v _ => nu - (intOf v).toNat)
        case atStart => exact ⟨0, Nat.zero_le _, rfl, Lib.hid (Below.refl _ _), Lib.hid rfl⟩
        case round =>
          obtain ⟨u, hu', rfl, HBu, HBadu⟩ := hrel
          have p0 := cell_later HBu.out p0
          have p1 := cell_later HBu.out p1
          have q0 := cell_later HBu.out q0
          have q1 := cell_later HBu.out q1
          have q2 := cell_later HBu.out q2
          have BU := Lib.hid (below_tr BW.out HBu.out)
          by_cases hltu : u < nu
          · obtain ⟨pk, ok, rfl, hpk, hck⟩ := R2.out.resolve_left (by omega)
            have v1w := hck u hltu
            have v1 := cell_later BU.out v1w
            simp only [wdV] at v1
            have HTS : Hid (x.ws.take (u + 1) = x.ws.take u ++ [x.ws.getD u 0]) := Lib.hid (take_step 0 _ (by rw [HNU.out]; exact hltu))
            have HBJ : Hid (badW (x.ws.getD u 0) = true → R = true) := Lib.hid (fun h => by
              rw [HR0.out, any_of_getD (d := 0) (j := u) (by rw [HNU.out]; exact hltu) h]
              simp)
            have hwu := HW.out u
            obtain ⟨y, hy⟩ : ∃ y, x.ws.getD u 0 = y := ⟨_, rfl⟩
            rw [hy] at v1 HTS HBJ hwu
            have j0 : (0 : Int) ≤ (u : Int) := by omega
            have j1 : (u : Int) < (nu : Int) := by omega
            have hwj : IntKind.i64.wrap ((u : Int) + 1) = (u : Int) + 1 := IntWalk.i64_in _ (by omega)
            have HUN := Lib.hid (runpack_ok (y : Int) (by omega) (by omega))
            obtain ⟨vo, vs, vt, vg, hv⟩ := un_ds (y : Int)
            rw [hv] at HUN
            have HGO : Hid (badW y = false → (x.ws.take (u + 1)).any badW = false) := Lib.hid (fun h => by rw [HTS.out, List.any_append, HBadu.out]; simp [h])
            have HBW : Hid (badW y = (((y : Int) != 0) && (unE (y : Int) != 0))) := Lib.hid (by
              unfold badW
              by_cases c : y = 0
              · subst c; rfl
              · have d : ((y : Int) != 0) = true := by simp; omega
                rw [d]; simp [c])
            obtain ⟨ue, hue⟩ : ∃ e, unE (y : Int) = e := ⟨_, rfl⟩
            rw [hue] at HUN HBW
            clear hck hy hv hue v1w HBadu HTS
            go_wp2_with fail
            refine (HUN.out _).mono ?_
            rintro e w3 ⟨rfl, b3⟩
            have b4 := below_box0 w3 (.cells #[.int .i64 vo, .int .i64 vs, .int .i64 vt, .bool vg] 23)
            have v1 := cell_later b3 v1
            have q2 := cell_later b3 q2
            have l3 : pk < w3.heap.size := World.block_lt_of_cell? _ _ v1
            have l4 : w.heap.size + 1 < w3.heap.size := World.block_lt_of_cell? _ _ q2
            have B4 := Lib.hid (below_tr HBu.out (below_tr b3 b4))
            have B4' := Lib.hid (below_tr BU.out (below_tr b3 b4))
            clear b3 b4 HUN
            obtain ⟨A, hA⟩ : ∃ z, ((y : Int) != 0) = z := ⟨_, rfl⟩
            obtain ⟨D, hD⟩ : ∃ z, (ue != 0) = z := ⟨_, rfl⟩
            rw [hA, hD] at HBW
            cases A
            · have HNX := Lib.hid (HGO.out HBW.out)
              clear HGO HBJ HBW
              go_wp2
              go_roundw
              case rel => exact ⟨u + 1, by omega, by go_num, B4, HNX⟩
              case measure => simp [intOf]; omega
            · cases D
              · have HNX := Lib.hid (HGO.out HBW.out)
                clear HGO HBJ HBW
                go_wp2
                go_roundw
                case rel => exact ⟨u + 1, by omega, by go_num, B4, HNX⟩
                case measure => simp [intOf]; omega
              · have hRt := HBJ.out HBW.out
                subst hRt
                clear HGO HBJ HBW HR0
                go_wp2
                go_ret
                exact ⟨rfl, B4'.out⟩
          · obtain rfl : u = nu := by omega
            have i3 : ¬ ((u : Int) < (u : Int)) := by omega
            have HRE : Hid (R = (decide (0 < x.lv) && (emN x || ((pn : Int) != 1)))) := Lib.hid (by
              have a1 : x.ks.any (badK S x) = false := by have := HBad.out; rwa [List.take_of_length_le (by rw [HNK.out]; exact Nat.le_refl _)] at this
              have a2 : x.ws.any badW = false := by have := HBadu.out; rwa [List.take_of_length_le (by rw [HNU.out]; exact Nat.le_refl _)] at this
              rw [HR0.out, a1, a2]
              rfl)
            have HEW := Lib.hid (HEM.out _ BU.out)
            obtain ⟨em, hem⟩ : ∃ q, emN x = q := ⟨_, rfl⟩
            rw [hem] at HRE HEW
            obtain ⟨A, hA⟩ : ∃ b, decide (0 < x.lv) = b := ⟨_, rfl⟩
            obtain ⟨D, hD⟩ : ∃ b, ((pn : Int) != 1) = b := ⟨_, rfl⟩
            rw [hA, hD] at HRE
            have HRE' := HRE.out
            subst HRE'
            clear HR0 hem HRE HBad HBadu HEM
            cases A
            · go_wp2
              go_ret
              exact ⟨rfl, BU.out⟩
            · go_wp2_with fail
              refine HEW.out.mono ?_
              rintro e w4 ⟨rfl, b4⟩
              have p0 := cell_later b4 p0
              have p1 := cell_later b4 p1
              have B4 := Lib.hid (below_tr BU.out b4)
              clear b4
              cases em
              · go_wp2_with fail
                refine (HPA.out _ B4.out).mono ?_
                rintro e w5 ⟨rfl, b5⟩
                have B5 := Lib.hid (below_tr B4.out b5)
                clear b5
                cases D
                all_goals
                  go_wp2
                  go_ret
                  exact ⟨rfl, B5.out⟩
              · go_wp2
                go_ret
                exact ⟨rfl, B4.out⟩
end
end Go.Proofs.YtfmclbacoffdaaaDoor

namespace Go.Proofs.YtfmclbacoffdaaaDoor
open Go.RowKit Go.Sort Go.Joins
attribute [local go_sem] cell_grow frozen_grow size_grow Oper.semAt_some
section
variable {w : World} {a : Option Addr} {c : Nat} {S : List Rn}
set_option maxRecDepth 100000 in
set_option maxHeartbeats 3200000 in
theorem rcheck_ok (m : Int) (hS : StR w a S) (hl : S.length ≤ 10000) (hk : ∀ j, (S.getD j rn0).ks.length ≤ 1000) (hu : ∀ j, (S.getD j rn0).ws.length ≤ 1000) (hw : ∀ i j, (S.getD i rn0).ws.getD j 0 < 18446744073709551616) :
    Calls Tryd.prog 29 #[.agg #[.int .i64 m, .slice a S.length c]] w fun e w' => e = .returned (.tuple #[.int .i64 (rckV m S), .int .i64 (rckE m S)]) ∧ Below w.heap.size w w' := by
  obtain ⟨hB, hX⟩ := ndBox w #[.int .i64 m, .slice a S.length c] 45
  have HBT := Lib.hid (btw_ok m 1 145)
  by_cases hm : m < 1 ∨ 145 < m
  · have e1 : rckE m S = 7 ∧ rckV m S = 0 := ⟨if_pos hm, if_pos hm⟩
    rw [e1.1, e1.2]
    have d1 : (decide (1 ≤ m) && decide (m ≤ 145)) = false := by
      rcases hm with h | h
      · rw [decide_eq_false (by omega)]; rfl
      · rw [decide_eq_false (show ¬ m ≤ 145 by omega), Bool.and_false]
    rw [d1] at HBT
    have HB := Lib.hid hB
    clear hm e1 d1 hX hB hS hk hu hw
    go_enter Tryd.func29, Tryd.ntmps29
    go_wp2_with fail
    refine (HBT.out _).mono ?_
    rintro e w1 ⟨rfl, rfl⟩
    go_wp2
    go_ret2
    exact ⟨rfl, HB.out⟩
  have d1 : (decide (1 ≤ m) && decide (m ≤ 145)) = true := by rw [decide_eq_true (show 1 ≤ m by omega), decide_eq_true (show m ≤ 145 by omega)]; rfl
  rw [d1] at HBT
  by_cases hm3 : (S.length : Int) = m
  case neg =>
    have e1 : rckE m S = 6 ∧ rckV m S = 0 := by
      unfold rckE rckV
      rw [if_neg hm, if_neg hm, if_pos hm3, if_pos hm3]; exact ⟨rfl, rfl⟩
    rw [e1.1, e1.2]
    have d2 : ((S.length : Int) != m) = true := by simpa using hm3
    have HB := Lib.hid hB
    clear hm e1 d1 hX hB hS hk hu hw hm3
    go_enter Tryd.func29, Tryd.ntmps29
    go_wp2_with fail
    refine (HBT.out _).mono ?_
    rintro e w1 ⟨rfl, rfl⟩
    go_wp2
    go_ret2
    exact ⟨rfl, HB.out⟩
  case pos =>
  subst hm3
  have hq : rckE (S.length : Int) S = (if nxt (rwr S) 0 S.length < S.length then 6 else 0) ∧ rckV (S.length : Int) S = (if nxt (rwr S) 0 S.length < S.length then (nxt (rwr S) 0 S.length : Int) else 0) := by
    have h3 : ¬ ((S.length : Int) ≠ (S.length : Int)) := fun h => h rfl
    unfold rckE rckV
    rw [if_neg hm, if_neg hm, if_neg h3, if_neg h3]; exact ⟨rfl, rfl⟩
  have Q1 := Lib.hid hq.1
  have Q2 := Lib.hid hq.2
  obtain ⟨E, hE⟩ : ∃ E, rckE (S.length : Int) S = E := ⟨_, rfl⟩
  obtain ⟨V, hV⟩ : ∃ V, rckV (S.length : Int) S = V := ⟨_, rfl⟩
  rw [hE] at Q1 ⊢
  rw [hV] at Q2 ⊢
  have HRW := Lib.hid (fun W (hb : Below w.heap.size w W) j hj => rwrong_ok (c := c) (S.length : Int) (hS.below hb) hl hk hu hw (i := j) hj)
  have HRI : Hid (∀ j, (∀ k, k < j → rwr S k = false) → j ≤ S.length → (j < S.length → rwr S j = true) → nxt (rwr S) 0 S.length = j) := Lib.hid (fun j h1 h2 h3 => nxt_eq (Nat.zero_le _) (Nat.zero_le _) h2 (fun k _ hk => h1 k hk) h3)
  obtain ⟨N, hN⟩ : ∃ N, S.length = N := ⟨_, rfl⟩
  rw [hN] at Q1 Q2 HRW HRI HBT hB hX hl ⊢
  have HB := Lib.hid hB
  have HX := Lib.hid hX
  have d2 : ((N : Int) != (N : Int)) = false := by simp
  clear hm d1 hX hB hS hk hu hw hq hE hV hN
  go_enter Tryd.func29, Tryd.ntmps29
  go_wp2_with fail
  generalize World.alloc _ _ = W0 at HB HX ⊢
  refine (HBT.out _).mono ?_
  rintro e w1 ⟨rfl, rfl⟩
  have p0 : W0.cell? ⟨w.heap.size, 0, none⟩ = some (.int .i64 N) := by rw [cell_of_block HX.out]; rfl
  have p1 : W0.cell? ⟨w.heap.size, 1, none⟩ = some (.slice a N c) := by rw [cell_of_block HX.out]; rfl
  go_wp2
  clear d2
  go_loopw [4] (fun v wr => ∃ j : Nat, j ≤ N ∧ v = .int .i64 j ∧ Hid (∀ k, k < j → rwr S k = false) ∧ Hid (Below W0.heap.size W0 wr)) (fun v _ => N - (intOf v).toNat)
  case atStart => exact ⟨0, Nat.zero_le _, rfl, Lib.hid (fun k hk => absurd hk (Nat.not_lt_zero _)), Lib.hid (Below.refl _ _)⟩
  case round =>
    obtain ⟨j, hj, rfl, HA, BR⟩ := hrel
    have p0 := cell_later BR.out p0
    have p1 := cell_later BR.out p1
    have BW := Lib.hid (below_tr HB.out BR.out)
    by_cases hlt : j < N
    · have j1 : (j : Int) < (N : Int) := by omega
      have hwj : IntKind.i64.wrap ((j : Int) + 1) = (j : Int) + 1 := IntWalk.i64_in _ (by omega)
      have HWT := Lib.hid (HRW.out _ BW.out j hlt)
      obtain ⟨r, hr⟩ : ∃ r, rwr S j = r := ⟨_, rfl⟩
      rw [hr] at HWT
      have HR := Lib.hid hr
      clear hr
      go_wp2_with fail
      refine HWT.out.mono ?_
      rintro e w5 ⟨rfl, b5⟩
      have B5 := Lib.hid (below_tr BR.out b5)
      have BW5 := Lib.hid (below_tr BW.out b5)
      clear b5
      cases r
      · go_wp2
        go_roundw
        case rel => exact ⟨j + 1, by omega, by go_num, Lib.hid (fun k hk => by
          by_cases e : k = j
          · rw [e]; exact HR.out
          · exact HA.out k (by omega)), B5⟩
        case measure => simp [intOf]; omega
      · have hck := HRI.out j HA.out (by omega) (fun _ => HR.out)
        have hE : E = 6 := by rw [Q1.out, hck, if_pos hlt]
        have hV : V = (j : Int) := by rw [Q2.out, hck, if_pos hlt]
        subst hE
        subst hV
        clear Q1 Q2 hck
        go_wp2
        go_ret2
        exact ⟨rfl, BW5.out⟩
    · obtain rfl : j = N := by omega
      have i1 : ¬ ((j : Int) < (j : Int)) := by omega
      have hck := HRI.out j HA.out (by omega) (fun h => by omega)
      have hE : E = 0 := by rw [Q1.out, hck, if_neg (Nat.lt_irrefl _)]
      have hV : V = 0 := by rw [Q2.out, hck, if_neg (Nat.lt_irrefl _)]
      subst hE
      subst hV
      clear Q1 Q2 hck
      go_wp2
      go_ret2
      exact ⟨rfl, BW.out⟩
end
end Go.Proofs.YtfmclbacoffdaaaDoor
