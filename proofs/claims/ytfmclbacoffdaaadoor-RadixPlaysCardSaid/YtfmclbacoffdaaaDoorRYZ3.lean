/- The radix map: the reference: leaf, word, free, Get, Nodes (over the state of a map). -/
import Derived.Test.YtfmclbacoffdaaaDoorRSZ3
import Derived.Test.YtfmclbacoffdaaaDoorRSZ1
import Derived.Test.YtfmclbacoffdaaaDoorRZ10
import Derived.Test.YtfmclbacoffdaaaDoorRYZ2
import Derived.Test.YtfmclbacoffdaaaDoorRWZ1
import Derived.Deep.QuietTactic
import Derived.BigQuiet
namespace Go.Proofs.YtfmclbacoffdaaaDoor
open Go.RowKit Go.Sort Go.Joins
attribute [local go_sem] cell_grow frozen_grow size_grow
/-- a node of a state at an address, by the map's node -/
structure NdK (w : World) (b o : Nat) (x : Nd) : Prop where
  lv : w.cell? ⟨b, o, none⟩ = some (.int .i64 x.lv)
  ks : ∃ a c, w.cell? ⟨b, o + 1, none⟩ = some (.slice a (kN x.lv) c) ∧ ∀ k, k < kN x.lv → ∃ kb ko, a = some ⟨kb, ko, none⟩ ∧ kb < w.heap.size ∧ w.cell? ⟨kb, ko + k, none⟩ = some (.int .i64 (x.kd k : Int))
  ws : ∃ a c, w.cell? ⟨b, o + 2, none⟩ = some (.slice a (wN x.lv) c) ∧ ∀ k, k < wN x.lv → ∃ kb ko, a = some ⟨kb, ko, none⟩ ∧ kb < w.heap.size ∧ w.cell? ⟨kb, ko + k, none⟩ = some (.int .u64 (x.wd k : Int))
theorem NdR.k {w : World} {b o : Nat} {x : Nd} (h : NdR w b o (rnOf x)) : NdK w b o x := by
  obtain ⟨a1, c1, e1, r1⟩ := h.ks
  obtain ⟨a2, c2, e2, r2⟩ := h.ws
  have l1 : (rnOf x).ks.length = kN x.lv := by simp [rnOf]
  have l2 : (rnOf x).ws.length = wN x.lv := by simp [rnOf]
  rw [l1] at e1 r1
  rw [l2] at e2 r2
  refine ⟨h.lv, ⟨a1, c1, e1, fun k hk => ?_⟩, ⟨a2, c2, e2, fun k hk => ?_⟩⟩
  · rcases r1 with r1 | ⟨kb, ko, q1, q2, q3⟩
    · omega
    · refine ⟨kb, ko, q1, q2, (q3 k hk).trans ?_⟩
      simp [kdV, rnOf, List.getD, hk]
  · rcases r2 with r2 | ⟨kb, ko, q1, q2, q3⟩
    · omega
    · refine ⟨kb, ko, q1, q2, (q3 k hk).trans ?_⟩
      simp [wdV, rnOf, List.getD, hk]
/-- the state of a map in memory, node by node -/
def StK (w : World) (a : Option Addr) (X : RM) : Prop := ∃ b o, a = some ⟨b, o, none⟩ ∧ b < w.heap.size ∧ ∀ j, j < X.st.length → NdK w b (o + j * 3) (X.N j)
theorem StR.k {w : World} {a : Option Addr} {X : RM} (h : StR w a (stS X)) (h1 : 1 ≤ X.st.length) : StK w a X := by
  rcases h with h | ⟨b, o, e, l, hc⟩
  · rw [stS_len] at h; omega
  · refine ⟨b, o, e, l, fun j hj => ?_⟩
    have := hc j (by rw [stS_len]; exact hj)
    rw [stS_get X hj] at this
    exact this.k
theorem md_lt {X : RM} (hI : RInv X) {p : Nat} (hp : p < 1024) : mdI X.st p < X.st.length := by
  by_cases c : mdI X.st p = 0
  · rw [c]; exact hI.n1
  · exact (hI.k0 (p / 64) (by omega) c).1
section
variable {w : World} {a : Option Addr} {X : RM} {n c : Nat} {m : Int}
set_option maxRecDepth 100000 in
set_option maxHeartbeats 1600000 in
theorem rleaf_ok (h : StR w a (stS X)) (hI : RInv X) (hn : n = X.st.length) (hn2 : n ≤ 145) {p : Nat} (hp : p < 1024) :
    Calls Tryd.prog 75 #[.agg #[.int .i64 m, .slice a n c], .int .i64 p] w fun e w' => e = .returned (.tuple #[.int .i64 (mdI X.st p), .int .i64 (lfI X.st p)]) ∧ Below w.heap.size w w' := by
  have hB := below_box0 w (.cells #[.int .i64 m, .slice a n c] 45)
  have HB := Lib.hid hB
  obtain ⟨b, o, rfl, hbl, hnd⟩ := (h.below hB).k hI.n1
  have hmd := md_lt hI hp
  obtain ⟨ka, kc, k1, k2⟩ := (hnd 0 hI.n1).ks
  rw [hI.root, show kN 0 = 16 from rfl] at k1 k2
  rw [Nat.zero_mul, Nat.add_zero] at k1
  obtain ⟨kb, ko, rfl, kbl, kcl⟩ := k2 (p / 64) (by omega)
  have hmd0 : (X.N 0).kd (p / 64) = mdI X.st p := rfl
  rw [hmd0] at kcl
  have HK1 : Hid (mdI X.st p ≠ 0 → (X.N (mdI X.st p)).lv = 1) := Lib.hid (fun e => (hI.k0 (p / 64) (by omega) e).2)
  have HLF : Hid (mdI X.st p ≠ 0 → lfI X.st p = (X.N (mdI X.st p)).kd (p / 8 % 8)) := Lib.hid (fun e => by unfold lfI; rw [if_neg e])
  have HL0 : Hid (mdI X.st p = 0 → lfI X.st p = 0) := Lib.hid (fun e => by unfold lfI; rw [if_pos e])
  have HND := Lib.hid hnd
  obtain ⟨md, hm⟩ : ∃ x, mdI X.st p = x := ⟨_, rfl⟩
  rw [hm] at kcl HK1 HLF HL0 hmd ⊢
  have i0 : (0 : Int) ≤ (n : Int) := by omega
  have i1 : (0 : Int) < (n : Int) := by have := hI.n1; omega
  have i2 : ((p : Int) / 64) < 16 := by omega
  have i3 : (0 : Int) ≤ (p : Int) / 64 := by omega
  have HNN := Lib.hid hn
  clear h hB hm hmd0 hnd hn k2
  by_cases c0 : md = 0
  · have d0 : ((md : Int) == 0) = true := by simp; omega
    have HZ := Lib.hid c0
    have HL := Lib.hid (HL0.out c0)
    clear c0 HL0 HLF HK1
    go_enter Tryd.func75, Tryd.ntmps75
    go_wp2
    go_ret2
    exact ⟨by rw [HL.out, HZ.out]; rfl, HB.out⟩
  · have d0 : ((md : Int) == 0) = false := by simp; omega
    have hlv := HK1.out c0
    obtain ⟨ja, jc, j1, j2⟩ := (HND.out md hmd).ks
    rw [hlv, show kN 1 = 8 from rfl] at j1 j2
    obtain ⟨jb, jo, rfl, jbl, jcl⟩ := j2 (p / 8 % 8) (by omega)
    rw [← HLF.out c0] at jcl
    obtain ⟨lf, hl⟩ : ∃ x, lfI X.st p = x := ⟨_, rfl⟩
    rw [hl] at jcl ⊢
    have m0 : (0 : Int) ≤ (md : Int) := by omega
    have m1 : (md : Int) < (n : Int) := by rw [HNN.out]; omega
    have e2 : (p : Int) / 8 % 8 < 8 := by omega
    have e3 : (0 : Int) ≤ (p : Int) / 8 % 8 := by omega
    have w1 : IntKind.i64.wrap ((p : Int).tdiv 8) = (p : Int) / 8 := by rw [Int.tdiv_eq_ediv_of_nonneg (by omega)]; exact IntWalk.i64_in _ (by omega)
    have w2 : IntKind.i64.wrap (((p : Int) / 8).tmod 8) = (p : Int) / 8 % 8 := by rw [Int.tmod_eq_emod_of_nonneg (by omega)]; exact IntWalk.i64_in _ (by omega)
    clear c0 hlv hl j2 HL0 HLF HK1
    go_enter Tryd.func75, Tryd.ntmps75
    go_wp2
    go_quiet (fail)
    go_wp2
    go_ret2
    exact ⟨rfl, below_tr HB.out (below_draw _ nq)⟩
set_option maxRecDepth 100000 in
set_option maxHeartbeats 1600000 in
theorem rword_ok (h : StR w a (stS X)) (hI : RInv X) (hn : n = X.st.length) (hn2 : n ≤ 145) {p : Nat} (hp : p < 1024) :
    Calls Tryd.prog 70 #[.agg #[.int .i64 m, .slice a n c], .int .i64 p] w fun e w' => e = .returned (.int .u64 (wdI X.st p)) ∧ Below w.heap.size w w' := by
  have hB := below_box0 w (.cells #[.int .i64 m, .slice a n c] 45)
  have HB := Lib.hid hB
  have HLE := Lib.hid (rleaf_ok (m := m) (c := c) (h.below hB) hI hn hn2 hp)
  have HST := Lib.hid (h.below hB)
  have HI0 := Lib.hid hI
  have HNN := Lib.hid hn
  have HI : Hid (lfI X.st p ≠ 0 → lfI X.st p < X.st.length ∧ (X.N (lfI X.st p)).lv = 2) := Lib.hid (fun e => by
    obtain ⟨_, _, _, _, h1, h2⟩ := hI.leaf hp e
    exact ⟨h1, h2⟩)
  have HW : Hid (lfI X.st p ≠ 0 → wdI X.st p = (X.N (lfI X.st p)).wd (p % 8)) := Lib.hid (fun e => by unfold wdI; rw [if_neg e])
  have HZ : Hid (lfI X.st p = 0 → wdI X.st p = 0) := Lib.hid (fun e => by unfold wdI; rw [if_pos e])
  obtain ⟨md, hmd⟩ : ∃ x, mdI X.st p = x := ⟨_, rfl⟩
  obtain ⟨lf, hlf⟩ : ∃ x, lfI X.st p = x := ⟨_, rfl⟩
  rw [hmd, hlf] at HLE
  rw [hlf] at HI HW HZ
  clear h hB hI hmd hlf hn
  go_enter Tryd.func70, Tryd.ntmps70
  go_wp2_with fail
  generalize hW0 : w.alloc _ = W0 at HLE HST HB ⊢
  have hbx : W0.heap[w.heap.size]? = some (.cells #[.int .i64 m, .slice a n c] 45 (0, 0)) := by rw [← hW0]; exact heap_alloc_new w _
  have HBX := Lib.hid hbx
  clear hW0 hbx
  refine HLE.out.mono ?_
  rintro e w1 ⟨rfl, b1⟩
  have HB1 := Lib.hid (below_tr HB.out b1)
  by_cases c0 : lf = 0
  · have d0 : ((lf : Int) == 0) = true := by simp; omega
    have HZZ := Lib.hid (HZ.out c0)
    clear c0 HZ HW HI b1
    go_wp2
    go_ret
    exact ⟨by rw [HZZ.out]; rfl, HB1.out⟩
  · have d0 : ((lf : Int) == 0) = false := by simp; omega
    obtain ⟨hl, hlv⟩ := HI.out c0
    have k1 : w1.cell? ⟨w.heap.size, 1, none⟩ = some (.slice a n c) := by
      have := (b1.block _ (blk_lt HBX.out)).trans HBX.out
      rw [cell_of_block this]; rfl
    obtain ⟨b, o, rfl, hbl, hnd⟩ := (HST.out.below b1).k HI0.out.n1
    obtain ⟨ja, jc, j1, j2⟩ := (hnd lf hl).ws
    rw [hlv, show wN 2 = 8 from rfl] at j1 j2
    obtain ⟨jb, jo, rfl, jbl, jcl⟩ := j2 (p % 8) (by omega)
    rw [← HW.out c0] at jcl
    have m0 : (0 : Int) ≤ (lf : Int) := by omega
    have m1 : (lf : Int) < (n : Int) := by rw [HNN.out]; omega
    have e2 : (p : Int) % 8 < 8 := by omega
    have e3 : (0 : Int) ≤ (p : Int) % 8 := by omega
    clear c0 hl hlv HZ HW HI b1 j2 hnd
    go_wp2
    go_ret
    exact ⟨rfl, HB1.out⟩
/-- the least number that is free, as the reference has it -/
def frR (X : RM) : Nat := if frI X < X.st.length then frI X else 0
set_option maxRecDepth 100000 in
set_option maxHeartbeats 1600000 in
theorem rfree_ok (h : StR w a (stS X)) (hI : RInv X) (hN : NrS X.st) (hn : n = X.st.length) (hn2 : n ≤ 145) :
    Calls Tryd.prog 76 #[.agg #[.int .i64 m, .slice a n c]] w fun e w' => e = .returned (.int .i64 (frR X)) ∧ Below w.heap.size w w' := by
  have hB := below_box0 w (.cells #[.int .i64 m, .slice a n c] 45)
  have HB := Lib.hid hB
  have n1 := hI.n1
  obtain ⟨b, o, rfl, hbl, hnd⟩ := (h.below hB).k n1
  have HND := Lib.hid hnd
  have HNN := Lib.hid hn
  have hfr := nxt_spec (p := fun i => !X.r i) (a := 0) (n := X.st.length) (Nat.zero_le _)
  have hF1 : ∀ j, j < X.st.length → j < frI X → (X.N j).lv ≠ -1 := fun j hj hjf e => by
    have h1 := hfr.2.2.1 j (Nat.zero_le _) hjf
    rw [hI.rt j hj, e] at h1
    simp at h1
  have hF2 : frI X < X.st.length → (X.N (frI X)).lv = -1 ∧ frI X ≠ 0 := fun hlt => by
    obtain ⟨h1, h2⟩ := hI.fr hlt
    have h3 := (hN (frI X)).lo
    exact ⟨by show (X.N (frI X)).lv = -1; unfold RM.N; unfold RM.N at h1; omega, h2⟩
  have HF1 := Lib.hid hF1
  have HF2 := Lib.hid hF2
  have HLE : Hid (frI X ≤ X.st.length) := Lib.hid hfr.2.1
  clear h hB hnd hn hfr hF1 hF2 hI hN
  go_enter Tryd.func76, Tryd.ntmps76
  go_wp2
  go_loop [3] (fun i => ∃ k : Nat, 1 ≤ k ∧ k ≤ n ∧ i = .int .i64 k ∧ Hid (∀ j, 1 ≤ j → j < k → (X.N j).lv ≠ -1)) (fun i => n - (intOf i).toNat)
  case atStart => exact ⟨1, Nat.le_refl _, by rw [HNN.out]; exact n1, rfl, Lib.hid (fun j a b => by omega)⟩
  case round =>
    obtain ⟨k, hk1, hk, rfl, HA⟩ := hrel
    by_cases hlt : k < n
    · have hlt' : k < X.st.length := by rw [← HNN.out]; exact hlt
      have c0 := (HND.out k hlt').lv
      have i1 : (k : Int) < (n : Int) := by omega
      have i0 : (0 : Int) ≤ (k : Int) := by omega
      by_cases hf : (X.N k).lv = -1
      · have HE : Hid (frR X = k) := Lib.hid (by
          have e : frI X = k := by
            rcases Nat.lt_trichotomy (frI X) k with h | h | h
            · have h2 := HF2.out (by omega)
              exact absurd h2.1 (HA.out _ (by omega) h)
            · exact h
            · exact absurd hf (HF1.out k hlt' h)
          unfold frR; rw [e, if_pos hlt'])
        rw [hf] at c0
        clear hf
        go_wp2
        go_ret
        exact ⟨by rw [HE.out]; rfl, HB.out⟩
      · have d0 : ((X.N k).lv == -1) = false := by simpa using hf
        have HFF := Lib.hid hf
        obtain ⟨l, hl⟩ : ∃ l, (X.N k).lv = l := ⟨_, rfl⟩
        rw [hl] at c0 d0
        clear hl hf
        go_wp2
        go_round
        case rel => exact ⟨k + 1, by omega, by omega, by go_num, Lib.hid (fun j h1 h2 => by
          by_cases e : j = k
          · rw [e]; exact HFF.out
          · exact HA.out j h1 (by omega))⟩
        case measure => simp [intOf]; omega
    · obtain rfl : k = n := by omega
      have i1 : ¬ ((k : Int) < (k : Int)) := by omega
      have HE : Hid (frR X = 0) := Lib.hid (by
        unfold frR
        rw [if_neg]
        intro hlt2
        have h2 := HF2.out hlt2
        exact HA.out _ (by omega) (by rw [HNN.out]; exact hlt2) h2.1)
      go_wp2
      go_ret
      exact ⟨by rw [HE.out]; rfl, HB.out⟩
end
section
variable {w : World} {a : Option Addr} {X : RM} {n c : Nat} {m : Int}
theorem getV_bad {X : RM} {p : Int} (h : getE X p ≠ 0) : getV X p = dsV 0 0 0 false := by unfold getV; rw [if_neg h]
set_option maxRecDepth 100000 in
set_option maxHeartbeats 1600000 in
theorem rget_ok7 (h : StR w a (stS X)) (hG : RGood X) (hn : n = X.st.length) (hn2 : n ≤ 145) (p : Int) :
    Calls Tryd.prog 57 #[.agg #[.int .i64 m, .slice a n c], .int .i64 p] w fun e w' => e = .returned (.tuple #[getV X p, .int .i64 (getE X p)]) ∧ Below w.heap.size w w' := by
  have hB1 := below_box0 w (.cells #[.int .i64 m, .slice a n c] 45)
  have hB := below_tr hB1 (below_box0 _ (.cells #[.int .i64 0, .int .i64 0, .int .i64 0, .bool false] 23))
  have hbx : ((w.alloc (.cells #[.int .i64 m, .slice a n c] 45)).alloc (.cells #[.int .i64 0, .int .i64 0, .int .i64 0, .bool false] 23)).heap[w.heap.size]? = some (.cells #[.int .i64 m, .slice a n c] 45 (0, 0)) := (Below.heap_alloc _ _ _ (by simp)).trans (heap_alloc_new w _)
  have hrx : ((w.alloc (.cells #[.int .i64 m, .slice a n c] 45)).alloc (.cells #[.int .i64 0, .int .i64 0, .int .i64 0, .bool false] 23)).heap[w.heap.size + 1]? = some (.cells #[.int .i64 0, .int .i64 0, .int .i64 0, .bool false] 23 (0, 0)) := by
    have := heap_alloc_new (w.alloc (.cells #[.int .i64 m, .slice a n c] 45)) (.cells #[.int .i64 0, .int .i64 0, .int .i64 0, .bool false] 23)
    rwa [World.size_alloc] at this
  have HST := Lib.hid (h.below hB)
  have HG := Lib.hid hG
  have HNN := Lib.hid hn
  have HB := Lib.hid hB
  have HBX := Lib.hid hbx
  have HRX := Lib.hid hrx
  clear h hB hB1 hbx hrx hG hn
  by_cases c1 : p < 0 ∨ 1023 < p
  · have HE : Hid (getE X p = 7) := Lib.hid (if_pos c1)
    have HV : Hid (getV X p = dsV 0 0 0 false) := Lib.hid (getV_bad (by rw [HE.out]; decide))
    have hd : (decide (0 ≤ p) && decide (p ≤ 1023)) = false := by
      rcases c1 with c | c
      · rw [decide_eq_false (show ¬ 0 ≤ p by omega)]; rfl
      · rw [decide_eq_false (show ¬ p ≤ 1023 by omega), Bool.and_false]
    have HBT := Lib.hid (btw_ok p 0 1023)
    rw [hd] at HBT
    clear hd c1 HST
    go_enter Tryd.func57, Tryd.ntmps57
    go_wp2_with fail
    generalize World.alloc _ _ = W0 at HBX HRX HB ⊢
    have r0 : W0.cell? ⟨w.heap.size + 1, 0, none⟩ = some (.int .i64 0) := by rw [cell_of_block HRX.out]; rfl
    have r1 : W0.cell? ⟨w.heap.size + 1, 1, none⟩ = some (.int .i64 0) := by rw [cell_of_block HRX.out]; rfl
    have r2 : W0.cell? ⟨w.heap.size + 1, 2, none⟩ = some (.int .i64 0) := by rw [cell_of_block HRX.out]; rfl
    have r3 : W0.cell? ⟨w.heap.size + 1, 3, none⟩ = some (.bool false) := by rw [cell_of_block HRX.out]; rfl
    have rf : ∀ k, W0.frozen? ⟨w.heap.size + 1, k, none⟩ = false := fun k => unfrozen_of_block HRX.out k
    refine (HBT.out _).mono ?_
    rintro e w1 ⟨rfl, rfl⟩
    go_wp2
    refine bodyPost_ret (v := .tuple #[dsV 0 0 0 false, .int .i64 7]) (by simp [results, Tryd.results57, go_sem, r0, r1, r2, r3]) rfl ?_
    exact ⟨by rw [HV.out, HE.out], (((HB.out.setCell (p := ⟨w.heap.size + 1, 0, none⟩) (by dsimp only; omega) _).setCell (p := ⟨w.heap.size + 1, 1, none⟩) (by dsimp only; omega) _).setCell (p := ⟨w.heap.size + 1, 2, none⟩) (by dsimp only; omega) _).setCell (p := ⟨w.heap.size + 1, 3, none⟩) (by dsimp only; omega) _⟩
  · obtain ⟨q, rfl⟩ := Int.eq_ofNat_of_zero_le (show 0 ≤ p by omega)
    have hq : q < 1024 := by omega
    have hd : (decide ((0 : Int) ≤ (q : Int)) && decide ((q : Int) ≤ 1023)) = true := by
      rw [decide_eq_true (show (0 : Int) ≤ (q : Int) by omega), decide_eq_true (show (q : Int) ≤ 1023 by omega)]; rfl
    have HBT := Lib.hid (btw_ok q 0 1023)
    rw [hd] at HBT
    have HW := Lib.hid (rword_ok (m := m) (c := c) HST.out HG.out.a.i HNN.out hn2 hq)
    have HGE : Hid (getE X (q : Int) = if wdI X.st q = 0 then 4 else 0) := Lib.hid (getE_at HG.out.w hq)
    have HGV : Hid (wdI X.st q ≠ 0 → unE (wdI X.st q : Int) = 0 ∧ getV X (q : Int) = unV (wdI X.st q : Int)) := Lib.hid (fun e => ⟨HG.out.w q hq e, by
      have := HGE.out
      rw [if_neg e] at this
      unfold getV
      rw [if_pos this, Int.toNat_natCast]⟩)
    obtain ⟨u, hu⟩ : ∃ u, wdI X.st q = u := ⟨_, rfl⟩
    have hub : (u : Int) < 18446744073709551616 := by
      by_cases c : u = 0
      · rw [c]; decide
      · have := HG.out.w q hq (by rw [hu]; exact c)
        rw [hu] at this
        unfold unE at this
        split at this
        · omega
        · cases this
    rw [hu] at HW HGE HGV
    have HUN := Lib.hid (runpack_ok (u : Int) (by omega) hub)
    clear hd c1 HST hu hub
    go_enter Tryd.func57, Tryd.ntmps57
    go_wp2_with fail
    generalize World.alloc _ _ = W0 at HBX HRX HB HW ⊢
    refine (HBT.out _).mono ?_
    rintro e w1 ⟨rfl, rfl⟩
    have k0 : W0.cell? ⟨w.heap.size, 0, none⟩ = some (.int .i64 m) := by rw [cell_of_block HBX.out]; rfl
    have k1 : W0.cell? ⟨w.heap.size, 1, none⟩ = some (.slice a n c) := by rw [cell_of_block HBX.out]; rfl
    go_wp2_with fail
    refine HW.out.mono ?_
    rintro e w2 ⟨rfl, b2⟩
    have HB2 := Lib.hid (below_tr HB.out b2)
    have HR2 := Lib.hid ((b2.block _ (blk_lt HRX.out)).trans HRX.out)
    clear b2 HW HBT k0 k1
    by_cases c2 : u = 0
    · have d2 : ((u : Int) == 0) = true := by simp; omega
      have HE : Hid (getE X (q : Int) = 4) := Lib.hid (by rw [HGE.out, if_pos c2])
      have HV : Hid (getV X (q : Int) = dsV 0 0 0 false) := Lib.hid (getV_bad (by rw [HE.out]; decide))
      have r0 : w2.cell? ⟨w.heap.size + 1, 0, none⟩ = some (.int .i64 0) := by rw [cell_of_block HR2.out]; rfl
      have r1 : w2.cell? ⟨w.heap.size + 1, 1, none⟩ = some (.int .i64 0) := by rw [cell_of_block HR2.out]; rfl
      have r2 : w2.cell? ⟨w.heap.size + 1, 2, none⟩ = some (.int .i64 0) := by rw [cell_of_block HR2.out]; rfl
      have r3 : w2.cell? ⟨w.heap.size + 1, 3, none⟩ = some (.bool false) := by rw [cell_of_block HR2.out]; rfl
      have rf : ∀ k, w2.frozen? ⟨w.heap.size + 1, k, none⟩ = false := fun k => unfrozen_of_block HR2.out k
      clear c2 HGE HGV HUN
      go_wp2
      refine bodyPost_ret (v := .tuple #[dsV 0 0 0 false, .int .i64 4]) (by simp [results, Tryd.results57, go_sem, r0, r1, r2, r3]) rfl ?_
      exact ⟨by rw [HV.out, HE.out], (((HB2.out.setCell (p := ⟨w.heap.size + 1, 0, none⟩) (by dsimp only; omega) _).setCell (p := ⟨w.heap.size + 1, 1, none⟩) (by dsimp only; omega) _).setCell (p := ⟨w.heap.size + 1, 2, none⟩) (by dsimp only; omega) _).setCell (p := ⟨w.heap.size + 1, 3, none⟩) (by dsimp only; omega) _⟩
    · have d2 : ((u : Int) == 0) = false := by simp; omega
      have HE : Hid (getE X (q : Int) = 0) := Lib.hid (by rw [HGE.out, if_neg c2])
      obtain ⟨hun, hgv⟩ := HGV.out c2
      obtain ⟨vo, vs, vt, vg, hv⟩ := unV_ds (u : Int)
      rw [hun, hv] at HUN
      have HV : Hid (getV X (q : Int) = dsV vo vs vt vg) := Lib.hid (by rw [hgv, hv])
      clear c2 HGE HGV hun hgv hv
      go_wp2_with fail
      refine (HUN.out _).mono ?_
      rintro e w3 ⟨rfl, b3⟩
      have HB3 := Lib.hid (below_tr HB2.out b3)
      have HR3 := Lib.hid ((b3.block _ (blk_lt HR2.out)).trans HR2.out)
      have r0 : w3.cell? ⟨w.heap.size + 1, 0, none⟩ = some (.int .i64 0) := by rw [cell_of_block HR3.out]; rfl
      have r1 : w3.cell? ⟨w.heap.size + 1, 1, none⟩ = some (.int .i64 0) := by rw [cell_of_block HR3.out]; rfl
      have r2 : w3.cell? ⟨w.heap.size + 1, 2, none⟩ = some (.int .i64 0) := by rw [cell_of_block HR3.out]; rfl
      have r3 : w3.cell? ⟨w.heap.size + 1, 3, none⟩ = some (.bool false) := by rw [cell_of_block HR3.out]; rfl
      have rf : ∀ k, w3.frozen? ⟨w.heap.size + 1, k, none⟩ = false := fun k => unfrozen_of_block HR3.out k
      clear b3 HUN
      go_wp2
      refine bodyPost_ret (v := .tuple #[dsV vo vs vt vg, .int .i64 0]) (by simp [results, Tryd.results57, go_sem, r0, r1, r2, r3]) rfl ?_
      exact ⟨by rw [HV.out, HE.out], (((HB3.out.setCell (p := ⟨w.heap.size + 1, 0, none⟩) (by dsimp only; omega) _).setCell (p := ⟨w.heap.size + 1, 1, none⟩) (by dsimp only; omega) _).setCell (p := ⟨w.heap.size + 1, 2, none⟩) (by dsimp only; omega) _).setCell (p := ⟨w.heap.size + 1, 3, none⟩) (by dsimp only; omega) _⟩
set_option maxRecDepth 100000 in
set_option maxHeartbeats 1600000 in
theorem rnodes_ok (h : StR w a (stS X)) (hI : RInv X) (hn : n = X.st.length) (hn2 : n ≤ 145) :
    Calls Tryd.prog 36 #[.agg #[.int .i64 m, .slice a n c]] w fun e w' => e = .returned (.int .i64 X.m) ∧ Below w.heap.size w w' := by
  have hB := below_box0 w (.cells #[.int .i64 m, .slice a n c] 45)
  have HB := Lib.hid hB
  have n1 := hI.n1
  obtain ⟨b, o, rfl, hbl, hnd⟩ := (h.below hB).k n1
  have HND := Lib.hid hnd
  have HNN := Lib.hid hn
  have HRT := Lib.hid hI.rt
  have HCN := Lib.hid hI.cn
  clear h hB hnd hn hI
  go_enter Tryd.func36, Tryd.ntmps36
  go_wp2
  go_loop [3, 4] (fun m i => ∃ k : Nat, k ≤ n ∧ i = .int .i64 k ∧ m = .int .i64 ((cnt X.r 0 k : Nat) : Int)) (fun _ i => n - (intOf i).toNat)
  case atStart => exact ⟨0, Nat.zero_le _, rfl, rfl⟩
  case round =>
    obtain ⟨k, hk, rfl, rfl⟩ := hrel
    have hcl := cnt_le X.r 0 k
    by_cases hlt : k < n
    · have hlt' : k < X.st.length := by rw [← HNN.out]; exact hlt
      have c0 := (HND.out k hlt').lv
      have i1 : (k : Int) < (n : Int) := by omega
      have i0 : (0 : Int) ≤ (k : Int) := by omega
      have HS : Hid (cnt X.r 0 (k + 1) = cnt X.r 0 k + if 0 ≤ (X.N k).lv then 1 else 0) := Lib.hid (by
        have e : cnt X.r 0 (k + 1) = cnt X.r 0 k + if X.r k = true then 1 else 0 := by simp [cnt]
        rw [e, HRT.out k hlt']
        simp)
      obtain ⟨l, hl⟩ : ∃ l, (X.N k).lv = l := ⟨_, rfl⟩
      rw [hl] at c0 HS
      obtain ⟨cn, hcn⟩ : ∃ x, cnt X.r 0 k = x := ⟨_, rfl⟩
      rw [hcn] at HS hcl ⊢
      clear hl hcn
      by_cases hg : 0 ≤ l
      · have HG := Lib.hid hg
        go_wp2
        go_round
        case rel => exact ⟨k + 1, by omega, by go_num, by rw [HS.out, if_pos HG.out]; go_num⟩
        case measure => simp [intOf]; omega
      · have HG := Lib.hid hg
        go_wp2
        go_round
        case rel => exact ⟨k + 1, by omega, by go_num, by rw [HS.out, if_neg HG.out]; rfl⟩
        case measure => simp [intOf]; omega
    · obtain rfl : k = n := by omega
      have i1 : ¬ ((k : Int) < (k : Int)) := by omega
      have HE : Hid (cnt X.r 0 k = X.m) := Lib.hid (by rw [HNN.out]; exact HCN.out.symm)
      obtain ⟨cn, hcn⟩ : ∃ x, cnt X.r 0 k = x := ⟨_, rfl⟩
      rw [hcn] at HE hcl ⊢
      clear hcn
      go_wp2
      go_ret
      exact ⟨by rw [HE.out]; rfl, HB.out⟩
end
end Go.Proofs.YtfmclbacoffdaaaDoor
