/- Package bits: join, handed the function of Less. -/
import Derived.Test.YtikdgnfcckenmaaDoorBitsY
import Derived.Deep.RegionLaw
namespace Go.Proofs.YtikdgnfcckenmaaDoor
open Go.RowKit Go.Sort Go.Joins
attribute [local go_sem] cell_grow frozen_grow size_grow

set_option maxRecDepth 100000 in
set_option maxHeartbeats 3200000 in
theorem bjoinLess (o : Nat → Nat → Nat) (hF : Hid (Op2 73 o)) (A B : Nat) (N : Int) (a : Option Addr) (len cap : Nat) (ws : List Nat) (M : Int) (b : Option Addr) (lb cb : Nat) (vs : List Nat) (w : World) (hA : AtBits w A N a len cap) (hB : AtBits w B M b lb cb) (hs : SlK .u64 w a len ws) (ht : SlK .u64 w b lb vs) (hw : ∀ x ∈ ws, x < 18446744073709551616) (hv : ∀ x ∈ vs, x < 18446744073709551616) (hlen : len ≤ 9223372036854775807) (hlb : lb ≤ 9223372036854775807) :
    Calls Tryd.prog 69 #[.pointer (some ⟨A, 0, none⟩), .pointer (some ⟨B, 0, none⟩), .func (.func 73) #[] #[]] w fun e w' => ∃ v, e = .returned (.tuple #[v, .int .i64 (bothE N ws M vs)]) ∧ BtR w' v (zipN N ws M vs) (zipW o N ws M vs) ∧ Below w.heap.size w w' := by
  have hAl : A < w.heap.size := World.block_lt_of_cell? _ _ hA.n
  have hBl : B < w.heap.size := World.block_lt_of_cell? _ _ hB.n
  have HA := Lib.hid (hA.below (below_box0 _ (.cells #[.int .i64 0, .slice none 0 0] 24)))
  have HB := Lib.hid (hB.below (below_box0 _ (.cells #[.int .i64 0, .slice none 0 0] 24)))
  have HS := Lib.hid (hs.alloc (.cells #[.int .i64 0, .slice none 0 0] 24))
  have HT := Lib.hid (ht.alloc (.cells #[.int .i64 0, .slice none 0 0] 24))
  have HZ := Lib.hid (ZAt.new w 24)
  have BE := bothE_or N ws M vs
  have a0 := hA.n
  have a1 := hA.s
  have b0 := hB.n
  have b1 := hB.s
  obtain ⟨W, hW⟩ : ∃ W, W = w.alloc (.cells #[.int .i64 0, .slice none 0 0] 24) := ⟨_, rfl⟩
  have hAB := hA
  clear hA hB
  obtain ⟨e1, he1⟩ : ∃ e1, orE (chk N ws) (chk M vs) = e1 := ⟨_, rfl⟩
  rw [he1] at BE
  have HE1 := Lib.hid he1
  have HBE := Lib.hid BE
  clear he1 BE hW W hAB
  go_enter Tryd.func69, Tryd.ntmps69
  go_wp2_with fail
  have c0 := HA.out.n
  have c1 := HA.out.s
  have c2 := HB.out.n
  have c3 := HB.out.s
  generalize hWd : w.alloc (.cells #[.int .i64 0, .slice none 0 0] 24) = W at *
  have HC : Hid (∀ w', Below W.heap.size W w' → w'.cell? ⟨A, 0, none⟩ = some (.int .i64 N) ∧ w'.cell? ⟨A, 1, none⟩ = some (.slice a len cap) ∧ w'.cell? ⟨B, 0, none⟩ = some (.int .i64 M) ∧ w'.cell? ⟨B, 1, none⟩ = some (.slice b lb cb)) :=
    fun w' h => ⟨cell_later h c0, cell_later h c1, cell_later h c2, cell_later h c3⟩
  have HWD := Lib.hid hWd
  clear hWd
  go_region_held3 (fun w' => Below W.heap.size W w' ∧ w'.cell? ⟨A, 0, none⟩ = some (.int .i64 N) ∧ w'.cell? ⟨A, 1, none⟩ = some (.slice a len cap) ∧ w'.cell? ⟨B, 0, none⟩ = some (.int .i64 M) ∧ w'.cell? ⟨B, 1, none⟩ = some (.slice b lb cb))
    ((refine keepN HC ?_; first | exact (Below.refl _ _).drew | exact And.left (by assumption) | exact bel_call (by assumption) (by assumption) | exact bel_alloc (by assumption) _))
    (first
      | (go_at_call 36; (with_reducible refine (bCheck_ok N a len cap ws _ (HS.out.below (And.left (by assumption))) hw hlen).mono ?_); rintro e w2 ⟨rfl, hb1⟩; have g2 : Below W.heap.size W w2 := bel_call (by assumption) hb1)
      | (go_at_call 36; (with_reducible refine (bCheck_ok M b lb cb vs _ (HT.out.below (And.left (by assumption))) hv hlb).mono ?_); rintro e w3 ⟨rfl, hb2⟩; have g3 : Below W.heap.size W w3 := bel_call (by assumption) hb2)
      | (go_at_call 78; refine (cmpOr_ok (chk N ws) (chk M vs) _ _ _ (by simp [go_sem]) (by simp [go_sem])).mono ?_; rintro e w4 ⟨rfl, rfl⟩))
  have b5 : Below W.heap.size W (w3.alloc (.cells #[.int .i64 (chk N ws), .int .i64 (chk M vs)] 27)) := g3.alloc g3.size _
  rw [HE1.out]
  generalize w3.alloc (.cells #[.int .i64 (chk N ws), .int .i64 (chk M vs)] 27) = w5 at *
  have PA := Lib.hid (HA.out.below b5)
  have PB := Lib.hid (HB.out.below b5)
  have PS := Lib.hid (HS.out.below b5)
  have PT := Lib.hid (HT.out.below b5)
  have PZ := Lib.hid (HZ.out.below b5)
  have hWz : W.heap.size = w.heap.size + 1 := by rw [← HWD.out]; simp
  have hz5 : w.heap.size < w5.heap.size := by have := b5.size; omega
  have PK : Hid (Below w.heap.size w w5) := Lib.hid ((by rw [← HWD.out]; exact below_box0 _ _ : Below w.heap.size w W).trans (b5.mono (by omega)))
  clear b5 g2 g3 hb1 hb2 HC c0 c1 c2 c3 a0 a1 b0 b1 hs ht hWz
  by_cases hE : e1 = 0
  · have hEb : (e1 != 0) = false := bne0_false hE
    have a0 := PA.out.n
    have a1 := PA.out.s
    have b0 := PB.out.n
    have b1 := PB.out.s
    by_cases hNM : N = M
    · have B0 : bothE N ws M vs = 0 := by rw [HBE.out, if_neg (by omega), if_neg (by omega)]
      have E1 : zipN N ws M vs = N := if_pos B0
      have E2 : zipW o N ws M vs = List.zipWith o ws vs := if_pos B0
      have HB0 := Lib.hid B0
      have HE1' := Lib.hid E1
      have HE2' := Lib.hid E2
      subst hNM
      obtain ⟨hc1, hc2, _⟩ := bothE_zero B0
      obtain ⟨hN0, hN, hl1, _⟩ := chk_zero hc1
      obtain ⟨_, _, hl2, _⟩ := chk_zero hc2
      have hLs := PS.out.length
      have hLt := PT.out.length
      obtain rfl : lb = len := by omega
      have hl64 : lb ≤ 64 := by omega
      have HLS := Lib.hid hLs
      have HLT := Lib.hid hLt
      have H0 := Lib.hid hE
      clear B0 E1 E2 hc1 hc2 hl1 hl2 hLs hLt hE
      go_wp2
      go_quiet (fail)
      go_wp2
      have PA6 := Lib.hid (PA.out.below (below_draw w5 nq))
      have PB6 := Lib.hid (PB.out.below (below_draw w5 nq))
      have PS6 := Lib.hid (PS.out.below (below_draw w5 nq))
      have PT6 := Lib.hid (PT.out.below (below_draw w5 nq))
      have PZ6 := Lib.hid (PZ.out.below (below_draw w5 nq))
      have PK6 := Lib.hid (below_drew PK.out nq)
      have hz6 : w.heap.size < (w5.drewN nq).heap.size := hz5
      clear hz5 PA PB PS PT PZ PK a0 a1 b0 b1
      generalize w5.drewN nq = W at *
      have c0 := PA6.out.n
      have c1 := PA6.out.s
      go_upto_region 6 with fail
      go_cut [9] (fun s9 wx => ∃ g a' cap', s9 = .pointer (some ⟨g, 0, none⟩) ∧ wx.cell? ⟨g, 0, none⟩ = some (.int .i64 N) ∧ wx.cell? ⟨g, 1, none⟩ = some (.slice a' lb cap') ∧ wx.ownsRow W.heap.size 58 1 (.slice a' lb cap') lb (u64s ws) ∧
        (∀ h, a' = some h → h.block ≠ g) ∧ W.heap.size ≤ g ∧ Below W.heap.size W wx)
      case first =>
        have HC : Hid (∀ w', Below W.heap.size W w' → w'.cell? ⟨A, 0, none⟩ = some (.int .i64 N) ∧ w'.cell? ⟨A, 1, none⟩ = some (.slice a lb cap)) := fun w' h => ⟨cell_later h c0, cell_later h c1⟩
        go_region_held3 (fun w' => Below W.heap.size W w' ∧ w'.cell? ⟨A, 0, none⟩ = some (.int .i64 N) ∧ w'.cell? ⟨A, 1, none⟩ = some (.slice a lb cap))
          ((refine keepN HC ?_; first | exact (Below.refl _ _).drew | exact bel_alloc (by assumption) _ | exact bel_call (by assumption) (by assumption) | exact bel_realloc (by assumption) (by first | omega | (simp; omega) | simp) _ | exact bel_set2 (by assumption) (by first | omega | (simp; omega) | simp) _ _))
          (first | (go_at_call 68; refine (clone_ok a lb cap ws _ (PS6.out.below (And.left (by assumption))) (by omega)).mono ?_; rintro e w' ⟨v, rfl, hown, hb⟩; have hbW : Below W.heap.size W w' := bel_call (W := W) (by assumption) hb; have hsz : W.heap.size ≤ w'.heap.size := hbW.size; obtain ⟨va, vcap, rfl⟩ : ∃ va vcap, v = .slice va lb vcap := own_slice hown; first | (refine lay_alloc (g := W.heap.size) hb rfl (fun q0 q1 q2 => ?_)) | skip))
        · go_wp2_with fail
          go_meet
          exact ⟨w'.heap.size, va, vcap, rfl, by simp [go_sem], by simp [go_sem], hown.alloc _, fun h e => by have := (hown.lt h.block (by rw [e]; rfl)).2; omega, hsz, hbW.alloc hsz _⟩
        · go_wp2_with fail
          go_meet
          have hne : ∀ h, va = some h → h.block ≠ W.heap.size := fun h e => by have := (hown.lt h.block (by rw [e]; rfl)).1; simp at this; omega
          have hob : ∀ j, (Value.slice va lb vcap).ownBlock ≠ some (⟨W.heap.size, j, none⟩ : Addr).block := fun j e => by
            cases va with
            | none => cases e
            | some h => exact hne h rfl (by simpa [Value.ownBlock] using e)
          exact ⟨W.heap.size, va, vcap, rfl, by simp [go_sem, q0], by simp [go_sem, q1], ownsRow_setCell_other (ownsRow_setCell_other (ownsRow_le hown (by simp)) (hob 0) _) (hob 1) _, hne, Nat.le_refl _, (hbW.setCell (p := ⟨W.heap.size, 0, none⟩) (Nat.le_refl _) _).setCell (p := ⟨W.heap.size, 1, none⟩) (Nat.le_refl _) _⟩
      case rest =>
        obtain ⟨g, a', cap', rfl, e0, e1', ho, hne, hgW, hb⟩ := hcut
        have hob : (some g : Option Nat) ≠ (Value.slice a' lb cap').ownBlock := fun e => by
          cases a' with
          | none => cases e
          | some h => exact hne h rfl (by simpa [Value.ownBlock] using e.symm)
        have hobA : ∀ x, x < W.heap.size → (some x : Option Nat) ≠ (Value.slice a' lb cap').ownBlock := fun x hx e => by have := (ho.lt _ e.symm).1; omega
        have RB := Lib.hid (PB6.out.below hb)
        have RT := Lib.hid (PT6.out.below hb)
        have RZ := Lib.hid (PZ6.out.below hb)
        have RK := Lib.hid (PK6.out.trans (hb.mono (by omega)))
        have HO := Lib.hid ho
        have HOB := Lib.hid hob
        have HOA := Lib.hid hobA
        have f1 : wc.frozen? ⟨g, 1, none⟩ = wc.frozen? ⟨g, 1, none⟩ := rfl
        have hgz : g < wc.heap.size := World.block_lt_of_cell? _ _ e0
        have hWz := hb.size
        have b1 := RB.out.s
        have HTB : Hid (∀ A, b = some A → lb ≠ 0 → A.block < W.heap.size) := Lib.hid (fun A e h0 => PT6.out.lt h0 A e)
        have E0 := Lib.hid e0
        have E1 := Lib.hid e1'
        clear hb ho hob hobA hne f1 c0 c1 e0 e1'
        go_wp2
        go_loopw [51] (fun i wr => ∃ k : Nat, i = .int .i64 k ∧ k ≤ lb ∧ Hid (wr.ownsRow W.heap.size 58 1 (.slice a' lb cap') lb (u64s (zmid o ws vs k))) ∧ Hid (wc.grownBy wr (Value.slice a' lb cap').ownBlock)) (fun i _ => lb - (intOf i).toNat)
        case atStart => exact ⟨0, rfl, Nat.zero_le _, Lib.hid (by rw [zmid_zero]; exact HO.out), Lib.hid (World.grownBy.refl _ _)⟩
        case round =>
          obtain ⟨k, rfl, hk, HO2, HG⟩ := hrel
          have e1 := HG.out.cell E1.out HOB.out
          by_cases hlt : k < lb
          · have hO := HO2.out
            obtain ⟨gr, cap2, hv'⟩ := ownsRow_form hO (by omega)
            cases hv'
            have hck := own_u64 hO (by rw [zmid_length]; exact HLS.out) k hlt
            rw [zmid_get _ _ _ _ _ (by rw [HLS.out]; exact hlt), if_neg (Nat.lt_irrefl _)] at hck
            have hfz := hO.frozenAt k
            obtain ⟨bb, bo, rfl, hcb⟩ := RT.out.cells.resolve_left (by omega)
            have hcbk := HG.out.cell (hcb k hlt) (by have := HTB.out _ rfl (by omega); exact HOA.out bb this)
            obtain ⟨X, hX⟩ : ∃ X, ws.getD k 0 = X := ⟨_, rfl⟩
            obtain ⟨Y, hY⟩ : ∃ Y, vs.getD k 0 = Y := ⟨_, rfl⟩
            have hXr : X < 18446744073709551616 := by rw [← hX]; exact getD_lt hw (by decide) k
            have hYr : Y < 18446744073709551616 := by rw [← hY]; exact getD_lt hv (by decide) k
            rw [hX] at hck
            rw [hY] at hcbk
            have hst := zmid_step o ws vs k (by rw [HLS.out]; exact hlt)
            rw [hX, hY] at hst
            have HST := Lib.hid hst
            have HO3 := Lib.hid hO
            have hlti : (k : Int) < (lb : Int) := by omega
            have hk0 : (0 : Int) ≤ (k : Int) := by omega
            clear hO hcb hX hY hst
            go_wp2
            go_region_law ((go_simp; go_at_call 73; refine (hF.out.2 _ _ _ hXr hYr).mono ?_; rintro e w' ⟨rfl, rfl⟩))
            all_goals
              go_wp2
              have Q := u64_stored HO3.out HG.out HST.out
              exact ⟨⟨k + 1, by go_num, by omega, Lib.hid Q.1, Lib.hid Q.2⟩, by simp [intOf]; omega⟩
          · have hkl : k = lb := by omega
            subst hkl
            have HZW := Lib.hid (zmid_end o ws vs (by rw [HLS.out, HLT.out]))
            have RZ2 := RZ.out.grown HG.out (HOA.out _ (by omega))
            have r0 := RZ2.r0
            have r1 := RZ2.r1
            have f0 := RZ2.f0
            have f1 := RZ2.f1
            have g0 := HG.out.cell E0.out HOB.out
            have RK2 := Lib.hid (RK.out.grown HG.out (by omega) (by intro r hr; have := (HO2.out.lt r hr).1; omega))
            clear RZ2
            go_wp2
            refine bodyPost_ret (v := .tuple #[.agg #[.int .i64 N, .slice a' k cap'], .int .i64 0]) (by simp [results, Tryd.results69, go_sem, r0, r1]) rfl ⟨_, by rw [HB0.out], ?_, (RK2.out.setCell (p := ⟨w.heap.size, 0, none⟩) (by simp) _).setCell (p := ⟨w.heap.size, 1, none⟩) (by simp) _⟩
            rw [HE1'.out, HE2'.out]
            have hO := HO2.out
            rw [← HLS.out, HZW.out, HLS.out] at hO
            obtain ⟨m, rfl⟩ := Int.eq_ofNat_of_zero_le hN0
            exact BtR.stored hO hz6 (by rw [List.length_zipWith, HLS.out, HLT.out]; omega) _ _
    · have B0 : bothE N ws M vs = 2 := by rw [HBE.out, if_neg (by omega), if_pos hNM]
      have E1 : zipN N ws M vs = 0 := by unfold zipN; rw [B0]; rfl
      have E2 : zipW o N ws M vs = [] := by unfold zipW; rw [B0]; rfl
      have HB0 := Lib.hid B0
      have HE1' := Lib.hid E1
      have HE2' := Lib.hid E2
      have hnb : (N != M) = true := by simpa using hNM
      have H0 := Lib.hid hE
      clear B0 E1 E2 hNM hE
      go_wp2
      have r0 := PZ.out.r0
      have r1 := PZ.out.r1
      have f0 := PZ.out.f0
      have f1 := PZ.out.f1
      go_quiet (fail)
      go_wp2
      exact bodyPost_ret (v := .tuple #[.agg #[.int .i64 0, .slice none 0 0], .int .i64 2]) (by simp [results, Tryd.results69, go_sem, r0, r1]) rfl ⟨_, by rw [HB0.out], by rw [HE1'.out, HE2'.out]; exact BtR.zero _, below_drew ((PK.out.setCell (p := ⟨w.heap.size, 0, none⟩) (by simp) _).setCell (p := ⟨w.heap.size, 1, none⟩) (by simp) _) _⟩
  · have hEb : (e1 != 0) = true := bne0_true hE
    have B0 : bothE N ws M vs = e1 := by rw [HBE.out, if_pos hE]
    have E1 : zipN N ws M vs = 0 := by unfold zipN; rw [if_neg (by rw [B0]; exact hE)]
    have E2 : zipW o N ws M vs = [] := by unfold zipW; rw [if_neg (by rw [B0]; exact hE)]
    have HB0 := Lib.hid B0
    have HE1' := Lib.hid E1
    have HE2' := Lib.hid E2
    have r0 := PZ.out.r0
    have r1 := PZ.out.r1
    have f0 := PZ.out.f0
    have f1 := PZ.out.f1
    clear B0 E1 E2 hE
    go_wp2
    exact bodyPost_ret (v := .tuple #[.agg #[.int .i64 0, .slice none 0 0], .int .i64 e1]) (by simp [results, Tryd.results69, go_sem, r0, r1]) rfl ⟨_, by rw [HB0.out], by rw [HE1'.out, HE2'.out]; exact BtR.zero _, (PK.out.setCell (p := ⟨w.heap.size, 0, none⟩) (by simp) _).setCell (p := ⟨w.heap.size, 1, none⟩) (by simp) _⟩
end Go.Proofs.YtikdgnfcckenmaaDoor
