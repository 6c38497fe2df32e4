/- Refusals: copies of plans, Start, wide; CheckState of the reference. -/
import Derived.Test.YtpjhedkloljpjaaDoorRRR5O
import Derived.Test.YtpjhedkloljpjaaDoorRRR5PlainH
namespace Go.Proofs.YtpjhedkloljpjaaDoorRR
open Go.RowKit Go.Sort Go.Joins Go.Shelf
attribute [local go_sem] cell_grow frozen_grow size_grow
attribute [local go_sem ↓] Go.wp_at_zero Go.wp_at_succ

/-- rules as cells -/
def rlc (L : List Rl) : List Value := L.flatMap fun x => [.int .i64 x.1, .int .i64 x.2.1, .int .i64 x.2.2.1, .int .i64 x.2.2.2]
theorem rlc_snoc (L : List Rl) (x : Rl) : rlc (L ++ [x]) = rlc L ++ [.int .i64 x.1, .int .i64 x.2.1, .int .i64 x.2.2.1, .int .i64 x.2.2.2] := by simp [rlc]
theorem rlc_length (L : List Rl) : (rlc L).length = L.length * 4 := by
  induction L with
  | nil => rfl
  | cons x L ih =>
    have e : rlc (x :: L) = [.int .i64 x.1, .int .i64 x.2.1, .int .i64 x.2.2.1, .int .i64 x.2.2.2] ++ rlc L := rfl
    rw [e, List.length_append, ih]; simp; omega
theorem rlc_get (L : List Rl) (k : Nat) (h : k < L.length) : (rlc L)[k * 4]? = some (.int .i64 (L.getD k rl0).1) ∧ (rlc L)[k * 4 + 1]? = some (.int .i64 (L.getD k rl0).2.1) ∧ (rlc L)[k * 4 + 2]? = some (.int .i64 (L.getD k rl0).2.2.1) ∧ (rlc L)[k * 4 + 3]? = some (.int .i64 (L.getD k rl0).2.2.2) := by
  induction L generalizing k with
  | nil => simp at h
  | cons x L ih =>
    cases k with
    | zero => simp [rlc]
    | succ k =>
      have := ih k (by simpa using h)
      simp only [rlc, List.flatMap_cons] at this ⊢
      rw [List.getElem?_append_right (by simp; omega), List.getElem?_append_right (by simp; omega), List.getElem?_append_right (by simp; omega), List.getElem?_append_right (by simp; omega)]
      simpa [show (k + 1) * 4 - 4 = k * 4 by omega, show (k + 1) * 4 + 1 - 4 = k * 4 + 1 by omega, show (k + 1) * 4 + 2 - 4 = k * 4 + 2 by omega, show (k + 1) * 4 + 3 - 4 = k * 4 + 3 by omega] using this
theorem rlc_one (L : List Rl) : ∀ u ∈ rlc L, u.oneCell' = true := by
  intro u hu
  obtain ⟨x, _, hx⟩ := List.mem_flatMap.1 hu
  simp at hx
  rcases hx with rfl | rfl | rfl | rfl <;> rfl
theorem info_rule : (Tryd.prog.info? 57).map (fun i => (i.zero, i.size, i.bytes)) = some (some (.agg #[.int .i64 0, .int .i64 0, .int .i64 0, .int .i64 0]), 4, 32) := by kernel_rfl
theorem SlR.of_own {w : World} {base len cap : Nat} {e : TypeId} {a : Option Addr} {L : List Rl} (h : w.ownsRow base e 4 (.slice a len cap) L.length (rlc L)) : SlR w a L.length (fun j => L.getD j rl0) := by
  by_cases h0 : L.length = 0
  · exact .inl h0
  · obtain ⟨g, cap', hv⟩ := ownsRow_form h (by omega)
    cases hv
    refine .inr ⟨g, 0, rfl, fun j hj => ?_⟩
    obtain ⟨e0, e1, e2, e3⟩ := rlc_get L j hj
    have c0 := h.cellAt (j * 4) (by omega)
    have c1 := h.cellAt (j * 4 + 1) (by omega)
    have c2 := h.cellAt (j * 4 + 2) (by omega)
    have c3 := h.cellAt (j * 4 + 3) (by omega)
    rw [e0] at c0
    rw [e1] at c1
    rw [e2] at c2
    rw [e3] at c3
    rw [Nat.zero_add]
    exact ⟨c0, c1, c2, c3⟩
theorem SlR.congr {w : World} {a : Option Addr} {n : Nat} {R Q : Nat → Rl} (h : SlR w a n R) (hr : ∀ j, j < n → R j = Q j) : SlR w a n Q := by
  rcases h with h | ⟨b, o, ha, hc⟩
  · exact .inl h
  · exact .inr ⟨b, o, ha, fun j hj => by rw [← hr j hj]; exact hc j hj⟩
theorem getD_map {R : Nat → Rl} {n j : Nat} (hj : j < n) : ((List.range n).map R).getD j rl0 = R j := by simp [List.getD, hj]
/-- what is laid is the rules' cells -/
theorem SlR.news {w : World} {A : Addr} {n : Nat} {R : Nat → Rl} (h : SlR w (some A) n R) : ∀ j u, (rlc ((List.range n).map R))[j]? = some u → w.cell? (A.add j) = some u := by
  intro j u hu
  have hj : j < n * 4 := by
    have := (List.getElem?_eq_some_iff.1 hu).1
    rw [rlc_length] at this; simpa using this
  rcases h with h | ⟨b, o, ha, hc⟩
  · omega
  · cases ha
    have hk : j / 4 < n := by omega
    obtain ⟨h0, h1, h2, h3⟩ := hc (j / 4) hk
    obtain ⟨e0, e1, e2, e3⟩ := rlc_get ((List.range n).map R) (j / 4) (by simpa using hk)
    rw [getD_map hk] at e0 e1 e2 e3
    have hadd : Addr.add ⟨b, o, none⟩ j = ⟨b, o + j, none⟩ := by simp [Addr.add]
    rw [hadd]
    have hm : j % 4 = 0 ∨ j % 4 = 1 ∨ j % 4 = 2 ∨ j % 4 = 3 := by omega
    rcases hm with hm | hm | hm | hm
    · have ej : j = j / 4 * 4 := by omega
      rw [← ej] at e0 h0; rw [e0] at hu; cases hu; exact h0
    · have ej : j = j / 4 * 4 + 1 := by omega
      rw [← ej] at e1; rw [e1] at hu; cases hu
      rw [show o + j = o + j / 4 * 4 + 1 by omega]; exact h1
    · have ej : j = j / 4 * 4 + 2 := by omega
      rw [← ej] at e2; rw [e2] at hu; cases hu
      rw [show o + j = o + j / 4 * 4 + 2 by omega]; exact h2
    · have ej : j = j / 4 * 4 + 3 := by omega
      rw [← ej] at e3; rw [e3] at hu; cases hu
      rw [show o + j = o + j / 4 * 4 + 3 by omega]; exact h3
/-- a slice of rules whose memory is new: from the block B on -/
def NewR (W : World) (B : Nat) (a : Option Addr) (n : Nat) (R : Nat → Rl) : Prop := SlR W a n R ∧ ∀ g, a = some g → B ≤ g.block
section
variable {w : World} {a : Option Addr} {n c : Nat} {R : Nat → Rl}
set_option maxHeartbeats 800000 in
theorem clone_ok (hS : SlR w a n R) (hn : n ≤ 100000) :
    Calls Tryd.prog 45 #[.slice a n c] w fun e w' => ∃ a' c', e = .returned (.slice a' n c') ∧ NewR w' w.heap.size a' n R ∧ Below w.heap.size w w' := by
  obtain ⟨i0, hi, hz0, hz1, hz2⟩ := info_parts info_rule
  cases a with
  | none =>
    have h0 : n = 0 := by rcases hS with h | ⟨_, _, h, _⟩; exact h; cases h
    subst h0
    have hq := fun (w : World) => Lib.run_eql_slice_nil (P := Tryd.prog) w 22 57 none 0 c 0 0 Tryd.underlying22
    go_enter Tryd.func45, Tryd.ntmps45
    go_wp2
    go_ret
    exact ⟨_, _, rfl, ⟨.inl rfl, fun g h => by cases h⟩, Below.refl _ _⟩
  | some ad =>
    have hq := fun (w : World) => Lib.run_eql_slice_nil (P := Tryd.prog) w 22 57 (some ad) n c 0 0 Tryd.underlying22
    have hN := (hS.below (below_box0 w (.cells #[] 57))).news
    have HN := Lib.hid hN
    clear hN hS
    go_enter Tryd.func45, Tryd.ntmps45
    go_wp2_with (at_builtin; refine wpList_append_own _ rfl (.tmp 5) (.tmp 6) 22 rfl w.heap.size 57 i0 (.agg #[.int .i64 0, .int .i64 0, .int .i64 0, .int .i64 0]) 4 32 Tryd.underlying22 hi hz0 hz1 hz2 rfl (by decide) _ _ _ rfl (World.ownsRow_lit w #[] 0 (Nat.le_refl _) (by decide) rfl) ad n c (rlc ((List.range n).map R)) rfl ?c1 HN.out (rlc_one _) ?c2 ?c3 ?c4 ?_)
    case c1 => rw [rlc_length]; simp
    case c2 => unfold maxLen; omega
    case c3 => omega
    case c4 => simp
    intro v' w1 hown hg _
    obtain ⟨a', c', rfl⟩ := own_slice hown
    go_wp2
    go_ret
    have hown2 : w1.ownsRow w.heap.size 57 4 (.slice a' (0 + n) c') ((List.range n).map R).length (rlc ((List.range n).map R)) := by simpa using hown
    refine ⟨a', c', rfl, ⟨?_, fun g e => ?_⟩, ((below_box0 _ _).grown hg (by simp) (by intro k hk; simp [Value.ownBlock] at hk; omega))⟩
    · have := SlR.of_own hown2
      rw [List.length_map, List.length_range] at this
      exact this.congr fun j hj => getD_map hj
    · exact (hown.lt g.block (by rw [e]; rfl)).1
def Z7 (_ : Nat) : Int := 0
/-- how many rules a state has that Start makes -/
def stN (n : Nat) (R : Nat → Rl) : Nat := if pE n R = 0 then n else 0
theorem stN_ok {n : Nat} {R : Nat → Rl} (h : pE n R = 0) : stN n R = n := if_pos h
theorem stN_err {n : Nat} {R : Nat → Rl} (h : pE n R ≠ 0) : stN n R = 0 := if_neg h
set_option maxRecDepth 100000 in
set_option maxHeartbeats 1600000 in
theorem Start_ok (hS : SlR w a n R) (hn : n ≤ 9223372036854775807) :
    Calls Tryd.prog 23 #[pV a n c] w fun e w' => ∃ a' c', e = .returned (.tuple #[sV a' (stN n R) c' Z7 Z7, .int .i64 (pE n R)]) ∧ SlR w' a' (stN n R) R ∧ Below w.heap.size w w' := by
  have b0 : Below w.heap.size w ((w.alloc (.cells #[.slice a n c] 24)).alloc (.cells #[.slice none 0 0, .int .i64 0, .int .i64 0, .int .i64 0, .int .i64 0, .int .i64 0, .int .i64 0, .int .i64 0, .int .i64 0, .int .i64 0, .int .i64 0, .int .i64 0, .int .i64 0, .int .i64 0, .int .i64 0] 38)) := ((Below.refl _ w).alloc (Nat.le_refl _) _).alloc (by simp) _
  have HS := Lib.hid (hS.below b0)
  have HC := Lib.hid (rfchk_ok (c := c) HS.out hn)
  have HB := Lib.hid b0
  have hnew : StC ((w.alloc (.cells #[.slice a n c] 24)).alloc (.cells #[.slice none 0 0, .int .i64 0, .int .i64 0, .int .i64 0, .int .i64 0, .int .i64 0, .int .i64 0, .int .i64 0, .int .i64 0, .int .i64 0, .int .i64 0, .int .i64 0, .int .i64 0, .int .i64 0, .int .i64 0] 38)) (w.heap.size + 1) none 0 0 Z7 Z7 := by
    have := StC.new (a := none) (n := 0) (c := 0) (C := Z7) (H := Z7) (w.alloc (.cells #[.slice a n c] 24))
    rw [World.size_alloc] at this
    exact this
  have HN := Lib.hid hnew
  clear b0 hS hnew
  obtain ⟨p, hp⟩ : ∃ p, pE n R = p := ⟨_, rfl⟩
  rw [hp] at HC
  by_cases hp0 : p = 0
  · subst hp0
    rw [stN_ok hp, hp]
    have hn50 := (pE_zero hp).1
    clear hp
    go_enter Tryd.func23, Tryd.ntmps23
    go_wp2_with fail
    refine HC.out.mono ?_
    rintro e w1 ⟨rfl, b1⟩
    have k0 : w1.cell? ⟨w.heap.size, 0, none⟩ = some (.slice a n c) := cell_later b1 (by simp [go_sem])
    have HB1 := Lib.hid (below_tr HB.out b1)
    have HS1 := Lib.hid (HS.out.below b1)
    have HN1 := Lib.hid (HN.out.below b1)
    clear b1
    go_wp2_with fail
    refine (clone_ok HS1.out (by omega)).mono ?_
    rintro e w2 ⟨a', c', rfl, hn2, b2⟩
    have HB2 := Lib.hid (below_tr HB1.out b2)
    have hN2 := HN1.out.below b2
    have HS2 := Lib.hid hn2
    obtain ⟨s0, s1, s2, s3, s4, s5, s6, s7, s8, s9, s10, s11, s12, s13, s14⟩ := hN2.cells
    have hf := hN2.fz
    have HN2 := Lib.hid hN2
    clear b2 hn2 k0 hN2
    go_wp2
    refine bodyPost_ret (v := .tuple #[sV a' n c' Z7 Z7, .int .i64 0]) (by simp [results, Tryd.results23, go_sem, Z7, s0, s1, s2, s3, s4, s5, s6, s7, s8, s9, s10, s11, s12, s13, s14]) rfl ⟨a', c', rfl, slr15 HS2.out.1 (fun g e => by have := HS2.out.2 g e; have := HN1.out.lt; omega) _ _ _ _ _ _ _ _ _ _ _ _ _ _ _, below15 HB2.out (by simp) _ _ _ _ _ _ _ _ _ _ _ _ _ _ _⟩
  · have d1 := bne0_true hp0
    rw [stN_err (by rw [hp]; exact hp0), hp]
    clear hp hp0
    go_enter Tryd.func23, Tryd.ntmps23
    go_wp2_with fail
    refine HC.out.mono ?_
    rintro e w1 ⟨rfl, b1⟩
    have HB1 := Lib.hid (below_tr HB.out b1)
    have hN2 := HN.out.below b1
    obtain ⟨s0, s1, s2, s3, s4, s5, s6, s7, s8, s9, s10, s11, s12, s13, s14⟩ := hN2.cells
    have hf := hN2.fz
    have HN2 := Lib.hid hN2
    clear b1 hN2
    go_wp2
    exact bodyPost_ret (v := .tuple #[sV none 0 0 Z7 Z7, .int .i64 p]) (by simp [results, Tryd.results23, go_sem, Z7, s0, s1, s2, s3, s4, s5, s6, s7, s8, s9, s10, s11, s12, s13, s14]) rfl ⟨none, 0, rfl, .inl rfl, below15 HB1.out (by simp) _ _ _ _ _ _ _ _ _ _ _ _ _ _ _⟩
end
end Go.Proofs.YtpjhedkloljpjaaDoorRR
