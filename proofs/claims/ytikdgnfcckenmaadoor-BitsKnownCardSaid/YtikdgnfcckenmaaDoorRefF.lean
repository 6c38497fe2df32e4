/- The reference for bits: both, And, Or, Less, Flip. -/
import Derived.Test.YtikdgnfcckenmaaDoorRefE
import Derived.Test.YtikdgnfcckenmaaDoorBoxes
import Derived.Deep.RegionHeld3
namespace Go.Proofs.YtikdgnfcckenmaaDoor
open Go.RowKit Go.Sort Go.Joins
attribute [local go_sem] cell_grow frozen_grow size_grow

/-- two bitmaps, each in a box -/
structure RAt2 (w : World) (N : Int) (a : Option Addr) (len cap : Nat) (ws : List Nat) (M : Int) (b : Option Addr) (lb cb : Nat) (vs : List Nat) (W : World) : Prop where
  p : AtBits W w.heap.size N a len cap
  q : AtBits W (w.heap.size + 1) M b lb cb
  s : SlK .u64 W a len ws
  t : SlK .u64 W b lb vs
  k : Below w.heap.size w W
  l : w.heap.size + 1 < W.heap.size
section
variable {w : World} {N : Int} {a : Option Addr} {len cap : Nat} {ws : List Nat} {M : Int} {b : Option Addr} {lb cb : Nat} {vs : List Nat} {W W' : World}
theorem RAt2.below (h : RAt2 w N a len cap ws M b lb cb vs W) (hb : Below W.heap.size W W') : RAt2 w N a len cap ws M b lb cb vs W' :=
  ⟨h.p.below hb, h.q.below hb, h.s.below hb, h.t.below hb, h.k.trans (hb.mono (by have := h.l; omega)), Nat.lt_of_lt_of_le h.l hb.size⟩
theorem RAt2.new (hs : SlK .u64 w a len ws) (ht : SlK .u64 w b lb vs) (T U : TypeId) : RAt2 w N a len cap ws M b lb cb vs ((w.alloc (.cells #[.int .i64 N, .slice a len cap] T)).alloc (.cells #[.int .i64 M, .slice b lb cb] U)) :=
  ⟨(AtBits.new w N a len cap T).below (below_box0 _ _), by have := AtBits.new (w.alloc (.cells #[.int .i64 N, .slice a len cap] T)) M b lb cb U; rwa [World.size_alloc] at this, (hs.alloc _).alloc _, (ht.alloc _).alloc _, below_alloc2 _ _ _, by simp⟩
end
theorem SlB.grown {W W' : World} {a : Option Addr} {n : Nat} {p : Nat → Bool} {row : Option Nat} (h : SlB W a n p) (hg : W.grownBy W' row) (hne : ∀ A, a = some A → some A.block ≠ row) : SlB W' a n p := by
  rcases h with h0 | ⟨b, off, ha, hc⟩
  · exact .inl h0
  · exact .inr ⟨b, off, ha, fun j hj => hg.cell (hc j hj) (hne ⟨b, off, none⟩ ha)⟩
theorem blk_lt' {w : World} {k : Nat} {o : Obj} (h : w.heap[k]? = some o) : k < w.heap.size := by
  rcases Nat.lt_or_ge k w.heap.size with h' | h'
  · exact h'
  · rw [Array.getElem?_eq_none h'] at h; cases h
theorem own_bel {w w' : World} {base : Nat} {e : TypeId} {size : Nat} {v : Value} {n : Nat} {xs : List Value} (h : w.ownsRow base e size v n xs) (hb : Below w.heap.size w w') : w'.ownsRow base e size v n xs := by
  obtain ⟨h1, h2⟩ := h
  refine ⟨h1, ?_⟩
  rcases h2 with h2 | ⟨g, cap, cur, hv, hg, hh, r⟩
  · exact Or.inl h2
  · exact Or.inr ⟨g, cap, cur, hv, hg, by rw [hb.block _ (blk_lt' hh)]; exact hh, r⟩

/-- the error of two bitmaps -/
def bothE (N : Int) (ws : List Nat) (M : Int) (vs : List Nat) : Int := if chk N ws ≠ 0 then chk N ws else if chk M vs ≠ 0 then chk M vs else if N ≠ M then 2 else 0
theorem bothE_zero {N : Int} {ws : List Nat} {M : Int} {vs : List Nat} (h : bothE N ws M vs = 0) : chk N ws = 0 ∧ chk M vs = 0 ∧ N = M := by
  unfold bothE at h
  by_cases h1 : chk N ws = 0
  · rw [if_neg (by simpa using h1)] at h
    by_cases h2 : chk M vs = 0
    · rw [if_neg (by simpa using h2)] at h
      by_cases h3 : N = M
      · exact ⟨h1, h2, h3⟩
      · rw [if_pos h3] at h; cases h
    · rw [if_pos h2] at h; exact absurd h h2
  · rw [if_pos h1] at h; exact absurd h h1
def joinN (N : Int) (ws : List Nat) (M : Int) (vs : List Nat) : Int := if bothE N ws M vs = 0 then N else 0
def joinW (o : Bool → Bool → Bool) (N : Int) (ws : List Nat) (M : Int) (vs : List Nat) : List Nat := if bothE N ws M vs = 0 then pack (fun i => o (bat ws i) (bat vs i)) ws.length else []

set_option maxRecDepth 100000 in
set_option maxHeartbeats 1600000 in
theorem both_ok (N : Int) (a : Option Addr) (len cap : Nat) (ws : List Nat) (M : Int) (b : Option Addr) (lb cb : Nat) (vs : List Nat) (w : World) (hs : SlK .u64 w a len ws) (ht : SlK .u64 w b lb vs) (hw : ∀ x ∈ ws, x < 18446744073709551616) (hv : ∀ x ∈ vs, x < 18446744073709551616) (hlen : len ≤ 9223372036854775807) (hlb : lb ≤ 9223372036854775807) :
    Calls Tryd.prog 71 #[.agg #[.int .i64 N, .slice a len cap], .agg #[.int .i64 M, .slice b lb cb]] w fun e w' => e = .returned (.int .i64 (bothE N ws M vs)) ∧ Below w.heap.size w w' := by
  have R0 := Lib.hid (RAt2.new (N := N) (M := M) (cap := cap) (cb := cb) hs ht 24 24)
  by_cases h1 : chk N ws = 0
  · have c0 : ((0 : Int) == 0) = true := rfl
    by_cases h2 : chk M vs = 0
    · by_cases h3 : N = M
      · have E : bothE N ws M vs = 0 := by unfold bothE; rw [if_neg (by simpa using h1), if_neg (by simpa using h2), if_neg (by simpa using h3)]
        rw [E]
        subst h3
        have H1 := Lib.hid h1
        have H2 := Lib.hid h2
        clear h1 h2 E
        go_enter Tryd.func71, Tryd.ntmps71
        go_wp2_with fail
        refine (rCheck_ok N a len cap ws _ R0.out.s hw hlen).mono ?_
        rintro e w1 ⟨rfl, b1⟩
        rw [H1.out]
        have R1 := Lib.hid (R0.out.below b1)
        have c2 := R1.out.p.n
        have c3 := R1.out.q.n
        have c4 := R1.out.q.s
        clear b1
        go_wp2_with fail
        refine (rCheck_ok N b lb cb vs _ R1.out.t hv hlb).mono ?_
        rintro e w2 ⟨rfl, b2⟩
        rw [H2.out]
        have R2 := Lib.hid (R1.out.below b2)
        have d2 := R2.out.p.n
        have d3 := R2.out.q.n
        clear b2
        go_wp2
        go_ret
        exact ⟨rfl, R2.out.k⟩
      · have E : bothE N ws M vs = 2 := by unfold bothE; rw [if_neg (by simpa using h1), if_neg (by simpa using h2), if_pos h3]
        rw [E]
        have hne : (N != M) = true := by simpa using h3
        have H1 := Lib.hid h1
        have H2 := Lib.hid h2
        clear h1 h2 E h3
        go_enter Tryd.func71, Tryd.ntmps71
        go_wp2_with fail
        refine (rCheck_ok N a len cap ws _ R0.out.s hw hlen).mono ?_
        rintro e w1 ⟨rfl, b1⟩
        rw [H1.out]
        have R1 := Lib.hid (R0.out.below b1)
        have c2 := R1.out.p.n
        have c3 := R1.out.q.n
        have c4 := R1.out.q.s
        clear b1
        go_wp2_with fail
        refine (rCheck_ok M b lb cb vs _ R1.out.t hv hlb).mono ?_
        rintro e w2 ⟨rfl, b2⟩
        rw [H2.out]
        have R2 := Lib.hid (R1.out.below b2)
        have d2 := R2.out.p.n
        have d3 := R2.out.q.n
        clear b2
        go_wp2
        go_ret
        exact ⟨rfl, R2.out.k⟩
    · have E : bothE N ws M vs = chk M vs := by unfold bothE; rw [if_neg (by simpa using h1), if_pos h2]
      rw [E]
      have hne : (chk M vs == 0) = false := by simpa using h2
      have H1 := Lib.hid h1
      clear h1 h2 E
      go_enter Tryd.func71, Tryd.ntmps71
      go_wp2_with fail
      refine (rCheck_ok N a len cap ws _ R0.out.s hw hlen).mono ?_
      rintro e w1 ⟨rfl, b1⟩
      rw [H1.out]
      have R1 := Lib.hid (R0.out.below b1)
      have c2 := R1.out.p.n
      have c3 := R1.out.q.n
      have c4 := R1.out.q.s
      clear b1
      go_wp2_with fail
      refine (rCheck_ok M b lb cb vs _ R1.out.t hv hlb).mono ?_
      rintro e w2 ⟨rfl, b2⟩
      have R2 := Lib.hid (R1.out.below b2)
      clear b2
      go_wp2
      go_ret
      exact ⟨rfl, R2.out.k⟩
  · have E : bothE N ws M vs = chk N ws := by unfold bothE; rw [if_pos h1]
    rw [E]
    have hne : (chk N ws == 0) = false := by simpa using h1
    clear h1 E
    go_enter Tryd.func71, Tryd.ntmps71
    go_wp2_with fail
    refine (rCheck_ok N a len cap ws _ R0.out.s hw hlen).mono ?_
    rintro e w1 ⟨rfl, b1⟩
    have R1 := Lib.hid (R0.out.below b1)
    clear b1
    go_wp2
    go_ret
    exact ⟨rfl, R1.out.k⟩

/-- a list of which the first k bits are joined -/
def mid (o : Bool → Bool → Bool) (p q : Nat → Bool) (k : Nat) (j : Nat) : Bool := if j < k then o (p j) (q j) else p j
theorem mid_step (o : Bool → Bool → Bool) (p q : Nat → Bool) (k n : Nat) {v : Bool} (h : o (p k) (q k) = v) : (bls (mid o p q k) n).set k (.bool v) = bls (mid o p q (k + 1)) n := by
  rw [bls_set]
  refine bls_congr fun i _ => ?_
  unfold mid
  by_cases hi : i = k
  · subst hi; rw [if_pos rfl, if_pos (by omega), h]
  · rw [if_neg hi]
    by_cases h2 : i < k
    · rw [if_pos h2, if_pos (by omega)]
    · rw [if_neg h2, if_neg (by omega)]
theorem mid_zero (o : Bool → Bool → Bool) (p q : Nat → Bool) (n : Nat) : bls (mid o p q 0) n = bls p n := bls_congr fun i _ => by unfold mid; rw [if_neg (by omega)]
theorem mid_at (o : Bool → Bool → Bool) (p q : Nat → Bool) (k : Nat) : mid o p q k k = p k := by unfold mid; rw [if_neg (by omega)]
theorem mid_end {o : Bool → Bool → Bool} {n : Nat} {ws vs : List Nat} (ho : o false false = false) (h1 : chk n ws = 0) (h2 : chk n vs = 0) (hE : bothE n ws n vs = 0) :
    pack (fun i => mid o (bat ws) (bat vs) n i && decide (i < n)) ((n + 63) / 64) = joinW o n ws n vs := by
  obtain ⟨_, _, hl, _⟩ := chk_zero h1
  unfold joinW
  rw [if_pos hE, show ws.length = (n + 63) / 64 by omega]
  refine pack_congr fun i _ => ?_
  by_cases hi : i < n
  · simp [mid, hi]
  · rw [chk_out h1 i (by omega), chk_out h2 i (by omega), ho]; simp [hi]

set_option maxRecDepth 100000 in
set_option maxHeartbeats 3200000 in
theorem rAnd_ok (N : Int) (a : Option Addr) (len cap : Nat) (ws : List Nat) (M : Int) (b : Option Addr) (lb cb : Nat) (vs : List Nat) (w : World) (hs : SlK .u64 w a len ws) (ht : SlK .u64 w b lb vs) (hw : ∀ x ∈ ws, x < 18446744073709551616) (hv : ∀ x ∈ vs, x < 18446744073709551616) (hlen : len ≤ 9223372036854775807) (hlb : lb ≤ 9223372036854775807) :
    Calls Tryd.prog 42 #[.agg #[.int .i64 N, .slice a len cap], .agg #[.int .i64 M, .slice b lb cb]] w fun e w' => ∃ v, e = .returned (.tuple #[v, .int .i64 (bothE N ws M vs)]) ∧ BtR w' v (joinN N ws M vs) (joinW (fun x y => x && y) N ws M vs) ∧ Below w.heap.size w w' := by
  have R0 := Lib.hid ((RAt2.new (N := N) (M := M) (cap := cap) (cb := cb) hs ht 24 24).below (below_box0 _ (.cells #[.int .i64 0, .slice none 0 0] 24)))
  have hz0 : ZAt (w.heap.size + 2) (((w.alloc (.cells #[.int .i64 N, .slice a len cap] 24)).alloc (.cells #[.int .i64 M, .slice b lb cb] 24)).alloc (.cells #[.int .i64 0, .slice none 0 0] 24)) := by
    have := ZAt.new ((w.alloc (.cells #[.int .i64 N, .slice a len cap] 24)).alloc (.cells #[.int .i64 M, .slice b lb cb] 24)) 24
    rwa [World.size_alloc, World.size_alloc] at this
  have HZ0 := Lib.hid hz0
  have hLs := hs.length
  have hLt := ht.length
  clear hz0
  by_cases hE : bothE N ws M vs = 0
  · obtain ⟨hc1, hc2, rfl⟩ := bothE_zero hE
    obtain ⟨hN0, hN, hl1, _⟩ := chk_zero hc1
    obtain ⟨_, _, hl2, _⟩ := chk_zero hc2
    obtain ⟨n, rfl⟩ := Int.eq_ofNat_of_zero_le hN0
    have E1 : joinN n ws n vs = n := if_pos hE
    rw [E1, ← mid_end (o := (fun x y => x && y)) rfl hc1 hc2 hE, hE]
    have HE := Lib.hid hE
    have hn : n ≤ 4096 := by omega
    have HL1 : Hid (len = (n + 63) / 64) := Lib.hid (by omega)
    have HL2 : Hid (lb = (n + 63) / 64) := Lib.hid (by omega)
    clear hE hc1 hc2 hl1 hl2 hLs hLt E1
    go_enter Tryd.func42, Tryd.ntmps42
    go_wp2_with fail
    refine (both_ok n a len cap ws n b lb cb vs _ R0.out.s R0.out.t hw hv hlen hlb).mono ?_
    rintro e w1 ⟨rfl, b1⟩
    rw [HE.out]
    have R1 := Lib.hid (R0.out.below b1)
    have Z1 := Lib.hid (HZ0.out.below b1)
    have c0 := R1.out.p.n
    have c1 := R1.out.p.s
    have c2 := R1.out.q.n
    have c3 := R1.out.q.s
    clear b1
    go_wp2_with fail
    have HC : Hid (∀ w', Below w1.heap.size w1 w' → w'.cell? ⟨w.heap.size, 0, none⟩ = some (.int .i64 n) ∧ w'.cell? ⟨w.heap.size, 1, none⟩ = some (.slice a len cap) ∧ w'.cell? ⟨w.heap.size + 1, 0, none⟩ = some (.int .i64 n) ∧ w'.cell? ⟨w.heap.size + 1, 1, none⟩ = some (.slice b lb cb)) :=
      fun w' h => ⟨cell_later h c0, cell_later h c1, cell_later h c2, cell_later h c3⟩
    go_region_held3 (fun w' => Below w1.heap.size w1 w' ∧ w'.cell? ⟨w.heap.size, 0, none⟩ = some (.int .i64 n) ∧ w'.cell? ⟨w.heap.size, 1, none⟩ = some (.slice a len cap) ∧ w'.cell? ⟨w.heap.size + 1, 0, none⟩ = some (.int .i64 n) ∧ w'.cell? ⟨w.heap.size + 1, 1, none⟩ = some (.slice b lb cb))
      ((refine keepN HC ?_; first | exact (Below.refl _ _).drew | exact bel_call (by assumption) (by assumption)))
      (first
        | (go_at_call 51; (with_reducible refine (rList_ok n a len cap ws _ (R1.out.s.below (And.left (by assumption))) hw hn HL1.out).mono ?_); rintro e w2 ⟨va, rfl, ho1, hb1⟩; have g2 : Below w1.heap.size w1 w2 := bel_call (by assumption) hb1; have z2 : w1.heap.size ≤ w2.heap.size := g2.size; obtain ⟨va, vc, rfl⟩ : ∃ va' vc', va = .slice va' n vc' := own_slice ho1)
        | (go_at_call 51; (with_reducible refine (rList_ok n b lb cb vs _ (R1.out.t.below (And.left (by assumption))) hv hn HL2.out).mono ?_); rintro e w3 ⟨vb, rfl, ho2, hb2⟩; have g3 : Below w1.heap.size w1 w3 := bel_call (by assumption) hb2; obtain ⟨vb, vd, rfl⟩ : ∃ va' vc', vb = .slice va' n vc' := own_slice ho2))
    have ho1' : w2.ownsRow w1.heap.size 4 1 (.slice va n vc) n (bls (bat ws) n) := ho1
    have hoB := own_bel ho1' hb2
    have hmB : SlB w3 vb n (bat vs) := SlB.of_own ho2
    have hdis : ∀ A, vb = some A → some A.block ≠ (Value.slice va n vc).ownBlock := fun A e e2 => by
      have := (ho1'.lt A.block e2.symm).2
      have := (ho2.lt A.block (by rw [e]; rfl)).1
      omega
    have R3 := Lib.hid (R1.out.below g3)
    have Z3 := Lib.hid (Z1.out.below g3)
    have hz1 := Z1.out.lt
    have hz3 := g3.size
    have HO3 := Lib.hid hoB
    have HM3 := Lib.hid hmB
    have HDIS := Lib.hid hdis
    clear ho1 ho1' hb1 ho2 hb2 g2 g3 hoB hmB hdis z2
    go_wp2
    go_loopw [9] (fun i wr => ∃ k : Nat, i = .int .i64 k ∧ k ≤ n ∧ Hid (wr.ownsRow w1.heap.size 4 1 (.slice va n vc) n (bls (mid (fun x y => x && y) (bat ws) (bat vs) k) n)) ∧ Hid (w3.grownBy wr (Value.slice va n vc).ownBlock)) (fun i _ => n - (intOf i).toNat)
    case atStart => exact ⟨0, rfl, Nat.zero_le _, Lib.hid (by rw [mid_zero]; exact HO3.out), Lib.hid (World.grownBy.refl _ _)⟩
    case round =>
      obtain ⟨k, rfl, hk, HO, HG⟩ := hrel
      by_cases hlt : k < n
      · have hO := HO.out
        obtain ⟨g, cap', hv'⟩ := ownsRow_form hO (by omega)
        cases hv'
        have hck := own_bool hO k hlt
        rw [mid_at] at hck
        have hfz := hO.frozenAt k
        obtain ⟨gb, ob, rfl, hmc⟩ := (HM3.out.grown HG.out HDIS.out).resolve_left (by omega)
        have hcm := hmc k hlt
        have hlti : (k : Int) < (n : Int) := by omega
        have hk0 : (0 : Int) ≤ (k : Int) := by omega
        have HO' := Lib.hid hO
        obtain ⟨x, hx⟩ : ∃ x, bat ws k = x := ⟨_, rfl⟩
        obtain ⟨y, hy⟩ : ∃ y, bat vs k = y := ⟨_, rfl⟩
        rw [hx] at hck
        rw [hy] at hcm
        have HX := Lib.hid hx
        have HY := Lib.hid hy
        clear hO hmc hx hy
        cases x
        all_goals
          cases y
          all_goals
            go_wp2
            go_roundw
            case rel =>
              have hs := bls_stored (k := k) HO'.out HG.out (mid_step (fun x y => x && y) (bat ws) (bat vs) k n (by rw [HX.out, HY.out]))
              exact ⟨k + 1, by go_num, by omega, Lib.hid hs.1, Lib.hid hs.2⟩
            case measure => simp [intOf]; omega
      · have hkn : k = n := by omega
        subst hkn
        go_wp2_with fail
        refine (rOf_ok k (mid (fun x y => x && y) (bat ws) (bat vs) k) va vc _ (SlB.of_own HO.out) hn).mono ?_
        rintro e w4 ⟨a', cap', rfl, hown4, b4⟩
        have hnr : (some (w.heap.size + 2) : Option Nat) ≠ (Value.slice va k vc).ownBlock := fun e => by have := (HO.out.lt _ e.symm).1; omega
        have Zr := Z3.out.grown HG.out hnr
        have Z4 := Zr.below b4
        have r0 := Z4.r0
        have r1 := Z4.r1
        have f0 := Z4.f0
        have f1 := Z4.f1
        have hzr := Zr.lt
        have HO4 := Lib.hid hown4
        have HB4 := Lib.hid ((R3.out.k.grown HG.out (by omega) (by intro r hr; have := (HO.out.lt r hr).1; omega)).trans (b4.mono (by omega)))
        clear hown4 b4 Zr Z4 hnr
        go_wp2
        exact bodyPost_ret (v := .tuple #[.agg #[.int .i64 k, .slice a' ((k + 63) / 64) cap'], .int .i64 0]) (by simp [results, Tryd.results42, go_sem, r0, r1]) rfl ⟨_, rfl, BtR.stored HO4.out hzr (pack_length _ _) _ _, (HB4.out.setCell (p := ⟨w.heap.size + 2, 0, none⟩) (by simp) _).setCell (p := ⟨w.heap.size + 2, 1, none⟩) (by simp) _⟩
  · have hpb := bne0_true hE
    have E1 : joinN N ws M vs = 0 := if_neg hE
    have E2 : joinW (fun x y => x && y) N ws M vs = [] := if_neg hE
    rw [E1, E2]
    clear hE E1 E2 hLs hLt
    go_enter Tryd.func42, Tryd.ntmps42
    go_wp2_with fail
    refine (both_ok N a len cap ws M b lb cb vs _ R0.out.s R0.out.t hw hv hlen hlb).mono ?_
    rintro e w1 ⟨rfl, b1⟩
    have Z1 := HZ0.out.below b1
    have r0 := Z1.r0
    have r1 := Z1.r1
    have f0 := Z1.f0
    have f1 := Z1.f1
    have HB1 := Lib.hid (R0.out.below b1).k
    clear b1 Z1
    go_wp2
    exact bodyPost_ret (v := .tuple #[.agg #[.int .i64 0, .slice none 0 0], .int .i64 (bothE N ws M vs)]) (by simp [results, Tryd.results42, go_sem, r0, r1]) rfl ⟨_, rfl, BtR.zero _, (HB1.out.setCell (p := ⟨w.heap.size + 2, 0, none⟩) (by simp) _).setCell (p := ⟨w.heap.size + 2, 1, none⟩) (by simp) _⟩

set_option maxRecDepth 100000 in
set_option maxHeartbeats 3200000 in
theorem rOr_ok (N : Int) (a : Option Addr) (len cap : Nat) (ws : List Nat) (M : Int) (b : Option Addr) (lb cb : Nat) (vs : List Nat) (w : World) (hs : SlK .u64 w a len ws) (ht : SlK .u64 w b lb vs) (hw : ∀ x ∈ ws, x < 18446744073709551616) (hv : ∀ x ∈ vs, x < 18446744073709551616) (hlen : len ≤ 9223372036854775807) (hlb : lb ≤ 9223372036854775807) :
    Calls Tryd.prog 44 #[.agg #[.int .i64 N, .slice a len cap], .agg #[.int .i64 M, .slice b lb cb]] w fun e w' => ∃ v, e = .returned (.tuple #[v, .int .i64 (bothE N ws M vs)]) ∧ BtR w' v (joinN N ws M vs) (joinW (fun x y => x || y) N ws M vs) ∧ Below w.heap.size w w' := by
  have R0 := Lib.hid ((RAt2.new (N := N) (M := M) (cap := cap) (cb := cb) hs ht 24 24).below (below_box0 _ (.cells #[.int .i64 0, .slice none 0 0] 24)))
  have hz0 : ZAt (w.heap.size + 2) (((w.alloc (.cells #[.int .i64 N, .slice a len cap] 24)).alloc (.cells #[.int .i64 M, .slice b lb cb] 24)).alloc (.cells #[.int .i64 0, .slice none 0 0] 24)) := by
    have := ZAt.new ((w.alloc (.cells #[.int .i64 N, .slice a len cap] 24)).alloc (.cells #[.int .i64 M, .slice b lb cb] 24)) 24
    rwa [World.size_alloc, World.size_alloc] at this
  have HZ0 := Lib.hid hz0
  have hLs := hs.length
  have hLt := ht.length
  clear hz0
  by_cases hE : bothE N ws M vs = 0
  · obtain ⟨hc1, hc2, rfl⟩ := bothE_zero hE
    obtain ⟨hN0, hN, hl1, _⟩ := chk_zero hc1
    obtain ⟨_, _, hl2, _⟩ := chk_zero hc2
    obtain ⟨n, rfl⟩ := Int.eq_ofNat_of_zero_le hN0
    have E1 : joinN n ws n vs = n := if_pos hE
    rw [E1, ← mid_end (o := (fun x y => x || y)) rfl hc1 hc2 hE, hE]
    have HE := Lib.hid hE
    have hn : n ≤ 4096 := by omega
    have HL1 : Hid (len = (n + 63) / 64) := Lib.hid (by omega)
    have HL2 : Hid (lb = (n + 63) / 64) := Lib.hid (by omega)
    clear hE hc1 hc2 hl1 hl2 hLs hLt E1
    go_enter Tryd.func44, Tryd.ntmps44
    go_wp2_with fail
    refine (both_ok n a len cap ws n b lb cb vs _ R0.out.s R0.out.t hw hv hlen hlb).mono ?_
    rintro e w1 ⟨rfl, b1⟩
    rw [HE.out]
    have R1 := Lib.hid (R0.out.below b1)
    have Z1 := Lib.hid (HZ0.out.below b1)
    have c0 := R1.out.p.n
    have c1 := R1.out.p.s
    have c2 := R1.out.q.n
    have c3 := R1.out.q.s
    clear b1
    go_wp2_with fail
    have HC : Hid (∀ w', Below w1.heap.size w1 w' → w'.cell? ⟨w.heap.size, 0, none⟩ = some (.int .i64 n) ∧ w'.cell? ⟨w.heap.size, 1, none⟩ = some (.slice a len cap) ∧ w'.cell? ⟨w.heap.size + 1, 0, none⟩ = some (.int .i64 n) ∧ w'.cell? ⟨w.heap.size + 1, 1, none⟩ = some (.slice b lb cb)) :=
      fun w' h => ⟨cell_later h c0, cell_later h c1, cell_later h c2, cell_later h c3⟩
    go_region_held3 (fun w' => Below w1.heap.size w1 w' ∧ w'.cell? ⟨w.heap.size, 0, none⟩ = some (.int .i64 n) ∧ w'.cell? ⟨w.heap.size, 1, none⟩ = some (.slice a len cap) ∧ w'.cell? ⟨w.heap.size + 1, 0, none⟩ = some (.int .i64 n) ∧ w'.cell? ⟨w.heap.size + 1, 1, none⟩ = some (.slice b lb cb))
      ((refine keepN HC ?_; first | exact (Below.refl _ _).drew | exact bel_call (by assumption) (by assumption)))
      (first
        | (go_at_call 51; (with_reducible refine (rList_ok n a len cap ws _ (R1.out.s.below (And.left (by assumption))) hw hn HL1.out).mono ?_); rintro e w2 ⟨va, rfl, ho1, hb1⟩; have g2 : Below w1.heap.size w1 w2 := bel_call (by assumption) hb1; have z2 : w1.heap.size ≤ w2.heap.size := g2.size; obtain ⟨va, vc, rfl⟩ : ∃ va' vc', va = .slice va' n vc' := own_slice ho1)
        | (go_at_call 51; (with_reducible refine (rList_ok n b lb cb vs _ (R1.out.t.below (And.left (by assumption))) hv hn HL2.out).mono ?_); rintro e w3 ⟨vb, rfl, ho2, hb2⟩; have g3 : Below w1.heap.size w1 w3 := bel_call (by assumption) hb2; obtain ⟨vb, vd, rfl⟩ : ∃ va' vc', vb = .slice va' n vc' := own_slice ho2))
    have ho1' : w2.ownsRow w1.heap.size 4 1 (.slice va n vc) n (bls (bat ws) n) := ho1
    have hoB := own_bel ho1' hb2
    have hmB : SlB w3 vb n (bat vs) := SlB.of_own ho2
    have hdis : ∀ A, vb = some A → some A.block ≠ (Value.slice va n vc).ownBlock := fun A e e2 => by
      have := (ho1'.lt A.block e2.symm).2
      have := (ho2.lt A.block (by rw [e]; rfl)).1
      omega
    have R3 := Lib.hid (R1.out.below g3)
    have Z3 := Lib.hid (Z1.out.below g3)
    have hz1 := Z1.out.lt
    have hz3 := g3.size
    have HO3 := Lib.hid hoB
    have HM3 := Lib.hid hmB
    have HDIS := Lib.hid hdis
    clear ho1 ho1' hb1 ho2 hb2 g2 g3 hoB hmB hdis z2
    go_wp2
    go_loopw [9] (fun i wr => ∃ k : Nat, i = .int .i64 k ∧ k ≤ n ∧ Hid (wr.ownsRow w1.heap.size 4 1 (.slice va n vc) n (bls (mid (fun x y => x || y) (bat ws) (bat vs) k) n)) ∧ Hid (w3.grownBy wr (Value.slice va n vc).ownBlock)) (fun i _ => n - (intOf i).toNat)
    case atStart => exact ⟨0, rfl, Nat.zero_le _, Lib.hid (by rw [mid_zero]; exact HO3.out), Lib.hid (World.grownBy.refl _ _)⟩
    case round =>
      obtain ⟨k, rfl, hk, HO, HG⟩ := hrel
      by_cases hlt : k < n
      · have hO := HO.out
        obtain ⟨g, cap', hv'⟩ := ownsRow_form hO (by omega)
        cases hv'
        have hck := own_bool hO k hlt
        rw [mid_at] at hck
        have hfz := hO.frozenAt k
        obtain ⟨gb, ob, rfl, hmc⟩ := (HM3.out.grown HG.out HDIS.out).resolve_left (by omega)
        have hcm := hmc k hlt
        have hlti : (k : Int) < (n : Int) := by omega
        have hk0 : (0 : Int) ≤ (k : Int) := by omega
        have HO' := Lib.hid hO
        obtain ⟨x, hx⟩ : ∃ x, bat ws k = x := ⟨_, rfl⟩
        obtain ⟨y, hy⟩ : ∃ y, bat vs k = y := ⟨_, rfl⟩
        rw [hx] at hck
        rw [hy] at hcm
        have HX := Lib.hid hx
        have HY := Lib.hid hy
        clear hO hmc hx hy
        cases x
        all_goals
          cases y
          all_goals
            go_wp2
            go_roundw
            case rel =>
              have hs := bls_stored (k := k) HO'.out HG.out (mid_step (fun x y => x || y) (bat ws) (bat vs) k n (by rw [HX.out, HY.out]))
              exact ⟨k + 1, by go_num, by omega, Lib.hid hs.1, Lib.hid hs.2⟩
            case measure => simp [intOf]; omega
      · have hkn : k = n := by omega
        subst hkn
        go_wp2_with fail
        refine (rOf_ok k (mid (fun x y => x || y) (bat ws) (bat vs) k) va vc _ (SlB.of_own HO.out) hn).mono ?_
        rintro e w4 ⟨a', cap', rfl, hown4, b4⟩
        have hnr : (some (w.heap.size + 2) : Option Nat) ≠ (Value.slice va k vc).ownBlock := fun e => by have := (HO.out.lt _ e.symm).1; omega
        have Zr := Z3.out.grown HG.out hnr
        have Z4 := Zr.below b4
        have r0 := Z4.r0
        have r1 := Z4.r1
        have f0 := Z4.f0
        have f1 := Z4.f1
        have hzr := Zr.lt
        have HO4 := Lib.hid hown4
        have HB4 := Lib.hid ((R3.out.k.grown HG.out (by omega) (by intro r hr; have := (HO.out.lt r hr).1; omega)).trans (b4.mono (by omega)))
        clear hown4 b4 Zr Z4 hnr
        go_wp2
        exact bodyPost_ret (v := .tuple #[.agg #[.int .i64 k, .slice a' ((k + 63) / 64) cap'], .int .i64 0]) (by simp [results, Tryd.results44, go_sem, r0, r1]) rfl ⟨_, rfl, BtR.stored HO4.out hzr (pack_length _ _) _ _, (HB4.out.setCell (p := ⟨w.heap.size + 2, 0, none⟩) (by simp) _).setCell (p := ⟨w.heap.size + 2, 1, none⟩) (by simp) _⟩
  · have hpb := bne0_true hE
    have E1 : joinN N ws M vs = 0 := if_neg hE
    have E2 : joinW (fun x y => x || y) N ws M vs = [] := if_neg hE
    rw [E1, E2]
    clear hE E1 E2 hLs hLt
    go_enter Tryd.func44, Tryd.ntmps44
    go_wp2_with fail
    refine (both_ok N a len cap ws M b lb cb vs _ R0.out.s R0.out.t hw hv hlen hlb).mono ?_
    rintro e w1 ⟨rfl, b1⟩
    have Z1 := HZ0.out.below b1
    have r0 := Z1.r0
    have r1 := Z1.r1
    have f0 := Z1.f0
    have f1 := Z1.f1
    have HB1 := Lib.hid (R0.out.below b1).k
    clear b1 Z1
    go_wp2
    exact bodyPost_ret (v := .tuple #[.agg #[.int .i64 0, .slice none 0 0], .int .i64 (bothE N ws M vs)]) (by simp [results, Tryd.results44, go_sem, r0, r1]) rfl ⟨_, rfl, BtR.zero _, (HB1.out.setCell (p := ⟨w.heap.size + 2, 0, none⟩) (by simp) _).setCell (p := ⟨w.heap.size + 2, 1, none⟩) (by simp) _⟩

set_option maxRecDepth 100000 in
set_option maxHeartbeats 3200000 in
theorem rLess_ok (N : Int) (a : Option Addr) (len cap : Nat) (ws : List Nat) (M : Int) (b : Option Addr) (lb cb : Nat) (vs : List Nat) (w : World) (hs : SlK .u64 w a len ws) (ht : SlK .u64 w b lb vs) (hw : ∀ x ∈ ws, x < 18446744073709551616) (hv : ∀ x ∈ vs, x < 18446744073709551616) (hlen : len ≤ 9223372036854775807) (hlb : lb ≤ 9223372036854775807) :
    Calls Tryd.prog 46 #[.agg #[.int .i64 N, .slice a len cap], .agg #[.int .i64 M, .slice b lb cb]] w fun e w' => ∃ v, e = .returned (.tuple #[v, .int .i64 (bothE N ws M vs)]) ∧ BtR w' v (joinN N ws M vs) (joinW (fun x y => x && !y) N ws M vs) ∧ Below w.heap.size w w' := by
  have R0 := Lib.hid ((RAt2.new (N := N) (M := M) (cap := cap) (cb := cb) hs ht 24 24).below (below_box0 _ (.cells #[.int .i64 0, .slice none 0 0] 24)))
  have hz0 : ZAt (w.heap.size + 2) (((w.alloc (.cells #[.int .i64 N, .slice a len cap] 24)).alloc (.cells #[.int .i64 M, .slice b lb cb] 24)).alloc (.cells #[.int .i64 0, .slice none 0 0] 24)) := by
    have := ZAt.new ((w.alloc (.cells #[.int .i64 N, .slice a len cap] 24)).alloc (.cells #[.int .i64 M, .slice b lb cb] 24)) 24
    rwa [World.size_alloc, World.size_alloc] at this
  have HZ0 := Lib.hid hz0
  have hLs := hs.length
  have hLt := ht.length
  clear hz0
  by_cases hE : bothE N ws M vs = 0
  · obtain ⟨hc1, hc2, rfl⟩ := bothE_zero hE
    obtain ⟨hN0, hN, hl1, _⟩ := chk_zero hc1
    obtain ⟨_, _, hl2, _⟩ := chk_zero hc2
    obtain ⟨n, rfl⟩ := Int.eq_ofNat_of_zero_le hN0
    have E1 : joinN n ws n vs = n := if_pos hE
    rw [E1, ← mid_end (o := (fun x y => x && !y)) rfl hc1 hc2 hE, hE]
    have HE := Lib.hid hE
    have hn : n ≤ 4096 := by omega
    have HL1 : Hid (len = (n + 63) / 64) := Lib.hid (by omega)
    have HL2 : Hid (lb = (n + 63) / 64) := Lib.hid (by omega)
    clear hE hc1 hc2 hl1 hl2 hLs hLt E1
    go_enter Tryd.func46, Tryd.ntmps46
    go_wp2_with fail
    refine (both_ok n a len cap ws n b lb cb vs _ R0.out.s R0.out.t hw hv hlen hlb).mono ?_
    rintro e w1 ⟨rfl, b1⟩
    rw [HE.out]
    have R1 := Lib.hid (R0.out.below b1)
    have Z1 := Lib.hid (HZ0.out.below b1)
    have c0 := R1.out.p.n
    have c1 := R1.out.p.s
    have c2 := R1.out.q.n
    have c3 := R1.out.q.s
    clear b1
    go_wp2_with fail
    have HC : Hid (∀ w', Below w1.heap.size w1 w' → w'.cell? ⟨w.heap.size, 0, none⟩ = some (.int .i64 n) ∧ w'.cell? ⟨w.heap.size, 1, none⟩ = some (.slice a len cap) ∧ w'.cell? ⟨w.heap.size + 1, 0, none⟩ = some (.int .i64 n) ∧ w'.cell? ⟨w.heap.size + 1, 1, none⟩ = some (.slice b lb cb)) :=
      fun w' h => ⟨cell_later h c0, cell_later h c1, cell_later h c2, cell_later h c3⟩
    go_region_held3 (fun w' => Below w1.heap.size w1 w' ∧ w'.cell? ⟨w.heap.size, 0, none⟩ = some (.int .i64 n) ∧ w'.cell? ⟨w.heap.size, 1, none⟩ = some (.slice a len cap) ∧ w'.cell? ⟨w.heap.size + 1, 0, none⟩ = some (.int .i64 n) ∧ w'.cell? ⟨w.heap.size + 1, 1, none⟩ = some (.slice b lb cb))
      ((refine keepN HC ?_; first | exact (Below.refl _ _).drew | exact bel_call (by assumption) (by assumption)))
      (first
        | (go_at_call 51; (with_reducible refine (rList_ok n a len cap ws _ (R1.out.s.below (And.left (by assumption))) hw hn HL1.out).mono ?_); rintro e w2 ⟨va, rfl, ho1, hb1⟩; have g2 : Below w1.heap.size w1 w2 := bel_call (by assumption) hb1; have z2 : w1.heap.size ≤ w2.heap.size := g2.size; obtain ⟨va, vc, rfl⟩ : ∃ va' vc', va = .slice va' n vc' := own_slice ho1)
        | (go_at_call 51; (with_reducible refine (rList_ok n b lb cb vs _ (R1.out.t.below (And.left (by assumption))) hv hn HL2.out).mono ?_); rintro e w3 ⟨vb, rfl, ho2, hb2⟩; have g3 : Below w1.heap.size w1 w3 := bel_call (by assumption) hb2; obtain ⟨vb, vd, rfl⟩ : ∃ va' vc', vb = .slice va' n vc' := own_slice ho2))
    have ho1' : w2.ownsRow w1.heap.size 4 1 (.slice va n vc) n (bls (bat ws) n) := ho1
    have hoB := own_bel ho1' hb2
    have hmB : SlB w3 vb n (bat vs) := SlB.of_own ho2
    have hdis : ∀ A, vb = some A → some A.block ≠ (Value.slice va n vc).ownBlock := fun A e e2 => by
      have := (ho1'.lt A.block e2.symm).2
      have := (ho2.lt A.block (by rw [e]; rfl)).1
      omega
    have R3 := Lib.hid (R1.out.below g3)
    have Z3 := Lib.hid (Z1.out.below g3)
    have hz1 := Z1.out.lt
    have hz3 := g3.size
    have HO3 := Lib.hid hoB
    have HM3 := Lib.hid hmB
    have HDIS := Lib.hid hdis
    clear ho1 ho1' hb1 ho2 hb2 g2 g3 hoB hmB hdis z2
    go_wp2
    go_loopw [9] (fun i wr => ∃ k : Nat, i = .int .i64 k ∧ k ≤ n ∧ Hid (wr.ownsRow w1.heap.size 4 1 (.slice va n vc) n (bls (mid (fun x y => x && !y) (bat ws) (bat vs) k) n)) ∧ Hid (w3.grownBy wr (Value.slice va n vc).ownBlock)) (fun i _ => n - (intOf i).toNat)
    case atStart => exact ⟨0, rfl, Nat.zero_le _, Lib.hid (by rw [mid_zero]; exact HO3.out), Lib.hid (World.grownBy.refl _ _)⟩
    case round =>
      obtain ⟨k, rfl, hk, HO, HG⟩ := hrel
      by_cases hlt : k < n
      · have hO := HO.out
        obtain ⟨g, cap', hv'⟩ := ownsRow_form hO (by omega)
        cases hv'
        have hck := own_bool hO k hlt
        rw [mid_at] at hck
        have hfz := hO.frozenAt k
        obtain ⟨gb, ob, rfl, hmc⟩ := (HM3.out.grown HG.out HDIS.out).resolve_left (by omega)
        have hcm := hmc k hlt
        have hlti : (k : Int) < (n : Int) := by omega
        have hk0 : (0 : Int) ≤ (k : Int) := by omega
        have HO' := Lib.hid hO
        obtain ⟨x, hx⟩ : ∃ x, bat ws k = x := ⟨_, rfl⟩
        obtain ⟨y, hy⟩ : ∃ y, bat vs k = y := ⟨_, rfl⟩
        rw [hx] at hck
        rw [hy] at hcm
        have HX := Lib.hid hx
        have HY := Lib.hid hy
        clear hO hmc hx hy
        cases x
        all_goals
          cases y
          all_goals
            go_wp2
            go_roundw
            case rel =>
              have hs := bls_stored (k := k) HO'.out HG.out (mid_step (fun x y => x && !y) (bat ws) (bat vs) k n (by rw [HX.out, HY.out]))
              exact ⟨k + 1, by go_num, by omega, Lib.hid hs.1, Lib.hid hs.2⟩
            case measure => simp [intOf]; omega
      · have hkn : k = n := by omega
        subst hkn
        go_wp2_with fail
        refine (rOf_ok k (mid (fun x y => x && !y) (bat ws) (bat vs) k) va vc _ (SlB.of_own HO.out) hn).mono ?_
        rintro e w4 ⟨a', cap', rfl, hown4, b4⟩
        have hnr : (some (w.heap.size + 2) : Option Nat) ≠ (Value.slice va k vc).ownBlock := fun e => by have := (HO.out.lt _ e.symm).1; omega
        have Zr := Z3.out.grown HG.out hnr
        have Z4 := Zr.below b4
        have r0 := Z4.r0
        have r1 := Z4.r1
        have f0 := Z4.f0
        have f1 := Z4.f1
        have hzr := Zr.lt
        have HO4 := Lib.hid hown4
        have HB4 := Lib.hid ((R3.out.k.grown HG.out (by omega) (by intro r hr; have := (HO.out.lt r hr).1; omega)).trans (b4.mono (by omega)))
        clear hown4 b4 Zr Z4 hnr
        go_wp2
        exact bodyPost_ret (v := .tuple #[.agg #[.int .i64 k, .slice a' ((k + 63) / 64) cap'], .int .i64 0]) (by simp [results, Tryd.results46, go_sem, r0, r1]) rfl ⟨_, rfl, BtR.stored HO4.out hzr (pack_length _ _) _ _, (HB4.out.setCell (p := ⟨w.heap.size + 2, 0, none⟩) (by simp) _).setCell (p := ⟨w.heap.size + 2, 1, none⟩) (by simp) _⟩
  · have hpb := bne0_true hE
    have E1 : joinN N ws M vs = 0 := if_neg hE
    have E2 : joinW (fun x y => x && !y) N ws M vs = [] := if_neg hE
    rw [E1, E2]
    clear hE E1 E2 hLs hLt
    go_enter Tryd.func46, Tryd.ntmps46
    go_wp2_with fail
    refine (both_ok N a len cap ws M b lb cb vs _ R0.out.s R0.out.t hw hv hlen hlb).mono ?_
    rintro e w1 ⟨rfl, b1⟩
    have Z1 := HZ0.out.below b1
    have r0 := Z1.r0
    have r1 := Z1.r1
    have f0 := Z1.f0
    have f1 := Z1.f1
    have HB1 := Lib.hid (R0.out.below b1).k
    clear b1 Z1
    go_wp2
    exact bodyPost_ret (v := .tuple #[.agg #[.int .i64 0, .slice none 0 0], .int .i64 (bothE N ws M vs)]) (by simp [results, Tryd.results46, go_sem, r0, r1]) rfl ⟨_, rfl, BtR.zero _, (HB1.out.setCell (p := ⟨w.heap.size + 2, 0, none⟩) (by simp) _).setCell (p := ⟨w.heap.size + 2, 1, none⟩) (by simp) _⟩

/-- what Flip makes -/
def flipN (N : Int) (ws : List Nat) : Int := if chk N ws = 0 then N else 0
def flipW (N : Int) (ws : List Nat) : List Nat := if chk N ws = 0 then pack (fun i => !bat ws i && decide (i < N.toNat)) ws.length else []
set_option maxRecDepth 100000 in
set_option maxHeartbeats 1600000 in
theorem rFlip_ok (N : Int) (a : Option Addr) (len cap : Nat) (ws : List Nat) (w : World) (hs : SlK .u64 w a len ws) (hw : ∀ x ∈ ws, x < 18446744073709551616) (hlen : len ≤ 9223372036854775807) :
    Calls Tryd.prog 48 #[.agg #[.int .i64 N, .slice a len cap]] w fun e w' => ∃ v, e = .returned (.tuple #[v, .int .i64 (chk N ws)]) ∧ BtR w' v (flipN N ws) (flipW N ws) ∧ Below w.heap.size w w' := by
  have hL := hs.length
  have hz0 : ZAt (w.heap.size + 1) ((w.alloc (.cells #[.int .i64 N, .slice a len cap] 24)).alloc (.cells #[.int .i64 0, .slice none 0 0] 24)) := by
    have := ZAt.new (w.alloc (.cells #[.int .i64 N, .slice a len cap] 24)) 24
    rwa [World.size_alloc] at this
  have HZ0 := Lib.hid hz0
  clear hz0
  by_cases hc : chk N ws = 0
  · obtain ⟨hN0, hN, hl, _⟩ := chk_zero hc
    obtain ⟨n, rfl⟩ := Int.eq_ofNat_of_zero_le hN0
    have E1 : flipN n ws = n := if_pos hc
    have E2 : flipW n ws = pack (fun i => mid (fun x _ => !x) (bat ws) (bat ws) n i && decide (i < n)) ((n + 63) / 64) := by
      unfold flipW
      rw [if_pos hc, Int.toNat_natCast, show ws.length = (n + 63) / 64 by omega]
      refine pack_congr fun i _ => ?_
      by_cases hi : i < n
      · simp [mid, hi]
      · simp [hi]
    rw [E1, E2, hc]
    have HC := Lib.hid hc
    have hn : n ≤ 4096 := by omega
    have HLN : Hid (len = (n + 63) / 64) := Lib.hid (by omega)
    clear hc hL hl E1 E2
    go_enter Tryd.func48, Tryd.ntmps48
    go_wp2_with fail
    refine (rCheck_ok n a len cap ws _ ((hs.alloc _).alloc _) hw hlen).mono ?_
    rintro e w1 ⟨rfl, b1⟩
    rw [HC.out]
    have R1 := Lib.hid (((RAt.new (N := n) (cap := cap) hs 24).below (below_box0 _ _)).below b1)
    have Z1 := Lib.hid (HZ0.out.below b1)
    have c0 := R1.out.b.n
    have c1 := R1.out.b.s
    clear b1
    go_wp2_with fail
    refine (rList_ok n a len cap ws _ R1.out.s hw hn HLN.out).mono ?_
    rintro e w2 ⟨v, rfl, hown, b2⟩
    obtain ⟨va, vc, rfl⟩ := own_slice hown
    have R2 := Lib.hid (R1.out.below b2)
    have Z2 := Lib.hid (Z1.out.below b2)
    have hz1 := Z1.out.lt
    have hz2 := b2.size
    have HO2 := Lib.hid hown
    clear b2 hown
    go_wp2
    go_loopw [6] (fun i wr => ∃ k : Nat, i = .int .i64 k ∧ k ≤ n ∧ Hid (wr.ownsRow w1.heap.size 4 1 (.slice va n vc) n (bls (mid (fun x _ => !x) (bat ws) (bat ws) k) n)) ∧ Hid (w2.grownBy wr (Value.slice va n vc).ownBlock)) (fun i _ => n - (intOf i).toNat)
    case atStart => exact ⟨0, rfl, Nat.zero_le _, Lib.hid (by rw [mid_zero]; exact HO2.out), Lib.hid (World.grownBy.refl _ _)⟩
    case round =>
      obtain ⟨k, rfl, hk, HO, HG⟩ := hrel
      by_cases hlt : k < n
      · have hO := HO.out
        obtain ⟨g, cap', hv'⟩ := ownsRow_form hO (by omega)
        cases hv'
        have hck := own_bool hO k hlt
        rw [mid_at] at hck
        have hfz := hO.frozenAt k
        have hlti : (k : Int) < (n : Int) := by omega
        have hk0 : (0 : Int) ≤ (k : Int) := by omega
        have HO' := Lib.hid hO
        clear hO
        go_wp2
        go_roundw
        case rel =>
          have hs := bls_stored (k := k) HO'.out HG.out (mid_step (fun x _ => !x) (bat ws) (bat ws) k n rfl)
          exact ⟨k + 1, by go_num, by omega, Lib.hid hs.1, Lib.hid hs.2⟩
        case measure => simp [intOf]; omega
      · have hkn : k = n := by omega
        subst hkn
        go_wp2_with fail
        refine (rOf_ok k (mid (fun x _ => !x) (bat ws) (bat ws) k) va vc _ (SlB.of_own HO.out) hn).mono ?_
        rintro e w3 ⟨a', cap', rfl, hown3, b3⟩
        have hnr : (some (w.heap.size + 1) : Option Nat) ≠ (Value.slice va k vc).ownBlock := fun e => by have := (HO.out.lt _ e.symm).1; omega
        have Zr := Z2.out.grown HG.out hnr
        have Z3 := Zr.below b3
        have r0 := Z3.r0
        have r1 := Z3.r1
        have f0 := Z3.f0
        have f1 := Z3.f1
        have hzr := Zr.lt
        have HO3 := Lib.hid hown3
        have HB3 := Lib.hid ((R2.out.k.grown HG.out (by omega) (by intro r hr; have := (HO.out.lt r hr).1; omega)).trans (b3.mono (by omega)))
        clear hown3 b3 Zr Z3 hnr
        go_wp2
        exact bodyPost_ret (v := .tuple #[.agg #[.int .i64 k, .slice a' ((k + 63) / 64) cap'], .int .i64 0]) (by simp [results, Tryd.results48, go_sem, r0, r1]) rfl ⟨_, rfl, BtR.stored HO3.out hzr (pack_length _ _) _ _, (HB3.out.setCell (p := ⟨w.heap.size + 1, 0, none⟩) (by simp) _).setCell (p := ⟨w.heap.size + 1, 1, none⟩) (by simp) _⟩
  · have hpb := bne0_true hc
    have E1 : flipN N ws = 0 := if_neg hc
    have E2 : flipW N ws = [] := if_neg hc
    rw [E1, E2]
    clear hc E1 E2 hL
    go_enter Tryd.func48, Tryd.ntmps48
    go_wp2_with fail
    refine (rCheck_ok N a len cap ws _ ((hs.alloc _).alloc _) hw hlen).mono ?_
    rintro e w1 ⟨rfl, b1⟩
    have Z1 := HZ0.out.below b1
    have r0 := Z1.r0
    have r1 := Z1.r1
    have f0 := Z1.f0
    have f1 := Z1.f1
    have HB1 := Lib.hid ((below_alloc2 w _ _).trans (b1.mono (by simp; omega)))
    clear b1 Z1
    go_wp2
    exact bodyPost_ret (v := .tuple #[.agg #[.int .i64 0, .slice none 0 0], .int .i64 (chk N ws)]) (by simp [results, Tryd.results48, go_sem, r0, r1]) rfl ⟨_, rfl, BtR.zero _, (HB1.out.setCell (p := ⟨w.heap.size + 1, 0, none⟩) (by simp) _).setCell (p := ⟨w.heap.size + 1, 1, none⟩) (by simp) _⟩
end Go.Proofs.YtikdgnfcckenmaaDoor
