/- Bits: BitsMorgan returns true. -/
import Derived.Test.YtikdgnfcckenmaaDoorLawJoins
namespace Go.Proofs.YtikdgnfcckenmaaDoor
open Go.RowKit Go.Sort Go.Joins
attribute [local go_sem] cell_grow frozen_grow size_grow

/-- two bitmaps and a part, each in a box -/
structure MAt (w : World) (N : Int) (a : Option Addr) (len cap : Nat) (ws : List Nat) (M : Int) (b : Option Addr) (lb cb : Nat) (vs : List Nat) (f t : Int) (on : Bool) (W : World) : Prop where
  r : RAt2 w N a len cap ws M b lb cb vs W
  x0 : W.cell? ⟨w.heap.size + 2, 0, none⟩ = some (.int .i64 f)
  x1 : W.cell? ⟨w.heap.size + 2, 1, none⟩ = some (.int .i64 t)
  x2 : W.cell? ⟨w.heap.size + 2, 2, none⟩ = some (.bool on)
section
variable {w : World} {N : Int} {a : Option Addr} {len cap : Nat} {ws : List Nat} {M : Int} {b : Option Addr} {lb cb : Nat} {vs : List Nat} {f t : Int} {on : Bool} {W W' : World}
theorem MAt.lt (h : MAt w N a len cap ws M b lb cb vs f t on W) : w.heap.size + 2 < W.heap.size := World.block_lt_of_cell? _ _ h.x0
theorem MAt.below (h : MAt w N a len cap ws M b lb cb vs f t on W) (hb : Below W.heap.size W W') : MAt w N a len cap ws M b lb cb vs f t on W' :=
  have hl := h.lt
  ⟨h.r.below hb, (hb.cell (p := ⟨w.heap.size + 2, 0, none⟩) hl).trans h.x0, (hb.cell (p := ⟨w.heap.size + 2, 1, none⟩) hl).trans h.x1, (hb.cell (p := ⟨w.heap.size + 2, 2, none⟩) hl).trans h.x2⟩
theorem MAt.new (hs : SlK .u64 w a len ws) (ht : SlK .u64 w b lb vs) (f t : Int) (on : Bool) (T U V : TypeId) : MAt w N a len cap ws M b lb cb vs f t on (((w.alloc (.cells #[.int .i64 N, .slice a len cap] T)).alloc (.cells #[.int .i64 M, .slice b lb cb] U)).alloc (.cells #[.int .i64 f, .int .i64 t, .bool on] V)) :=
  ⟨(RAt2.new hs ht T U).below (below_box0 _ _), by simp [go_sem], by simp [go_sem], by simp [go_sem]⟩
theorem MAt.put (h : MAt w N a len cap ws M b lb cb vs f t on W) {A : Nat} {N0 : Int} {a0 : Option Addr} {L0 cap0 : Nat} {ws0 : List Nat} (h0 : BBox W A N0 a0 L0 cap0 ws0) (hA : w.heap.size + 2 < A) (u v : Value) :
    MAt w N a len cap ws M b lb cb vs f t on ((W.setCell ⟨A, 0, none⟩ u).setCell ⟨A, 1, none⟩ v) := by
  have E : ((W.setCell ⟨A, 0, none⟩ u).setCell ⟨A, 1, none⟩ v).heap[w.heap.size + 2]? = W.heap[w.heap.size + 2]? := (Below.heap_setCell _ _ _ _ (by dsimp only; omega)).trans (Below.heap_setCell _ _ _ _ (by dsimp only; omega))
  exact ⟨h.r.put h0 (by omega) u v, (World.cell?_of_block E).trans h.x0, (World.cell?_of_block E).trans h.x1, (World.cell?_of_block E).trans h.x2⟩
end

/-- no bit beyond n -/
def Cl (n : Nat) (p : Nat → Bool) : Prop := ∀ i, n ≤ i → p i = false
theorem chk_pack {n : Nat} {p : Nat → Bool} (hn : n ≤ 4096) (h : Cl n p) : chk n (pack p ((n + 63) / 64)) = 0 := by
  refine chk_ok (by omega) (by rw [pack_length]; omega) fun i h1 h2 => ?_
  rw [pack_length] at h1
  rw [Int.toNat_natCast] at h2
  rw [pack_bat _ _ _ h1]
  exact h i h2
theorem bat_pack {n : Nat} {p : Nat → Bool} (h : Cl n p) (i : Nat) : bat (pack p ((n + 63) / 64)) i = p i := by
  by_cases hi : i < 64 * ((n + 63) / 64)
  · exact pack_bat _ _ _ hi
  · rw [bat_out _ _ (by rw [pack_length]; omega), h i (by omega)]
theorem both_pack {n : Nat} {p q : Nat → Bool} (hn : n ≤ 4096) (hp : Cl n p) (hq : Cl n q) : bothE n (pack p ((n + 63) / 64)) n (pack q ((n + 63) / 64)) = 0 := by
  unfold bothE
  rw [if_neg (by simp [chk_pack hn hp]), if_neg (by simp [chk_pack hn hq]), if_neg (by simp)]
/-- a slice of words: the bits p -/
def PK (n : Nat) (p : Nat → Bool) (W : World) (a : Option Addr) : Prop := SlK .u64 W a ((n + 63) / 64) (pack p ((n + 63) / 64))
section
variable {n : Nat} {p q : Nat → Bool} {a b : Option Addr} {cap cb : Nat} {W : World}
theorem m_join {F : FuncId} {o : Bool → Bool → Bool} (hn : n ≤ 4096) (hp : Cl n p) (hq : Cl n q)
    (H : Calls Tryd.prog F #[.agg #[.int .i64 n, .slice a ((n + 63) / 64) cap], .agg #[.int .i64 n, .slice b ((n + 63) / 64) cb]] W fun e w' => ∃ v, e = .returned (.tuple #[v, .int .i64 (bothE n (pack p ((n + 63) / 64)) n (pack q ((n + 63) / 64)))]) ∧ BtR w' v (joinN n (pack p ((n + 63) / 64)) n (pack q ((n + 63) / 64))) (joinW o n (pack p ((n + 63) / 64)) n (pack q ((n + 63) / 64))) ∧ Below W.heap.size W w') :
    Calls Tryd.prog F #[.agg #[.int .i64 n, .slice a ((n + 63) / 64) cap], .agg #[.int .i64 n, .slice b ((n + 63) / 64) cb]] W fun e w' => ∃ a' c', e = .returned (.tuple #[.agg #[.int .i64 n, .slice a' ((n + 63) / 64) c'], .int .i64 0]) ∧ PK n (fun i => o (p i) (q i)) w' a' ∧ Below W.heap.size W w' := by
  refine H.mono fun e w' ⟨v, h1, ⟨a', c', h2, h3⟩, h4⟩ => ?_
  have hB := both_pack hn hp hq
  have hW : joinW o n (pack p ((n + 63) / 64)) n (pack q ((n + 63) / 64)) = pack (fun i => o (p i) (q i)) ((n + 63) / 64) := by
    unfold joinW
    rw [if_pos hB, pack_length]
    exact pack_congr fun i _ => by rw [bat_pack hp, bat_pack hq]
  have hN : joinN n (pack p ((n + 63) / 64)) n (pack q ((n + 63) / 64)) = n := if_pos hB
  rw [hW, pack_length] at h3
  rw [hW, hN, pack_length] at h2
  rw [hB, h2] at h1
  exact ⟨a', c', h1, h3, h4⟩
theorem plt (n : Nat) (p : Nat → Bool) : ∀ x ∈ pack p ((n + 63) / 64), x < 18446744073709551616 := pack_lt _ _
theorem m_and (hn : n ≤ 4096) (hp : Cl n p) (hq : Cl n q) (hs : PK n p W a) (ht : PK n q W b) :
    Calls Tryd.prog 41 #[.agg #[.int .i64 n, .slice a ((n + 63) / 64) cap], .agg #[.int .i64 n, .slice b ((n + 63) / 64) cb]] W fun e w' => ∃ a' c', e = .returned (.tuple #[.agg #[.int .i64 n, .slice a' ((n + 63) / 64) c'], .int .i64 0]) ∧ PK n (fun i => p i && q i) w' a' ∧ Below W.heap.size W w' :=
  m_join (o := fun x y => x && y) hn hp hq (bAnd_ok n a _ cap _ n b _ cb _ W hs ht (plt _ _) (plt _ _) (by omega) (by omega))
theorem m_or (hn : n ≤ 4096) (hp : Cl n p) (hq : Cl n q) (hs : PK n p W a) (ht : PK n q W b) :
    Calls Tryd.prog 43 #[.agg #[.int .i64 n, .slice a ((n + 63) / 64) cap], .agg #[.int .i64 n, .slice b ((n + 63) / 64) cb]] W fun e w' => ∃ a' c', e = .returned (.tuple #[.agg #[.int .i64 n, .slice a' ((n + 63) / 64) c'], .int .i64 0]) ∧ PK n (fun i => p i || q i) w' a' ∧ Below W.heap.size W w' :=
  m_join (o := fun x y => x || y) hn hp hq (bOr_ok n a _ cap _ n b _ cb _ W hs ht (plt _ _) (plt _ _) (by omega) (by omega))
theorem m_less (hn : n ≤ 4096) (hp : Cl n p) (hq : Cl n q) (hs : PK n p W a) (ht : PK n q W b) :
    Calls Tryd.prog 45 #[.agg #[.int .i64 n, .slice a ((n + 63) / 64) cap], .agg #[.int .i64 n, .slice b ((n + 63) / 64) cb]] W fun e w' => ∃ a' c', e = .returned (.tuple #[.agg #[.int .i64 n, .slice a' ((n + 63) / 64) c'], .int .i64 0]) ∧ PK n (fun i => p i && !q i) w' a' ∧ Below W.heap.size W w' :=
  m_join (o := fun x y => x && !y) hn hp hq (bLess_ok n a _ cap _ n b _ cb _ W hs ht (plt _ _) (plt _ _) (by omega) (by omega))
theorem m_flip (hn : n ≤ 4096) (hp : Cl n p) (hs : PK n p W a) :
    Calls Tryd.prog 47 #[.agg #[.int .i64 n, .slice a ((n + 63) / 64) cap]] W fun e w' => ∃ a' c', e = .returned (.tuple #[.agg #[.int .i64 n, .slice a' ((n + 63) / 64) c'], .int .i64 0]) ∧ PK n (fun i => !p i && decide (i < n)) w' a' ∧ Below W.heap.size W w' := by
  refine (bFlip_ok n a _ cap _ W hs (plt _ _) (by omega)).mono fun e w' ⟨v, h1, ⟨a', c', h2, h3⟩, h4⟩ => ?_
  have hB := chk_pack hn hp
  have hW : flipW n (pack p ((n + 63) / 64)) = pack (fun i => !p i && decide (i < n)) ((n + 63) / 64) := by
    unfold flipW
    rw [if_pos hB, pack_length]
    exact pack_congr fun i _ => by rw [bat_pack hp, Int.toNat_natCast]
  have hN : flipN n (pack p ((n + 63) / 64)) = n := if_pos hB
  rw [hW, pack_length] at h3
  rw [hW, hN, pack_length] at h2
  rw [hB, h2] at h1
  exact ⟨a', c', h1, h3, h4⟩
theorem m_new (hn : n ≤ 4096) :
    Calls Tryd.prog 33 #[.int .i64 n, .bool false] W fun e w' => ∃ a' c', e = .returned (.tuple #[.agg #[.int .i64 n, .slice a' ((n + 63) / 64) c'], .int .i64 0]) ∧ PK n (fun _ => false) w' a' ∧ Below W.heap.size W w' := by
  refine (bNew_all n false W).mono fun e w' ⟨v, h1, ⟨a', c', h2, h3⟩, h4⟩ => ?_
  have hE : newE n = 0 := if_neg (by omega)
  have hN : newN n = n := if_neg (by omega)
  have hW : newW n false = pack (fun _ => false) ((n + 63) / 64) := by rw [newW_nat n false hn]; rfl
  rw [hW, pack_length] at h3
  rw [hW, hN, pack_length] at h2
  rw [hE, h2] at h1
  exact ⟨a', c', h1, h3, h4⟩
theorem m_set (f t : Nat) (on : Bool) (hn : n ≤ 4096) (hp : Cl n p) (hft : f ≤ t) (ht : t ≤ n) (hs : PK n p W a) :
    Calls Tryd.prog 38 #[.agg #[.int .i64 n, .slice a ((n + 63) / 64) cap], .int .i64 f, .int .i64 t, .bool on] W fun e w' => ∃ a' c', e = .returned (.tuple #[.agg #[.int .i64 n, .slice a' ((n + 63) / 64) c'], .int .i64 0]) ∧ PK n (filled p f t on) w' a' ∧ Below W.heap.size W w' := by
  refine (bSet_all n f t on a _ cap _ W hs (plt _ _) (by omega)).mono fun e w' ⟨v, h1, ⟨a', c', h2, h3⟩, h4⟩ => ?_
  have hE : prt n (pack p ((n + 63) / 64)) f t = 0 := prt_ok (chk_pack hn hp) (by omega)
  have hN : setN n (pack p ((n + 63) / 64)) f t = n := if_pos hE
  have hW : setW n (pack p ((n + 63) / 64)) f t on = pack (filled p f t on) ((n + 63) / 64) := by
    unfold setW
    rw [if_pos hE, pack_length, Int.toNat_natCast, Int.toNat_natCast]
    refine pack_congr fun i _ => ?_
    unfold filled
    rw [bat_pack hp]
  rw [hW, pack_length] at h3
  rw [hW, hN, pack_length] at h2
  rw [hE, h2] at h1
  exact ⟨a', c', h1, h3, h4⟩
theorem m_same (hn : n ≤ 4096) (h : ∀ i, p i = q i) (hs : PK n p W a) (ht : PK n q W b) :
    Calls Tryd.prog 37 #[.agg #[.int .i64 n, .slice a ((n + 63) / 64) cap], .agg #[.int .i64 n, .slice b ((n + 63) / 64) cb]] W fun e w' => e = .returned (.bool true) ∧ Below W.heap.size W w' := by
  have e : p = q := funext h
  subst e
  exact rSame_ok n a b _ cap cb _ W hs ht (by omega)
end
theorem Cl.filled {n f t : Nat} {p : Nat → Bool} (h : Cl n p) (ht : t ≤ n) (on : Bool) : Cl n (filled p f t on) := fun i hi => by unfold Go.Proofs.YtikdgnfcckenmaaDoor.filled; rw [if_neg (by omega)]; exact h i hi

set_option maxRecDepth 100000 in
set_option maxHeartbeats 1600000 in
/-- the statement's first test says no -/
theorem law_morgan_no (N f t : Int) (on : Bool) (a : Option Addr) (len cap : Nat) (ws : List Nat) (M : Int) (b : Option Addr) (lb cb : Nat) (vs : List Nat) (w : World) (hT : Tab w) (hs : SlK .u64 w a len ws) (ht : SlK .u64 w b lb vs) (hw : ∀ x ∈ ws, x < 18446744073709551616) (hv : ∀ x ∈ vs, x < 18446744073709551616) (hlen : len ≤ 9223372036854775807) (hlb : lb ≤ 9223372036854775807)
    (hno : ¬ (chk N ws = 0 ∧ chk M vs = 0 ∧ N = M ∧ 0 ≤ f ∧ f ≤ t ∧ t ≤ N)) :
    Calls Tryd.prog 11 #[.agg #[.int .i64 N, .slice a len cap], .agg #[.int .i64 M, .slice b lb cb], .agg #[.int .i64 f, .int .i64 t, .bool on]] w fun e w' => e = .returned (.bool true) ∧ Below w.heap.size w w' := by
  have HT := Lib.hid hT
  have S0 := Lib.hid (MAt.new (N := N) (M := M) (cap := cap) (cb := cb) hs ht f t on 24 24 45)
  have HNO := Lib.hid hno
  clear hT hs ht hno
  by_cases h1 : chk N ws = 0
  · have H1 := Lib.hid h1
    have c0 : ((0 : Int) != 0) = false := rfl
    clear h1
    by_cases h2 : chk M vs = 0
    · have H2 := Lib.hid h2
      clear h2
      by_cases h3 : N = M
      · have h3b : (N != M) = false := by simpa using h3
        have H3 := Lib.hid h3
        clear h3
        by_cases h4 : f < 0
        · have h4b : decide (f < 0) = true := by simpa using h4
          go_enter Tryd.func11, Tryd.ntmps11
          go_wp2_with fail
          refine (rCheck_ok N a len cap ws _ S0.out.r.s hw hlen).mono ?_
          rintro e w1 ⟨rfl, b1⟩
          rw [H1.out]
          have S1 := Lib.hid (S0.out.below b1)
          have c11 := S1.out.r.q.n
          have c12 := S1.out.r.q.s
          clear b1
          go_wp2_with fail
          refine (rCheck_ok M b lb cb vs _ S1.out.r.t hv hlb).mono ?_
          rintro e w2 ⟨rfl, b2⟩
          rw [H2.out]
          have S2 := Lib.hid (S1.out.below b2)
          have c21 := S2.out.r.p.n
          have c22 := S2.out.r.q.n
          have c23 := S2.out.x0
          have c24 := S2.out.x1
          clear b2
          go_wp2_with fail
          refine (awake_ok _ (HT.out.below S2.out.r.k)).mono ?_
          rintro e wz ⟨rfl, bz⟩
          have SZ := Lib.hid (S2.out.below bz)
          clear bz
          go_wp2
          go_ret
          exact ⟨rfl, SZ.out.r.k⟩
        · have h4b : decide (f < 0) = false := by simpa using h4
          by_cases h5 : t < f
          · have h5b : decide (t < f) = true := by simpa using h5
            go_enter Tryd.func11, Tryd.ntmps11
            go_wp2_with fail
            refine (rCheck_ok N a len cap ws _ S0.out.r.s hw hlen).mono ?_
            rintro e w1 ⟨rfl, b1⟩
            rw [H1.out]
            have S1 := Lib.hid (S0.out.below b1)
            have c11 := S1.out.r.q.n
            have c12 := S1.out.r.q.s
            clear b1
            go_wp2_with fail
            refine (rCheck_ok M b lb cb vs _ S1.out.r.t hv hlb).mono ?_
            rintro e w2 ⟨rfl, b2⟩
            rw [H2.out]
            have S2 := Lib.hid (S1.out.below b2)
            have c21 := S2.out.r.p.n
            have c22 := S2.out.r.q.n
            have c23 := S2.out.x0
            have c24 := S2.out.x1
            clear b2
            go_wp2_with fail
            refine (awake_ok _ (HT.out.below S2.out.r.k)).mono ?_
            rintro e wz ⟨rfl, bz⟩
            have SZ := Lib.hid (S2.out.below bz)
            clear bz
            go_wp2
            go_ret
            exact ⟨rfl, SZ.out.r.k⟩
          · have h5b : decide (t < f) = false := by simpa using h5
            have h6 : N < t := by have := HNO.out; have := H1.out; have := H2.out; have := H3.out; omega
            have h6b : decide (N < t) = true := by simpa using h6
            go_enter Tryd.func11, Tryd.ntmps11
            go_wp2_with fail
            refine (rCheck_ok N a len cap ws _ S0.out.r.s hw hlen).mono ?_
            rintro e w1 ⟨rfl, b1⟩
            rw [H1.out]
            have S1 := Lib.hid (S0.out.below b1)
            have c11 := S1.out.r.q.n
            have c12 := S1.out.r.q.s
            clear b1
            go_wp2_with fail
            refine (rCheck_ok M b lb cb vs _ S1.out.r.t hv hlb).mono ?_
            rintro e w2 ⟨rfl, b2⟩
            rw [H2.out]
            have S2 := Lib.hid (S1.out.below b2)
            have c21 := S2.out.r.p.n
            have c22 := S2.out.r.q.n
            have c23 := S2.out.x0
            have c24 := S2.out.x1
            clear b2
            go_wp2_with fail
            refine (awake_ok _ (HT.out.below S2.out.r.k)).mono ?_
            rintro e wz ⟨rfl, bz⟩
            have SZ := Lib.hid (S2.out.below bz)
            clear bz
            go_wp2
            go_ret
            exact ⟨rfl, SZ.out.r.k⟩
      · have h3b : (N != M) = true := by simpa using h3
        clear h3
        go_enter Tryd.func11, Tryd.ntmps11
        go_wp2_with fail
        refine (rCheck_ok N a len cap ws _ S0.out.r.s hw hlen).mono ?_
        rintro e w1 ⟨rfl, b1⟩
        rw [H1.out]
        have S1 := Lib.hid (S0.out.below b1)
        have c11 := S1.out.r.q.n
        have c12 := S1.out.r.q.s
        clear b1
        go_wp2_with fail
        refine (rCheck_ok M b lb cb vs _ S1.out.r.t hv hlb).mono ?_
        rintro e w2 ⟨rfl, b2⟩
        rw [H2.out]
        have S2 := Lib.hid (S1.out.below b2)
        have c21 := S2.out.r.p.n
        have c22 := S2.out.r.q.n
        have c23 := S2.out.x0
        have c24 := S2.out.x1
        clear b2
        go_wp2_with fail
        refine (awake_ok _ (HT.out.below S2.out.r.k)).mono ?_
        rintro e wz ⟨rfl, bz⟩
        have SZ := Lib.hid (S2.out.below bz)
        clear bz
        go_wp2
        go_ret
        exact ⟨rfl, SZ.out.r.k⟩
    · have h2b := bne0_true h2
      clear h2
      go_enter Tryd.func11, Tryd.ntmps11
      go_wp2_with fail
      refine (rCheck_ok N a len cap ws _ S0.out.r.s hw hlen).mono ?_
      rintro e w1 ⟨rfl, b1⟩
      rw [H1.out]
      have S1 := Lib.hid (S0.out.below b1)
      have c11 := S1.out.r.q.n
      have c12 := S1.out.r.q.s
      clear b1
      go_wp2_with fail
      refine (rCheck_ok M b lb cb vs _ S1.out.r.t hv hlb).mono ?_
      rintro e w2 ⟨rfl, b2⟩
      have S2 := Lib.hid (S1.out.below b2)
      have c21 := S2.out.r.p.n
      have c22 := S2.out.r.q.n
      have c23 := S2.out.x0
      have c24 := S2.out.x1
      clear b2
      go_wp2_with fail
      refine (awake_ok _ (HT.out.below S2.out.r.k)).mono ?_
      rintro e wz ⟨rfl, bz⟩
      have SZ := Lib.hid (S2.out.below bz)
      clear bz
      go_wp2
      go_ret
      exact ⟨rfl, SZ.out.r.k⟩
  · have h1b := bne0_true h1
    clear h1
    go_enter Tryd.func11, Tryd.ntmps11
    go_wp2_with fail
    refine (rCheck_ok N a len cap ws _ S0.out.r.s hw hlen).mono ?_
    rintro e w1 ⟨rfl, b1⟩
    have S1 := Lib.hid (S0.out.below b1)
    have c11 := S1.out.r.q.n
    have c12 := S1.out.r.q.s
    clear b1
    go_wp2_with fail
    refine (awake_ok _ (HT.out.below S1.out.r.k)).mono ?_
    rintro e wz ⟨rfl, bz⟩
    have SZ := Lib.hid (S1.out.below bz)
    clear bz
    go_wp2
    go_ret
    exact ⟨rfl, SZ.out.r.k⟩

set_option maxRecDepth 100000 in
set_option maxHeartbeats 12800000 in
theorem law_morgan_yes (n f t : Nat) (on : Bool) (AA BB : Nat → Bool) (hA : Cl n AA) (hB : Cl n BB) (a : Option Addr) (cap : Nat) (b : Option Addr) (cb : Nat) (w : World) (hT : Tab w) (hs : PK n AA w a) (ht : PK n BB w b) (hn : n ≤ 4096) (hft : f ≤ t) (htn : t ≤ n) :
    Calls Tryd.prog 11 #[.agg #[.int .i64 n, .slice a ((n + 63) / 64) cap], .agg #[.int .i64 n, .slice b ((n + 63) / 64) cb], .agg #[.int .i64 f, .int .i64 t, .bool on]] w fun e w' => e = .returned (.bool true) ∧ Below w.heap.size w w' := by
  have HT := Lib.hid hT
  have S0 := Lib.hid (MAt.new (N := n) (M := n) (cap := cap) (cb := cb) hs ht f t on 24 24 45)
  have HA := Lib.hid hA
  have HB := Lib.hid hB
  have H1 := Lib.hid (chk_pack hn hA)
  have H2 := Lib.hid (chk_pack hn hB)
  have f0 : decide ((f : Int) < 0) = false := by simp
  have f1 : decide (t < f) = false := by simp; omega
  have f2 : decide (n < t) = false := by simp; omega
  clear hT hs ht hA hB
  go_enter Tryd.func11, Tryd.ntmps11
  go_wp2_with fail
  refine (rCheck_ok n a _ cap _ _ S0.out.r.s (plt _ _) (by omega)).mono ?_
  rintro e w1 ⟨rfl, b1⟩
  rw [H1.out]
  have S1 := Lib.hid (S0.out.below b1)
  have c11 := S1.out.r.q.n
  have c12 := S1.out.r.q.s
  clear b1
  go_wp2_with fail
  refine (rCheck_ok n b _ cb _ _ S1.out.r.t (plt _ _) (by omega)).mono ?_
  rintro e w2 ⟨rfl, b2⟩
  rw [H2.out]
  have S2 := Lib.hid (S1.out.below b2)
  have c21 := S2.out.r.p.n
  have c22 := S2.out.r.q.n
  have c23 := S2.out.x0
  have c24 := S2.out.x1
  clear b2
  have z2_0 := S2.out.r.p.n
  have z2_1 := S2.out.r.p.s
  have z2_2 := S2.out.r.q.n
  have z2_3 := S2.out.r.q.s
  go_wp2_with fail
  refine (m_and hn HA.out HB.out (S2.out).r.s (S2.out).r.t).mono ?_
  rintro e w3 ⟨a3, k3, rfl, q3, b3⟩
  have S3 := Lib.hid ((S2.out).below b3)
  have Q3 : Hid (SlK .u64 w3 a3 ((n + 63) / 64) (pack (fun i => AA i && BB i) ((n + 63) / 64))) := Lib.hid q3
  clear b3 z2_0 z2_1 z2_2 z2_3 q3 S2
  have h3_s2 : w.heap.size + 2 < w3.heap.size := S3.out.lt
  have h3_s1 : w.heap.size + 1 < w3.heap.size := by omega
  have h3_s0 : w.heap.size < w3.heap.size := by omega
  go_wp2_with fail
  refine (m_flip hn (fun i hi => by show (_ && _) = _; rw [HA.out i hi]; rfl) ((BBox.new Q3.out _)).k).mono ?_
  rintro e w4 ⟨a4, k4, rfl, q4, b4⟩
  have S4 := Lib.hid (((S3.out.below (below_box0 _ _))).below b4)
  have P4 : Hid (BBox w4 w3.heap.size n a3 ((n + 63) / 64) k3 (pack (fun i => AA i && BB i) ((n + 63) / 64))) := Lib.hid (((BBox.new Q3.out _)).below b4)
  have Q4 : Hid (SlK .u64 w4 a4 ((n + 63) / 64) (pack (fun i => !(fun i => AA i && BB i) i && decide (i < n)) ((n + 63) / 64))) := Lib.hid q4
  clear b4  q4 S3 Q3
  have z4_0 := S4.out.r.p.n
  have z4_1 := S4.out.r.p.s
  have z4_2 := P4.out.n
  have z4_3 := P4.out.s
  have z4_4 := P4.out.f0
  have z4_5 := P4.out.f1
  go_wp2_with fail
  refine (m_flip hn HA.out ((S4.out.put P4.out (by omega) _ _)).r.s).mono ?_
  rintro e w5 ⟨a5, k5, rfl, q5, b5⟩
  have S5 := Lib.hid (((S4.out.put P4.out (by omega) _ _)).below b5)
  have P5 := Lib.hid (((P4.out.put Q4.out)).below b5)
  have Q5 : Hid (SlK .u64 w5 a5 ((n + 63) / 64) (pack (fun i => !AA i && decide (i < n)) ((n + 63) / 64))) := Lib.hid q5
  clear b5 z4_0 z4_1 z4_2 z4_3 z4_4 z4_5 q5 P4 S4 Q4
  have z5_0 := S5.out.r.q.n
  have z5_1 := S5.out.r.q.s
  have h5_s2 : w.heap.size + 2 < w5.heap.size := S5.out.lt
  have h5_s1 : w.heap.size + 1 < w5.heap.size := by omega
  have h5_s0 : w.heap.size < w5.heap.size := by omega
  have h5_P : w3.heap.size < w5.heap.size := P5.out.lt
  go_wp2_with fail
  refine (m_flip hn HB.out ((S5.out.below (below_box0 _ _))).r.t).mono ?_
  rintro e w6 ⟨a6, k6, rfl, q6, b6⟩
  have S6 := Lib.hid (((S5.out.below (below_box0 _ _))).below b6)
  have P6 := Lib.hid (((P5.out.below (below_box0 _ _))).below b6)
  have U6 : Hid (BBox w6 w5.heap.size n a5 ((n + 63) / 64) k5 (pack (fun i => !AA i && decide (i < n)) ((n + 63) / 64))) := Lib.hid (((BBox.new Q5.out _)).below b6)
  have Q6 : Hid (SlK .u64 w6 a6 ((n + 63) / 64) (pack (fun i => !BB i && decide (i < n)) ((n + 63) / 64))) := Lib.hid q6
  clear b6 z5_0 z5_1 q6 P5 S5 Q5
  have z6_0 := U6.out.n
  have z6_1 := U6.out.s
  have h6_s2 : w.heap.size + 2 < w6.heap.size := S6.out.lt
  have h6_s1 : w.heap.size + 1 < w6.heap.size := by omega
  have h6_s0 : w.heap.size < w6.heap.size := by omega
  have h6_P : w3.heap.size < w6.heap.size := P6.out.lt
  have h6_U : w5.heap.size < w6.heap.size := U6.out.lt
  go_wp2_with fail
  refine (m_or hn (fun i hi => by show (_ && _) = _; rw [decide_eq_false (by omega)]; exact Bool.and_false _) (fun i hi => by show (_ && _) = _; rw [decide_eq_false (by omega)]; exact Bool.and_false _) ((U6.out.below (below_box0 _ _))).k ((BBox.new Q6.out _)).k).mono ?_
  rintro e w7 ⟨a7, k7, rfl, q7, b7⟩
  have S7 := Lib.hid (((S6.out.below (below_box0 _ _))).below b7)
  have P7 := Lib.hid (((P6.out.below (below_box0 _ _))).below b7)
  have U7 := Lib.hid (((U6.out.below (below_box0 _ _))).below b7)
  have V7 : Hid (BBox w7 w6.heap.size n a6 ((n + 63) / 64) k6 (pack (fun i => !BB i && decide (i < n)) ((n + 63) / 64))) := Lib.hid (((BBox.new Q6.out _)).below b7)
  have Q7 : Hid (SlK .u64 w7 a7 ((n + 63) / 64) (pack (fun i => (fun i => !AA i && decide (i < n)) i || (fun i => !BB i && decide (i < n)) i) ((n + 63) / 64))) := Lib.hid q7
  clear b7 z6_0 z6_1 q7 P6 U6 S6 Q6
  have z7_0 := S7.out.r.p.n
  have z7_1 := S7.out.r.p.s
  have z7_2 := S7.out.r.q.n
  have z7_3 := S7.out.r.q.s
  have h7_s2 : w.heap.size + 2 < w7.heap.size := S7.out.lt
  have h7_s1 : w.heap.size + 1 < w7.heap.size := by omega
  have h7_s0 : w.heap.size < w7.heap.size := by omega
  have h7_P : w3.heap.size < w7.heap.size := P7.out.lt
  have h7_U : w5.heap.size < w7.heap.size := U7.out.lt
  have h7_V : w6.heap.size < w7.heap.size := V7.out.lt
  go_wp2_with fail
  refine (m_less hn HA.out HB.out ((S7.out.below (below_box0 _ _))).r.s ((S7.out.below (below_box0 _ _))).r.t).mono ?_
  rintro e w8 ⟨a8, k8, rfl, q8, b8⟩
  have S8 := Lib.hid (((S7.out.below (below_box0 _ _))).below b8)
  have P8 := Lib.hid (((P7.out.below (below_box0 _ _))).below b8)
  have U8 := Lib.hid (((U7.out.below (below_box0 _ _))).below b8)
  have V8 := Lib.hid (((V7.out.below (below_box0 _ _))).below b8)
  have O8 : Hid (BBox w8 w7.heap.size n a7 ((n + 63) / 64) k7 (pack (fun i => (fun i => !AA i && decide (i < n)) i || (fun i => !BB i && decide (i < n)) i) ((n + 63) / 64))) := Lib.hid (((BBox.new Q7.out _)).below b8)
  have Q8 : Hid (SlK .u64 w8 a8 ((n + 63) / 64) (pack (fun i => AA i && !BB i) ((n + 63) / 64))) := Lib.hid q8
  clear b8 z7_0 z7_1 z7_2 z7_3 q8 P7 U7 V7 S7 Q7
  have z8_0 := S8.out.r.p.n
  have z8_1 := S8.out.r.p.s
  have z8_2 := V8.out.n
  have z8_3 := V8.out.s
  have h8_s2 : w.heap.size + 2 < w8.heap.size := S8.out.lt
  have h8_s1 : w.heap.size + 1 < w8.heap.size := by omega
  have h8_s0 : w.heap.size < w8.heap.size := by omega
  have h8_P : w3.heap.size < w8.heap.size := P8.out.lt
  have h8_U : w5.heap.size < w8.heap.size := U8.out.lt
  have h8_V : w6.heap.size < w8.heap.size := V8.out.lt
  have h8_O : w7.heap.size < w8.heap.size := O8.out.lt
  go_wp2_with fail
  refine (m_and hn HA.out (fun i hi => by show (_ && _) = _; rw [decide_eq_false (by omega)]; exact Bool.and_false _) ((S8.out.below (below_box0 _ _))).r.s ((V8.out.below (below_box0 _ _))).k).mono ?_
  rintro e w9 ⟨a9, k9, rfl, q9, b9⟩
  have S9 := Lib.hid (((S8.out.below (below_box0 _ _))).below b9)
  have P9 := Lib.hid (((P8.out.below (below_box0 _ _))).below b9)
  have U9 := Lib.hid (((U8.out.below (below_box0 _ _))).below b9)
  have V9 := Lib.hid (((V8.out.below (below_box0 _ _))).below b9)
  have O9 := Lib.hid (((O8.out.below (below_box0 _ _))).below b9)
  have D9 : Hid (BBox w9 w8.heap.size n a8 ((n + 63) / 64) k8 (pack (fun i => AA i && !BB i) ((n + 63) / 64))) := Lib.hid (((BBox.new Q8.out _)).below b9)
  have Q9 : Hid (SlK .u64 w9 a9 ((n + 63) / 64) (pack (fun i => AA i && (fun i => !BB i && decide (i < n)) i) ((n + 63) / 64))) := Lib.hid q9
  clear b9 z8_0 z8_1 z8_2 z8_3 q9 P8 U8 V8 O8 S8 Q8
  have z9_0 := U9.out.n
  have z9_1 := U9.out.s
  have h9_s2 : w.heap.size + 2 < w9.heap.size := S9.out.lt
  have h9_s1 : w.heap.size + 1 < w9.heap.size := by omega
  have h9_s0 : w.heap.size < w9.heap.size := by omega
  have h9_P : w3.heap.size < w9.heap.size := P9.out.lt
  have h9_U : w5.heap.size < w9.heap.size := U9.out.lt
  have h9_V : w6.heap.size < w9.heap.size := V9.out.lt
  have h9_O : w7.heap.size < w9.heap.size := O9.out.lt
  have h9_D : w8.heap.size < w9.heap.size := D9.out.lt
  go_wp2_with fail
  refine (m_flip hn (fun i hi => by show (_ && _) = _; rw [decide_eq_false (by omega)]; exact Bool.and_false _) ((U9.out.below (below_box0 _ _))).k).mono ?_
  rintro e w10 ⟨a10, k10, rfl, q10, b10⟩
  have S10 := Lib.hid (((S9.out.below (below_box0 _ _))).below b10)
  have P10 := Lib.hid (((P9.out.below (below_box0 _ _))).below b10)
  have U10 := Lib.hid (((U9.out.below (below_box0 _ _))).below b10)
  have V10 := Lib.hid (((V9.out.below (below_box0 _ _))).below b10)
  have O10 := Lib.hid (((O9.out.below (below_box0 _ _))).below b10)
  have D10 := Lib.hid (((D9.out.below (below_box0 _ _))).below b10)
  have C10 : Hid (BBox w10 w9.heap.size n a9 ((n + 63) / 64) k9 (pack (fun i => AA i && (fun i => !BB i && decide (i < n)) i) ((n + 63) / 64))) := Lib.hid (((BBox.new Q9.out _)).below b10)
  have Q10 : Hid (SlK .u64 w10 a10 ((n + 63) / 64) (pack (fun i => !(fun i => !AA i && decide (i < n)) i && decide (i < n)) ((n + 63) / 64))) := Lib.hid q10
  clear b10 z9_0 z9_1 q10 P9 U9 V9 O9 D9 S9 Q9
  have z10_0 := P10.out.n
  have z10_1 := P10.out.s
  have z10_2 := O10.out.n
  have z10_3 := O10.out.s
  have h10_s2 : w.heap.size + 2 < w10.heap.size := S10.out.lt
  have h10_s1 : w.heap.size + 1 < w10.heap.size := by omega
  have h10_s0 : w.heap.size < w10.heap.size := by omega
  have h10_P : w3.heap.size < w10.heap.size := P10.out.lt
  have h10_U : w5.heap.size < w10.heap.size := U10.out.lt
  have h10_V : w6.heap.size < w10.heap.size := V10.out.lt
  have h10_O : w7.heap.size < w10.heap.size := O10.out.lt
  have h10_D : w8.heap.size < w10.heap.size := D10.out.lt
  have h10_C : w9.heap.size < w10.heap.size := C10.out.lt
  go_wp2_with fail
  refine (m_same hn (p := fun i => !(fun i => AA i && BB i) i && decide (i < n)) (q := fun i => (fun i => !AA i && decide (i < n)) i || (fun i => !BB i && decide (i < n)) i) (fun i => by dsimp only; cases AA i <;> cases BB i <;> simp) ((P10.out.below (below_box0 _ _))).k ((O10.out.below (below_box0 _ _))).k).mono ?_
  rintro e w11 ⟨rfl, b11⟩
  have S11 := Lib.hid (((S10.out.below (below_box0 _ _))).below b11)
  have P11 := Lib.hid (((P10.out.below (below_box0 _ _))).below b11)
  have U11 := Lib.hid (((U10.out.below (below_box0 _ _))).below b11)
  have V11 := Lib.hid (((V10.out.below (below_box0 _ _))).below b11)
  have O11 := Lib.hid (((O10.out.below (below_box0 _ _))).below b11)
  have D11 := Lib.hid (((D10.out.below (below_box0 _ _))).below b11)
  have C11 := Lib.hid (((C10.out.below (below_box0 _ _))).below b11)
  have X11 : Hid (BBox w11 w10.heap.size n a10 ((n + 63) / 64) k10 (pack (fun i => !(fun i => !AA i && decide (i < n)) i && decide (i < n)) ((n + 63) / 64))) := Lib.hid (((BBox.new Q10.out _)).below b11)
  clear b11 z10_0 z10_1 z10_2 z10_3 P10 U10 V10 O10 D10 C10 S10 Q10
  have z11_0 := D11.out.n
  have z11_1 := D11.out.s
  have z11_2 := C11.out.n
  have z11_3 := C11.out.s
  go_wp2_with fail
  refine (m_same hn (p := fun i => AA i && !BB i) (q := fun i => AA i && (fun i => !BB i && decide (i < n)) i) (fun i => by show (_ && _) = (_ && (_ && _)); by_cases hi : i < n; simp [hi]; rw [HA.out i (by omega)]; rfl) (D11.out).k (C11.out).k).mono ?_
  rintro e w12 ⟨rfl, b12⟩
  have S12 := Lib.hid ((S11.out).below b12)
  have P12 := Lib.hid ((P11.out).below b12)
  have U12 := Lib.hid ((U11.out).below b12)
  have V12 := Lib.hid ((V11.out).below b12)
  have O12 := Lib.hid ((O11.out).below b12)
  have D12 := Lib.hid ((D11.out).below b12)
  have C12 := Lib.hid ((C11.out).below b12)
  have X12 := Lib.hid ((X11.out).below b12)
  clear b12 z11_0 z11_1 z11_2 z11_3 P11 U11 V11 O11 D11 C11 X11 S11
  have z12_0 := X12.out.n
  have z12_1 := X12.out.s
  have z12_2 := S12.out.r.p.n
  have z12_3 := S12.out.r.p.s
  go_wp2_with fail
  refine (m_same hn (p := fun i => !(fun i => !AA i && decide (i < n)) i && decide (i < n)) (q := AA) (fun i => by show (_ && _) = _; by_cases hi : i < n; simp [hi]; rw [HA.out i (by omega)]; simp [hi]) (X12.out).k (S12.out).r.s).mono ?_
  rintro e w13 ⟨rfl, b13⟩
  have S13 := Lib.hid ((S12.out).below b13)
  have P13 := Lib.hid ((P12.out).below b13)
  have U13 := Lib.hid ((U12.out).below b13)
  have V13 := Lib.hid ((V12.out).below b13)
  have O13 := Lib.hid ((O12.out).below b13)
  have D13 := Lib.hid ((D12.out).below b13)
  have C13 := Lib.hid ((C12.out).below b13)
  have X13 := Lib.hid ((X12.out).below b13)
  clear b13 z12_0 z12_1 z12_2 z12_3 P12 U12 V12 O12 D12 C12 X12 S12
  have z13_0 := S13.out.r.p.n
  have z13_1 := S13.out.r.p.s
  go_wp2_with fail
  refine (m_new hn).mono ?_
  rintro e w14 ⟨a14, k14, rfl, q14, b14⟩
  have S14 := Lib.hid ((S13.out).below b14)
  have P14 := Lib.hid ((P13.out).below b14)
  have U14 := Lib.hid ((U13.out).below b14)
  have V14 := Lib.hid ((V13.out).below b14)
  have O14 := Lib.hid ((O13.out).below b14)
  have D14 := Lib.hid ((D13.out).below b14)
  have C14 := Lib.hid ((C13.out).below b14)
  have X14 := Lib.hid ((X13.out).below b14)
  have Q14 : Hid (SlK .u64 w14 a14 ((n + 63) / 64) (pack (fun _ => false) ((n + 63) / 64))) := Lib.hid q14
  clear b14 z13_0 z13_1 q14 P13 U13 V13 O13 D13 C13 X13 S13
  have z14_0 := S14.out.x0
  have z14_1 := S14.out.x1
  have z14_2 := S14.out.x2
  have h14_s2 : w.heap.size + 2 < w14.heap.size := S14.out.lt
  have h14_s1 : w.heap.size + 1 < w14.heap.size := by omega
  have h14_s0 : w.heap.size < w14.heap.size := by omega
  have h14_P : w3.heap.size < w14.heap.size := P14.out.lt
  have h14_U : w5.heap.size < w14.heap.size := U14.out.lt
  have h14_V : w6.heap.size < w14.heap.size := V14.out.lt
  have h14_O : w7.heap.size < w14.heap.size := O14.out.lt
  have h14_D : w8.heap.size < w14.heap.size := D14.out.lt
  have h14_C : w9.heap.size < w14.heap.size := C14.out.lt
  have h14_X : w10.heap.size < w14.heap.size := X14.out.lt
  go_wp2_with fail
  refine (m_set f t true hn (fun _ _ => rfl) hft htn ((BBox.new Q14.out _)).k).mono ?_
  rintro e w15 ⟨a15, k15, rfl, q15, b15⟩
  have S15 := Lib.hid (((S14.out.below (below_box0 _ _))).below b15)
  have P15 := Lib.hid (((P14.out.below (below_box0 _ _))).below b15)
  have U15 := Lib.hid (((U14.out.below (below_box0 _ _))).below b15)
  have V15 := Lib.hid (((V14.out.below (below_box0 _ _))).below b15)
  have O15 := Lib.hid (((O14.out.below (below_box0 _ _))).below b15)
  have D15 := Lib.hid (((D14.out.below (below_box0 _ _))).below b15)
  have C15 := Lib.hid (((C14.out.below (below_box0 _ _))).below b15)
  have X15 := Lib.hid (((X14.out.below (below_box0 _ _))).below b15)
  have E15 : Hid (BBox w15 w14.heap.size n a14 ((n + 63) / 64) k14 (pack (fun _ => false) ((n + 63) / 64))) := Lib.hid (((BBox.new Q14.out _)).below b15)
  have Q15 : Hid (SlK .u64 w15 a15 ((n + 63) / 64) (pack (filled (fun _ => false) f t true) ((n + 63) / 64))) := Lib.hid q15
  clear b15 z14_0 z14_1 z14_2 q15 P14 U14 V14 O14 D14 C14 X14 S14 Q14
  have z15_0 := S15.out.r.p.n
  have z15_1 := S15.out.r.p.s
  have z15_2 := S15.out.x0
  have z15_3 := S15.out.x1
  have z15_4 := S15.out.x2
  have h15_s2 : w.heap.size + 2 < w15.heap.size := S15.out.lt
  have h15_s1 : w.heap.size + 1 < w15.heap.size := by omega
  have h15_s0 : w.heap.size < w15.heap.size := by omega
  have h15_P : w3.heap.size < w15.heap.size := P15.out.lt
  have h15_U : w5.heap.size < w15.heap.size := U15.out.lt
  have h15_V : w6.heap.size < w15.heap.size := V15.out.lt
  have h15_O : w7.heap.size < w15.heap.size := O15.out.lt
  have h15_D : w8.heap.size < w15.heap.size := D15.out.lt
  have h15_C : w9.heap.size < w15.heap.size := C15.out.lt
  have h15_X : w10.heap.size < w15.heap.size := X15.out.lt
  have h15_E : w14.heap.size < w15.heap.size := E15.out.lt
  go_wp2_with fail
  refine (m_set f t on hn HA.out hft htn ((S15.out.below (below_box0 _ _))).r.s).mono ?_
  rintro e w16 ⟨a16, k16, rfl, q16, b16⟩
  have S16 := Lib.hid (((S15.out.below (below_box0 _ _))).below b16)
  have P16 := Lib.hid (((P15.out.below (below_box0 _ _))).below b16)
  have U16 := Lib.hid (((U15.out.below (below_box0 _ _))).below b16)
  have V16 := Lib.hid (((V15.out.below (below_box0 _ _))).below b16)
  have O16 := Lib.hid (((O15.out.below (below_box0 _ _))).below b16)
  have D16 := Lib.hid (((D15.out.below (below_box0 _ _))).below b16)
  have C16 := Lib.hid (((C15.out.below (below_box0 _ _))).below b16)
  have X16 := Lib.hid (((X15.out.below (below_box0 _ _))).below b16)
  have E16 := Lib.hid (((E15.out.below (below_box0 _ _))).below b16)
  have R16 : Hid (BBox w16 w15.heap.size n a15 ((n + 63) / 64) k15 (pack (filled (fun _ => false) f t true) ((n + 63) / 64))) := Lib.hid (((BBox.new Q15.out _)).below b16)
  have Q16 : Hid (SlK .u64 w16 a16 ((n + 63) / 64) (pack (filled AA f t on) ((n + 63) / 64))) := Lib.hid q16
  clear b16 z15_0 z15_1 z15_2 z15_3 z15_4 q16 P15 U15 V15 O15 D15 C15 X15 E15 S15 Q15
  have z16_0 := S16.out.r.p.n
  have z16_1 := S16.out.r.p.s
  have z16_2 := R16.out.n
  have z16_3 := R16.out.s
  have h16_s2 : w.heap.size + 2 < w16.heap.size := S16.out.lt
  have h16_s1 : w.heap.size + 1 < w16.heap.size := by omega
  have h16_s0 : w.heap.size < w16.heap.size := by omega
  have h16_P : w3.heap.size < w16.heap.size := P16.out.lt
  have h16_U : w5.heap.size < w16.heap.size := U16.out.lt
  have h16_V : w6.heap.size < w16.heap.size := V16.out.lt
  have h16_O : w7.heap.size < w16.heap.size := O16.out.lt
  have h16_D : w8.heap.size < w16.heap.size := D16.out.lt
  have h16_C : w9.heap.size < w16.heap.size := C16.out.lt
  have h16_X : w10.heap.size < w16.heap.size := X16.out.lt
  have h16_E : w14.heap.size < w16.heap.size := E16.out.lt
  have h16_R : w15.heap.size < w16.heap.size := R16.out.lt
  go_wp2_with fail
  refine (m_less hn HA.out (Cl.filled (fun _ _ => rfl) htn true) ((S16.out.below (below_box0 _ _))).r.s ((R16.out.below (below_box0 _ _))).k).mono ?_
  rintro e w17 ⟨a17, k17, rfl, q17, b17⟩
  have S17 := Lib.hid (((S16.out.below (below_box0 _ _))).below b17)
  have P17 := Lib.hid (((P16.out.below (below_box0 _ _))).below b17)
  have U17 := Lib.hid (((U16.out.below (below_box0 _ _))).below b17)
  have V17 := Lib.hid (((V16.out.below (below_box0 _ _))).below b17)
  have O17 := Lib.hid (((O16.out.below (below_box0 _ _))).below b17)
  have D17 := Lib.hid (((D16.out.below (below_box0 _ _))).below b17)
  have C17 := Lib.hid (((C16.out.below (below_box0 _ _))).below b17)
  have X17 := Lib.hid (((X16.out.below (below_box0 _ _))).below b17)
  have E17 := Lib.hid (((E16.out.below (below_box0 _ _))).below b17)
  have R17 := Lib.hid (((R16.out.below (below_box0 _ _))).below b17)
  have Y17 : Hid (BBox w17 w16.heap.size n a16 ((n + 63) / 64) k16 (pack (filled AA f t on) ((n + 63) / 64))) := Lib.hid (((BBox.new Q16.out _)).below b17)
  have Q17 : Hid (SlK .u64 w17 a17 ((n + 63) / 64) (pack (fun i => AA i && !(filled (fun _ => false) f t true) i) ((n + 63) / 64))) := Lib.hid q17
  clear b17 z16_0 z16_1 z16_2 z16_3 q17 P16 U16 V16 O16 D16 C16 X16 E16 R16 S16 Q16
  cases on with
  | true =>
    have z17_0 := S17.out.r.p.n
    have z17_1 := S17.out.r.p.s
    have z17_2 := R17.out.n
    have z17_3 := R17.out.s
    have z17_4 := S17.out.x0
    have z17_5 := S17.out.x1
    have z17_6 := S17.out.x2
    have h17_s2 : w.heap.size + 2 < w17.heap.size := S17.out.lt
    have h17_s1 : w.heap.size + 1 < w17.heap.size := by omega
    have h17_s0 : w.heap.size < w17.heap.size := by omega
    have h17_P : w3.heap.size < w17.heap.size := P17.out.lt
    have h17_U : w5.heap.size < w17.heap.size := U17.out.lt
    have h17_V : w6.heap.size < w17.heap.size := V17.out.lt
    have h17_O : w7.heap.size < w17.heap.size := O17.out.lt
    have h17_D : w8.heap.size < w17.heap.size := D17.out.lt
    have h17_C : w9.heap.size < w17.heap.size := C17.out.lt
    have h17_X : w10.heap.size < w17.heap.size := X17.out.lt
    have h17_E : w14.heap.size < w17.heap.size := E17.out.lt
    have h17_R : w15.heap.size < w17.heap.size := R17.out.lt
    have h17_Y : w16.heap.size < w17.heap.size := Y17.out.lt
    go_wp2_with fail
    refine (m_or hn HA.out (Cl.filled (fun _ _ => rfl) htn true) ((S17.out.below (below_box0 _ _))).r.s ((R17.out.below (below_box0 _ _))).k).mono ?_
    rintro e w18 ⟨a18, k18, rfl, q18, b18⟩
    have S18 := Lib.hid (((S17.out.below (below_box0 _ _))).below b18)
    have P18 := Lib.hid (((P17.out.below (below_box0 _ _))).below b18)
    have U18 := Lib.hid (((U17.out.below (below_box0 _ _))).below b18)
    have V18 := Lib.hid (((V17.out.below (below_box0 _ _))).below b18)
    have O18 := Lib.hid (((O17.out.below (below_box0 _ _))).below b18)
    have D18 := Lib.hid (((D17.out.below (below_box0 _ _))).below b18)
    have C18 := Lib.hid (((C17.out.below (below_box0 _ _))).below b18)
    have X18 := Lib.hid (((X17.out.below (below_box0 _ _))).below b18)
    have E18 := Lib.hid (((E17.out.below (below_box0 _ _))).below b18)
    have R18 := Lib.hid (((R17.out.below (below_box0 _ _))).below b18)
    have Y18 := Lib.hid (((Y17.out.below (below_box0 _ _))).below b18)
    have T18 : Hid (BBox w18 w17.heap.size n a17 ((n + 63) / 64) k17 (pack (fun i => AA i && !(filled (fun _ => false) f t true) i) ((n + 63) / 64))) := Lib.hid (((BBox.new Q17.out _)).below b18)
    have Q18 : Hid (SlK .u64 w18 a18 ((n + 63) / 64) (pack (fun i => AA i || (filled (fun _ => false) f t true) i) ((n + 63) / 64))) := Lib.hid q18
    clear b18 z17_0 z17_1 z17_2 z17_3 z17_4 z17_5 z17_6 q18 P17 U17 V17 O17 D17 C17 X17 E17 R17 Y17 S17 Q17
    have z18_0 := Y18.out.n
    have z18_1 := Y18.out.s
    have z18_2 := T18.out.n
    have z18_3 := T18.out.s
    have z18_4 := S18.out.x0
    have z18_5 := S18.out.x1
    have z18_6 := S18.out.x2
    have z18_7 := T18.out.f0
    have z18_8 := T18.out.f1
    go_wp2_with fail
    refine (m_same hn (p := filled AA f t true) (q := fun i => AA i || (filled (fun _ => false) f t true) i) (fun i => by unfold filled; by_cases hi : f ≤ i ∧ i < t <;> simp [hi]) ((Y18.out.keep T18.out (by omega) _ _)).k ((T18.out.put Q18.out)).k).mono ?_
    rintro e w19 ⟨rfl, b19⟩
    have S19 := Lib.hid (((S18.out.put T18.out (by omega) _ _)).below b19)
    have P19 := Lib.hid (((P18.out.keep T18.out (by omega) _ _)).below b19)
    have U19 := Lib.hid (((U18.out.keep T18.out (by omega) _ _)).below b19)
    have V19 := Lib.hid (((V18.out.keep T18.out (by omega) _ _)).below b19)
    have O19 := Lib.hid (((O18.out.keep T18.out (by omega) _ _)).below b19)
    have D19 := Lib.hid (((D18.out.keep T18.out (by omega) _ _)).below b19)
    have C19 := Lib.hid (((C18.out.keep T18.out (by omega) _ _)).below b19)
    have X19 := Lib.hid (((X18.out.keep T18.out (by omega) _ _)).below b19)
    have E19 := Lib.hid (((E18.out.keep T18.out (by omega) _ _)).below b19)
    have R19 := Lib.hid (((R18.out.keep T18.out (by omega) _ _)).below b19)
    have Y19 := Lib.hid (((Y18.out.keep T18.out (by omega) _ _)).below b19)
    have T19 := Lib.hid (((T18.out.put Q18.out)).below b19)
    clear b19 z18_0 z18_1 z18_2 z18_3 z18_4 z18_5 z18_6 z18_7 z18_8 P18 U18 V18 O18 D18 C18 X18 E18 R18 Y18 T18 S18 Q18
    go_wp2_with fail
    refine (awake_ok _ (HT.out.below S19.out.r.k)).mono ?_
    rintro e wz ⟨rfl, bz⟩
    have SZ := Lib.hid (S19.out.below bz)
    clear bz
    go_wp2
    go_ret
    exact ⟨rfl, SZ.out.r.k⟩
  | false =>
    have z17_0 := Y17.out.n
    have z17_1 := Y17.out.s
    have z17_2 := S17.out.x0
    have z17_3 := S17.out.x1
    have z17_4 := S17.out.x2
    have h17_s2 : w.heap.size + 2 < w17.heap.size := S17.out.lt
    have h17_s1 : w.heap.size + 1 < w17.heap.size := by omega
    have h17_s0 : w.heap.size < w17.heap.size := by omega
    have h17_P : w3.heap.size < w17.heap.size := P17.out.lt
    have h17_U : w5.heap.size < w17.heap.size := U17.out.lt
    have h17_V : w6.heap.size < w17.heap.size := V17.out.lt
    have h17_O : w7.heap.size < w17.heap.size := O17.out.lt
    have h17_D : w8.heap.size < w17.heap.size := D17.out.lt
    have h17_C : w9.heap.size < w17.heap.size := C17.out.lt
    have h17_X : w10.heap.size < w17.heap.size := X17.out.lt
    have h17_E : w14.heap.size < w17.heap.size := E17.out.lt
    have h17_R : w15.heap.size < w17.heap.size := R17.out.lt
    have h17_Y : w16.heap.size < w17.heap.size := Y17.out.lt
    go_wp2_with fail
    refine (m_same hn (p := filled AA f t false) (q := fun i => AA i && !(filled (fun _ => false) f t true) i) (fun i => by unfold filled; by_cases hi : f ≤ i ∧ i < t <;> simp [hi]) ((Y17.out.below (below_box0 _ _))).k ((BBox.new Q17.out _)).k).mono ?_
    rintro e w18 ⟨rfl, b18⟩
    have S18 := Lib.hid (((S17.out.below (below_box0 _ _))).below b18)
    have P18 := Lib.hid (((P17.out.below (below_box0 _ _))).below b18)
    have U18 := Lib.hid (((U17.out.below (below_box0 _ _))).below b18)
    have V18 := Lib.hid (((V17.out.below (below_box0 _ _))).below b18)
    have O18 := Lib.hid (((O17.out.below (below_box0 _ _))).below b18)
    have D18 := Lib.hid (((D17.out.below (below_box0 _ _))).below b18)
    have C18 := Lib.hid (((C17.out.below (below_box0 _ _))).below b18)
    have X18 := Lib.hid (((X17.out.below (below_box0 _ _))).below b18)
    have E18 := Lib.hid (((E17.out.below (below_box0 _ _))).below b18)
    have R18 := Lib.hid (((R17.out.below (below_box0 _ _))).below b18)
    have Y18 := Lib.hid (((Y17.out.below (below_box0 _ _))).below b18)
    have T18 : Hid (BBox w18 w17.heap.size n a17 ((n + 63) / 64) k17 (pack (fun i => AA i && !(filled (fun _ => false) f t true) i) ((n + 63) / 64))) := Lib.hid (((BBox.new Q17.out _)).below b18)
    clear b18 z17_0 z17_1 z17_2 z17_3 z17_4 P17 U17 V17 O17 D17 C17 X17 E17 R17 Y17 S17 Q17
    go_wp2_with fail
    refine (awake_ok _ (HT.out.below S18.out.r.k)).mono ?_
    rintro e wz ⟨rfl, bz⟩
    have SZ := Lib.hid (S18.out.below bz)
    clear bz
    go_wp2
    go_ret
    exact ⟨rfl, SZ.out.r.k⟩
theorem pack_self {n : Nat} {ws : List Nat} (hw : ∀ x ∈ ws, x < 18446744073709551616) (hc : chk n ws = 0) : ws = pack (bat ws) ((n + 63) / 64) := by
  obtain ⟨_, _, hl, _⟩ := chk_zero hc
  exact pack_unique (by omega) hw (fun _ _ => rfl)
theorem law_morgan (N f t : Int) (on : Bool) (a : Option Addr) (len cap : Nat) (ws : List Nat) (M : Int) (b : Option Addr) (lb cb : Nat) (vs : List Nat) (w : World) (hT : Tab w) (hs : SlK .u64 w a len ws) (ht : SlK .u64 w b lb vs) (hw : ∀ x ∈ ws, x < 18446744073709551616) (hv : ∀ x ∈ vs, x < 18446744073709551616) (hlen : len ≤ 9223372036854775807) (hlb : lb ≤ 9223372036854775807) :
    Calls Tryd.prog 11 #[.agg #[.int .i64 N, .slice a len cap], .agg #[.int .i64 M, .slice b lb cb], .agg #[.int .i64 f, .int .i64 t, .bool on]] w fun e w' => e = .returned (.bool true) ∧ Below w.heap.size w w' := by
  by_cases h : chk N ws = 0 ∧ chk M vs = 0 ∧ N = M ∧ 0 ≤ f ∧ f ≤ t ∧ t ≤ N
  · obtain ⟨h1, h2, rfl, h3, h4, h5⟩ := h
    obtain ⟨hN0, hN, hl1, _⟩ := chk_zero h1
    obtain ⟨_, _, hl2, _⟩ := chk_zero h2
    obtain ⟨n, rfl⟩ := Int.eq_ofNat_of_zero_le hN0
    obtain ⟨f, rfl⟩ := Int.eq_ofNat_of_zero_le h3
    obtain ⟨t, rfl⟩ := Int.eq_ofNat_of_zero_le (by omega : 0 ≤ t)
    obtain rfl : len = (n + 63) / 64 := by have := hs.length; omega
    obtain rfl : lb = (n + 63) / 64 := by have := ht.length; omega
    rw [pack_self hw h1] at hs
    rw [pack_self hv h2] at ht
    exact law_morgan_yes n f t on (bat ws) (bat vs) (chk_out h1) (chk_out h2) a cap b cb w hT hs ht (by omega) (by omega) (by omega)
  · exact law_morgan_no N f t on a len cap ws M b lb cb vs w hT hs ht hw hv hlen hlb h
end Go.Proofs.YtikdgnfcckenmaaDoor
