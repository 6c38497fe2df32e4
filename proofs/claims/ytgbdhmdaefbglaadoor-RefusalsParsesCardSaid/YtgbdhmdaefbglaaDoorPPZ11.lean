/- Refusals: Parse of the program. | Refusals: Parse of the reference. -/
import Derived.Test.YtgbdhmdaefbglaaDoorPPZ7
import Derived.Test.YtgbdhmdaefbglaaDoorPPZ5
import Derived.Test.YtgbdhmdaefbglaaDoorPPZ10
import Derived.WalkMore
namespace Go.Proofs.YtgbdhmdaefbglaaDoor
open Go.RowKit Go.Sort Go.Joins Go.Shelf
attribute [local go_sem] cell_grow frozen_grow size_grow Oper.semAt_some

theorem spl_le {c : UInt8} : ∀ {l p : List UInt8}, p ∈ spl c l → p.length ≤ l.length
  | [], p, h => by
    rw [spl_nil] at h
    have : p = [] := by simpa using h
    subst this; simp
  | x :: r, p, h => by
    by_cases e : x = c
    · subst e
      rw [spl_hit] at h
      rcases List.mem_cons.1 h with rfl | h
      · simp
      · have := spl_le h; rw [List.length_cons]; omega
    · rw [spl_miss e] at h
      rcases List.mem_cons.1 h with rfl | h
      · have := spl_le (hd_mem (spl_ne c r)); rw [List.length_cons, List.length_cons]; omega
      · have := spl_le (List.mem_of_mem_tail h); rw [List.length_cons]; omega
theorem getD_mem {ls : List (List UInt8)} {j : Nat} (h : j < ls.length) : ls.getD j [] ∈ ls := by
  rw [List.getD_eq_getElem?_getD, List.getElem?_eq_getElem h]; exact List.getElem_mem h
theorem lns_le {l : List UInt8} {j : Nat} (h : j < (lnsL l).length) : ((lnsL l).getD j []).length ≤ 1048576 := by
  have hm := getD_mem h
  unfold lnsL at hm h
  split at hm
  · rename_i hc; rw [if_pos hc] at h; simp at h
  · rename_i hc
    have hE : lnsE l = 0 := by
      by_cases e : lnsE l = 0
      · exact e
      · exact absurd (.inl e) hc
    have hlen : l.length ≤ 1048576 := by
      unfold lnsE at hE
      by_cases e : 1048576 < l.length
      · rw [if_pos e] at hE; cases hE
      · omega
    have hun : lnsL l = spl 10 l.dropLast := by unfold lnsL; rw [if_neg hc]
    rw [hun]
    have := spl_le hm
    rw [List.length_dropLast] at this
    omega
theorem SlT.cell {w : World} {b : Nat} {ls : List (List UInt8)} (h : SlT w (some ⟨b, 0, none⟩) ls) {j : Nat} (hj : j < ls.length) : ∃ S : ByteArray, w.cell? ⟨b, j, none⟩ = some (.string S) ∧ S.data.toList = ls.getD j [] := by
  rcases h with rfl | ⟨b', o, ha, hc⟩
  · simp at hj
  · cases ha
    obtain ⟨S, h1, h2⟩ := hc j hj
    rw [Nat.zero_add] at h1
    exact ⟨S, h1, h2⟩
theorem spl_ge (c : UInt8) (l : List UInt8) : 1 ≤ (spl c l).length := by rw [spl_len]; omega
theorem lns_len (l : List UInt8) : (lnsL l).length ≤ 1048577 := by
  unfold lnsL
  split
  · simp
  · rename_i hc
    have hE : lnsE l = 0 := by
      by_cases e : lnsE l = 0
      · exact e
      · exact absurd (.inl e) hc
    have hlen : l.length ≤ 1048576 := by
      unfold lnsE at hE
      by_cases e : 1048576 < l.length
      · rw [if_pos e] at hE; cases hE
      · omega
    rw [spl_len]
    have := List.count_le_length (a := (10 : UInt8)) (l := l.dropLast)
    rw [List.length_dropLast] at this
    omega
theorem alloc2 {w W : World} (h : Below w.heap.size w W) (o p : Obj) : Below w.heap.size w ((W.alloc o).alloc p) := (h.alloc h.size o).alloc (h.alloc h.size o).size p
abbrev BoxP5 (W : World) (g : Nat) (a : Option Addr) (n c : Nat) : Prop := W.heap[g]? = some (.cells #[.slice a n c] 24 (0, 0))
theorem put_alloc2 {W : World} {g n c : Nat} {a : Option Addr} (h : BoxP5 W g a n c) (v : Value) (o p : Obj) : (((W.setCell ⟨g, 0, none⟩ v).alloc o).alloc p).cell? ⟨g, 0, none⟩ = some v := by
  have e1 : (W.setCell ⟨g, 0, none⟩ v).heap[g]? = some (.cells #[v] 24 (0, 0)) := (setCell_block h v).trans (by simp)
  have e2 := ((below_box0 _ o).block _ (blk_lt e1)).trans e1
  have e3 := ((below_box0 _ p).block _ (blk_lt e2)).trans e2
  rw [cell_of_block e3]; rfl
/-- what lay there when the lines were read lies there still, but for one box -/
structure Fr5 (w : World) (g : Nat) (W : World) : Prop where
  size : w.heap.size ≤ W.heap.size
  keep : ∀ b, b < w.heap.size → b ≠ g → W.heap[b]? = w.heap[b]?
theorem Fr5.below {w W W' : World} {g : Nat} (h : Fr5 w g W) (hb : Below W.heap.size W W') : Fr5 w g W' :=
  ⟨Nat.le_trans h.size hb.size, fun b hl hn => (hb.block b (Nat.lt_of_lt_of_le hl h.size)).trans (h.keep b hl hn)⟩
theorem SlT.frame {w W : World} {g n c : Nat} {a a' : Option Addr} {ls : List (List UInt8)} (h : SlT w a ls) (hX : BoxP5 w g a' n c) (hf : Fr5 w g W) : SlT W a ls := by
  rcases h with h | ⟨b, o, ha, hc⟩
  · exact .inl h
  · refine .inr ⟨b, o, ha, fun j hj => ?_⟩
    obtain ⟨S, h1, h2⟩ := hc j hj
    have hl := World.block_lt_of_cell? _ _ h1
    dsimp only at hl
    have hne : b ≠ g := by
      rintro rfl
      rw [cell_of_block hX] at h1
      cases hoj : o + j with
      | zero => rw [hoj] at h1; simp at h1
      | succ m => rw [hoj] at h1; simp at h1
    refine ⟨S, ?_, h2⟩
    rw [← h1]
    simp only [World.cell?, hf.keep b hl hne]
theorem pI_le {n : Nat} {R : Nat → Rl} : 0 ≤ pI n R ∧ pI n R ≤ 50 := by
  unfold pI
  split
  · omega
  · split
    · omega
    · omega
abbrev wordsV : Value := .agg #[.string ⟨#[]⟩, .string ⟨#[101, 118, 101, 114, 121]⟩, .string ⟨#[116, 105, 109, 101, 115]⟩]
theorem widx_1 (W : World) : (Instr.index 65 wordsV (.int .i64 1)).run Tryd.prog W = .ok (.string ⟨#[101, 118, 101, 114, 121]⟩) W := by kernel_rfl
theorem widx_2 (W : World) : (Instr.index 65 wordsV (.int .i64 2)).run Tryd.prog W = .ok (.string ⟨#[116, 105, 109, 101, 115]⟩) W := by kernel_rfl
/-- a rule's box and the row of its cells' addresses -/
structure PB (w : World) (bc : Array Value) (W : World) : Prop where
  k : Below w.heap.size w W
  b : W.heap[w.heap.size]? = some (.cells bc 45 (0, 0))
  p : W.heap[w.heap.size + 1]? = some (.cells #[.pointer (some ⟨w.heap.size, 1, none⟩), .pointer (some ⟨w.heap.size, 2, none⟩), .pointer (some ⟨w.heap.size, 3, none⟩)] 61 (0, 0))
theorem PB.below {w W W' : World} {bc : Array Value} (h : PB w bc W) (hb : Below W.heap.size W W') : PB w bc W' :=
  ⟨h.k.trans (hb.mono h.k.size), (hb.block _ (blk_lt h.b)).trans h.b, (hb.block _ (blk_lt h.p)).trans h.p⟩
theorem PB.drewN {w W : World} {bc : Array Value} (h : PB w bc W) (m : Nat) : PB w bc (W.drewN m) := h.below (below_draw _ _)
theorem PB.put {w W : World} {bc : Array Value} (h : PB w bc W) (i : Nat) (v : Value) : PB w (bc.setIfInBounds i v) (W.setCell ⟨w.heap.size, i, none⟩ v) :=
  ⟨h.k.setCell (p := ⟨w.heap.size, i, none⟩) (Nat.le_refl _) _, setCell_block h.b v, (Below.heap_setCell _ _ _ _ (by dsimp only; omega)).trans h.p⟩
theorem PB.new (w : World) (bc : Array Value) : PB w bc ((w.alloc (.cells bc 45)).alloc (.cells #[.pointer (some ⟨w.heap.size, 1, none⟩), .pointer (some ⟨w.heap.size, 2, none⟩), .pointer (some ⟨w.heap.size, 3, none⟩)] 61)) := by
  refine ⟨alloc2 (Below.refl _ _) _ _, (Below.heap_alloc _ _ _ (by simp)).trans (heap_alloc_new w _), ?_⟩
  have := heap_alloc_new (w.alloc (.cells bc 45)) (.cells #[.pointer (some ⟨w.heap.size, 1, none⟩), .pointer (some ⟨w.heap.size, 2, none⟩), .pointer (some ⟨w.heap.size, 3, none⟩)] 61)
  rwa [World.size_alloc] at this
theorem own_belowK {w w' : World} {base : Nat} {e : TypeId} {size : Nat} {v : Value} {n : Nat} {xs : List Value} (h : w.ownsRow base e size v n xs) (hb : Below w.heap.size w w') : w'.ownsRow base e size v n xs := own_below h hb
/-- what Parse hands back -/
def ParsePost (w : World) (Q : List Rl) (i e : Int) (x : Ending) (w' : World) : Prop :=
  ∃ a c, x = .returned (.tuple #[.agg #[.slice a Q.length c], .int .i64 i, .int .i64 e]) ∧ SlR w' a Q.length (fun j => Q.getD j rl0) ∧ Below w.heap.size w w'
theorem ParsePost.none {w w' : World} {i e : Int} (h : Below w.heap.size w w') : ParsePost w [] i e (.returned (.tuple #[.agg #[.slice none 0 0], .int .i64 i, .int .i64 e])) w' := ⟨_, _, rfl, .inl rfl, h⟩
set_option maxRecDepth 100000 in
set_option maxHeartbeats 6400000 in
theorem parse_ok (s : ByteArray) (L : List UInt8) (hL : s.data.toList = L) (w : World) (hT : T5 w) (hTW : TW w) (hM : ML w) :
    Calls Tryd.prog 9 #[.string s] w (ParsePost w (ps5 L).1 (ps5 L).2.1 (ps5 L).2.2) := by
  obtain ⟨i0, hi, hz0, hz1, hz2⟩ := info_parts info_rule
  have b0 := below_box0 w (.cells #[.slice none 0 0] 24)
  have HB0 := Lib.hid b0
  have HX0 : Hid (BoxP5 (w.alloc (.cells #[.slice none 0 0] 24)) w.heap.size none 0 0) := Lib.hid (heap_alloc_new w _)
  have HLN := Lib.hid (lines_ok s L hL _ (hM.below b0))
  have HT := Lib.hid hT
  have HTW := Lib.hid hTW
  have HM := Lib.hid hM
  have hbad := fun (h : lnsE L ≠ 0) => ps5_lines h
  have hbd := fun (h : lnsE L = 0) => @ps5_bad L h
  have hgd := fun (h : lnsE L = 0) => @ps5_good L h
  have hle := fun j h => @lns_le L j h
  have hnl := lns_len L
  obtain ⟨LL, hLL⟩ : ∃ x, lnsL L = x := ⟨_, rfl⟩
  obtain ⟨E0, hE0⟩ : ∃ x, lnsE L = x := ⟨_, rfl⟩
  obtain ⟨PS, hPS⟩ : ∃ x, ps5 L = x := ⟨_, rfl⟩
  rw [hLL] at HLN hbd hgd hle hnl
  rw [hE0] at HLN hbad hbd hgd
  rw [hPS] at hbad hbd hgd ⊢
  obtain ⟨Q0, ln0, er0⟩ := PS
  dsimp only
  clear b0 hL hT hTW hM hLL hE0 hPS
  go_enter Tryd.func9, Tryd.ntmps9
  go_wp2_with fail
  go_step3
  go_wp2_with fail
  refine HLN.out.mono ?_
  rintro e w1 ⟨al, cl, rfl, hSL, b1⟩
  have HX1 : Hid (BoxP5 w1 w.heap.size none 0 0) := Lib.hid ((b1.block _ (blk_lt HX0.out)).trans HX0.out)
  have HB1 := Lib.hid (below_tr HB0.out b1)
  have HSL := Lib.hid hSL
  clear b1 hSL HLN HX0 HB0
  have k5 : w1.cell? ⟨w.heap.size, 0, none⟩ = some (.slice none 0 0) := by rw [cell_of_block HX1.out]; rfl
  have f5 := unfrozen_of_block HX1.out 0
  have l5 := blk_lt HX1.out
  by_cases hE : E0 = 0
  · subst hE
    have hbd := fun k => @hbd rfl k
    have hgd := fun hp Q => @hgd rfl hp Q
    clear hbad k5 f5
    have HBD := Lib.hid hbd
    have HGD := Lib.hid hgd
    have HLE := Lib.hid hle
    clear hbd hgd hle
    go_wp2_with fail
    go_step3
    go_wp2_with fail
    go_loopw [28] (fun i wr => ∃ (k : Nat) (a' : Option Addr) (c' : Nat), i = .int .i64 (k : Int) ∧ k ≤ LL.length ∧ Hid ((rlsL LL k).length = k) ∧ Hid (∀ j, j < k → lnP (LL.getD j []) ≠ none) ∧ Hid (BoxP5 wr w.heap.size a' k c') ∧ Hid (wr.ownsRow w1.heap.size 45 4 (.slice a' k c') k (rlc (rlsL LL k))) ∧ Hid (Fr5 w1 w.heap.size wr) ∧ Hid (Below w.heap.size w wr)) (fun i _ => LL.length - (intOf i).toNat)
    case atStart => exact ⟨0, none, 0, rfl, Nat.zero_le _, Lib.hid rfl, Lib.hid (fun j hj => by omega), HX1, Lib.hid (World.ownsRow_nil _ _ _ _), Lib.hid ⟨Nat.le_refl _, fun _ _ _ => rfl⟩, HB1⟩
    case round =>
      obtain ⟨k, a', c', rfl, hk, HLn, HG, HX, HO, HFR, HB⟩ := hrel
      have HS := Lib.hid (HSL.out.frame HX1.out HFR.out)
      by_cases hlt : k < LL.length
      · obtain ⟨bl, ol, S, rfl, cS, hS⟩ := HS.out.at_ hlt
        have hSl := HLE.out k hlt
        obtain ⟨SL, hSLd⟩ : ∃ x, LL.getD k [] = x := ⟨_, rfl⟩
        rw [hSLd] at hS hSl
        have hSs := len_of hS
        have HSP := Lib.hid (split_ok S SL hS 32 (by omega) wr (HM.out.below HB.out))
        have hpl := fun j (hj : j < (spl 32 SL).length) => spl_le (getD_mem hj)
        have hge := spl_ge 32 SL
        have hwk := fun h => @wdP_kind (spl 32 SL) h
        have hwo := fun h => @wdP_odd (spl 32 SL) h (spl_ne 32 SL)
        have hww := @wd_ways (spl 32 SL)
        have hln : lnP SL = wdP (spl 32 SL) := rfl
        obtain ⟨P, hP⟩ : ∃ x, spl 32 SL = x := ⟨_, rfl⟩
        rw [hP] at HSP hpl hge hwk hwo hww hln
        have hbk : wdP P = none → (Q0, ln0, er0) = ([], (k : Int) + 1, 6) := fun h => HBD.out k hlt HG.out (by rw [hSLd, hln, h])
        have HBK := Lib.hid hbk
        have HLNP := Lib.hid (And.intro hSLd hln)
        clear hP hS hbk hSLd hln
        go_wp2_with fail
        refine HSP.out.mono ?_
        rintro e w2 ⟨fb, rfl, hSP, b2⟩
        have hB2 := below_tr HB.out b2
        obtain ⟨S0, cS0, hS0⟩ := hSP.cell (j := 0) (by omega)
        have hK := kind_ok S0 _ hS0 w2 (HT.out.below hB2)
        have hkw := knI_ways (P.getD 0 [])
        have hwk2 : knI (P.getD 0 []) < 0 → wdP P = none := fun h => hwk (by rw [show P.headD [] = P.getD 0 [] by cases P <;> rfl]; exact h)
        obtain ⟨K, hKd⟩ : ∃ x, knI (P.getD 0 []) = x := ⟨_, rfl⟩
        rw [hKd] at hK hkw hwk2 hww
        have HKC := Lib.hid hK
        have HX2 : Hid (BoxP5 w2 w.heap.size a' k c') := Lib.hid ((b2.block _ (blk_lt HX.out)).trans HX.out)
        have HB2 := Lib.hid hB2
        have HFR2 := Lib.hid (HFR.out.below b2)
        have HO2 := Lib.hid (own_below HO.out b2)
        have HSP2 := Lib.hid hSP
        clear b2 hB2 hK hSP cS hwk HSP HX HO HB HS HFR
        go_wp2_with fail
        refine HKC.out.mono ?_
        rintro e w3 ⟨rfl, hw3⟩
        subst hw3
        have k5 : w2.cell? ⟨w.heap.size, 0, none⟩ = some (.slice a' k c') := by rw [cell_of_block HX2.out]; rfl
        have f5 := unfrozen_of_block HX2.out 0
        have l5 := blk_lt HX2.out
        have kz := fun v o p => put_alloc2 HX2.out v o p
        clear HKC cS0
        rcases hkw with ⟨q, hq, hPq, rfl⟩ | ⟨_, rfl⟩
        · -- the words of a line
          obtain ⟨n, hn⟩ : ∃ x, P.length = x := ⟨_, rfl⟩
          have hdq : decide ((q : Int) < 0) = false := decide_eq_false (by omega)
          by_cases hlb : n % 2 ≠ 0 ∨ 6 < n
          · have h6 := HBK.out (hwo (by rw [hn]; exact hlb))
            cases h6
            rw [hn]
            have hor : ((n : Int) % 2 = 1) ∨ ((n : Int) % 2 = 0 ∧ decide ((6 : Int) < (n : Int)) = true) := by
              rcases hlb with h | h
              · left; omega
              · by_cases h2 : (n : Int) % 2 = 1
                · exact .inl h2
                · right; exact ⟨by omega, decide_eq_true (by omega)⟩
            have hn6 : ((n : Int) % 2 = 0) → 6 < n := fun h => by rcases hlb with h1 | h1 <;> omega
            clear hww hwo hwk2 hpl hlb
            rcases hor with h2 | ⟨h2, h3⟩
            all_goals
              try have h4 := hn6 h2
              clear hn6
              go_wp2
              exact bodyPost_ret (v := .tuple #[.agg #[.slice none 0 0], .int .i64 ((k : Int) + 1), .int .i64 6]) (by simp [results, Tryd.results9, go_sem, kz]) rfl (ParsePost.none (alloc2 (HB2.out.setCell (p := ⟨w.heap.size, 0, none⟩) (Nat.le_refl _) _) _ _))
          · have hn3 : n = 2 ∨ n = 4 ∨ n = 6 := by omega
            obtain ⟨u1, u2, u3, u4, u5, u6⟩ := hww (by omega) (by omega)
            obtain ⟨p1, hp1⟩ : ∃ x, P.getD 1 [] = x := ⟨_, rfl⟩
            obtain ⟨p2, hp2⟩ : ∃ x, P.getD 2 [] = x := ⟨_, rfl⟩
            obtain ⟨p3, hp3⟩ : ∃ x, P.getD 3 [] = x := ⟨_, rfl⟩
            obtain ⟨p4, hp4⟩ : ∃ x, P.getD 4 [] = x := ⟨_, rfl⟩
            obtain ⟨p5, hp5⟩ : ∃ x, P.getD 5 [] = x := ⟨_, rfl⟩
            obtain ⟨E1, hE1⟩ : ∃ x, numE p1 = x := ⟨_, rfl⟩
            obtain ⟨V1, hV1⟩ : ∃ x, numV p1 = x := ⟨_, rfl⟩
            obtain ⟨E3, hE3⟩ : ∃ x, numE p3 = x := ⟨_, rfl⟩
            obtain ⟨V3, hV3⟩ : ∃ x, numV p3 = x := ⟨_, rfl⟩
            obtain ⟨E5, hE5⟩ : ∃ x, numE p5 = x := ⟨_, rfl⟩
            obtain ⟨V5, hV5⟩ : ∃ x, numV p5 = x := ⟨_, rfl⟩
            rw [hp1, hE1] at u1
            rw [hn, hp1, hE1, hV1] at u2
            rw [hn, hp3, hE3, hV3, hp2] at u3
            rw [hn, hp1, hE1, hV1, hp3, hE3, hV3, hp2] at u4
            rw [hn, hp5, hE5, hV5, hp4] at u5
            rw [hn, hp1, hE1, hV1, hp3, hE3, hV3, hp2, hp5, hE5, hV5, hp4] at u6
            have U1 := Lib.hid u1
            have U2 := Lib.hid u2
            have U3 := Lib.hid u3
            have U4 := Lib.hid u4
            have U5 := Lib.hid u5
            have U6 := Lib.hid u6
            have HP1 := Lib.hid hp1
            have HP2 := Lib.hid hp2
            have HP3 := Lib.hid hp3
            have HP4 := Lib.hid hp4
            have HP5 := Lib.hid hp5
            have HEV1 := Lib.hid (And.intro hE1 hV1)
            have HEV3 := Lib.hid (And.intro hE3 hV3)
            have HEV5 := Lib.hid (And.intro hE5 hV5)
            have hpn : ∀ j, j < n → (P.getD j []).length ≤ 1048576 := fun j hj => Nat.le_trans (hpl j (by omega)) hSl
            have HPN := Lib.hid hpn
            have HLEN := Lib.hid hn
            have HPB0 := Lib.hid (PB.new w2 #[.int .i64 (q : Int), .int .i64 0, .int .i64 0, .int .i64 1])
            have hxg : ¬ w.heap.size = w2.heap.size := by omega
            have hxg2 : ¬ w2.heap.size = w.heap.size := by omega
            have hm2 : ((n : Int) % 2 = 0) := by omega
            have hm6 : decide ((6 : Int) < (n : Int)) = false := decide_eq_false (by omega)
            have hm62 : ¬ 6 < n := by omega
            rw [hn]
            clear hww hwo hwk2 hpl hlb u1 u2 u3 u4 u5 u6 hp1 hp2 hp3 hp4 hp5 hE1 hE3 hE5 hV1 hV3 hV5 hpn hn k5 f5 l5 kz
            go_wp2_with fail
            clear hm2 hm6 hm62
            go_loopw [12, 13, 14] (fun J _ _ wr => ∃ z : Nat, z = 0 ∧ ((J = .int .i64 0 ∧ Hid (PB w2 #[.int .i64 (q : Int), .int .i64 0, .int .i64 0, .int .i64 1] wr)) ∨ (J = .int .i64 1 ∧ 4 ≤ n ∧ Hid (E1 = 0) ∧ Hid (PB w2 #[.int .i64 (q : Int), .int .i64 V1, .int .i64 0, .int .i64 1] wr)) ∨ (J = .int .i64 2 ∧ 6 ≤ n ∧ Hid (E1 = 0 ∧ E3 = 0 ∧ V3 ≠ 0 ∧ p2 = everyL) ∧ Hid (PB w2 #[.int .i64 (q : Int), .int .i64 V1, .int .i64 V3, .int .i64 0] wr)))) (fun J _ _ _ => 3 - (intOf J).toNat)
            case atStart => exact ⟨0, rfl, .inl ⟨rfl, HPB0⟩⟩
            case round =>
              clear HPB0
              rcases hrel with ⟨_, _, ⟨rfl, HPB⟩ | ⟨rfl, hn4, HF, HPB⟩ | ⟨rfl, hn4, HF, HPB⟩⟩
              · obtain ⟨S1, cS1, hS1⟩ := (HSP2.out.below HPB.out.k).cell (j := 1) (by rw [HLEN.out]; omega)
                have hl1 := HPN.out 1 (by omega)
                rw [HP1.out] at hS1 hl1
                have hs1 := len_of hS1
                have hI : Calls Tryd.prog 27 #[.string S1, .int .i64 0, .int .i64 1000000000] wr fun e w' => e = .returned (.tuple #[.int .i64 (numV p1), .int .i64 (numE p1)]) ∧ Below wr.heap.size wr w' := wint_ok S1 p1 hS1 (by omega) 0 1000000000 (by decide) (by decide) wr (HTW.out.below (HB2.out.trans (HPB.out.k.mono HB2.out.size)))
                rw [HEV1.out.1, HEV1.out.2] at hI
                have HI := Lib.hid hI
                clear hI hl1 hs1 hS1
                go_wp2_with fail
                refine HI.out.mono ?_
                rintro e w4 ⟨rfl, b4⟩
                have HPC := Lib.hid (HPB.out.below b4)
                have HXc : Hid (BoxP5 w4 w.heap.size a' k c') := Lib.hid ((HPC.out.k.block _ (blk_lt HX2.out)).trans HX2.out)
                have k5 : w4.cell? ⟨w.heap.size, 0, none⟩ = some (.slice a' k c') := by rw [cell_of_block HXc.out]; rfl
                have f5 := unfrozen_of_block HXc.out 0
                have l5 := blk_lt HXc.out
                have HBc := Lib.hid (HB2.out.trans (HPC.out.k.mono HB2.out.size))
                clear cS1 b4 HI
                by_cases he : E1 = 0
                · subst he
                  have x0 : w4.cell? ⟨w2.heap.size, 0, none⟩ = some (.int .i64 (q : Int)) := by rw [cell_of_block HPC.out.b]; rfl
                  have x1 : w4.cell? ⟨w2.heap.size, 1, none⟩ = some (.int .i64 0) := by rw [cell_of_block HPC.out.b]; rfl
                  have x2 : w4.cell? ⟨w2.heap.size, 2, none⟩ = some (.int .i64 0) := by rw [cell_of_block HPC.out.b]; rfl
                  have x3 : w4.cell? ⟨w2.heap.size, 3, none⟩ = some (.int .i64 1) := by rw [cell_of_block HPC.out.b]; rfl
                  have y0 : w4.cell? ⟨w2.heap.size + 1, 0, none⟩ = some (.pointer (some ⟨w2.heap.size, 1, none⟩)) := by rw [cell_of_block HPC.out.p]; rfl
                  have fx := unfrozen_of_block HPC.out.b
                  have lx := blk_lt HPC.out.b
                  have ly := blk_lt HPC.out.p
                  by_cases hlast : n = 2
                  · subst hlast
                    go_wp2_with fail
                    go_quiet (fail)
                    go_wp2_with (at_builtin; refine wpList_append_own _ rfl (.tmp 116) (.tmp 118) 22 rfl w1.heap.size 45 i0 (.agg #[.int .i64 0, .int .i64 0, .int .i64 0, .int .i64 0]) 4 32 Tryd.underlying22 hi hz0 hz1 hz2 rfl (by decide) _ _ _ rfl ((own_belowK HO2.out ?cb).alloc _) ⟨w4.heap.size, 0, none⟩ 1 1 [.int .i64 (q : Int), .int .i64 V1, .int .i64 0, .int .i64 1] rfl rfl ?c1 ?c2 ?c3 ?c4 ?c5 ?_)
                    case cb => exact ((HPC.out.drewN _).put 1 _).k
                    case c1 => intro j u hu; match j with | 0 => (simp at hu; subst hu; simp [go_sem]) | 1 => (simp at hu; subst hu; simp [go_sem]) | 2 => (simp at hu; subst hu; simp [go_sem]) | 3 => (simp at hu; subst hu; simp [go_sem]) | j + 4 => simp at hu
                    case c2 => intro u hu; simp at hu; rcases hu with rfl | rfl | rfl | rfl <;> rfl
                    case c3 => unfold maxLen; omega
                    case c4 => have := HFR2.out.size; omega
                    case c5 => have := HFR2.out.size; simp; omega
                    intro v' w5 hown hgrow _
                    obtain ⟨a2, c2', rfl⟩ := own_slice hown
                    have hb3 : Below w1.heap.size w2 w5 := (((((HPC.out.drewN _).put 1 _).k.mono (HFR2.out.size))).alloc (by have := HFR2.out.size; simp; omega) _).grown hgrow (by have := HFR2.out.size; simp; omega) (fun r e => by have := (HO2.out.lt r e).1; omega)
                    have hgl : w.heap.size < w1.heap.size := blk_lt HX1.out
                    have hbx5 : BoxP5 w5 w.heap.size a' k c' := (hb3.block _ hgl).trans HX2.out
                    have x0 : w5.cell? ⟨w.heap.size, 0, none⟩ = some (.slice a' k c') := by rw [cell_of_block hbx5]; rfl
                    have xf := unfrozen_of_block hbx5 0
                    have xl := blk_lt hbx5
                    have HOW := Lib.hid hown
                    have HB3 := Lib.hid hb3
                    have HX5 := Lib.hid hbx5
                    have hsome : lnP (LL.getD k []) = some ((q : Int), V1, 0, 1) := by rw [HLNP.out.1, HLNP.out.2]; exact (by apply U2.out <;> first | trivial | rfl | exact HF.out | exact HF.out.1 | exact HF.out.2.1 | exact HF.out.2.2.1 | exact HF.out.2.2.2 | exact HV.out | exact HW.out)
                    have HSM := Lib.hid hsome
                    clear hown hgrow hb3 hbx5 hsome y0 fx lx ly k5 f5 l5
                    go_wp2_with fail
                    go_roundw
                    case rel =>
                      have hne' : (Value.slice a2 (k + 1) c2').ownBlock ≠ some (⟨w.heap.size, 0, none⟩ : Addr).block := fun e => by have := (HOW.out.lt _ e).1; dsimp only at this; omega
                      have hst := rls_step (by omega) HSM.out
                      refine ⟨k + 1, a2, c2', by go_num, by omega, Lib.hid (by rw [hst, List.length_append, HLn.out]; rfl), Lib.hid (fun j hj => ?_), Lib.hid ((setCell_block HX5.out _).trans (by simp)), Lib.hid ?_, Lib.hid ⟨Nat.le_trans HFR2.out.size (Nat.le_trans HB3.out.size (by simp)), fun b hb1 hb2 => ?_⟩, Lib.hid ((HB2.out.trans (HB3.out.mono (by omega))).setCell (p := ⟨w.heap.size, 0, none⟩) (Nat.le_refl _) _)⟩
                      · by_cases ej : j = k
                        · rw [ej, HSM.out]; intro h; cases h
                        · exact HG.out j (by omega)
                      · rw [hst, rlc_snoc]
                        exact ownsRow_setCell_other HOW.out hne' _
                      · exact (Below.heap_setCell _ _ _ _ (by dsimp only; omega)).trans ((HB3.out.block b hb1).trans (HFR2.out.keep b hb1 hb2))
                    case measure => simp [intOf]; omega
                  · have hlast2 : ¬ (2 : Int) = (n : Int) := by omega
                    have hlast3 : ((2 : Int) == (n : Int)) = false := by simp; omega
                    have hlast4 : ¬ 2 = n := by omega
                    go_wp2_with fail
                    go_quiet (fail)
                    go_wp2_with fail
                    go_roundw
                    case rel => exact ⟨0, rfl, .inr (.inl ⟨by go_num, by omega, Lib.hid (by first | rfl | trivial), Lib.hid ((HPC.out.drewN _).put 1 _)⟩)⟩
                    case measure => simp [intOf]
                · have h6 := HBK.out (U1.out he)
                  cases h6
                  have d0 : (E1 != 0) = true := bne0_true he
                  go_wp2_with fail
                  go_quiet (fail)
                  go_wp2
                  exact bodyPost_ret (v := .tuple #[.agg #[.slice none 0 0], .int .i64 ((k : Int) + 1), .int .i64 6]) (by simp [results, Tryd.results9, go_sem, k5, f5]) rfl (ParsePost.none ((HBc.out.trans ((below_draw _ _).mono HBc.out.size)).setCell (p := ⟨w.heap.size, 0, none⟩) (Nat.le_refl _) _))
              · obtain ⟨S1, cS1, hS1⟩ := (HSP2.out.below HPB.out.k).cell (j := 3) (by rw [HLEN.out]; omega)
                have hl1 := HPN.out 3 (by omega)
                rw [HP3.out] at hS1 hl1
                have hs1 := len_of hS1
                have hI : Calls Tryd.prog 27 #[.string S1, .int .i64 0, .int .i64 1000000000] wr fun e w' => e = .returned (.tuple #[.int .i64 (numV p3), .int .i64 (numE p3)]) ∧ Below wr.heap.size wr w' := wint_ok S1 p3 hS1 (by omega) 0 1000000000 (by decide) (by decide) wr (HTW.out.below (HB2.out.trans (HPB.out.k.mono HB2.out.size)))
                rw [HEV3.out.1, HEV3.out.2] at hI
                have HI := Lib.hid hI
                clear hI hl1 hs1 hS1
                go_wp2_with fail
                refine HI.out.mono ?_
                rintro e w4 ⟨rfl, b4⟩
                have HPC := Lib.hid (HPB.out.below b4)
                obtain ⟨S2, cS2, hS2⟩ := (HSP2.out.below HPC.out.k).cell (j := 2) (by rw [HLEN.out]; omega)
                rw [HP2.out] at hS2
                have hix := widx_1
                have hcmp := str_ne S2 [101, 118, 101, 114, 121] hS2
                have hcmp2 : S2.toList = [101, 118, 101, 114, 121] ↔ p2 = everyL := by rw [Lib.toList_data, hS2]; rfl
                have HXc : Hid (BoxP5 w4 w.heap.size a' k c') := Lib.hid ((HPC.out.k.block _ (blk_lt HX2.out)).trans HX2.out)
                have k5 : w4.cell? ⟨w.heap.size, 0, none⟩ = some (.slice a' k c') := by rw [cell_of_block HXc.out]; rfl
                have f5 := unfrozen_of_block HXc.out 0
                have l5 := blk_lt HXc.out
                have HBc := Lib.hid (HB2.out.trans (HPC.out.k.mono HB2.out.size))
                clear cS1 b4 HI
                by_cases he : E3 = 0
                · subst he
                  by_cases hv : V3 = 0
                  · have h6 := HBK.out (U3.out (by omega) (.inr (.inl hv)))
                    cases h6
                    have d0 : (V3 == 0) = true := by rw [hv]; rfl
                    subst hv
                    go_wp2_with fail
                    go_quiet (fail)
                    go_wp2
                    exact bodyPost_ret (v := .tuple #[.agg #[.slice none 0 0], .int .i64 ((k : Int) + 1), .int .i64 6]) (by simp [results, Tryd.results9, go_sem, k5, f5]) rfl (ParsePost.none ((HBc.out.trans ((below_draw _ _).mono HBc.out.size)).setCell (p := ⟨w.heap.size, 0, none⟩) (Nat.le_refl _) _))
                  · have d0 : (V3 == 0) = false := by simpa using hv
                    by_cases hw : p2 = everyL
                    · have hc3 := hcmp2.2 hw
                      rw [decide_eq_true (show p2 = [101, 118, 101, 114, 121] from hw)] at hcmp
                      have HW := Lib.hid hw
                      have HV := Lib.hid hv
                      clear hcmp2 hw hv hS2
                      have x0 : w4.cell? ⟨w2.heap.size, 0, none⟩ = some (.int .i64 (q : Int)) := by rw [cell_of_block HPC.out.b]; rfl
                      have x1 : w4.cell? ⟨w2.heap.size, 1, none⟩ = some (.int .i64 V1) := by rw [cell_of_block HPC.out.b]; rfl
                      have x2 : w4.cell? ⟨w2.heap.size, 2, none⟩ = some (.int .i64 0) := by rw [cell_of_block HPC.out.b]; rfl
                      have x3 : w4.cell? ⟨w2.heap.size, 3, none⟩ = some (.int .i64 1) := by rw [cell_of_block HPC.out.b]; rfl
                      have y0 : w4.cell? ⟨w2.heap.size + 1, 1, none⟩ = some (.pointer (some ⟨w2.heap.size, 2, none⟩)) := by rw [cell_of_block HPC.out.p]; rfl
                      have fx := unfrozen_of_block HPC.out.b
                      have lx := blk_lt HPC.out.b
                      have ly := blk_lt HPC.out.p
                      by_cases hlast : n = 4
                      · subst hlast
                        go_wp2_with fail
                        go_quiet (fail)
                        go_wp2_with (at_builtin; refine wpList_append_own _ rfl (.tmp 116) (.tmp 118) 22 rfl w1.heap.size 45 i0 (.agg #[.int .i64 0, .int .i64 0, .int .i64 0, .int .i64 0]) 4 32 Tryd.underlying22 hi hz0 hz1 hz2 rfl (by decide) _ _ _ rfl ((own_belowK HO2.out ?cb).alloc _) ⟨w4.heap.size, 0, none⟩ 1 1 [.int .i64 (q : Int), .int .i64 V1, .int .i64 V3, .int .i64 0] rfl rfl ?c1 ?c2 ?c3 ?c4 ?c5 ?_)
                        case cb => exact (((HPC.out.drewN _).put 2 _).put 3 _).k
                        case c1 => intro j u hu; match j with | 0 => (simp at hu; subst hu; simp [go_sem]) | 1 => (simp at hu; subst hu; simp [go_sem]) | 2 => (simp at hu; subst hu; simp [go_sem]) | 3 => (simp at hu; subst hu; simp [go_sem]) | j + 4 => simp at hu
                        case c2 => intro u hu; simp at hu; rcases hu with rfl | rfl | rfl | rfl <;> rfl
                        case c3 => unfold maxLen; omega
                        case c4 => have := HFR2.out.size; omega
                        case c5 => have := HFR2.out.size; simp; omega
                        intro v' w5 hown hgrow _
                        obtain ⟨a2, c2', rfl⟩ := own_slice hown
                        have hb3 : Below w1.heap.size w2 w5 := ((((((HPC.out.drewN _).put 2 _).put 3 _).k.mono (HFR2.out.size))).alloc (by have := HFR2.out.size; simp; omega) _).grown hgrow (by have := HFR2.out.size; simp; omega) (fun r e => by have := (HO2.out.lt r e).1; omega)
                        have hgl : w.heap.size < w1.heap.size := blk_lt HX1.out
                        have hbx5 : BoxP5 w5 w.heap.size a' k c' := (hb3.block _ hgl).trans HX2.out
                        have x0 : w5.cell? ⟨w.heap.size, 0, none⟩ = some (.slice a' k c') := by rw [cell_of_block hbx5]; rfl
                        have xf := unfrozen_of_block hbx5 0
                        have xl := blk_lt hbx5
                        have HOW := Lib.hid hown
                        have HB3 := Lib.hid hb3
                        have HX5 := Lib.hid hbx5
                        have hsome : lnP (LL.getD k []) = some ((q : Int), V1, V3, 0) := by rw [HLNP.out.1, HLNP.out.2]; exact (by apply U4.out <;> first | trivial | rfl | exact HF.out | exact HF.out.1 | exact HF.out.2.1 | exact HF.out.2.2.1 | exact HF.out.2.2.2 | exact HV.out | exact HW.out)
                        have HSM := Lib.hid hsome
                        clear hown hgrow hb3 hbx5 hsome y0 fx lx ly k5 f5 l5 cS2
                        go_wp2_with fail
                        go_roundw
                        case rel =>
                          have hne' : (Value.slice a2 (k + 1) c2').ownBlock ≠ some (⟨w.heap.size, 0, none⟩ : Addr).block := fun e => by have := (HOW.out.lt _ e).1; dsimp only at this; omega
                          have hst := rls_step (by omega) HSM.out
                          refine ⟨k + 1, a2, c2', by go_num, by omega, Lib.hid (by rw [hst, List.length_append, HLn.out]; rfl), Lib.hid (fun j hj => ?_), Lib.hid ((setCell_block HX5.out _).trans (by simp)), Lib.hid ?_, Lib.hid ⟨Nat.le_trans HFR2.out.size (Nat.le_trans HB3.out.size (by simp)), fun b hb1 hb2 => ?_⟩, Lib.hid ((HB2.out.trans (HB3.out.mono (by omega))).setCell (p := ⟨w.heap.size, 0, none⟩) (Nat.le_refl _) _)⟩
                          · by_cases ej : j = k
                            · rw [ej, HSM.out]; intro h; cases h
                            · exact HG.out j (by omega)
                          · rw [hst, rlc_snoc]
                            exact ownsRow_setCell_other HOW.out hne' _
                          · exact (Below.heap_setCell _ _ _ _ (by dsimp only; omega)).trans ((HB3.out.block b hb1).trans (HFR2.out.keep b hb1 hb2))
                        case measure => simp [intOf]; omega
                      · have hlast2 : ¬ (4 : Int) = (n : Int) := by omega
                        have hlast3 : ((4 : Int) == (n : Int)) = false := by simp; omega
                        have hlast4 : ¬ 4 = n := by omega
                        go_wp2_with fail
                        go_quiet (fail)
                        go_wp2_with fail
                        go_roundw
                        case rel => exact ⟨0, rfl, .inr (.inr ⟨by go_num, by omega, Lib.hid ⟨HF.out, by first | rfl | trivial, HV.out, HW.out⟩, Lib.hid (((HPC.out.drewN _).put 2 _).put 3 _)⟩)⟩
                        case measure => simp [intOf]
                    · have hc3 : ¬ S2.toList = [101, 118, 101, 114, 121] := fun e => hw (hcmp2.1 e)
                      rw [decide_eq_false (show ¬ p2 = [101, 118, 101, 114, 121] from hw)] at hcmp
                      have h6 := HBK.out (U3.out (by omega) (.inr (.inr hw)))
                      cases h6
                      clear hcmp2 hw hv hS2
                      go_wp2_with fail
                      go_quiet (fail)
                      go_wp2
                      exact bodyPost_ret (v := .tuple #[.agg #[.slice none 0 0], .int .i64 ((k : Int) + 1), .int .i64 6]) (by simp [results, Tryd.results9, go_sem, k5, f5]) rfl (ParsePost.none ((HBc.out.trans ((below_draw _ _).mono HBc.out.size)).setCell (p := ⟨w.heap.size, 0, none⟩) (Nat.le_refl _) _))
                · have h6 := HBK.out (U3.out (by omega) (.inl he))
                  cases h6
                  have d0 : (E3 != 0) = true := bne0_true he
                  go_wp2_with fail
                  go_quiet (fail)
                  go_wp2
                  exact bodyPost_ret (v := .tuple #[.agg #[.slice none 0 0], .int .i64 ((k : Int) + 1), .int .i64 6]) (by simp [results, Tryd.results9, go_sem, k5, f5]) rfl (ParsePost.none ((HBc.out.trans ((below_draw _ _).mono HBc.out.size)).setCell (p := ⟨w.heap.size, 0, none⟩) (Nat.le_refl _) _))
              · obtain ⟨S1, cS1, hS1⟩ := (HSP2.out.below HPB.out.k).cell (j := 5) (by rw [HLEN.out]; omega)
                have hl1 := HPN.out 5 (by omega)
                rw [HP5.out] at hS1 hl1
                have hs1 := len_of hS1
                have hI : Calls Tryd.prog 27 #[.string S1, .int .i64 0, .int .i64 1000000000] wr fun e w' => e = .returned (.tuple #[.int .i64 (numV p5), .int .i64 (numE p5)]) ∧ Below wr.heap.size wr w' := wint_ok S1 p5 hS1 (by omega) 0 1000000000 (by decide) (by decide) wr (HTW.out.below (HB2.out.trans (HPB.out.k.mono HB2.out.size)))
                rw [HEV5.out.1, HEV5.out.2] at hI
                have HI := Lib.hid hI
                clear hI hl1 hs1 hS1
                go_wp2_with fail
                refine HI.out.mono ?_
                rintro e w4 ⟨rfl, b4⟩
                have HPC := Lib.hid (HPB.out.below b4)
                obtain ⟨S2, cS2, hS2⟩ := (HSP2.out.below HPC.out.k).cell (j := 4) (by rw [HLEN.out]; omega)
                rw [HP4.out] at hS2
                have hix := widx_2
                have hcmp := str_ne S2 [116, 105, 109, 101, 115] hS2
                have hcmp2 : S2.toList = [116, 105, 109, 101, 115] ↔ p4 = timesL := by rw [Lib.toList_data, hS2]; rfl
                have HXc : Hid (BoxP5 w4 w.heap.size a' k c') := Lib.hid ((HPC.out.k.block _ (blk_lt HX2.out)).trans HX2.out)
                have k5 : w4.cell? ⟨w.heap.size, 0, none⟩ = some (.slice a' k c') := by rw [cell_of_block HXc.out]; rfl
                have f5 := unfrozen_of_block HXc.out 0
                have l5 := blk_lt HXc.out
                have HBc := Lib.hid (HB2.out.trans (HPC.out.k.mono HB2.out.size))
                clear cS1 b4 HI
                by_cases he : E5 = 0
                · subst he
                  by_cases hv : V5 = 0
                  · have h6 := HBK.out (U5.out (by omega) (.inr (.inl hv)))
                    cases h6
                    have d0 : (V5 == 0) = true := by rw [hv]; rfl
                    subst hv
                    go_wp2_with fail
                    go_quiet (fail)
                    go_wp2
                    exact bodyPost_ret (v := .tuple #[.agg #[.slice none 0 0], .int .i64 ((k : Int) + 1), .int .i64 6]) (by simp [results, Tryd.results9, go_sem, k5, f5]) rfl (ParsePost.none ((HBc.out.trans ((below_draw _ _).mono HBc.out.size)).setCell (p := ⟨w.heap.size, 0, none⟩) (Nat.le_refl _) _))
                  · have d0 : (V5 == 0) = false := by simpa using hv
                    by_cases hw : p4 = timesL
                    · have hc3 := hcmp2.2 hw
                      rw [decide_eq_true (show p4 = [116, 105, 109, 101, 115] from hw)] at hcmp
                      have HW := Lib.hid hw
                      have HV := Lib.hid hv
                      clear hcmp2 hw hv hS2
                      have x0 : w4.cell? ⟨w2.heap.size, 0, none⟩ = some (.int .i64 (q : Int)) := by rw [cell_of_block HPC.out.b]; rfl
                      have x1 : w4.cell? ⟨w2.heap.size, 1, none⟩ = some (.int .i64 V1) := by rw [cell_of_block HPC.out.b]; rfl
                      have x2 : w4.cell? ⟨w2.heap.size, 2, none⟩ = some (.int .i64 V3) := by rw [cell_of_block HPC.out.b]; rfl
                      have x3 : w4.cell? ⟨w2.heap.size, 3, none⟩ = some (.int .i64 0) := by rw [cell_of_block HPC.out.b]; rfl
                      have y0 : w4.cell? ⟨w2.heap.size + 1, 2, none⟩ = some (.pointer (some ⟨w2.heap.size, 3, none⟩)) := by rw [cell_of_block HPC.out.p]; rfl
                      have fx := unfrozen_of_block HPC.out.b
                      have lx := blk_lt HPC.out.b
                      have ly := blk_lt HPC.out.p
                      obtain rfl : n = 6 := by omega
                      go_wp2_with fail
                      go_quiet (fail)
                      go_wp2_with (at_builtin; refine wpList_append_own _ rfl (.tmp 116) (.tmp 118) 22 rfl w1.heap.size 45 i0 (.agg #[.int .i64 0, .int .i64 0, .int .i64 0, .int .i64 0]) 4 32 Tryd.underlying22 hi hz0 hz1 hz2 rfl (by decide) _ _ _ rfl ((own_belowK HO2.out ?cb).alloc _) ⟨w4.heap.size, 0, none⟩ 1 1 [.int .i64 (q : Int), .int .i64 V1, .int .i64 V3, .int .i64 V5] rfl rfl ?c1 ?c2 ?c3 ?c4 ?c5 ?_)
                      case cb => exact ((HPC.out.drewN _).put 3 _).k
                      case c1 => intro j u hu; match j with | 0 => (simp at hu; subst hu; simp [go_sem]) | 1 => (simp at hu; subst hu; simp [go_sem]) | 2 => (simp at hu; subst hu; simp [go_sem]) | 3 => (simp at hu; subst hu; simp [go_sem]) | j + 4 => simp at hu
                      case c2 => intro u hu; simp at hu; rcases hu with rfl | rfl | rfl | rfl <;> rfl
                      case c3 => unfold maxLen; omega
                      case c4 => have := HFR2.out.size; omega
                      case c5 => have := HFR2.out.size; simp; omega
                      intro v' w5 hown hgrow _
                      obtain ⟨a2, c2', rfl⟩ := own_slice hown
                      have hb3 : Below w1.heap.size w2 w5 := (((((HPC.out.drewN _).put 3 _).k.mono (HFR2.out.size))).alloc (by have := HFR2.out.size; simp; omega) _).grown hgrow (by have := HFR2.out.size; simp; omega) (fun r e => by have := (HO2.out.lt r e).1; omega)
                      have hgl : w.heap.size < w1.heap.size := blk_lt HX1.out
                      have hbx5 : BoxP5 w5 w.heap.size a' k c' := (hb3.block _ hgl).trans HX2.out
                      have x0 : w5.cell? ⟨w.heap.size, 0, none⟩ = some (.slice a' k c') := by rw [cell_of_block hbx5]; rfl
                      have xf := unfrozen_of_block hbx5 0
                      have xl := blk_lt hbx5
                      have HOW := Lib.hid hown
                      have HB3 := Lib.hid hb3
                      have HX5 := Lib.hid hbx5
                      have hsome : lnP (LL.getD k []) = some ((q : Int), V1, V3, V5) := by rw [HLNP.out.1, HLNP.out.2]; exact (by apply U6.out <;> first | trivial | rfl | exact HF.out | exact HF.out.1 | exact HF.out.2.1 | exact HF.out.2.2.1 | exact HF.out.2.2.2 | exact HV.out | exact HW.out)
                      have HSM := Lib.hid hsome
                      clear hown hgrow hb3 hbx5 hsome y0 fx lx ly k5 f5 l5 cS2
                      go_wp2_with fail
                      go_roundw
                      case rel =>
                        have hne' : (Value.slice a2 (k + 1) c2').ownBlock ≠ some (⟨w.heap.size, 0, none⟩ : Addr).block := fun e => by have := (HOW.out.lt _ e).1; dsimp only at this; omega
                        have hst := rls_step (by omega) HSM.out
                        refine ⟨k + 1, a2, c2', by go_num, by omega, Lib.hid (by rw [hst, List.length_append, HLn.out]; rfl), Lib.hid (fun j hj => ?_), Lib.hid ((setCell_block HX5.out _).trans (by simp)), Lib.hid ?_, Lib.hid ⟨Nat.le_trans HFR2.out.size (Nat.le_trans HB3.out.size (by simp)), fun b hb1 hb2 => ?_⟩, Lib.hid ((HB2.out.trans (HB3.out.mono (by omega))).setCell (p := ⟨w.heap.size, 0, none⟩) (Nat.le_refl _) _)⟩
                        · by_cases ej : j = k
                          · rw [ej, HSM.out]; intro h; cases h
                          · exact HG.out j (by omega)
                        · rw [hst, rlc_snoc]
                          exact ownsRow_setCell_other HOW.out hne' _
                        · exact (Below.heap_setCell _ _ _ _ (by dsimp only; omega)).trans ((HB3.out.block b hb1).trans (HFR2.out.keep b hb1 hb2))
                      case measure => simp [intOf]; omega
                    · have hc3 : ¬ S2.toList = [116, 105, 109, 101, 115] := fun e => hw (hcmp2.1 e)
                      rw [decide_eq_false (show ¬ p4 = [116, 105, 109, 101, 115] from hw)] at hcmp
                      have h6 := HBK.out (U5.out (by omega) (.inr (.inr hw)))
                      cases h6
                      clear hcmp2 hw hv hS2
                      go_wp2_with fail
                      go_quiet (fail)
                      go_wp2
                      exact bodyPost_ret (v := .tuple #[.agg #[.slice none 0 0], .int .i64 ((k : Int) + 1), .int .i64 6]) (by simp [results, Tryd.results9, go_sem, k5, f5]) rfl (ParsePost.none ((HBc.out.trans ((below_draw _ _).mono HBc.out.size)).setCell (p := ⟨w.heap.size, 0, none⟩) (Nat.le_refl _) _))
                · have h6 := HBK.out (U5.out (by omega) (.inl he))
                  cases h6
                  have d0 : (E5 != 0) = true := bne0_true he
                  go_wp2_with fail
                  go_quiet (fail)
                  go_wp2
                  exact bodyPost_ret (v := .tuple #[.agg #[.slice none 0 0], .int .i64 ((k : Int) + 1), .int .i64 6]) (by simp [results, Tryd.results9, go_sem, k5, f5]) rfl (ParsePost.none ((HBc.out.trans ((below_draw _ _).mono HBc.out.size)).setCell (p := ⟨w.heap.size, 0, none⟩) (Nat.le_refl _) _))
        · have h6 := HBK.out (hwk2 (by decide))
          cases h6
          clear hww hwo hwk2 hpl
          go_wp2
          exact bodyPost_ret (v := .tuple #[.agg #[.slice none 0 0], .int .i64 ((k : Int) + 1), .int .i64 6]) (by simp [results, Tryd.results9, go_sem, kz]) rfl (ParsePost.none (alloc2 (HB2.out.setCell (p := ⟨w.heap.size, 0, none⟩) (Nat.le_refl _) _) _ _))
      · obtain rfl : k = LL.length := by omega
        have hq := HGD.out HG.out _ rfl
        have hQl := HLn.out
        have hOs := HO.out
        obtain ⟨Q, hQd⟩ : ∃ x, rlsL LL LL.length = x := ⟨_, rfl⟩
        rw [hQd] at hq hQl hOs
        have HQ := Lib.hid hq
        have k5 : wr.cell? ⟨w.heap.size, 0, none⟩ = some (.slice a' LL.length c') := by rw [cell_of_block HX.out]; rfl
        have f5 := unfrozen_of_block HX.out 0
        have l5 := blk_lt HX.out
        by_cases h50 : 50 < LL.length
        · have d1 : decide ((50 : Int) < (LL.length : Int)) = true := decide_eq_true (by omega)
          rw [if_pos (by omega)] at hq
          cases hq
          clear hOs HQ
          go_wp2
          exact bodyPost_ret (v := .tuple #[.agg #[.slice none 0 0], .int .i64 0, .int .i64 3]) (by simp [results, Tryd.results9, go_sem, k5, f5]) rfl (ParsePost.none (HB.out.setCell (p := ⟨w.heap.size, 0, none⟩) (Nat.le_refl _) _))
        · have d1 : decide ((50 : Int) < (LL.length : Int)) = false := decide_eq_false (by omega)
          rw [if_neg (by omega)] at hq
          rw [← hQl] at hOs
          have hSR := SlR.of_own hOs
          have HOS := Lib.hid hOs
          have hC := rfchk_ok (c := c') hSR (by omega)
          have hpi := pI_le (n := Q.length) (R := fun j => Q.getD j rl0)
          obtain ⟨EC, hEC⟩ : ∃ x, pE Q.length (fun j => Q.getD j rl0) = x := ⟨_, rfl⟩
          obtain ⟨IC, hIC⟩ : ∃ x, pI Q.length (fun j => Q.getD j rl0) = x := ⟨_, rfl⟩
          rw [hEC, hIC] at hC
          rw [hEC, hIC] at hq
          rw [hIC] at hpi
          rw [hQl] at hC
          have HC := Lib.hid hC
          obtain ⟨hi0, hi1⟩ := hpi
          clear hC hSR hOs hEC hIC HQ
          go_wp2_with fail
          refine HC.out.mono ?_
          rintro e w4 ⟨rfl, b4⟩
          have HX4 : Hid (BoxP5 w4 w.heap.size a' LL.length c') := Lib.hid ((b4.block _ (blk_lt HX.out)).trans HX.out)
          have HB4 := Lib.hid (below_tr HB.out b4)
          have HO4 := Lib.hid (own_below HOS.out b4)
          have hne4 : (Value.slice a' Q.length c').ownBlock ≠ some (⟨w.heap.size, 0, none⟩ : Addr).block := fun e => by have h1 := (HO4.out.lt _ e).1; have h2 := blk_lt HX1.out; dsimp only at h1; omega
          clear b4 k5 f5 l5 HC
          have k5 : w4.cell? ⟨w.heap.size, 0, none⟩ = some (.slice a' LL.length c') := by rw [cell_of_block HX4.out]; rfl
          have f5 := unfrozen_of_block HX4.out 0
          have l5 := blk_lt HX4.out
          by_cases hEz : EC = 0
          · subst hEz
            rw [if_neg (by simp)] at hq
            cases hq
            go_wp2
            exact bodyPost_ret (v := .tuple #[.agg #[.slice a' LL.length c'], .int .i64 0, .int .i64 0]) (by simp [results, Tryd.results9, go_sem, k5, f5]) rfl ⟨a', c', by rw [hQl], SlR.of_own (ownsRow_setCell_other HO4.out hne4 _), HB4.out.setCell (p := ⟨w.heap.size, 0, none⟩) (Nat.le_refl _) _⟩
          · rw [if_pos hEz] at hq
            cases hq
            have d2 := bne0_true hEz
            go_wp2
            exact bodyPost_ret (v := .tuple #[.agg #[.slice none 0 0], .int .i64 (IC + 1), .int .i64 er0]) (by simp [results, Tryd.results9, go_sem, k5, f5]) rfl (ParsePost.none (HB4.out.setCell (p := ⟨w.heap.size, 0, none⟩) (Nat.le_refl _) _))
  · have hb := hbad hE
    cases hb
    clear hbad hbd hgd hle
    have d0 := bne0_true hE
    go_wp2
    exact bodyPost_ret (v := .tuple #[.agg #[.slice none 0 0], .int .i64 0, .int .i64 E0]) (by simp [results, Tryd.results9, go_sem, k5, f5]) rfl (ParsePost.none (HB1.out.setCell (p := ⟨w.heap.size, 0, none⟩) (Nat.le_refl _) _))
end Go.Proofs.YtgbdhmdaefbglaaDoor

namespace Go.Proofs.YtgbdhmdaefbglaaDoor
open Go.RowKit Go.Sort Go.Joins Go.Shelf
attribute [local go_sem] cell_grow frozen_grow size_grow

theorem put_alloc1 {W : World} {g n c : Nat} {a : Option Addr} (h : BoxP5 W g a n c) (v : Value) (o : Obj) : ((W.setCell ⟨g, 0, none⟩ v).alloc o).cell? ⟨g, 0, none⟩ = some v := by
  have e1 : (W.setCell ⟨g, 0, none⟩ v).heap[g]? = some (.cells #[v] 24 (0, 0)) := (setCell_block h v).trans (by simp)
  have e2 := ((below_box0 _ o).block _ (blk_lt e1)).trans e1
  rw [cell_of_block e2]; rfl
set_option maxRecDepth 100000 in
set_option maxHeartbeats 6400000 in
theorem rparse_ok (s : ByteArray) (L : List UInt8) (hL : s.data.toList = L) (hs : s.size ≤ 4611686018427387904) (w : World) :
    Calls Tryd.prog 11 #[.string s] w (ParsePost w (ps5 L).1 (ps5 L).2.1 (ps5 L).2.2) := by
  obtain ⟨i0, hi, hz0, hz1, hz2⟩ := info_parts info_rule
  have b0 := below_box0 w (.cells #[.slice none 0 0] 24)
  have HB0 := Lib.hid b0
  have HX0 : Hid (BoxP5 (w.alloc (.cells #[.slice none 0 0] 24)) w.heap.size none 0 0) := Lib.hid (heap_alloc_new w _)
  have HLN := Lib.hid (rlines_ok s L hL hs (w.alloc (.cells #[.slice none 0 0] 24)))
  have hbad := fun (h : lnsE L ≠ 0) => ps5_lines h
  have hbd := fun (h : lnsE L = 0) => @ps5_bad L h
  have hgd := fun (h : lnsE L = 0) => @ps5_good L h
  have hle := fun j h => @lns_le L j h
  have hnl := lns_len L
  obtain ⟨LL, hLL⟩ : ∃ x, lnsL L = x := ⟨_, rfl⟩
  obtain ⟨E0, hE0⟩ : ∃ x, lnsE L = x := ⟨_, rfl⟩
  obtain ⟨PS, hPS⟩ : ∃ x, ps5 L = x := ⟨_, rfl⟩
  rw [hLL] at HLN hbd hgd hle hnl
  rw [hE0] at HLN hbad hbd hgd
  rw [hPS] at hbad hbd hgd ⊢
  obtain ⟨Q0, ln0, er0⟩ := PS
  dsimp only
  clear b0 hL hLL hE0 hPS
  go_enter Tryd.func11, Tryd.ntmps11
  go_wp2_with fail
  refine HLN.out.mono ?_
  rintro e w1 ⟨al, cl, rfl, hSL, b1⟩
  have HX1 : Hid (BoxP5 w1 w.heap.size none 0 0) := Lib.hid ((b1.block _ (blk_lt HX0.out)).trans HX0.out)
  have HB1 := Lib.hid (below_tr HB0.out b1)
  have HSL := Lib.hid hSL
  clear b1 hSL HLN HX0 HB0
  have k5 : w1.cell? ⟨w.heap.size, 0, none⟩ = some (.slice none 0 0) := by rw [cell_of_block HX1.out]; rfl
  have f5 := unfrozen_of_block HX1.out
  have l5 := blk_lt HX1.out
  by_cases hE : E0 = 0
  · subst hE
    have hbd := fun k => @hbd rfl k
    have hgd := fun hp Q => @hgd rfl hp Q
    clear hbad k5 f5
    have HBD := Lib.hid hbd
    have HGD := Lib.hid hgd
    have HLE := Lib.hid hle
    have HLT := Lib.hid l5
    clear hbd hgd hle l5
    go_wp2_with fail
    have bz := below_box0 w1 (.cells #[.slice none 0 0] 24)
    have HXZ : Hid (BoxP5 (w1.alloc (.cells #[.slice none 0 0] 24)) w1.heap.size none 0 0) := Lib.hid (heap_alloc_new w1 _)
    have HBZ := Lib.hid bz
    clear bz
    go_loopw [8] (fun i wr => ∃ (k : Nat) (a' : Option Addr) (c' : Nat), i = .int .i64 (k : Int) ∧ k ≤ LL.length ∧ Hid ((rlsL LL k).length = k) ∧ Hid (∀ j, j < k → lnP (LL.getD j []) ≠ none) ∧ Hid (BoxP5 wr w1.heap.size a' k c') ∧ Hid (wr.ownsRow (w1.heap.size + 1) 45 4 (.slice a' k c') k (rlc (rlsL LL k))) ∧ Hid (Below w1.heap.size w1 wr)) (fun i _ => LL.length - (intOf i).toNat)
    case atStart => exact ⟨0, none, 0, rfl, Nat.zero_le _, Lib.hid rfl, Lib.hid (fun j hj => by omega), HXZ, Lib.hid (World.ownsRow_nil _ _ _ _), HBZ⟩
    case round =>
      clear HXZ HBZ
      obtain ⟨k, a', c', rfl, hk, HLn, HG, HX, HO, HFR⟩ := hrel
      have HS := Lib.hid (HSL.out.below HFR.out)
      have HXR : Hid (BoxP5 wr w.heap.size none 0 0) := Lib.hid ((HFR.out.block _ (blk_lt HX1.out)).trans HX1.out)
      have HB := Lib.hid (HB1.out.trans (HFR.out.mono HB1.out.size))
      by_cases hlt : k < LL.length
      · obtain ⟨bl, ol, S, rfl, cS, hS⟩ := HS.out.at_ hlt
        have hSl := HLE.out k hlt
        obtain ⟨SL, hSLd⟩ : ∃ x, LL.getD k [] = x := ⟨_, rfl⟩
        rw [hSLd] at hS hSl
        have hSs := len_of hS
        have HLI := Lib.hid (rline_ok S SL hS (by omega) wr)
        have hbk : lnP SL = none → (Q0, ln0, er0) = ([], (k : Int) + 1, 6) := fun h => HBD.out k hlt HG.out (by rw [hSLd, h])
        obtain ⟨O, hO⟩ : ∃ x, lnP SL = x := ⟨_, rfl⟩
        rw [hO] at HLI hbk
        have HBK := Lib.hid hbk
        have HLNP := Lib.hid (hSLd.trans rfl ▸ hO : lnP (LL.getD k []) = O)
        clear hS hbk hSLd hO
        go_wp2_with fail
        refine HLI.out.mono ?_
        rintro e w2 ⟨rk, rf, re, rt, rfl, hsome, b2⟩
        have HB2 := Lib.hid (below_tr HB.out b2)
        have HFR2 := Lib.hid (below_tr HFR.out b2)
        have HO2 := Lib.hid (own_below HO.out b2)
        have HX2 : Hid (BoxP5 w2 w1.heap.size a' k c') := Lib.hid ((b2.block _ (blk_lt HX.out)).trans HX.out)
        have HXR2 : Hid (BoxP5 w2 w.heap.size none 0 0) := Lib.hid ((b2.block _ (blk_lt HXR.out)).trans HXR.out)
        clear b2 cS HLI HX HO HB HS HFR HXR
        cases O with
        | none =>
          have h6 := HBK.out rfl
          cases h6
          have k5 : w2.cell? ⟨w.heap.size, 0, none⟩ = some (.slice none 0 0) := by rw [cell_of_block HXR2.out]; rfl
          have f5 := unfrozen_of_block HXR2.out
          have l5 := blk_lt HXR2.out
          have kz := fun v o => put_alloc1 HXR2.out v o
          clear hsome
          simp only [Option.isSome]
          go_wp2
          exact bodyPost_ret (v := .tuple #[.agg #[.slice none 0 0], .int .i64 ((k : Int) + 1), .int .i64 6]) (by simp [results, Tryd.results11, go_sem, kz]) rfl (ParsePost.none ((HB2.out.setCell (p := ⟨w.heap.size, 0, none⟩) (Nat.le_refl _) _).alloc (Nat.le_trans HB2.out.size (by simp)) _))
        | some y =>
          have hy := hsome y rfl
          subst hy
          clear hsome
          simp only [Option.isSome]
          have k5 : w2.cell? ⟨w1.heap.size, 0, none⟩ = some (.slice a' k c') := by rw [cell_of_block HX2.out]; rfl
          have f5 := unfrozen_of_block HX2.out 0
          have l5 := blk_lt HX2.out
          go_wp2_with (at_builtin; refine wpList_append_own _ rfl (.tmp 41) (.tmp 43) 22 rfl (w1.heap.size + 1) 45 i0 (.agg #[.int .i64 0, .int .i64 0, .int .i64 0, .int .i64 0]) 4 32 Tryd.underlying22 hi hz0 hz1 hz2 rfl (by decide) _ _ _ rfl ((HO2.out.alloc _).alloc _) ⟨w2.heap.size + 1, 0, none⟩ 1 1 [.int .i64 rk, .int .i64 rf, .int .i64 re, .int .i64 rt] rfl rfl ?c1 ?c2 ?c3 ?c4 ?c5 ?_)
          case c1 => intro j u hu; match j with | 0 => (simp at hu; subst hu; simp [go_sem]) | 1 => (simp at hu; subst hu; simp [go_sem]) | 2 => (simp at hu; subst hu; simp [go_sem]) | 3 => (simp at hu; subst hu; simp [go_sem]) | j + 4 => simp at hu
          case c2 => intro u hu; simp at hu; rcases hu with rfl | rfl | rfl | rfl <;> rfl
          case c3 => unfold maxLen; omega
          case c4 => omega
          case c5 => simp; omega
          intro v' w5 hown hgrow _
          obtain ⟨a2, c2', rfl⟩ := own_slice hown
          have hz1 := HFR2.out.size
          have hb3 : Below w1.heap.size w2 w5 := (((Below.refl _ w2).alloc (by omega) _).alloc (by simp; omega) _).grown hgrow (by simp; omega) (fun r e => by have := (HO2.out.lt r e).1; omega)
          have hne0 : (some w1.heap.size : Option Nat) ≠ (Value.slice a' k c').ownBlock := fun e => by have := (HO2.out.lt _ e.symm).1; omega
          have hbx5 : BoxP5 w5 w1.heap.size a' k c' := (hgrow.block _ (by simp; omega) hne0).trans ((Below.heap_alloc _ _ _ (by simp; omega)).trans ((Below.heap_alloc _ _ _ (by omega)).trans HX2.out))
          have x0 : w5.cell? ⟨w1.heap.size, 0, none⟩ = some (.slice a' k c') := by rw [cell_of_block hbx5]; rfl
          have xf := unfrozen_of_block hbx5 0
          have xl := blk_lt hbx5
          have HOW := Lib.hid hown
          have HB3 := Lib.hid hb3
          have HX5 := Lib.hid hbx5
          clear hown hgrow hb3 hbx5 k5 f5 l5 hz1 hne0
          go_wp2_with fail
          go_roundw
          case rel =>
            have hne' : (Value.slice a2 (k + 1) c2').ownBlock ≠ some (⟨w1.heap.size, 0, none⟩ : Addr).block := fun e => by have := (HOW.out.lt _ e).1; dsimp only at this; omega
            have hst := rls_step (by omega) HLNP.out
            refine ⟨k + 1, a2, c2', by go_num, by omega, Lib.hid (by rw [hst, List.length_append, HLn.out]; rfl), Lib.hid (fun j hj => ?_), Lib.hid ((setCell_block HX5.out _).trans (by simp)), Lib.hid ?_, Lib.hid ((HFR2.out.trans HB3.out).setCell (p := ⟨w1.heap.size, 0, none⟩) (Nat.le_refl _) _)⟩
            · by_cases ej : j = k
              · rw [ej, HLNP.out]; intro h; cases h
              · exact HG.out j (by omega)
            · rw [hst, rlc_snoc]
              exact ownsRow_setCell_other HOW.out hne' _
          case measure => simp [intOf]; omega
      · obtain rfl : k = LL.length := by omega
        have hq := HGD.out HG.out _ rfl
        have hQl := HLn.out
        have hOs := HO.out
        obtain ⟨Q, hQd⟩ : ∃ x, rlsL LL LL.length = x := ⟨_, rfl⟩
        rw [hQd] at hq hQl hOs
        have HQ := Lib.hid hq
        have k5 : wr.cell? ⟨w1.heap.size, 0, none⟩ = some (.slice a' LL.length c') := by rw [cell_of_block HX.out]; rfl
        have r5 : wr.cell? ⟨w.heap.size, 0, none⟩ = some (.slice none 0 0) := by rw [cell_of_block HXR.out]; rfl
        have f5 := unfrozen_of_block HXR.out
        have l5 := blk_lt HXR.out
        by_cases h50 : 50 < LL.length
        · have d1 : decide ((50 : Int) < (LL.length : Int)) = true := decide_eq_true (by omega)
          rw [if_pos (by omega)] at hq
          cases hq
          clear hOs HQ
          go_wp2
          exact bodyPost_ret (v := .tuple #[.agg #[.slice none 0 0], .int .i64 0, .int .i64 3]) (by simp [results, Tryd.results11, go_sem, r5, f5]) rfl (ParsePost.none (HB.out.setCell (p := ⟨w.heap.size, 0, none⟩) (Nat.le_refl _) _))
        · have d1 : decide ((50 : Int) < (LL.length : Int)) = false := decide_eq_false (by omega)
          rw [if_neg (by omega)] at hq
          rw [← hQl] at hOs
          have hSR := SlR.of_own hOs
          have HOS := Lib.hid hOs
          have hC := rchk_ok (c := c') hSR (by omega)
          have hpi := pI_le (n := Q.length) (R := fun j => Q.getD j rl0)
          obtain ⟨EC, hEC⟩ : ∃ x, pE Q.length (fun j => Q.getD j rl0) = x := ⟨_, rfl⟩
          obtain ⟨IC, hIC⟩ : ∃ x, pI Q.length (fun j => Q.getD j rl0) = x := ⟨_, rfl⟩
          rw [hEC, hIC] at hC
          rw [hEC, hIC] at hq
          rw [hIC] at hpi
          rw [hQl] at hC
          have HC := Lib.hid hC
          obtain ⟨hi0, hi1⟩ := hpi
          clear hC hSR hOs hEC hIC HQ
          go_wp2_with fail
          refine HC.out.mono ?_
          rintro e w4 ⟨rfl, b4⟩
          have HX4 : Hid (BoxP5 w4 w1.heap.size a' LL.length c') := Lib.hid ((b4.block _ (blk_lt HX.out)).trans HX.out)
          have HXR4 : Hid (BoxP5 w4 w.heap.size none 0 0) := Lib.hid ((b4.block _ (blk_lt HXR.out)).trans HXR.out)
          have HB4 := Lib.hid (below_tr HB.out b4)
          have HO4 := Lib.hid (own_below HOS.out b4)
          have hne4 : (Value.slice a' Q.length c').ownBlock ≠ some (⟨w.heap.size, 0, none⟩ : Addr).block := fun e => by have h1 := (HO4.out.lt _ e).1; have h2 := blk_lt HX1.out; dsimp only at h1; omega
          clear b4 k5 r5 f5 l5 HC
          have k5 : w4.cell? ⟨w1.heap.size, 0, none⟩ = some (.slice a' LL.length c') := by rw [cell_of_block HX4.out]; rfl
          have r5 : w4.cell? ⟨w.heap.size, 0, none⟩ = some (.slice none 0 0) := by rw [cell_of_block HXR4.out]; rfl
          have f5 := unfrozen_of_block HXR4.out
          have l5 := blk_lt HXR4.out
          by_cases hEz : EC = 0
          · subst hEz
            rw [if_neg (by simp)] at hq
            cases hq
            go_wp2
            exact bodyPost_ret (v := .tuple #[.agg #[.slice a' LL.length c'], .int .i64 0, .int .i64 0]) (by simp [results, Tryd.results11, go_sem, r5, f5]) rfl ⟨a', c', by rw [hQl], SlR.of_own (ownsRow_setCell_other HO4.out hne4 _), HB4.out.setCell (p := ⟨w.heap.size, 0, none⟩) (Nat.le_refl _) _⟩
          · rw [if_pos hEz] at hq
            cases hq
            have d2 := bne0_true hEz
            go_wp2
            exact bodyPost_ret (v := .tuple #[.agg #[.slice none 0 0], .int .i64 (IC + 1), .int .i64 er0]) (by simp [results, Tryd.results11, go_sem, r5, f5]) rfl (ParsePost.none (HB4.out.setCell (p := ⟨w.heap.size, 0, none⟩) (Nat.le_refl _) _))
  · have hb := hbad hE
    cases hb
    clear hbad hbd hgd hle
    have d0 := bne0_true hE
    go_wp2
    exact bodyPost_ret (v := .tuple #[.agg #[.slice none 0 0], .int .i64 0, .int .i64 E0]) (by simp [results, Tryd.results11, go_sem, k5, f5]) rfl (ParsePost.none (HB1.out.setCell (p := ⟨w.heap.size, 0, none⟩) (Nat.le_refl _) _))
end Go.Proofs.YtgbdhmdaefbglaaDoor
