/- Words: a line's text and its fields. No program. | strings.Join: the contract of the library at this program, as the kit's tool lays it (no remarks). | Words: the law of Quote and Unquote. | Words: Join of the program and of the reference. -/
import Derived.Test.YtkklmljannclmaaDoorWZ9
import Derived.Test.YtkklmljannclmaaDoorShelf
import Derived.Shelf.Strings.OnBuilder
namespace Go.Proofs.YtkklmljannclmaaDoor
open Go.RowKit

/-- a field as it is written -/
def flT (x : Fl) : List UInt8 := if x.1 then qtL x.2 else x.2
def jnP (fs : List Fl) : List UInt8 := jn 32 (fs.map flT)
def jnE (fs : List Fl) : Int := if 64 < fs.length then 3 else if fs.any (fun x => !flB x) then 2 else if 4096 < (jnP fs).length then 3 else 0
def jnS (fs : List Fl) : List UInt8 := if jnE fs = 0 then jnP fs else []
theorem fld1_T {t : List UInt8} {x : Fl} (h : fld1 t = some x) : flT x = t ∧ flB x = true := by
  obtain ⟨h1, h2, h3⟩ := fld1_some h
  refine ⟨?_, h1⟩
  unfold flT
  cases hx : x.1
  · exact h2 hx
  · exact h3 hx
theorem fld1_of {x : Fl} (h : flB x = true) : fld1 (flT x) = some x := by
  obtain ⟨b, u⟩ := x
  cases b
  · exact fld1_rt h
  · have hu : txB u = true := h
    show fld1 (qtL u) = some (true, u)
    unfold fld1
    rw [if_pos (by rfl), unq_qt hu]; rfl
theorem fldM_some : ∀ {P : List (List UInt8)} {fs : List Fl}, fldM P = some fs → fs.map flT = P ∧ ∀ x, x ∈ fs → flB x = true
  | [], fs, h => by
    have e : fs = [] := by unfold fldM at h; exact (Option.some.inj h).symm
    subst e
    exact ⟨rfl, by simp⟩
  | p :: P, fs, h => by
    unfold fldM at h
    cases h1 : fld1 p with
    | none => rw [h1] at h; cases h
    | some x =>
      rw [h1] at h
      cases h2 : fldM P with
      | none => rw [h2] at h; cases h
      | some r =>
        rw [h2] at h
        obtain ⟨i1, i2⟩ := fldM_some h2
        obtain ⟨t1, t2⟩ := fld1_T h1
        have e : fs = x :: r := (Option.some.inj h).symm
        subst e
        refine ⟨by rw [List.map_cons, t1, i1], fun y hy => ?_⟩
        rcases List.mem_cons.1 hy with rfl | hy
        · exact t2
        · exact i2 y hy
theorem fldM_map : ∀ {fs : List Fl}, (∀ x, x ∈ fs → flB x = true) → fldM (fs.map flT) = some fs
  | [], _ => rfl
  | x :: r, h => by
    rw [List.map_cons]
    unfold fldM
    rw [fld1_of (h x (List.mem_cons_self ..)), fldM_map (fun y hy => h y (List.mem_cons_of_mem _ hy))]; rfl
theorem jn_pcs : ∀ (n : Nat) (l : List UInt8), l.length ≤ n → jn 32 (pcsL l) = l
  | 0, l, h => by
    have : l = [] := List.length_eq_zero_iff.1 (by omega)
    subst this
    rw [pcsL_end (by simp)]; rfl
  | n + 1, l, h => by
    by_cases hc : cut false l < l.length
    · rw [pcsL_cut hc, jn_cons (by
        by_cases h2 : cut false (l.drop (cut false l + 1)) < (l.drop (cut false l + 1)).length
        · rw [pcsL_cut h2]; simp
        · rw [pcsL_end h2]; simp), jn_pcs n _ (by rw [List.length_drop]; omega)]
      exact (cut_split hc).symm
    · rw [pcsL_end hc]; rfl
/-- a piece ends at the blank behind it -/
theorem cut_T {x : Fl} (h : flB x = true) (r : List UInt8) : cut false (flT x ++ 32 :: r) = (flT x).length := by
  obtain ⟨b, u⟩ := x
  cases b
  · obtain ⟨_, ⟨h1, h2⟩, _⟩ := rtB_yes.1 (show rtB u = true from h)
    show cut false (u ++ 32 :: r) = u.length
    rw [cut_plain u _ h2 h1, cut_b]; rfl
  · show cut false (qtL u ++ 32 :: r) = (qtL u).length
    have e : qtL u ++ 32 :: r = 34 :: (dbl u ++ 34 :: 32 :: r) := by unfold qtL; simp
    rw [e, cut_q, show (!false) = true from rfl, cut_dbl, cut_b]
    unfold qtL
    simp only [List.length_cons, List.length_append, List.length_nil]
    omega
theorem cut_end {x : Fl} (h : flB x = true) : cut false (flT x) = (flT x).length := by
  obtain ⟨b, u⟩ := x
  cases b
  · obtain ⟨_, ⟨h1, h2⟩, _⟩ := rtB_yes.1 (show rtB u = true from h)
    have e := cut_plain u [] h2 h1
    rw [List.append_nil] at e
    show cut false u = u.length
    rw [e]; rfl
  · show cut false (qtL u) = (qtL u).length
    have e : qtL u = 34 :: (dbl u ++ 34 :: []) := rfl
    rw [e, cut_q, show (!false) = true from rfl, cut_dbl]
    simp only [List.length_cons, List.length_append, List.length_nil]
    have : cut false [] = 0 := rfl
    omega
theorem pcs_jn : ∀ {fs : List Fl}, fs ≠ [] → (∀ x, x ∈ fs → flB x = true) → pcsL (jnP fs) = fs.map flT
  | [], h, _ => absurd rfl h
  | [x], _, hb => by
    show pcsL (flT x) = [flT x]
    rw [pcsL_end (by rw [cut_end (hb x (by simp))]; omega)]
  | x :: y :: r, _, hb => by
    have e : jnP (x :: y :: r) = flT x ++ 32 :: jnP (y :: r) := by
      unfold jnP
      rw [List.map_cons, jn_cons (by simp)]
    have hc := cut_T (hb x (by simp)) (jnP (y :: r))
    rw [e, pcsL_cut (by rw [hc]; simp), hc, List.take_left' rfl]
    have hd : (flT x ++ 32 :: jnP (y :: r)).drop ((flT x).length + 1) = jnP (y :: r) := by
      rw [show flT x ++ 32 :: jnP (y :: r) = (flT x ++ [32]) ++ jnP (y :: r) by simp]
      exact List.drop_left' (by simp)
    rw [hd, pcs_jn (by simp) (fun z hz => hb z (List.mem_cons_of_mem _ hz))]; rfl
theorem flT_ne {x : Fl} (h : flB x = true) : flT x ≠ [] := by
  obtain ⟨b, u⟩ := x
  cases b
  · exact (rtB_yes.1 (show rtB u = true from h)).1
  · show qtL u ≠ []
    unfold qtL; simp
theorem jnP_ne {fs : List Fl} (h : fs ≠ []) (hb : ∀ x, x ∈ fs → flB x = true) : jnP fs ≠ [] := by
  cases fs with
  | nil => exact absurd rfl h
  | cons x r =>
    intro e
    have hx := flT_ne (hb x (by simp))
    unfold jnP at e
    rw [List.map_cons] at e
    by_cases hr : r.map flT = []
    · rw [hr] at e; exact hx e
    · rw [jn_cons hr] at e
      simp at e
/-- the fields of a line's text -/
theorem spl_jnP {fs : List Fl} (hb : ∀ x, x ∈ fs → flB x = true) : splT (jnP fs) = some fs := by
  by_cases h : fs = []
  · subst h; rfl
  · rw [spl_pcs _ _ (Nat.le_refl _) (jnP_ne h hb), pcs_jn h hb, fldM_map hb]
/-- the text of a line's fields -/
theorem jnP_spl {l : List UInt8} {fs : List Fl} (h : splT l = some fs) : jnP fs = l ∧ ∀ x, x ∈ fs → flB x = true := by
  by_cases h0 : l = []
  · subst h0
    rw [splT_nil] at h
    have e : fs = [] := (Option.some.inj h).symm
    subst e
    exact ⟨rfl, by simp⟩
  · rw [spl_pcs _ _ (Nat.le_refl _) h0] at h
    obtain ⟨h1, h2⟩ := fldM_some h
    refine ⟨?_, h2⟩
    unfold jnP
    rw [h1]
    exact jn_pcs _ _ (Nat.le_refl _)
theorem any_not {fs : List Fl} (h : ∀ x, x ∈ fs → flB x = true) : fs.any (fun x => !flB x) = false := by
  rw [List.any_eq_false]
  intro x hx
  rw [h x hx]; simp
/-- what Split reads, Join writes -/
theorem join_split {l : List UInt8} (h : splE l = 0) : jnE (splR l) = 0 ∧ jnS (splR l) = l := by
  rw [splE_eq] at h
  by_cases h1 : 4096 < l.length
  · rw [if_pos h1] at h; cases h
  rw [if_neg h1] at h
  cases hs : splT l with
  | none => rw [hs] at h; cases h
  | some fs =>
    rw [hs] at h
    by_cases h2 : 64 < fs.length
    · exact absurd h (by simp [h2])
    obtain ⟨_, hR⟩ := splE_ok h1 hs h2
    obtain ⟨j1, j2⟩ := jnP_spl hs
    have hE : jnE (splR l) = 0 := by
      rw [hR]
      unfold jnE
      rw [if_neg h2, any_not j2, if_neg (by decide), j1, if_neg h1]
    exact ⟨hE, by unfold jnS; rw [if_pos hE, hR]; exact j1⟩
/-- and what Join writes, Split reads -/
theorem split_join {fs : List Fl} (h : jnE fs = 0) : splE (jnS fs) = 0 ∧ splR (jnS fs) = fs := by
  have hS : jnS fs = jnP fs := by unfold jnS; rw [if_pos h]
  unfold jnE at h
  by_cases h1 : 64 < fs.length
  · rw [if_pos h1] at h; cases h
  rw [if_neg h1] at h
  cases ha : fs.any (fun x => !flB x) with
  | true => rw [ha] at h; cases h
  | false =>
    rw [ha, if_neg (by decide)] at h
    by_cases h2 : 4096 < (jnP fs).length
    · rw [if_pos h2] at h; cases h
    have hb : ∀ x, x ∈ fs → flB x = true := fun x hx => by
      have := List.any_eq_false.1 ha x hx
      simpa using this
    rw [hS]
    exact splE_ok h2 (spl_jnP hb) h1
end Go.Proofs.YtkklmljannclmaaDoor

namespace Go.Proofs
open Go.Shelf
def Tryd.lays156_ren : Go.Shelf.Ren := ⟨fun | 156 => 46 | 165 => 73 | 166 => 52 | 169 => 53 | 240 => 79 | 241 => 91 | 276 => 98 | 277 => 111 | n => n, fun | 31 => 52 | 9 => 9 | 3 => 3 | 4 => 4 | 0 => 0 | 20 => 20 | 72 => 85 | 76 => 89 | 70 => 83 | 37 => 55 | 75 => 87 | 127 => 113 | 164 => 125 | 5 => 5 | 80 => 91 | n => n, fun | n => n⟩
theorem Tryd.lays156 : Go.Proofs.Lays.n156 Tryd.prog Tryd.lays156_ren := {
  mixed := by kernel_rfl
  f156 := Tryd.func46.trans (congrArg some (by kernel_rfl))
  f165 := Tryd.func73.trans (congrArg some (by kernel_rfl))
  f166 := Tryd.func52.trans (congrArg some (by kernel_rfl))
  f169 := Tryd.func53.trans (congrArg some (by kernel_rfl))
  f240 := Tryd.func79.trans (congrArg some (by kernel_rfl))
  f241 := Tryd.func91.trans (congrArg some (by kernel_rfl))
  f276 := Tryd.func98.trans (congrArg some (by kernel_rfl))
  f277 := Tryd.func111.trans (congrArg some (by kernel_rfl))
  t0 := Tryd.underlying0
  a0 := Tryd.isAgg0
  z0 := Tryd.sizeOf0
  v0 := Tryd.zeroValue0
  t3 := Tryd.underlying3
  a3 := Tryd.isAgg3
  z3 := Tryd.sizeOf3
  v3 := Tryd.zeroValue3
  t4 := Tryd.underlying4
  a4 := Tryd.isAgg4
  z4 := Tryd.sizeOf4
  v4 := Tryd.zeroValue4
  t9 := Tryd.underlying9
  a9 := Tryd.isAgg9
  z9 := Tryd.sizeOf9
  v9 := Tryd.zeroValue9
  t20 := Tryd.underlying20
  a20 := Tryd.isAgg20
  z20 := Tryd.sizeOf20
  v20 := Tryd.zeroValue20
  t31 := Tryd.underlying52
  a31 := Tryd.isAgg52
  z31 := Tryd.sizeOf52
  v31 := Tryd.zeroValue52
  t37 := Tryd.underlying55
  a37 := Tryd.isAgg55
  z37 := Tryd.sizeOf55
  v37 := Tryd.zeroValue55
  t70 := Tryd.underlying83
  a70 := Tryd.isAgg83
  z70 := Tryd.sizeOf83
  v70 := Tryd.zeroValue83
  t72 := Tryd.underlying85
  a72 := Tryd.isAgg85
  z72 := Tryd.sizeOf85
  v72 := Tryd.zeroValue85
  t75 := Tryd.underlying87
  a75 := Tryd.isAgg87
  z75 := Tryd.sizeOf87
  v75 := Tryd.zeroValue87
  t76 := Tryd.underlying89
  a76 := Tryd.isAgg89
  z76 := Tryd.sizeOf89
  v76 := Tryd.zeroValue89
  t127 := Tryd.underlying113
  a127 := Tryd.isAgg113
  z127 := Tryd.sizeOf113
  v127 := Tryd.zeroValue113
  t164 := Tryd.underlying125
  a164 := Tryd.isAgg125
  z164 := Tryd.sizeOf125
  v164 := Tryd.zeroValue125 }
theorem Tryd.Builder_Extra_156 : Builder.Extra Tryd.prog Tryd.lays156_ren := {
  sizeBuilder := by kernel_rfl
  liesBuilder := by kernel_rfl
  t5 := Tryd.underlying5
  a5 := Tryd.isAgg5
  z5 := Tryd.sizeOf5
  v5 := Tryd.zeroValue5
  infoByte := by kernel_rfl
  cellsByte := by kernel_rfl
  sizeByte := by kernel_rfl
  neB5 := by decide }
open Go.RowKit in
theorem Tryd.strings_Join_none (a : Option Addr) (c : Nat) (sep : ByteArray) (w : World) :
    Calls Tryd.prog 46 #[.slice a 0 c, .string sep] w fun e w' => e = .returned (.string ⟨#[]⟩) ∧ w' = w := Any.strings_Join_none Tryd.lays156 Tryd.Builder_Extra_156 a c sep w
open Go.RowKit in
theorem Tryd.strings_Join (bk o c : Nat) (xs : List ByteArray) (sep : ByteArray) (w : World) (hcells : ∀ (j : Nat) x, xs[j]? = some x → w.cell? ⟨bk, o + j, none⟩ = some (.string x)) (hbk : bk < w.heap.size) (hN : xs.length ≤ 140737488355328) (hcap : xs.length ≤ c) (hlen : (Lib.join (xs.map (·.data.toList)) sep.data.toList).length ≤ 140737488355328) :
    Calls Tryd.prog 46 #[.slice (some ⟨bk, o, none⟩) xs.length c, .string sep] w fun e w' => e = .returned (.string ⟨(Lib.join (xs.map (·.data.toList)) sep.data.toList).toArray⟩) ∧ Below w.heap.size w w' := Any.strings_Join Tryd.lays156 Tryd.Builder_Extra_156 bk o c xs sep w hcells hbk hN hcap hlen
end Go.Proofs

namespace Go.Proofs.YtkklmljannclmaaDoor
open Go.RowKit Go.Sort Go.Joins Go.Shelf
attribute [local go_sem] cell_grow frozen_grow size_grow

theorem dbl_one (c : UInt8) : dbl [c] = if c = 34 then [34, 34] else [c] := by
  by_cases h : c = 34
  · subst h; rw [dbl_q, dbl_nil, if_pos rfl]
  · rw [dbl_c _ h, dbl_nil, if_neg h]
set_option maxRecDepth 100000 in
set_option maxHeartbeats 1600000 in
theorem rquote_ok (s : ByteArray) (L : List UInt8) (hL : s.data.toList = L) (hs : s.size ≤ 4611686018427387904) (w : World) :
    Calls Tryd.prog 24 #[.string s] w fun e w' => ∃ S : ByteArray, e = .returned (.tuple #[.string S, .int .i64 (qtE L)]) ∧ S.data.toList = qtV L ∧ w = w' := by
  have hlen := len_of hL
  have HL := Lib.hid hL
  have HT := Lib.hid (rtext_ok s L hL (by omega))
  cases htx : txB L with
  | false =>
    have HX : Hid (qtE L = 2 ∧ qtV L = []) := Lib.hid (by unfold qtE qtV; rw [htx]; exact ⟨rfl, rfl⟩)
    rw [htx] at HT
    clear hL htx
    go_enter Tryd.func24, Tryd.ntmps24
    go_wp2_with fail
    refine (HT.out _).mono ?_
    rintro e w1 ⟨rfl, rfl⟩
    go_wp2
    go_ret2
    exact ⟨⟨#[]⟩, by rw [HX.out.1]; rfl, HX.out.2.symm, rfl⟩
  | true =>
    have HX : Hid (qtE L = 0 ∧ qtV L = 34 :: (dbl L ++ [34])) := Lib.hid (by unfold qtE qtV; rw [if_pos htx, if_pos htx]; exact ⟨rfl, rfl⟩)
    have h200 : s.size ≤ 200 := by have := (txB_yes.1 htx).2; omega
    rw [htx] at HT
    clear hL htx hs
    go_enter Tryd.func24, Tryd.ntmps24
    go_wp2_with fail
    refine (HT.out _).mono ?_
    rintro e w1 ⟨rfl, rfl⟩
    go_wp2
    go_loop [4, 5] (fun o i => ∃ (k : Nat) (O : ByteArray), i = .int .i64 (k : Int) ∧ o = .string O ∧ k ≤ s.size ∧ O.size ≤ 1 + 2 * k ∧ Hid (O.data.toList = 34 :: dbl (L.take k))) (fun _ i => s.size - (intOf i).toNat)
    case atStart => exact ⟨0, ⟨#[34]⟩, rfl, rfl, Nat.zero_le _, by decide, Lib.hid (by rw [List.take_zero, dbl_nil])⟩
    case round =>
      obtain ⟨k, O, rfl, rfl, hk, hO, HQ⟩ := hrel
      by_cases hlt : k < s.size
      · have hb := bt_get HL.out hlt
        have hx := take_ext HL.out (k := k) (by rw [len_of HL.out]; omega)
        have hz := (bt L k).toNat_lt
        have hk1 : k + 1 ≤ s.size := by omega
        have hsz : (s.extract k (k + 1)).size = 1 := by rw [ByteArray.size_extract]; omega
        have hC : (9223372036854775807 < O.size + 1) = False := by simp; omega
        have hC2 : (9223372036854775807 < O.size + 1 + 1) = False := by simp; omega
        have HXX := Lib.hid (app_list O (s.extract k (k + 1)))
        rw [hx] at HXX
        have HTK : Hid (L.take (k + 1) = L.take k ++ [bt L k]) := Lib.hid (take_snoc (bt_at (by rw [len_of HL.out]; exact hlt)))
        by_cases h1 : (bt L k).toNat = 34
        · rw [h1] at hb
          rw [u8_of h1 (by decide)] at HTK HXX
          have d1 : (((34 : Nat) : Int) == 34) = true := rfl
          clear hx h1 hz
          go_wp2
          go_round
          case rel => exact ⟨k + 1, O ++ s.extract k (k + 1) ++ ⟨#[34]⟩, by go_num, rfl, hk1, by simp only [ByteArray.size_append, hsz]; have : (⟨#[34]⟩ : ByteArray).size = 1 := rfl; omega, Lib.hid (by
            have e34 : (UInt8.ofNat 34) = 34 := rfl
            rw [app_list, HXX.out, HTK.out, dbl_append, HQ.out, e34, show dbl [34] = [34, 34] by rw [dbl_q, dbl_nil]]; simp)⟩
          case measure => simp [intOf]; omega
        · have d1 : (((bt L k).toNat : Int) == 34) = false := beq_eq_false_iff_ne.2 (by omega)
          have hne : bt L k ≠ 34 := fun e => h1 (by rw [e]; rfl)
          have HNE : Hid (dbl [bt L k] = [bt L k]) := Lib.hid (by rw [dbl_one, if_neg hne])
          obtain ⟨c, hc⟩ : ∃ c, (bt L k).toNat = c := ⟨_, rfl⟩
          rw [hc] at hb d1 hz
          clear hx h1 hne hc
          go_wp2
          go_round
          case rel => exact ⟨k + 1, O ++ s.extract k (k + 1), by go_num, rfl, hk1, by simp only [ByteArray.size_append, hsz]; omega, Lib.hid (by rw [HXX.out, HTK.out, dbl_append, HQ.out, HNE.out]; simp)⟩
          case measure => simp [intOf]; omega
      · obtain rfl : k = s.size := by omega
        have hC : (9223372036854775807 < O.size + 1) = False := by simp; omega
        have HF : Hid ((O ++ ⟨#[34]⟩).data.toList = 34 :: (dbl L ++ [34])) := Lib.hid (by
          have h := HQ.out
          rw [List.take_of_length_le (by rw [len_of HL.out]; exact Nat.le_refl _)] at h
          rw [app_list, h]; rfl)
        go_wp2
        go_ret2
        exact ⟨O ++ ⟨#[34]⟩, by rw [HX.out.1]; rfl, by rw [HX.out.2]; exact HF.out, rfl⟩
theorem qt_ways (L : List UInt8) : (qtE L = 0 ∧ unqE (qtV L) = 0 ∧ unqR (qtV L) = L ∧ (qtV L).length ≤ 402) ∨ qtE L = 2 := by
  unfold qtE qtV
  by_cases h : txB L = true
  · left
    rw [if_pos h, if_pos h]
    have h2 := unq_0 (unq_qt h)
    refine ⟨rfl, h2.1, h2.2, ?_⟩
    have h3 := (dbl_len L).2
    have h4 := (txB_yes.1 h).2
    unfold qtL
    simp only [List.length_cons, List.length_append, List.length_nil]
    omega
  · right; rw [if_neg h]
theorem unq_ways (L : List UInt8) : (unqE L = 0 ∧ qtE (unqR L) = 0 ∧ qtV (unqR L) = L ∧ (unqR L).length ≤ 200) ∨ unqE L = 6 := by
  cases h : unq L with
  | none => exact .inr (unq_6 h).1
  | some u =>
    left
    obtain ⟨h1, h2⟩ := unq_0 h
    obtain ⟨h3, h4⟩ := unq_some h
    rw [h1, h2]
    unfold qtE qtV
    rw [if_pos h3, if_pos h3]
    exact ⟨rfl, rfl, h4, (txB_yes.1 h3).2⟩
set_option maxRecDepth 100000 in
set_option maxHeartbeats 3200000 in
theorem law_quotes (s : ByteArray) (w : World) (hT : T1 w) : Calls Tryd.prog 7 #[.string s] w fun e w' => e = .returned (.bool true) ∧ Below w.heap.size w w' := by
  have HT := Lib.hid hT
  clear hT
  by_cases hs : 20000 < s.size
  · have d1 : decide ((20000 : Int) < (s.size : Int)) = true := decide_eq_true (by omega)
    go_enter Tryd.func7, Tryd.ntmps7
    go_wp2_with fail
    refine (shown_ok _ HT.out).mono ?_
    rintro e w1 ⟨rfl, b1⟩
    have HB := Lib.hid b1
    clear b1
    go_wp2
    go_ret
    exact ⟨rfl, HB.out⟩
  · have d1 : decide ((20000 : Int) < (s.size : Int)) = false := decide_eq_false (by omega)
    have HSZ : Hid (s.size ≤ 20000) := Lib.hid (by omega)
    have hq := qt_ways s.data.toList
    have hu := unq_ways s.data.toList
    clear hs
    go_enter Tryd.func7, Tryd.ntmps7
    go_wp2_with fail
    refine (wquote_ok s _ rfl (by have := HSZ.out; omega) _ HT.out.ml).mono ?_
    rintro e w1 ⟨S1, rfl, h1, b1⟩
    have HB1 := Lib.hid b1
    clear b1
    go_wp2_with fail
    refine (rquote_ok s _ rfl (by have := HSZ.out; omega) _).mono ?_
    rintro e w2 ⟨S2, rfl, h2, rfl⟩
    obtain rfl : S1 = S2 := by rw [ba_lit h1, ba_lit h2]
    go_wp2_with fail
    refine (wunq_ok s _ rfl (by have := HSZ.out; omega) _ (HT.out.below HB1.out).ml).mono ?_
    rintro e w3 ⟨S3, rfl, h3, b3⟩
    have HB3 := Lib.hid (HB1.out.trans (b3.mono HB1.out.size))
    clear b3 h2
    go_wp2_with fail
    refine (runq_ok s _ rfl (by have := HSZ.out; omega) _).mono ?_
    rintro e w4 ⟨S4, rfl, h4, rfl⟩
    obtain rfl : S3 = S4 := by rw [ba_lit h3, ba_lit h4]
    obtain ⟨L, hL⟩ : ∃ L, s.data.toList = L := ⟨_, rfl⟩
    rw [hL] at hq hu h1 h3 ⊢
    have HL := Lib.hid hL
    have H1 := Lib.hid h1
    have H3 := Lib.hid h3
    obtain ⟨E, hE⟩ : ∃ E, qtE L = E := ⟨_, rfl⟩
    obtain ⟨G, hG⟩ : ∃ G, unqE L = G := ⟨_, rfl⟩
    rw [hE] at hq
    rw [hG] at hu
    rw [hE, hG]
    clear hL h1 h3 h4 hE hG HB1
    rcases hq with ⟨rfl, q1, q2, q3⟩ | rfl <;> rcases hu with ⟨rfl, u1, u2, u3⟩ | rfl
    · go_wp2_with fail
      refine (wunq_ok S1 _ H1.out (by have h := len_of H1.out; omega) _ (HT.out.below HB3.out).ml).mono ?_
      rintro e w5 ⟨S5, rfl, h5, b5⟩
      rw [q1]
      obtain rfl : s = S5 := by rw [ba_lit HL.out, ba_lit (h5.trans q2)]
      have HB3 := Lib.hid (HB3.out.trans (b5.mono HB3.out.size))
      clear b5 h5 q1 q2 q3
      go_wp2_with fail
      refine (wquote_ok S3 _ H3.out (by have h := len_of H3.out; omega) _ (HT.out.below HB3.out).ml).mono ?_
      rintro e w6 ⟨S6, rfl, h6, b6⟩
      rw [u1]
      obtain rfl : s = S6 := by rw [ba_lit HL.out, ba_lit (h6.trans u2)]
      have HB3 := Lib.hid (HB3.out.trans (b6.mono HB3.out.size))
      clear b6 h6 u1 u2 u3
      go_wp2_with fail
      refine (shown_ok _ (HT.out.below HB3.out)).mono ?_
      rintro e w7 ⟨rfl, b7⟩
      have HB7 := Lib.hid (HB3.out.trans (b7.mono HB3.out.size))
      clear b7
      go_wp2
      go_ret
      exact ⟨rfl, HB7.out⟩
    · go_wp2_with fail
      refine (wunq_ok S1 _ H1.out (by have h := len_of H1.out; omega) _ (HT.out.below HB3.out).ml).mono ?_
      rintro e w5 ⟨S5, rfl, h5, b5⟩
      rw [q1]
      obtain rfl : s = S5 := by rw [ba_lit HL.out, ba_lit (h5.trans q2)]
      have HB3 := Lib.hid (HB3.out.trans (b5.mono HB3.out.size))
      clear b5 h5 q1 q2 q3
      go_wp2_with fail
      refine (shown_ok _ (HT.out.below HB3.out)).mono ?_
      rintro e w7 ⟨rfl, b7⟩
      have HB7 := Lib.hid (HB3.out.trans (b7.mono HB3.out.size))
      clear b7
      go_wp2
      go_ret
      exact ⟨rfl, HB7.out⟩
    · go_wp2_with fail
      refine (wquote_ok S3 _ H3.out (by have h := len_of H3.out; omega) _ (HT.out.below HB3.out).ml).mono ?_
      rintro e w6 ⟨S6, rfl, h6, b6⟩
      rw [u1]
      obtain rfl : s = S6 := by rw [ba_lit HL.out, ba_lit (h6.trans u2)]
      have HB3 := Lib.hid (HB3.out.trans (b6.mono HB3.out.size))
      clear b6 h6 u1 u2 u3
      go_wp2_with fail
      refine (shown_ok _ (HT.out.below HB3.out)).mono ?_
      rintro e w7 ⟨rfl, b7⟩
      have HB7 := Lib.hid (HB3.out.trans (b7.mono HB3.out.size))
      clear b7
      go_wp2
      go_ret
      exact ⟨rfl, HB7.out⟩
    · go_wp2_with fail
      refine (shown_ok _ (HT.out.below HB3.out)).mono ?_
      rintro e w7 ⟨rfl, b7⟩
      have HB7 := Lib.hid (HB3.out.trans (b7.mono HB3.out.size))
      clear b7
      go_wp2
      go_ret
      exact ⟨rfl, HB7.out⟩
end Go.Proofs.YtkklmljannclmaaDoor

namespace Go.Proofs.YtkklmljannclmaaDoor
open Go.RowKit Go.Sort Go.Joins Go.Shelf
attribute [local go_sem] cell_grow frozen_grow size_grow

theorem stv_snocJ (X : List ByteArray) (x : ByteArray) : (X ++ [x]).map Value.string = X.map Value.string ++ [.string x] := by simp
theorem jn_lenS : ∀ {P : List (List UInt8)}, P ≠ [] → (jn 32 P).length + 1 = (P.map (fun p => p.length + 1)).sum
  | [], h => absurd rfl h
  | [p], _ => by show p.length + 1 = _; simp
  | p :: q :: r, _ => by
    have ih := jn_lenS (P := q :: r) (by simp)
    rw [jn_cons (by simp), List.length_append, List.length_cons, List.map_cons, List.sum_cons, ← ih]
    omega
theorem jn_join (P : List (List UInt8)) : Lib.join P [32] = jn 32 P := by
  induction P with
  | nil => rfl
  | cons p r ih =>
    cases r with
    | nil => simp [Lib.join, jn]
    | cons q r =>
      rw [jn_cons (by simp), ← ih]
      rfl
/-- how long the written fields are, with one more for each -/
def szJ (I : List Fl) : Nat := (I.map (fun x => (flT x).length + 1)).sum
theorem szJ_snoc (I : List Fl) (x : Fl) : szJ (I ++ [x]) = szJ I + ((flT x).length + 1) := by unfold szJ; simp
theorem flT_len {x : Fl} (h : flB x = true) : (flT x).length ≤ 402 := by
  obtain ⟨b, u⟩ := x
  cases b
  · have := (txB_yes.1 (rtB_yes.1 (show rtB u = true from h)).2.2).2
    show u.length ≤ 402
    omega
  · have h2 := (dbl_len u).2
    have h3 := (txB_yes.1 (show txB u = true from h)).2
    show (qtL u).length ≤ 402
    unfold qtL
    simp only [List.length_cons, List.length_append, List.length_nil]
    omega
theorem jnE_many {I : List Fl} (h : 64 < I.length) : jnE I = 3 ∧ jnS I = [] := by
  have e : jnE I = 3 := by unfold jnE; rw [if_pos h]
  exact ⟨e, by unfold jnS; rw [e]; rfl⟩
theorem jnE_wrong {I : List Fl} (h : ¬ 64 < I.length) {k : Nat} {x : Fl} (hk : I[k]? = some x) (hx : flB x = false) : jnE I = 2 ∧ jnS I = [] := by
  have ha : I.any (fun x => !flB x) = true := List.any_eq_true.2 ⟨x, List.mem_of_getElem? hk, by rw [hx]; rfl⟩
  have e : jnE I = 2 := by unfold jnE; rw [if_neg h, ha]; rfl
  exact ⟨e, by unfold jnS; rw [e]; rfl⟩
theorem jnE_rest {I : List Fl} (h : ¬ 64 < I.length) (hb : ∀ x, x ∈ I → flB x = true) : jnE I = if 4096 < (jnP I).length then 3 else 0 := by
  unfold jnE
  rw [if_neg h, any_not hb, if_neg (by decide)]
theorem szJ_jn {I : List Fl} (h : I ≠ []) : (jnP I).length + 1 = szJ I := by
  unfold jnP szJ
  rw [jn_lenS (by simpa using h), List.map_map]
  rfl
theorem SlT.cellsJ {w : World} {g c n : Nat} {e : TypeId} {base : Nat} {X : List ByteArray} (h : w.ownsRow base e 1 (.slice (some ⟨g, 0, none⟩) n c) n (X.map Value.string)) (hn : X.length = n) : ∀ (j : Nat) x, X[j]? = some x → w.cell? ⟨g, 0 + j, none⟩ = some (.string x) := fun j x hx => by
  have hj := (List.getElem?_eq_some_iff.1 hx).1
  have := h.cellAt j (by omega)
  rw [List.getElem?_map, hx] at this
  rw [Nat.zero_add]
  exact this
theorem own_capJ {w : World} {g c n base size : Nat} {e : TypeId} {xs : List Value} (h : w.ownsRow base e size (.slice (some ⟨g, 0, none⟩) n c) n xs) (h0 : 0 < n) : n ≤ c ∧ g < w.heap.size := by
  rcases h.2 with ⟨e, _⟩ | ⟨g', cap, cur, hv, _, hh, h1, _⟩
  · cases e
  · cases hv
    exact ⟨h1, blk_lt hh⟩
set_option maxRecDepth 100000 in
set_option maxHeartbeats 1600000 in
theorem wjoin_ok (a : Option Addr) (c : Nat) (I : List Fl) (w : World) (hI : SlF w a I) (hz : ∀ x, x ∈ I → x.2.length ≤ 4294967280) (hlen : I.length ≤ 4611686018427387904) (hM : ML w) :
    Calls Tryd.prog 18 #[.slice a I.length c] w fun e w' => ∃ S : ByteArray, e = .returned (.tuple #[.string S, .int .i64 (jnE I)]) ∧ S.data.toList = jnS I ∧ Below w.heap.size w w' := by
  obtain ⟨i0, hi, hz0, hz1, hz2⟩ := info_parts info_str
  have HI := Lib.hid hI
  have HZ := Lib.hid hz
  have HM := Lib.hid hM
  obtain ⟨n, hn⟩ : ∃ n, I.length = n := ⟨_, rfl⟩
  have HN := Lib.hid hn
  by_cases h64 : 64 < n
  · have d1 : decide ((64 : Int) < (n : Int)) = true := decide_eq_true (by omega)
    have HX := Lib.hid (jnE_many (I := I) (by omega))
    rw [hn]
    clear hI hz hM hn
    go_enter Tryd.func18, Tryd.ntmps18
    go_wp2
    go_ret2
    exact ⟨⟨#[]⟩, by rw [HX.out.1]; rfl, HX.out.2.symm, Below.refl _ _⟩
  · have d1 : decide ((64 : Int) < (n : Int)) = false := decide_eq_false (by omega)
    have HW := Lib.hid (fun k x (h1 : I[k]? = some x) h2 => jnE_wrong (I := I) (by omega) h1 h2)
    have HR := Lib.hid (fun hb => jnE_rest (I := I) (by omega) hb)
    have h64' : n ≤ 64 := by omega
    rw [hn]
    clear hI hz hM hn h64 hlen
    go_enter Tryd.func18, Tryd.ntmps18
    go_wp2
    go_loopw [4, 5, 14] (fun o z i wr => ∃ (k : Nat) (X : List ByteArray) (a' : Option Addr) (c' sz : Nat), o = .slice a' k c' ∧ z = .int .i64 (sz : Int) ∧ i = .int .i64 (k : Int) ∧ k ≤ n ∧ sz ≤ 403 * k ∧ Hid (X.length = k ∧ sts X = (I.take k).map flT ∧ sz = szJ (I.take k) ∧ ∀ x, x ∈ I.take k → flB x = true) ∧ Hid (wr.ownsRow w.heap.size 9 1 (.slice a' k c') k (X.map Value.string)) ∧ Hid (Below w.heap.size w wr)) (fun _ _ i _ => n - (intOf i).toNat)
    case atStart => exact ⟨0, [], none, 0, 0, rfl, rfl, rfl, Nat.zero_le _, Nat.zero_le _, Lib.hid ⟨rfl, rfl, rfl, by simp⟩, Lib.hid (World.ownsRow_nil _ _ _ _), Lib.hid (Below.refl _ _)⟩
    case round =>
      obtain ⟨k, X, a', c', sz, rfl, rfl, rfl, hk, hsz, HX, HO, HB⟩ := hrel
      clear d1
      by_cases hlt : k < n
      · obtain ⟨b1, o1, S1, rfl, g1, g1s, e1⟩ := (HI.out.below HB.out).at_ (j := k) (by rw [HN.out]; exact hlt)
        have hli : (k : Int) < (n : Int) := by omega
        have hk0 : (0 : Int) ≤ (k : Int) := by omega
        obtain ⟨x, hx⟩ : ∃ x, (I.getD k (false, [])).1 = x := ⟨_, rfl⟩
        rw [hx] at g1
        have hE : I[k]? = some (x, S1.data.toList) := by
          rw [List.getElem?_eq_getElem (by rw [HN.out]; exact hlt)]
          have h : I.getD k (false, []) = (x, S1.data.toList) := Prod.ext hx e1.symm
          rw [List.getD_eq_getElem?_getD, List.getElem?_eq_getElem (by rw [HN.out]; exact hlt)] at h
          exact congrArg some h
        have hS1 : S1.size ≤ 4294967280 := by
          have := HZ.out _ (List.mem_of_getElem? hE)
          rw [len_of rfl] at this; exact this
        rw [Nat.mul_comm] at g1 g1s
        have HE := Lib.hid hE
        have b0 := below_box0 wr (.cells #[.bool x, .string S1] 36)
        have q0 := heap_alloc_new wr (.cells #[.bool x, .string S1] 36)
        have HB0 := Lib.hid b0
        have HQ0 := Lib.hid q0
        have hbk1 := World.block_lt_of_cell? _ _ g1
        dsimp only at hbk1
        clear hx e1 hE b0 q0
        cases hf : flB (x, S1.data.toList) with
        | false =>
          have HX2 := Lib.hid (HW.out k _ HE.out hf)
          go_wp2_with fail
          refine (wright_ok x S1 _ rfl (by omega) _).mono ?_
          rintro e w1 ⟨rfl, c1⟩
          rw [hf]
          have HB1 := Lib.hid ((HB.out.trans (HB0.out.mono HB.out.size)).trans (c1.mono (by simp; have := HB.out.size; omega)))
          clear c1 hf
          go_wp2
          go_ret2
          exact ⟨⟨#[]⟩, by rw [HX2.out.1]; rfl, HX2.out.2.symm, HB1.out⟩
        | true =>
          have hfl := flT_len hf
          have HF := Lib.hid hf
          cases x
          · have hST : S1.size ≤ 402 := by
              have e : flT (false, S1.data.toList) = S1.data.toList := rfl
              rw [e, len_of rfl] at hfl; exact hfl
            go_wp2_with fail
            refine (wright_ok false S1 _ rfl (by omega) _).mono ?_
            rintro e w1 ⟨rfl, c1⟩
            rw [hf]
            have HB1 := Lib.hid ((HB.out.trans (HB0.out.mono HB.out.size)).trans (c1.mono (by simp; have := HB.out.size; omega)))
            have HO1 := Lib.hid (own_below (own_below HO.out HB0.out) c1)
            have HQ1 := Lib.hid ((c1.block _ (blk_lt HQ0.out)).trans HQ0.out)
            have k0 : w1.cell? ⟨wr.heap.size, 0, none⟩ = some (.bool false) := by rw [cell_of_block HQ1.out]; rfl
            have k1 : w1.cell? ⟨wr.heap.size, 1, none⟩ = some (.string S1) := by rw [cell_of_block HQ1.out]; rfl
            clear c1 hf
            go_wp2_with (at_builtin; refine wpList_append_own _ rfl (.tmp 30) (.tmp 32) 52 rfl w.heap.size 9 i0 (.string ⟨#[]⟩) 1 16 Tryd.underlying52 hi hz0 hz1 hz2 rfl (by decide) _ _ _ rfl (HO1.out.alloc _) ⟨w1.heap.size, 0, none⟩ 1 1 [.string S1] rfl rfl ?c1 ?c2 ?c3 ?c4 ?c5 ?_)
            case c1 => intro j q hq; match j with | 0 => (simp at hq; subst hq; simp [go_sem]) | j + 1 => simp at hq
            case c2 => intro q hq; simp at hq; subst hq; rfl
            case c3 => unfold maxLen; omega
            case c4 => omega
            case c5 => have := HB1.out.size; first | omega | (simp; omega)
            intro v' w3 hown hg _
            obtain ⟨va', vc', rfl⟩ := own_slice hown
            have HB3 := Lib.hid ((HB1.out.alloc HB1.out.size (.cells #[.string S1] 9)).grown hg (by have := HB1.out.size; simp; omega) (by intro r hr; exact (HO1.out.lt r hr).1))
            have HW3 : Hid (w3.ownsRow w.heap.size 9 1 (.slice va' (k + 1) vc') (k + 1) ((X ++ [S1]).map Value.string)) := Lib.hid (by rw [stv_snocJ]; exact hown)
            have HTK : Hid (I.take (k + 1) = I.take k ++ [(false, S1.data.toList)]) := Lib.hid (take_snoc HE.out)
            have hw1 : IntKind.i64.wrap ((S1.size : Int) + 1) = (S1.size : Int) + 1 := IntWalk.i64_in _ (by omega)
            have hw2 : IntKind.i64.wrap ((sz : Int) + ((S1.size : Int) + 1)) = (sz : Int) + ((S1.size : Int) + 1) := IntWalk.i64_in _ (by omega)
            clear hown hg
            go_wp2
            go_roundw
            case rel => exact ⟨k + 1, X ++ [S1], va', vc', sz + (S1.size + 1), rfl, by go_num, by go_num, by omega, by omega, Lib.hid ⟨by rw [List.length_append, HX.out.1]; rfl, by
                rw [show sts (X ++ [S1]) = sts X ++ [S1.data.toList] by unfold sts; simp, HX.out.2.1, HTK.out, List.map_append, show [S1.data.toList] = [(false, S1.data.toList)].map flT from rfl], by
                rw [HTK.out, szJ_snoc, HX.out.2.2.1, show (flT (false, S1.data.toList)).length = S1.size from len_of rfl], fun y hy => by
                rw [HTK.out] at hy
                rcases List.mem_append.1 hy with hy | hy
                · exact HX.out.2.2.2 y hy
                · rw [List.mem_singleton] at hy
                  rw [hy]; exact HF.out⟩, HW3, HB3⟩
            case measure => simp [intOf]; omega
          · have hq := qt_ways S1.data.toList
            have htx : txB S1.data.toList = true := hf
            have hqv : qtV S1.data.toList = flT (true, S1.data.toList) := by unfold qtV; rw [if_pos htx]; rfl
            have hqe : qtE S1.data.toList = 0 := by unfold qtE; rw [if_pos htx]
            go_wp2_with fail
            refine (wright_ok true S1 _ rfl (by omega) _).mono ?_
            rintro e w1 ⟨rfl, c1⟩
            rw [hf]
            have HB1 := Lib.hid ((HB.out.trans (HB0.out.mono HB.out.size)).trans (c1.mono (by simp; have := HB.out.size; omega)))
            have HO1 := Lib.hid (own_below (own_below HO.out HB0.out) c1)
            have HQ1 := Lib.hid ((c1.block _ (blk_lt HQ0.out)).trans HQ0.out)
            have k0 : w1.cell? ⟨wr.heap.size, 0, none⟩ = some (.bool true) := by rw [cell_of_block HQ1.out]; rfl
            have k1 : w1.cell? ⟨wr.heap.size, 1, none⟩ = some (.string S1) := by rw [cell_of_block HQ1.out]; rfl
            clear c1 hf htx hq
            go_wp2_with fail
            refine (wquote_ok S1 _ rfl hS1 _ (HM.out.below HB1.out)).mono ?_
            rintro e w2 ⟨S2, rfl, h2, c2⟩
            rw [hqe]
            rw [hqv] at h2
            have hST : S2.size ≤ 402 := by have := len_of h2; omega
            have H2 := Lib.hid h2
            have HBa := HB1
            have HOa := HO1
            clear HB1 HO1
            have HB1 := Lib.hid (HBa.out.trans (c2.mono HBa.out.size))
            have HO1 := Lib.hid (own_below HOa.out c2)
            clear c2 k0 k1 HQ1 h2 hqv hqe HBa HOa
            go_wp2_with (at_builtin; refine wpList_append_own _ rfl (.tmp 30) (.tmp 32) 52 rfl w.heap.size 9 i0 (.string ⟨#[]⟩) 1 16 Tryd.underlying52 hi hz0 hz1 hz2 rfl (by decide) _ _ _ rfl (HO1.out.alloc _) ⟨w2.heap.size, 0, none⟩ 1 1 [.string S2] rfl rfl ?c1 ?c2 ?c3 ?c4 ?c5 ?_)
            case c1 => intro j q hq; match j with | 0 => (simp at hq; subst hq; simp [go_sem]) | j + 1 => simp at hq
            case c2 => intro q hq; simp at hq; subst hq; rfl
            case c3 => unfold maxLen; omega
            case c4 => omega
            case c5 => have := HB1.out.size; first | omega | (simp; omega)
            intro v' w3 hown hg _
            obtain ⟨va', vc', rfl⟩ := own_slice hown
            have HB3 := Lib.hid ((HB1.out.alloc HB1.out.size (.cells #[.string S2] 9)).grown hg (by have := HB1.out.size; simp; omega) (by intro r hr; exact (HO1.out.lt r hr).1))
            have HW3 : Hid (w3.ownsRow w.heap.size 9 1 (.slice va' (k + 1) vc') (k + 1) ((X ++ [S2]).map Value.string)) := Lib.hid (by rw [stv_snocJ]; exact hown)
            have HTK : Hid (I.take (k + 1) = I.take k ++ [(true, S1.data.toList)]) := Lib.hid (take_snoc HE.out)
            have hw1 : IntKind.i64.wrap ((S2.size : Int) + 1) = (S2.size : Int) + 1 := IntWalk.i64_in _ (by omega)
            have hw2 : IntKind.i64.wrap ((sz : Int) + ((S2.size : Int) + 1)) = (sz : Int) + ((S2.size : Int) + 1) := IntWalk.i64_in _ (by omega)
            clear hown hg
            go_wp2
            go_roundw
            case rel => exact ⟨k + 1, X ++ [S2], va', vc', sz + (S2.size + 1), rfl, by go_num, by go_num, by omega, by omega, Lib.hid ⟨by rw [List.length_append, HX.out.1]; rfl, by
                rw [show sts (X ++ [S2]) = sts X ++ [S2.data.toList] by unfold sts; simp, HX.out.2.1, HTK.out, List.map_append, show [S2.data.toList] = [(true, S1.data.toList)].map flT from by rw [H2.out]; rfl], by
                rw [HTK.out, szJ_snoc, HX.out.2.2.1, show (flT (true, S1.data.toList)).length = S2.size from len_of H2.out], fun y hy => by
                rw [HTK.out] at hy
                rcases List.mem_append.1 hy with hy | hy
                · exact HX.out.2.2.2 y hy
                · rw [List.mem_singleton] at hy
                  rw [hy]; exact HF.out⟩, HW3, HB3⟩
            case measure => simp [intOf]; omega
      · obtain rfl : k = n := by omega
        have htk : I.take k = I := List.take_of_length_le (by rw [HN.out]; exact Nat.le_refl _)
        have hx := HX.out
        rw [htk] at hx
        obtain ⟨x1, x2, x3, x4⟩ := hx
        have hr := HR.out x4
        by_cases h0 : k = 0
        · have hI0 : I = [] := List.length_eq_zero_iff.1 (HN.out.trans h0)
          have hsz0 : sz = 0 := by rw [x3, hI0]; rfl
          have HX3 : Hid (jnE I = 0 ∧ jnS I = []) := Lib.hid (by
            have e : jnE I = 0 := by rw [hI0]; rfl
            exact ⟨e, by rw [hI0]; rfl⟩)
          subst h0 hsz0
          clear x1 x2 x3 x4 hr htk hI0
          go_wp2_with fail
          refine (Tryd.strings_Join_none _ _ _ _).mono ?_
          rintro e w1 ⟨rfl, rfl⟩
          go_wp2
          go_ret2
          exact ⟨⟨#[]⟩, by rw [HX3.out.1]; rfl, HX3.out.2.symm, HB.out⟩
        · have hne : I ≠ [] := fun e => h0 (by rw [← HN.out, e]; rfl)
          have hj := szJ_jn hne
          rw [← x3] at hj
          obtain ⟨g, cap', hv⟩ := ownsRow_form HO.out (by omega)
          cases hv
          by_cases hbig : 4097 < sz
          · have d2 : decide ((4097 : Int) < (sz : Int)) = true := decide_eq_true (by omega)
            have HX3 : Hid (jnE I = 3 ∧ jnS I = []) := Lib.hid (by
              have e : jnE I = 3 := by rw [hr, if_pos (by omega)]
              exact ⟨e, by unfold jnS; rw [e]; rfl⟩)
            clear x1 x2 x3 x4 hr htk hj
            go_wp2
            go_ret2
            exact ⟨⟨#[]⟩, by rw [HX3.out.1]; rfl, HX3.out.2.symm, HB.out⟩
          · have d2 : decide ((4097 : Int) < (sz : Int)) = false := decide_eq_false (by omega)
            have HX3 : Hid (jnE I = 0 ∧ jnS I = jnP I) := Lib.hid (by
              have e : jnE I = 0 := by rw [hr, if_neg (by omega)]
              exact ⟨e, by unfold jnS; rw [if_pos e]⟩)
            have hjj : Lib.join (X.map (·.data.toList)) (⟨#[32]⟩ : ByteArray).data.toList = jnP I := by
              show Lib.join (sts X) [32] = _
              rw [x2, jn_join]; rfl
            have hcp := own_capJ HO.out (by omega)
            have hJ := Tryd.strings_Join g 0 c' X ⟨#[32]⟩ wr (SlT.cellsJ HO.out x1) hcp.2 (by omega) (by omega) (by rw [hjj]; omega)
            rw [hjj, x1] at hJ
            have HJ := Lib.hid hJ
            clear x1 x2 x3 x4 hr htk hj hjj hcp hJ
            go_wp2_with fail
            refine HJ.out.mono ?_
            rintro e w1 ⟨rfl, c1⟩
            have HB2 := Lib.hid (HB.out.trans (c1.mono HB.out.size))
            clear c1
            go_wp2
            go_ret2
            exact ⟨⟨(jnP I).toArray⟩, by rw [HX3.out.1]; rfl, by rw [HX3.out.2], HB2.out⟩
end Go.Proofs.YtkklmljannclmaaDoor
