/- Slices of integers of any kind, as a row hands them. | Words: Hex and ParseHex, plain; slices of bytes. | Words: Hex of the program. | Words: nibble and Hex of the reference. | Words: ParseHex of the program. | Words: ParseHex of the reference. -/
import Derived.Test.YtkklmljannclmaaDoorProg
import Derived.WalkKit
import Derived.OpenShut
import Derived.Lib.SmallJoins
import Derived.Deep.Grids
import Derived.ChangeSame
import Derived.Test.YtkklmljannclmaaDoorWZ9
import Derived.Laws.BytesArg
import Derived.Laws.IdiomStrings
import Derived.Deep.AppendLies
namespace Go.Proofs.YtkklmljannclmaaDoor
open Go.ChangeShapes Go.WideShapes Go.ChangeAt Go.RowKit Go.Joins
/-- a slice that reads as integers -/
def SlZ (k : IntKind) (w : World) (a : Option Addr) (n : Nat) (G : Nat → Int) : Prop := n = 0 ∨ ∃ b o, a = some ⟨b, o, none⟩ ∧ ∀ j, j < n → w.cell? ⟨b, o + j, none⟩ = some (.int k (G j))
theorem SlZ.below {k : IntKind} {w w' : World} {a : Option Addr} {n : Nat} {G : Nat → Int} (h : SlZ k w a n G) (hb : Below w.heap.size w w') : SlZ k w' a n G := by
  rcases h with h | ⟨b, o, ha, hc⟩
  · exact .inl h
  · refine .inr ⟨b, o, ha, fun j hj => ?_⟩
    have h0 := hc j hj
    have hl := World.block_lt_of_cell? _ _ h0
    dsimp only at hl
    exact (hb.cell (p := ⟨b, o + j, none⟩) hl).trans h0
theorem SlZ.at_ {k : IntKind} {w : World} {a : Option Addr} {n : Nat} {G : Nat → Int} (h : SlZ k w a n G) {j : Nat} (hj : j < n) : ∃ b o, a = some ⟨b, o, none⟩ ∧ w.cell? ⟨b, o + j, none⟩ = some (.int k (G j)) := by
  obtain ⟨b, o, ha, hc⟩ := h.resolve_left (by omega)
  exact ⟨b, o, ha, hc j hj⟩
section
variable {H : Type} {enc : TypeId × Value → H} {W : World} {base : Nat}
set_option maxRecDepth 100000 in
theorem open_zs {t e : TypeId} {k : IntKind} (ht : Tryd.prog.underlying t = some (.slice e)) (he : Tryd.prog.underlying e = some (.int k)) (hc : Tryd.prog.cellsOf e = 1)
    {v : Value} {d : DataW H} {p : List MemPlace} (hv : Value.okWide Tryd.prog W .any base t v) (h : DataW.Trod enc Tryd.prog W 0 (fun _ => true) true t v d p) :
    ∃ (a : Option Addr) (n cap : Nat) (G : Nat → Int), v = .slice a n cap ∧ SlZ k W a n G ∧ n ≤ 9223372036854775807 ∧ ∀ j, j < n → (Lit.int k (G j)).wf = true := by
  obtain ⟨a, l, c, rfl⟩ := okWide_slice ht hv
  obtain ⟨fuel, hf⟩ := h
  rcases open_ints ht he hc hf with ⟨h, _⟩ | ⟨A, len, cap, zs, h, _, hl, hm, hz, _, hcl, hwf⟩
  · cases h
    exact ⟨none, 0, 0, fun _ => 0, rfl, .inl rfl, by decide, fun j hj => by omega⟩
  · cases h
    have hz' : zs.length = c := by simpa using hz
    have hml : maxLen ≤ 9223372036854775807 := by decide
    refine ⟨some A, l, c, fun j => zs.getD j 0, rfl, ?_, by omega, fun j hj => ?_⟩
    · by_cases h0 : l = 0
      · exact .inl h0
      · obtain ⟨b, off, rfl, hc'⟩ := Go.ints_at hcl (by omega)
        exact .inr ⟨b, off, rfl, fun j hj => hc' j (by omega)⟩
    · have hjl : j < zs.length := by omega
      have := hwf zs[j] (List.getElem_mem _)
      have e : zs.getD j 0 = zs[j] := by simp [List.getD, hjl]
      show (Lit.int k (zs.getD j 0)).wf = true
      rw [e]
      exact this
end
end Go.Proofs.YtkklmljannclmaaDoor

namespace Go.Proofs.YtkklmljannclmaaDoor
open Go.RowKit Go.Sort Go.Joins Go.Shelf

def hexC : List UInt8 := [48, 49, 50, 51, 52, 53, 54, 55, 56, 57, 97, 98, 99, 100, 101, 102]
def hxd (x : Nat) : UInt8 := hexC.getD x 0
def hx2 (x : Nat) : List UInt8 := [hxd (x / 16), hxd (x % 16)]
def hex (N : List UInt8) : List UInt8 := N.flatMap fun c => hx2 c.toNat
def hxL (N : List UInt8) : List UInt8 := if 100 < N.length then [] else hex N
def hxE (N : List UInt8) : Int := if 100 < N.length then 3 else 0
def hv (c : UInt8) : Int := Lib.indexByte hexC c
def hvB (a b : UInt8) : Nat := 16 * (hv a).toNat + (hv b).toNat
def unh : List UInt8 → Option (List UInt8)
  | [] => some []
  | [_] => none
  | a :: b :: r => if 0 ≤ hv a ∧ 0 ≤ hv b then (unh r).map (UInt8.ofNat (hvB a b) :: ·) else none
def pxL (L : List UInt8) : List UInt8 := if 200 < L.length then [] else (unh L).getD []
def pxE (L : List UInt8) : Int := if 200 < L.length then 3 else if (unh L).isSome then 0 else 6
set_option maxRecDepth 100000 in
theorem hv_all : ∀ n, n < 256 → (hv (UInt8.ofNat n) = -1 ∨ (0 ≤ hv (UInt8.ofNat n) ∧ hv (UInt8.ofNat n) ≤ 15 ∧ hxd (hv (UInt8.ofNat n)).toNat = UInt8.ofNat n)) := by decide
theorem hv_ways (c : UInt8) : hv c = -1 ∨ (0 ≤ hv c ∧ hv c ≤ 15 ∧ hxd (hv c).toNat = c) := by
  have := hv_all c.toNat c.toNat_lt
  rwa [UInt8.ofNat_toNat] at this
theorem hv_hxd : ∀ x, x < 16 → hv (hxd x) = (x : Int) := by decide
theorem hxd_inj {x y : Nat} (hx : x < 16) (hy : y < 16) (h : hxd x = hxd y) : x = y := by
  have h1 := hv_hxd x hx
  rw [h, hv_hxd y hy] at h1
  omega
theorem hx2_inj {x y : Nat} (hx : x < 256) (hy : y < 256) (h : hx2 x = hx2 y) : x = y := by
  unfold hx2 at h
  injection h with h1 h2
  injection h2 with h2
  have e1 := hxd_inj (by omega) (by omega) h1
  have e2 := hxd_inj (by omega) (by omega) h2
  omega
theorem hvB_lt {a b : UInt8} (ha : 0 ≤ hv a) (hb : 0 ≤ hv b) : hvB a b < 256 ∧ hx2 (hvB a b) = [a, b] := by
  have h1 := (hv_ways a).resolve_left (by omega)
  have h2 := (hv_ways b).resolve_left (by omega)
  unfold hvB hx2
  refine ⟨by omega, ?_⟩
  rw [show (16 * (hv a).toNat + (hv b).toNat) / 16 = (hv a).toNat by omega, show (16 * (hv a).toNat + (hv b).toNat) % 16 = (hv b).toNat by omega, h1.2.2, h2.2.2]
/-- which number has the two digits -/
theorem hx2_iff {a b : UInt8} {m : Nat} (hm : m < 256) : hx2 m = [a, b] ↔ (0 ≤ hv a ∧ 0 ≤ hv b ∧ m = hvB a b) := by
  constructor
  · intro h
    unfold hx2 at h
    injection h with h1 h2
    injection h2 with h2
    have e1 := hv_hxd (m / 16) (by omega)
    have e2 := hv_hxd (m % 16) (by omega)
    rw [h1] at e1
    rw [h2] at e2
    refine ⟨by omega, by omega, ?_⟩
    unfold hvB
    omega
  · rintro ⟨ha, hb, rfl⟩
    exact (hvB_lt ha hb).2
theorem hex_nil : hex [] = [] := rfl
theorem hex_cons (c : UInt8) (N : List UInt8) : hex (c :: N) = hxd (c.toNat / 16) :: hxd (c.toNat % 16) :: hex N := rfl
theorem hex_app (N M : List UInt8) : hex (N ++ M) = hex N ++ hex M := List.flatMap_append
theorem hex_len : ∀ N : List UInt8, (hex N).length = 2 * N.length
  | [] => rfl
  | c :: N => by rw [hex_cons, List.length_cons, List.length_cons, List.length_cons, hex_len N]; omega
theorem hex_snoc {N : List UInt8} {k : Nat} (hk : k < N.length) : hex (N.take (k + 1)) = hex (N.take k) ++ hx2 (bt N k).toNat := by
  have e : N.take (k + 1) = N.take k ++ [bt N k] := by
    rw [List.take_add_one, bt_at hk]; rfl
  rw [e, hex_app]; rfl
theorem unh_hex : ∀ N : List UInt8, unh (hex N) = some N
  | [] => rfl
  | c :: N => by
    have hc := c.toNat_lt
    have e1 := hv_hxd (c.toNat / 16) (by omega)
    have e2 := hv_hxd (c.toNat % 16) (by omega)
    rw [hex_cons, unh, if_pos ⟨by omega, by omega⟩, unh_hex N]
    have e3 : hvB (hxd (c.toNat / 16)) (hxd (c.toNat % 16)) = c.toNat := by unfold hvB; omega
    rw [e3, UInt8.ofNat_toNat]
    rfl
theorem unh_odd : ∀ {L N : List UInt8}, unh L = some N → hex N = L ∧ L.length = 2 * N.length
  | [], N, h => by
    rw [unh] at h
    cases h
    exact ⟨rfl, rfl⟩
  | [_], N, h => by rw [unh] at h; cases h
  | a :: b :: r, N, h => by
    rw [unh] at h
    by_cases hab : 0 ≤ hv a ∧ 0 ≤ hv b
    · rw [if_pos hab] at h
      cases hr : unh r with
      | none => rw [hr] at h; cases h
      | some M =>
        rw [hr] at h
        cases h
        obtain ⟨h1, h2⟩ := unh_odd hr
        obtain ⟨l1, l2⟩ := hvB_lt hab.1 hab.2
        refine ⟨?_, by rw [List.length_cons, List.length_cons, List.length_cons, h2]; omega⟩
        have e : (UInt8.ofNat (hvB a b)).toNat = hvB a b := by simp; omega
        have l2' := l2
        unfold hx2 at l2'
        injection l2' with q1 q2
        injection q2 with q2
        rw [hex_cons, e, q1, q2, h1]
    · rw [if_neg hab] at h; cases h
theorem unh_oddE {L : List UInt8} (h : L.length % 2 ≠ 0) : unh L = none := by
  cases hu : unh L with
  | none => rfl
  | some N => have := (unh_odd hu).2; omega
/-- where the reader stands after k pairs -/
def UnA (L M : List UInt8) (k : Nat) : Prop := M.length = k ∧ unh L = (unh (L.drop (2 * k))).map (M ++ ·)
theorem UnA.zero (L : List UInt8) : UnA L [] 0 := ⟨rfl, by
  rw [show 2 * 0 = 0 from rfl, List.drop_zero]
  cases unh L <;> rfl⟩
theorem drop_two {L : List UInt8} {k : Nat} (h : 2 * k + 1 < L.length) : L.drop (2 * k) = bt L (2 * k) :: bt L (2 * k + 1) :: L.drop (2 * (k + 1)) := by
  have h1 := bt_at (l := L) (k := 2 * k) (by omega)
  have h2 := bt_at (l := L) (k := 2 * k + 1) (by omega)
  rw [List.drop_eq_getElem_cons (by omega), List.drop_eq_getElem_cons (i := 2 * k + 1) (by omega)]
  rw [List.getElem?_eq_getElem (by omega)] at h1 h2
  injection h1 with h1
  injection h2 with h2
  rw [h1, h2]
  rfl
theorem UnA.bad {L M : List UInt8} {k : Nat} (h : UnA L M k) (hk : 2 * k + 1 < L.length) (hb : ¬ (0 ≤ hv (bt L (2 * k)) ∧ 0 ≤ hv (bt L (2 * k + 1)))) : unh L = none := by
  rw [h.2, drop_two hk, unh, if_neg hb]; rfl
theorem UnA.next {L M : List UInt8} {k : Nat} (h : UnA L M k) (hk : 2 * k + 1 < L.length) (hb : 0 ≤ hv (bt L (2 * k)) ∧ 0 ≤ hv (bt L (2 * k + 1))) : UnA L (M ++ [UInt8.ofNat (hvB (bt L (2 * k)) (bt L (2 * k + 1)))]) (k + 1) := by
  refine ⟨by rw [List.length_append, h.1]; rfl, ?_⟩
  rw [h.2, drop_two hk, unh, if_pos hb]
  cases unh (L.drop (2 * (k + 1))) <;> simp
theorem UnA.end_ {L M : List UInt8} {k : Nat} (h : UnA L M k) (hk : L.length ≤ 2 * k) : unh L = some M := by
  rw [h.2, List.drop_of_length_le hk]
  simp [unh]
/-- there and back -/
theorem hx_back {N : List UInt8} (h : hxE N = 0) : pxL (hxL N) = N ∧ pxE (hxL N) = 0 := by
  unfold hxE at h
  by_cases hn : 100 < N.length
  · rw [if_pos hn] at h; cases h
  · have hl := hex_len N
    unfold pxL pxE hxL
    rw [if_neg hn, if_neg (by omega), if_neg (by omega), unh_hex]
    exact ⟨rfl, rfl⟩
theorem px_back {L : List UInt8} (h : pxE L = 0) : hxL (pxL L) = L ∧ hxE (pxL L) = 0 := by
  unfold pxE at h
  by_cases hn : 200 < L.length
  · rw [if_pos hn] at h; cases h
  · rw [if_neg hn] at h
    cases hu : unh L with
    | none => rw [hu] at h; cases h
    | some N =>
      obtain ⟨h1, h2⟩ := unh_odd hu
      unfold pxL hxL hxE
      rw [if_neg hn, hu]
      show (if 100 < N.length then [] else hex N) = L ∧ (if 100 < N.length then (3 : Int) else 0) = 0
      rw [if_neg (by omega), if_neg (by omega)]
      exact ⟨h1, rfl⟩
theorem hxL_len (N : List UInt8) : (hxL N).length ≤ 200 := by
  unfold hxL
  by_cases hn : 100 < N.length
  · rw [if_pos hn]; exact Nat.zero_le _
  · rw [if_neg hn, hex_len]; omega
theorem pxL_len (L : List UInt8) : (pxL L).length ≤ 100 := by
  unfold pxL
  by_cases hn : 200 < L.length
  · rw [if_pos hn]; exact Nat.zero_le _
  · rw [if_neg hn]
    cases hu : unh L with
    | none => exact Nat.zero_le _
    | some N => have := (unh_odd hu).2; show N.length ≤ 100; omega

/-- a slice that reads as bytes -/
abbrev SlB (w : World) (a : Option Addr) (N : List UInt8) : Prop := SlZ .u8 w a N.length fun j => ((bt N j).toNat : Int)
section
variable {w : World} {a : Option Addr} {N : List UInt8}
set_option maxRecDepth 100000 in
theorem conv_b (h : SlB w a N) (c : Nat) : (convert 55 9 (.slice a N.length c)).run Tryd.prog w = .ok (.string ⟨N.toArray⟩) w := by
  cases a with
  | none =>
    have h0 : N = [] := by
      rcases h with h | ⟨b, o, h, _⟩
      · exact List.eq_nil_of_length_eq_zero h
      · cases h
    rw [run_convert_bytes_nil w _ 5 Tryd.underlying55 Tryd.underlying5 _ _ _ Tryd.underlying9, h0]
    rfl
  | some ad =>
    refine run_convert_bytes_back w _ _ 5 ad c N Tryd.underlying55 Tryd.underlying5 Tryd.underlying9 fun j hj => ?_
    rcases h with h | ⟨b, o, h, hc⟩
    · omega
    · cases h
      have := hc j hj
      rw [show (⟨b, o, none⟩ : Addr).add j = ⟨b, o + j, none⟩ by unfold Addr.add; split <;> simp_all]
      rw [this]
      dsimp only
      unfold bt
      rw [List.getD_eq_getElem?_getD, List.getElem?_eq_getElem hj]
      rfl
theorem SlB.of_own {base len cap : Nat} {e : TypeId} (h : w.ownsRow base e 1 (.slice a len cap) N.length (Lib.byteCells N)) : SlB w a N := by
  by_cases h0 : N.length = 0
  · exact .inl h0
  · obtain ⟨g, cap', hv, _, _⟩ := h.form (by omega)
    have hA : a = some ⟨g, 0, none⟩ := by injection hv
    subst hA
    refine .inr ⟨g, 0, rfl, fun j hj => ?_⟩
    have := h.cells (g := g) rfl j (.int .u8 ((bt N j).toNat : Int)) (by
      unfold Lib.byteCells
      rw [List.getElem?_map, bt_at hj]; rfl)
    rw [Nat.zero_add]
    rwa [show (⟨g, 0, none⟩ : Addr).add j = ⟨g, j, none⟩ by unfold Addr.add; split <;> simp_all] at this
/-- bytes out of a slice of integers -/
theorem SlB.of_z {n : Nat} {G : Nat → Int} (h : SlZ .u8 w a n G) (hG : ∀ j, j < n → 0 ≤ G j ∧ G j ≤ 255) : ∃ M : List UInt8, M.length = n ∧ SlB w a M := by
  refine ⟨(List.range n).map fun j => UInt8.ofNat (G j).toNat, by simp, ?_⟩
  rcases h with h | ⟨b, o, h, hc⟩
  · exact .inl (by simpa using h)
  · refine .inr ⟨b, o, h, fun j hj => ?_⟩
    have hj : j < n := by simpa using hj
    rw [hc j hj]
    have hg := hG j hj
    have e : bt ((List.range n).map fun j => UInt8.ofNat (G j).toNat) j = UInt8.ofNat (G j).toNat := by
      unfold bt
      rw [List.getD_eq_getElem?_getD, List.getElem?_map, List.getElem?_range hj]; rfl
    dsimp only
    rw [e]
    congr 2
    simp
    omega
end
end Go.Proofs.YtkklmljannclmaaDoor

namespace Go.Proofs.YtkklmljannclmaaDoor
open Go.RowKit Go.Sort Go.Joins Go.Shelf
attribute [local go_sem] cell_grow frozen_grow size_grow

def hexB : ByteArray := ⟨hexC.toArray⟩
theorem hexB_at {x : Nat} (h : x < hexB.size) : (hexB[x]).toNat = (hxd x).toNat := bt_get (L := hexC) rfl h
theorem info_u8 : (Tryd.prog.info? 5).map (fun i => (i.zero, i.size, i.bytes)) = some (some (.int .u8 0), 1, 1) := by kernel_rfl
theorem run_make_bytes (n : Nat) (hn : n ≤ 100) (w : World) : ∃ cur : Array Value, cur.size = 2 * n ∧
    (Instr.makeSlice 55 (.int .i64 0) (.int .i64 (2 * (n : Int)))).run Tryd.prog w = .ok (.slice (some ⟨w.heap.size, 0, none⟩) 0 (2 * n)) (w.alloc (.cells cur 5)) := by
  obtain ⟨i0, hi, hz0, hz1, hz2⟩ := info_parts info_u8
  have h := run_make (P := Tryd.prog) w 55 5 i0 _ Tryd.underlying55 hi hz0 .i64 .i64 0 (2 * n : Nat) (by omega) (by omega) (by rw [hz2]; omega) (by omega)
  refine ⟨_, ?_, h⟩
  rw [size_madeCells, hz1]; omega
def HxS : ByteArray := ⟨#[48, 49, 50, 51, 52, 53, 54, 55, 56, 57, 97, 98, 99, 100, 101, 102]⟩
set_option maxRecDepth 100000 in
theorem hx_index (q : Nat) (hq : q < 16) (W : World) : (Instr.index 9 (.string ⟨#[48, 49, 50, 51, 52, 53, 54, 55, 56, 57, 97, 98, 99, 100, 101, 102]⟩) (.int .u8 (q : Int))).run Tryd.prog W = .ok (.int .u8 ((hxd q).toNat : Int)) W := by
  have H : ∀ q : Nat, q < 16 → (Instr.index 9 (.string ⟨#[48, 49, 50, 51, 52, 53, 54, 55, 56, 57, 97, 98, 99, 100, 101, 102]⟩) (.int .u8 (q : Int))).run Tryd.prog W = .ok (.int .u8 ((hxd q).toNat : Int)) W := by
    intro q hq
    have : q = 0 ∨ q = 1 ∨ q = 2 ∨ q = 3 ∨ q = 4 ∨ q = 5 ∨ q = 6 ∨ q = 7 ∨ q = 8 ∨ q = 9 ∨ q = 10 ∨ q = 11 ∨ q = 12 ∨ q = 13 ∨ q = 14 ∨ q = 15 := by omega
    rcases this with rfl | rfl | rfl | rfl | rfl | rfl | rfl | rfl | rfl | rfl | rfl | rfl | rfl | rfl | rfl | rfl <;> go_simp <;> rfl
  exact H q hq
theorem newsB2 {W : World} {g : Nat} {x y : Int} {t : TypeId} (h : W.heap[g]? = some (.cells #[.int .u8 x, .int .u8 y] t (0, 0))) : ∀ (j : Nat) (u : Value), ([.int .u8 x, .int .u8 y] : List Value)[j]? = some u → W.cell? ((⟨g, 0, none⟩ : Addr).add j) = some u := by
  intro j u hj
  match j, hj with
  | 0, hj => simp at hj; subst hj; rw [show (⟨g, 0, none⟩ : Addr).add 0 = ⟨g, 0, none⟩ from rfl, cell_of_block h]; rfl
  | 1, hj => simp at hj; subst hj; rw [show (⟨g, 0, none⟩ : Addr).add 1 = ⟨g, 1, none⟩ from rfl, cell_of_block h]; rfl
theorem oneB2 {x y : Int} : ∀ u ∈ ([.int .u8 x, .int .u8 y] : List Value), u.oneCell' = true := by
  intro u hu
  simp at hu
  rcases hu with rfl | rfl <;> rfl
set_option maxRecDepth 100000 in
set_option maxHeartbeats 3200000 in
theorem whex_ok (a : Option Addr) (c : Nat) (N : List UInt8) (w : World) (hN : SlB w a N) (hl : N.length ≤ 4611686018427387904) :
    Calls Tryd.prog 37 #[.slice a N.length c] w fun e w' => e = .returned (.tuple #[.string ⟨(hxL N).toArray⟩, .int .i64 (hxE N)]) ∧ Below w.heap.size w w' := by
  obtain ⟨i0, hi0, hz0, hz1, hz2'⟩ := info_parts info_u8
  obtain ⟨n, hn⟩ : ∃ n, N.length = n := ⟨_, rfl⟩
  by_cases h1 : 100 < N.length
  · have d1 : decide ((100 : Int) < (n : Int)) = true := decide_eq_true (by omega)
    have e1 : hxL N = [] := if_pos h1
    have e2 : hxE N = 3 := if_pos h1
    rw [e1, e2, hn]
    clear h1 hl hN e1 e2 hn
    go_enter Tryd.func37, Tryd.ntmps37
    go_wp2_with fail
    go_ret2
    exact ⟨rfl, Below.refl _ _⟩
  · have d1 : decide ((100 : Int) < (n : Int)) = false := decide_eq_false (by omega)
    have e1 : hxL N = hex N := if_neg h1
    have e2 : hxE N = 0 := if_neg h1
    have hn100 : n ≤ 100 := by omega
    have hw0 : IntKind.i64.wrap (2 * (n : Int)) = 2 * (n : Int) := IntWalk.i64_in _ (by omega)
    obtain ⟨cur, hcur, hmk⟩ := run_make_bytes n hn100 w
    have HCU := Lib.hid hcur
    clear hcur
    have HS := Lib.hid hN
    have HN := Lib.hid hn
    rw [e1, e2, hn]
    clear h1 hl hN e1 e2 hn
    go_enter Tryd.func37, Tryd.ntmps37
    go_wp2_with fail
    go_loopw [4, 16] (fun o i wr => ∃ (k : Nat) (va : Option Addr) (vc : Nat), i = .int .i64 (k : Int) ∧ k ≤ n ∧ o = .slice va (2 * k) vc ∧ Hid (wr.ownsRow w.heap.size 5 1 (.slice va (2 * k) vc) (2 * k) (Lib.byteCells (hex (N.take k)))) ∧ Hid (Below w.heap.size w wr)) (fun _ i _ => n - (intOf i).toNat)
    case atStart => exact ⟨0, _, _, rfl, Nat.zero_le _, rfl, Lib.hid (World.ownsRow_made w cur (2 * n) (Nat.le_refl _) (by unfold maxLen; omega) (by rw [HCU.out]; omega)), Lib.hid (below_box0 w _)⟩
    case round =>
      obtain ⟨k, va, vc, rfl, hk, rfl, HO, HB⟩ := hrel
      by_cases hlt : k < n
      · obtain ⟨b1, o1, rfl, g1⟩ := (HS.out.below HB.out).at_ (j := k) (by rw [HN.out]; exact hlt)
        have hc256 := (bt N k).toNat_lt
        have HX := Lib.hid (hex_snoc (N := N) (k := k) (by rw [HN.out]; exact hlt))
        have hli : (k : Int) < (n : Int) := by omega
        have hk0 : (0 : Int) ≤ (k : Int) := by omega
        obtain ⟨x, hx⟩ : ∃ x, (bt N k).toNat = x := ⟨_, rfl⟩
        rw [hx] at g1 hc256 HX
        have hq0 : (x : Int) / 16 = ((x / 16 : Nat) : Int) := by omega
        have hr0 : bits BinOp.and IntKind.u8 (x : Int) 15 = ((x % 16 : Nat) : Int) := by
          have := u8_and_nat x 15 (by omega) (by omega)
          rw [show x &&& 15 = x % 16 from Nat.and_two_pow_sub_one_eq_mod x 4] at this
          exact this
        have hiq := hx_index (x / 16) (by omega)
        have hir := hx_index (x % 16) (by omega)
        obtain ⟨q, hq⟩ : ∃ q, x / 16 = q := ⟨_, rfl⟩
        obtain ⟨r, hr⟩ : ∃ q, x % 16 = q := ⟨_, rfl⟩
        unfold hx2 at HX
        rw [hq] at hq0 hiq HX
        rw [hr] at hr0 hir HX
        obtain ⟨cq, hcq⟩ : ∃ c, hxd q = c := ⟨_, rfl⟩
        obtain ⟨cr, hcr⟩ : ∃ c, hxd r = c := ⟨_, rfl⟩
        rw [hcq] at hiq HX
        rw [hcr] at hir HX
        clear hx hq hr hcq hcr
        go_wp2_with fail
        have hB0 := Lib.hid HB.out.size
        go_region_held3 (fun w' => True) (trivial)
          ((refine step_append_lies _ rfl (.tmp 20) (.tmp 27) 55 rfl w.heap.size 5 i0 (.int .u8 0) 1 1 Tryd.underlying55 hi0 hz0 hz1 hz2' rfl (by decide) (.slice va (2 * k) vc) (2 * k) (Lib.byteCells (hex (N.take k))) rfl (HO.out.alloc _) ⟨wr.heap.size, 0, none⟩ 2 2 [.int .u8 (cq.toNat : Int), .int .u8 (cr.toNat : Int)] rfl rfl (newsB2 (heap_alloc_new wr _)) oneB2 (by decide) (by unfold maxLen; omega) (by omega) (by simp; have := hB0.out; omega) _ rfl ?_; intro g cap w' ho hgr hg1 hg2))
        all_goals
          have hbw : Below w.heap.size w w' := (HB.out.alloc HB.out.size _).drew.grown hgr (by simp; have := hB0.out; omega) (fun r e => (HO.out.lt _ e).1)
          have HO2 : Hid (w'.ownsRow w.heap.size 5 1 (.slice (some ⟨g, 0, none⟩) (2 * (k + 1)) cap) (2 * (k + 1)) (Lib.byteCells (hex (N.take (k + 1))))) := Lib.hid (by rw [HX.out, Lib.byteCells_append]; exact ho)
          have HBW := Lib.hid hbw
          clear ho hgr hg1 hg2 hbw
          go_wp2
          go_roundw
          case rel => exact ⟨k + 1, some ⟨g, 0, none⟩, cap, by go_num, hlt, rfl, HO2, HBW⟩
          case measure => simp [intOf]; omega
      · obtain rfl : k = n := by omega
        have hlen : (hex N).length = 2 * k := by rw [hex_len, HN.out]
        have hsb : SlB wr va (hex N) := SlB.of_own (len := 2 * k) (cap := vc) (base := w.heap.size) (e := 5) (by
          have := HO.out
          rw [List.take_of_length_le (by rw [HN.out]; exact Nat.le_refl _)] at this
          rw [hlen]; exact this)
        have hcv := conv_b hsb vc
        rw [hlen] at hcv
        clear hlen hsb
        go_wp2
        go_ret2
        exact ⟨rfl, HB.out⟩
end Go.Proofs.YtkklmljannclmaaDoor

namespace Go.Proofs.YtkklmljannclmaaDoor
open Go.RowKit Go.Sort Go.Joins Go.Shelf
attribute [local go_sem] cell_grow frozen_grow size_grow

set_option maxRecDepth 100000 in
theorem nib_ok (q : Nat) (hq : q < 16) (w : World) : Calls Tryd.prog 66 #[.int .u8 (q : Int)] w fun e w' => e = .returned (.string ⟨#[hxd q]⟩) ∧ w = w' := by
  have H : ∀ q : Nat, q < 16 → Calls Tryd.prog 66 #[.int .u8 (q : Int)] w fun e w' => e = .returned (.string ⟨#[hxd q]⟩) ∧ w = w' := by
    intro q hq
    have : q = 0 ∨ q = 1 ∨ q = 2 ∨ q = 3 ∨ q = 4 ∨ q = 5 ∨ q = 6 ∨ q = 7 ∨ q = 8 ∨ q = 9 ∨ q = 10 ∨ q = 11 ∨ q = 12 ∨ q = 13 ∨ q = 14 ∨ q = 15 := by omega
    rcases this with rfl | rfl | rfl | rfl | rfl | rfl | rfl | rfl | rfl | rfl | rfl | rfl | rfl | rfl | rfl | rfl <;>
    · go_enter Tryd.func66, Tryd.ntmps66
      go_wp2
      go_ret
      exact ⟨rfl, rfl⟩
  exact H q hq
set_option maxRecDepth 100000 in
set_option maxHeartbeats 3200000 in
theorem rhex_ok (a : Option Addr) (c : Nat) (N : List UInt8) (w : World) (hN : SlB w a N) (hl : N.length ≤ 4611686018427387904) :
    Calls Tryd.prog 38 #[.slice a N.length c] w fun e w' => e = .returned (.tuple #[.string ⟨(hxL N).toArray⟩, .int .i64 (hxE N)]) ∧ Below w.heap.size w w' := by
  obtain ⟨n, hn⟩ : ∃ n, N.length = n := ⟨_, rfl⟩
  by_cases h1 : 100 < N.length
  · have d1 : decide ((100 : Int) < (n : Int)) = true := decide_eq_true (by omega)
    have e1 : hxL N = [] := if_pos h1
    have e2 : hxE N = 3 := if_pos h1
    rw [e1, e2, hn]
    clear h1 hl hN e1 e2 hn
    go_enter Tryd.func38, Tryd.ntmps38
    go_wp2_with fail
    go_ret2
    exact ⟨rfl, Below.refl _ _⟩
  · have d1 : decide ((100 : Int) < (n : Int)) = false := decide_eq_false (by omega)
    have e1 : hxL N = hex N := if_neg h1
    have e2 : hxE N = 0 := if_neg h1
    have hn100 : n ≤ 100 := by omega
    have HS := Lib.hid hN
    have HN := Lib.hid hn
    rw [e1, e2, hn]
    clear h1 hl hN e1 e2 hn
    go_enter Tryd.func38, Tryd.ntmps38
    go_wp2_with fail
    go_loopw [4, 5] (fun o i wr => ∃ (k : Nat) (S : ByteArray), i = .int .i64 (k : Int) ∧ k ≤ n ∧ o = .string S ∧ S.size ≤ 2 * k ∧ Hid (S.data.toList = hex (N.take k)) ∧ Hid (Below w.heap.size w wr)) (fun _ i _ => n - (intOf i).toNat)
    case atStart => exact ⟨0, _, rfl, Nat.zero_le _, rfl, Nat.zero_le _, Lib.hid rfl, Lib.hid (Below.refl _ _)⟩
    case round =>
      obtain ⟨k, S, rfl, hk, rfl, hSz, HX0, HB⟩ := hrel
      by_cases hlt : k < n
      · obtain ⟨b1, o1, rfl, g1⟩ := (HS.out.below HB.out).at_ (j := k) (by rw [HN.out]; exact hlt)
        have hc256 := (bt N k).toNat_lt
        have HX := Lib.hid (hex_snoc (N := N) (k := k) (by rw [HN.out]; exact hlt))
        have hli : (k : Int) < (n : Int) := by omega
        have hk0 : (0 : Int) ≤ (k : Int) := by omega
        obtain ⟨x, hx⟩ : ∃ x, (bt N k).toNat = x := ⟨_, rfl⟩
        rw [hx] at g1 hc256 HX
        clear hx
        have hq0 : (x : Int).tdiv 16 = ((x / 16 : Nat) : Int) := rfl
        have hr0 : (x : Int).tmod 16 = ((x % 16 : Nat) : Int) := rfl
        have HQ := Lib.hid (nib_ok (x / 16) (by omega))
        have HR := Lib.hid (nib_ok (x % 16) (by omega))
        obtain ⟨q, hq⟩ : ∃ q, x / 16 = q := ⟨_, rfl⟩
        obtain ⟨r, hr⟩ : ∃ q, x % 16 = q := ⟨_, rfl⟩
        have hq16 : q < 16 := by omega
        have hr16 : r < 16 := by omega
        unfold hx2 at HX
        rw [hq] at hq0 HQ HX
        rw [hr] at hr0 HR HX
        obtain ⟨cq, hcq⟩ : ∃ c, hxd q = c := ⟨_, rfl⟩
        obtain ⟨cr, hcr⟩ : ∃ c, hxd r = c := ⟨_, rfl⟩
        rw [hcq] at HQ HX
        rw [hcr] at HR HX
        have hwq : IntKind.u8.wrap (q : Int) = (q : Int) := IntWalk.u8_in _ (by omega)
        have hwr : IntKind.u8.wrap (r : Int) = (r : Int) := IntWalk.u8_in _ (by omega)
        clear hq hr hcq hcr hq16 hr16
        have hC1 : (9223372036854775807 < S.size + 1) = False := by simp; omega
        have hC2 : (9223372036854775807 < S.size + 1 + 1) = False := by simp; omega
        go_wp2_with fail
        go_region_held3 (fun w' => w'.cell? ⟨b1, o1 + k, none⟩ = some (.int .u8 (x : Int))) (go_keep)
          ((first
            | (go_at_call 66; refine (HQ.out _).mono ?_; rintro e w1 ⟨rfl, rfl⟩)
            | (go_at_call 66; refine (HR.out _).mono ?_; rintro e w1 ⟨rfl, rfl⟩)))
        all_goals
          clear g1
          have HX1 : Hid ((S ++ ⟨#[cq]⟩ ++ ⟨#[cr]⟩ : ByteArray).data.toList = hex (N.take (k + 1))) := Lib.hid (by rw [app_list, app_list, HX0.out, HX.out]; simp)
          have HBW := Lib.hid HB.out.drew
          have hz1 : (S ++ ⟨#[cq]⟩ ++ ⟨#[cr]⟩ : ByteArray).size ≤ 2 * (k + 1) := by
            rw [ByteArray.size_append, ByteArray.size_append]
            have e1 : (⟨#[cq]⟩ : ByteArray).size = 1 := rfl
            have e2 : (⟨#[cr]⟩ : ByteArray).size = 1 := rfl
            omega
          go_wp2
          go_roundw
          case rel => exact ⟨k + 1, _, by go_num, hlt, rfl, hz1, HX1, HBW⟩
          case measure => simp [intOf]; omega
      · obtain rfl : k = n := by omega
        have e := HX0.out
        rw [List.take_of_length_le (by rw [HN.out]; exact Nat.le_refl _)] at e
        obtain rfl : S = ⟨(hex N).toArray⟩ := by rw [ba_lit e]
        clear e
        go_wp2
        go_ret2
        exact ⟨rfl, HB.out⟩
end Go.Proofs.YtkklmljannclmaaDoor

namespace Go.Proofs.YtkklmljannclmaaDoor
open Go.RowKit Go.Sort Go.Joins Go.Shelf
attribute [local go_sem] cell_grow frozen_grow size_grow

/-- what ParseHex hands back -/
def PxPost (w : World) (N : List UInt8) (E : Int) (x : Ending) (w' : World) : Prop :=
  ∃ a c, x = .returned (.tuple #[.slice a N.length c, .int .i64 E]) ∧ SlB w' a N ∧ Below w.heap.size w w'
theorem PxPost.none {w w' : World} {E : Int} (h : Below w.heap.size w w') : PxPost w [] E (.returned (.tuple #[.slice none 0 0, .int .i64 E])) w' := ⟨_, _, rfl, .inl rfl, h⟩
theorem or_hx : ∀ x : Nat, x < 16 → ∀ y : Nat, y < 16 → bits .or .i64 ((x : Int) * 16) (y : Int) = ((16 * x + y : Nat) : Int) := by decide +kernel
theorem newsB1 {W : World} {g : Nat} {x : Int} {t : TypeId} (h : W.heap[g]? = some (.cells #[.int .u8 x] t (0, 0))) : ∀ (j : Nat) (u : Value), ([.int .u8 x] : List Value)[j]? = some u → W.cell? ((⟨g, 0, none⟩ : Addr).add j) = some u := by
  intro j u hj
  match j, hj with
  | 0, hj => simp at hj; subst hj; rw [show (⟨g, 0, none⟩ : Addr).add 0 = ⟨g, 0, none⟩ from rfl, cell_of_block h]; rfl
theorem oneB1 {x : Int} : ∀ u ∈ ([.int .u8 x] : List Value), u.oneCell' = true := by
  intro u hu
  simp at hu
  rcases hu with rfl
  rfl
theorem px_long {L : List UInt8} (h : 200 < L.length) : pxL L = [] ∧ pxE L = 3 := ⟨if_pos h, if_pos h⟩
theorem px_bad {L : List UInt8} (h : ¬ 200 < L.length) (hu : unh L = none) : pxL L = [] ∧ pxE L = 6 := by
  unfold pxL pxE
  rw [if_neg h, if_neg h, hu]
  exact ⟨rfl, rfl⟩
theorem px_good {L M : List UInt8} (h : ¬ 200 < L.length) (hu : unh L = some M) : pxL L = M ∧ pxE L = 0 := by
  unfold pxL pxE
  rw [if_neg h, if_neg h, hu]
  exact ⟨rfl, rfl⟩
theorem hx_ix (c : UInt8) (w : World) : Calls Tryd.prog 67 #[.string ⟨#[48, 49, 50, 51, 52, 53, 54, 55, 56, 57, 97, 98, 99, 100, 101, 102]⟩, .int .u8 (c.toNat : Int)] w fun e w' => e = .returned (.int .i64 (hv c)) ∧ w' = w := by
  have h := Tryd.strings_IndexByte ⟨#[48, 49, 50, 51, 52, 53, 54, 55, 56, 57, 97, 98, 99, 100, 101, 102]⟩ (c.toNat : Int) w
  rw [show ((c.toNat : Int)).toNat.toUInt8 = c by simp] at h
  exact h
set_option maxRecDepth 100000 in
set_option maxHeartbeats 3200000 in
theorem wphex_ok (s : ByteArray) (L : List UInt8) (hL : s.data.toList = L) (hs : s.size ≤ 4611686018427387904) (w : World) :
    Calls Tryd.prog 39 #[.string s] w (PxPost w (pxL L) (pxE L)) := by
  obtain ⟨i0, hi0, hz0, hz1, hz2'⟩ := info_parts info_u8
  have hlen := len_of hL
  by_cases h1 : 200 < s.size
  · have d1 : decide ((200 : Int) < (s.size : Int)) = true := decide_eq_true (by omega)
    obtain ⟨e1, e2⟩ := px_long (L := L) (by omega)
    rw [e1, e2]
    clear h1 hL e1 e2
    go_enter Tryd.func39, Tryd.ntmps39
    go_wp2_with fail
    go_ret2
    exact PxPost.none (Below.refl _ _)
  · have d1 : decide ((200 : Int) < (s.size : Int)) = false := decide_eq_false (by omega)
    have HBAD := Lib.hid (fun h => px_bad (L := L) (by omega) h)
    have HGOOD := Lib.hid (fun M h => px_good (L := L) (M := M) (by omega) h)
    have hs200 : s.size ≤ 200 := by omega
    have hm0 : (s.size : Int).tmod 2 = ((s.size % 2 : Nat) : Int) := rfl
    have hm2 := Nat.mod_lt s.size (show 0 < 2 by decide)
    by_cases h2 : s.size % 2 = 1
    · rw [h2] at hm0
      have hw0 : IntKind.i64.wrap 1 = 1 := IntWalk.i64_in _ (by omega)
      obtain ⟨e1, e2⟩ := HBAD.out (unh_oddE (by omega))
      rw [e1, e2]
      clear hL e1 e2 h2 HBAD HGOOD
      go_enter Tryd.func39, Tryd.ntmps39
      go_wp2_with fail
      go_ret2
      exact PxPost.none (Below.refl _ _)
    · rw [show s.size % 2 = 0 by omega] at hm0
      have HEV : Hid (s.size % 2 = 0) := Lib.hid (by omega)
      have HL := Lib.hid hL
      have HLE := Lib.hid hlen
      clear hL hlen h2 h1 hm2
      go_enter Tryd.func39, Tryd.ntmps39
      go_wp2_with fail
      go_loopw [4, 5] (fun o i wr => ∃ (m : Nat) (M : List UInt8) (va : Option Addr) (vc : Nat), i = .int .i64 (m : Int) ∧ m ≤ s.size ∧ o = .slice va M.length vc ∧ Hid (m = 2 * M.length ∧ UnA L M M.length) ∧ Hid (wr.ownsRow w.heap.size 5 1 (.slice va M.length vc) M.length (Lib.byteCells M)) ∧ Hid (Below w.heap.size w wr)) (fun _ i _ => s.size - (intOf i).toNat)
      case atStart => exact ⟨0, [], none, 0, rfl, Nat.zero_le _, rfl, Lib.hid ⟨rfl, UnA.zero L⟩, Lib.hid (World.ownsRow_nil _ _ _ _), Lib.hid (Below.refl _ _)⟩
      case round =>
        obtain ⟨m, M, va, vc, rfl, hk, rfl, HM, HO, HB⟩ := hrel
        by_cases hlt : m < s.size
        · have hlt1 : m + 1 < s.size := by have h1 := HM.out.1; have h2 := HEV.out; omega
          have hA := bt_get HL.out hlt
          have hB := bt_get HL.out hlt1
          have hML : 2 * M.length + 1 < L.length := by have h1 := HM.out.1; have h2 := HLE.out; omega
          have HNX := Lib.hid (fun h => HM.out.2.next hML h)
          have HBD := Lib.hid (fun h => HM.out.2.bad hML h)
          have hMl : M.length ≤ 100 := by have h1 := HM.out.1; omega
          rw [← HM.out.1] at HNX HBD
          have HIA := Lib.hid (hx_ix (bt L m))
          have HIB := Lib.hid (hx_ix (bt L (m + 1)))
          have wA := hv_ways (bt L m)
          have wB := hv_ways (bt L (m + 1))
          unfold hvB at HNX
          obtain ⟨za, hza⟩ : ∃ z, (bt L m).toNat = z := ⟨_, rfl⟩
          obtain ⟨zb, hzb⟩ : ∃ z, (bt L (m + 1)).toNat = z := ⟨_, rfl⟩
          obtain ⟨ya, hya⟩ : ∃ z, hv (bt L m) = z := ⟨_, rfl⟩
          obtain ⟨yb, hyb⟩ : ∃ z, hv (bt L (m + 1)) = z := ⟨_, rfl⟩
          rw [hza] at hA HIA
          rw [hzb] at hB HIB
          rw [hya] at HIA wA HNX HBD
          rw [hyb] at HIB wB HNX HBD
          have hwa : ya = -1 ∨ (0 ≤ ya ∧ ya ≤ 15) := wA.imp id fun h => ⟨h.1, h.2.1⟩
          have hwb : yb = -1 ∨ (0 ≤ yb ∧ yb ≤ 15) := wB.imp id fun h => ⟨h.1, h.2.1⟩
          have hm0' : (0 : Int) ≤ (m : Int) := by omega
          have hml : (m : Int) < (s.size : Int) := by omega
          have hml1 : (m : Int) + 1 < (s.size : Int) := by omega
          have hwm : IntKind.i64.wrap ((m : Int) + 1) = (m : Int) + 1 := IntWalk.i64_in _ (by omega)
          clear hza hzb hya hyb wA wB
          have hcase : (ya < 0) ∨ (0 ≤ ya ∧ yb < 0) ∨ (∃ x y : Nat, ya = (x : Int) ∧ yb = (y : Int)) := by
            rcases hwa with h | ⟨h, _⟩
            · exact .inl (by omega)
            · rcases hwb with h' | ⟨h', _⟩
              · exact .inr (.inl ⟨h, by omega⟩)
              · exact .inr (.inr ⟨ya.toNat, yb.toNat, by omega, by omega⟩)
          rcases hcase with hc | ⟨hc, hc'⟩ | ⟨x, y, rfl, rfl⟩
          · have d2 : decide (ya < 0) = true := decide_eq_true hc
            obtain ⟨e1, e2⟩ := HBAD.out (HBD.out (by omega))
            rw [e1, e2]
            clear hc hwa hwb e1 e2 HNX HBD HBAD HGOOD
            go_wp2_with fail
            go_region_held3 (fun w' => True) (trivial)
              ((first
                | (go_at_call 67; refine (HIA.out _).mono ?_; rintro e w1 ⟨rfl, rfl⟩)
                | (go_at_call 67; refine (HIB.out _).mono ?_; rintro e w1 ⟨rfl, rfl⟩)))
            all_goals first
              | (exfalso; omega)
              | (go_wp2
                 go_ret2
                 exact PxPost.none HB.out.drew)
          · have d2 : decide (ya < 0) = false := decide_eq_false (by omega)
            have d3 : decide (yb < 0) = true := decide_eq_true hc'
            obtain ⟨e1, e2⟩ := HBAD.out (HBD.out (by omega))
            rw [e1, e2]
            clear hc hc' hwa hwb e1 e2 HNX HBD HBAD HGOOD
            go_wp2_with fail
            go_region_held3 (fun w' => True) (trivial)
              ((first
                | (go_at_call 67; refine (HIA.out _).mono ?_; rintro e w1 ⟨rfl, rfl⟩)
                | (go_at_call 67; refine (HIB.out _).mono ?_; rintro e w1 ⟨rfl, rfl⟩)))
            all_goals first
              | (exfalso; omega)
              | (go_wp2
                 go_ret2
                 exact PxPost.none HB.out.drew)
          · have hx16 : x < 16 := by omega
            have hy16 : y < 16 := by omega
            have hor := or_hx x hx16 y hy16
            have HN := HNX.out (by omega)
            rw [Int.toNat_natCast, Int.toNat_natCast] at HN
            obtain ⟨z, hz⟩ : ∃ z, 16 * x + y = z := ⟨_, rfl⟩
            have hz256 : z < 256 := by omega
            rw [hz] at hor HN
            have hws : IntKind.i64.wrap ((x : Int) * 16) = (x : Int) * 16 := IntWalk.i64_in _ (by omega)
            have hwz : IntKind.u8.wrap (z : Int) = (z : Int) := IntWalk.u8_in _ (by omega)
            have HN := Lib.hid HN
            have hzc : Lib.byteCells [UInt8.ofNat z] = [.int .u8 (z : Int)] := by
              unfold Lib.byteCells
              simp
              omega
            have HZ := Lib.hid hzc
            have HB0 := Lib.hid HB.out.size
            clear hzc hz hwa hwb HNX HBD
            go_wp2_with fail
            go_region_held3 (fun w' => True) (trivial)
              ((first
                | (go_at_call 67; refine (HIA.out _).mono ?_; rintro e w1 ⟨rfl, rfl⟩)
                | (go_at_call 67; refine (HIB.out _).mono ?_; rintro e w1 ⟨rfl, rfl⟩)))
            all_goals first
              | (exfalso; omega)
              | (go_wp2_with (at_builtin; refine wpList_append_own _ rfl (.tmp 36) (.tmp 42) 55 rfl w.heap.size 5 i0 (.int .u8 0) 1 1 Tryd.underlying55 hi0 hz0 hz1 hz2' rfl (by decide) _ _ _ rfl (HO.out.drew.alloc _) ⟨wr.heap.size, 0, none⟩ 1 1 [.int .u8 (z : Int)] rfl rfl (newsB1 (heap_alloc_new wr.drew _)) oneB1 (by unfold maxLen; omega) (by omega) (by simp; have := HB0.out; omega) ?_)
                 intro v' w4 hown hg _
                 obtain ⟨va', vc', rfl⟩ := own_slice hown
                 have hs3 := HB0.out
                 have HB4 := Lib.hid ((HB.out.drew.alloc (show w.heap.size ≤ wr.drew.heap.size from hs3) (.cells #[.int .u8 (z : Int)] 5)).grown hg (by simp; omega) (by intro r hr; exact (HO.out.lt r hr).1))
                 have HW : Hid (w4.ownsRow w.heap.size 5 1 (.slice va' (M ++ [UInt8.ofNat z]).length vc') (M ++ [UInt8.ofNat z]).length (Lib.byteCells (M ++ [UInt8.ofNat z]))) := Lib.hid (by rw [Lib.byteCells_append, HZ.out, List.length_append, List.length_singleton]; exact hown)
                 have HM2 : Hid (m + 2 = 2 * (M ++ [UInt8.ofNat z]).length ∧ UnA L (M ++ [UInt8.ofNat z]) (M ++ [UInt8.ofNat z]).length) := Lib.hid (by
                   rw [List.length_append, List.length_singleton]
                   exact ⟨by have := HM.out.1; omega, HN.out⟩)
                 clear hown hg
                 go_wp2
                 go_roundw
                 case rel => exact ⟨m + 2, M ++ [UInt8.ofNat z], va', vc', by go_num, by omega, by rw [List.length_append, List.length_singleton], HM2, HW, HB4⟩
                 case measure => simp [intOf]; omega)
        · obtain rfl : m = s.size := by omega
          have hML2 := HM.out.1
          obtain ⟨e1, e2⟩ := HGOOD.out M (HM.out.2.end_ (by have := HLE.out; omega))
          have HE := Lib.hid (And.intro e1 e2)
          clear e1 e2 HGOOD HBAD hML2
          go_wp2
          go_ret2
          rw [HE.out.1, HE.out.2]
          exact ⟨va, vc, rfl, SlB.of_own HO.out, HB.out⟩
end Go.Proofs.YtkklmljannclmaaDoor

namespace Go.Proofs.YtkklmljannclmaaDoor
open Go.RowKit Go.Sort Go.Joins Go.Shelf
attribute [local go_sem] cell_grow frozen_grow size_grow

/-- where the search for a byte stands -/
def Fnd (A B : UInt8) (M : List UInt8) (q : Nat) (b : Bool) (M' : List UInt8) : Prop :=
  (b = false ∧ M' = M ∧ ∀ p, p < q → hx2 p ≠ [A, B]) ∨ (b = true ∧ ∃ p, p < q ∧ p < 256 ∧ hx2 p = [A, B] ∧ M' = M ++ [UInt8.ofNat p])
section
variable {A B : UInt8} {M M' : List UInt8} {q : Nat} {b : Bool}
theorem Fnd.zero : Fnd A B M 0 false M := .inl ⟨rfl, rfl, fun p h => absurd h (Nat.not_lt_zero p)⟩
theorem Fnd.hit (h : Fnd A B M q b M') (hq : q < 256) (hh : hx2 q = [A, B]) : b = false ∧ M' = M ∧ Fnd A B M (q + 1) true (M ++ [UInt8.ofNat q]) := by
  rcases h with ⟨h1, h2, h3⟩ | ⟨_, p, h1, h2, h3, _⟩
  · exact ⟨h1, h2, .inr ⟨rfl, q, by omega, hq, hh, rfl⟩⟩
  · have := hx2_inj h2 hq (h3.trans hh.symm)
    omega
theorem Fnd.miss (h : Fnd A B M q b M') (hh : hx2 q ≠ [A, B]) : Fnd A B M (q + 1) b M' := by
  rcases h with ⟨h1, h2, h3⟩ | ⟨h0, p, h1, h2, h3, h4⟩
  · refine .inl ⟨h1, h2, fun p hp => ?_⟩
    by_cases e : p = q
    · rw [e]; exact hh
    · exact h3 p (by omega)
  · exact .inr ⟨h0, p, by omega, h2, h3, h4⟩
theorem Fnd.end_ (h : Fnd A B M 256 b M') : (b = false ∧ M' = M ∧ ¬ (0 ≤ hv A ∧ 0 ≤ hv B)) ∨ (b = true ∧ (0 ≤ hv A ∧ 0 ≤ hv B) ∧ M' = M ++ [UInt8.ofNat (hvB A B)]) := by
  rcases h with ⟨h1, h2, h3⟩ | ⟨h0, p, h1, h2, h3, h4⟩
  · refine .inl ⟨h1, h2, fun h => ?_⟩
    obtain ⟨l1, l2⟩ := hvB_lt h.1 h.2
    exact h3 _ l1 l2
  · obtain ⟨a, b, e⟩ := (hx2_iff h2).1 h3
    exact .inr ⟨h0, ⟨a, b⟩, by rw [← e]; exact h4⟩
end
theorem ext_two {s : ByteArray} {L : List UInt8} (hL : s.data.toList = L) {m : Nat} (h : m + 1 < s.size) : (s.extract m (m + 2)).data.toList = [bt L m, bt L (m + 1)] := by
  have h1 := len_of hL
  have e1 := bt_at (l := L) (k := m) (by omega)
  have e2 := bt_at (l := L) (k := m + 1) (by omega)
  apply List.ext_getElem?
  intro i
  rw [ByteArray.data_extract, Array.toList_extract, hL]
  match i with
  | 0 => rw [List.extract_eq_take_drop]; simp; exact e1
  | 1 => rw [List.extract_eq_take_drop]; simp; exact e2
  | i + 2 => rw [List.extract_eq_take_drop]; simp; omega
set_option maxRecDepth 100000 in
set_option maxHeartbeats 3200000 in
theorem rphex_ok (s : ByteArray) (L : List UInt8) (hL : s.data.toList = L) (hs : s.size ≤ 4611686018427387904) (w : World) :
    Calls Tryd.prog 40 #[.string s] w (PxPost w (pxL L) (pxE L)) := by
  obtain ⟨i0, hi0, hz0, hz1, hz2'⟩ := info_parts info_u8
  have hlen := len_of hL
  by_cases h1 : 200 < s.size
  · have d1 : decide ((200 : Int) < (s.size : Int)) = true := decide_eq_true (by omega)
    obtain ⟨e1, e2⟩ := px_long (L := L) (by omega)
    rw [e1, e2]
    clear h1 hL e1 e2
    go_enter Tryd.func40, Tryd.ntmps40
    go_wp2_with fail
    go_ret2
    exact PxPost.none (Below.refl _ _)
  · have d1 : decide ((200 : Int) < (s.size : Int)) = false := decide_eq_false (by omega)
    have HBAD := Lib.hid (fun h => px_bad (L := L) (by omega) h)
    have HGOOD := Lib.hid (fun M h => px_good (L := L) (M := M) (by omega) h)
    have hs200 : s.size ≤ 200 := by omega
    have hm0 : (s.size : Int).tmod 2 = ((s.size % 2 : Nat) : Int) := rfl
    have hm2 := Nat.mod_lt s.size (show 0 < 2 by decide)
    by_cases h2 : s.size % 2 = 1
    · rw [h2] at hm0
      have hw0 : IntKind.i64.wrap 1 = 1 := IntWalk.i64_in _ (by omega)
      obtain ⟨e1, e2⟩ := HBAD.out (unh_oddE (by omega))
      rw [e1, e2]
      clear hL e1 e2 h2 HBAD HGOOD
      go_enter Tryd.func40, Tryd.ntmps40
      go_wp2_with fail
      go_ret2
      exact PxPost.none (Below.refl _ _)
    · rw [show s.size % 2 = 0 by omega] at hm0
      have HEV : Hid (s.size % 2 = 0) := Lib.hid (by omega)
      have HL := Lib.hid hL
      have HLE := Lib.hid hlen
      clear hL hlen h2 h1 hm2
      go_enter Tryd.func40, Tryd.ntmps40
      go_wp2_with fail
      go_loopw [4, 5] (fun o i wr => ∃ (m : Nat) (M : List UInt8) (va : Option Addr) (vc : Nat), i = .int .i64 (m : Int) ∧ m ≤ s.size ∧ o = .slice va M.length vc ∧ Hid (m = 2 * M.length ∧ UnA L M M.length) ∧ Hid (wr.ownsRow w.heap.size 5 1 (.slice va M.length vc) M.length (Lib.byteCells M)) ∧ Hid (Below w.heap.size w wr)) (fun _ i _ => s.size - (intOf i).toNat)
      case atStart => exact ⟨0, [], none, 0, rfl, Nat.zero_le _, rfl, Lib.hid ⟨rfl, UnA.zero L⟩, Lib.hid (World.ownsRow_nil _ _ _ _), Lib.hid (Below.refl _ _)⟩
      case round =>
        obtain ⟨m, M, va, vc, rfl, hk, rfl, HM, HO, HB⟩ := hrel
        by_cases hlt : m < s.size
        · have hlt1 : m + 1 < s.size := by have h1 := HM.out.1; have h2 := HEV.out; omega
          have hML : 2 * M.length + 1 < L.length := by have h1 := HM.out.1; have h2 := HLE.out; omega
          have HNX := Lib.hid (fun h => HM.out.2.next hML h)
          have HBD := Lib.hid (fun h => HM.out.2.bad hML h)
          have hMl : M.length < 100 := by have h1 := HM.out.1; omega
          rw [← HM.out.1] at HNX HBD
          have hex2 := ext_two HL.out hlt1
          obtain ⟨X, hX⟩ : ∃ X, s.extract m (m + 2) = X := ⟨_, rfl⟩
          rw [hX] at hex2
          obtain ⟨A, hA⟩ : ∃ z, bt L m = z := ⟨_, rfl⟩
          obtain ⟨B, hB⟩ : ∃ z, bt L (m + 1) = z := ⟨_, rfl⟩
          rw [hA, hB] at hex2 HNX HBD
          have HX2 := Lib.hid hex2
          have hm0' : (0 : Int) ≤ (m : Int) := by omega
          have hml : (m : Int) + 2 ≤ (s.size : Int) := by omega
          have hwm : IntKind.i64.wrap ((m : Int) + 2) = (m : Int) + 2 := IntWalk.i64_in _ (by omega)
          have hmj : (0 : Int) ≤ (m : Int) + 2 := by omega
          have hmm : (m : Int) ≤ (m : Int) + 2 := by omega
          have hto : ((m : Int) + 2).toNat = m + 2 := by omega
          clear hex2 hA hB hML
          go_wp2
          go_loopw [4, 6, 7] (fun o f j wr => ∃ (q : Nat) (b : Bool) (M' : List UInt8) (va : Option Addr) (vc : Nat), j = .int .i64 (q : Int) ∧ q ≤ 256 ∧ f = .bool b ∧ o = .slice va M'.length vc ∧ Hid (Fnd A B M q b M') ∧ Hid (wr.ownsRow w.heap.size 5 1 (.slice va M'.length vc) M'.length (Lib.byteCells M')) ∧ Hid (Below w.heap.size w wr)) (fun _ _ j _ => 256 - (intOf j).toNat)
          case atStart => exact ⟨0, false, M, va, vc, rfl, by omega, rfl, rfl, Lib.hid Fnd.zero, HO, HB⟩
          case round =>
            clear HO HB
            obtain ⟨q, b, M', va, vc, rfl, hq, rfl, rfl, HF, HO, HB⟩ := hrel
            by_cases hlq : q < 256
            · have hq0 : (q : Int).tdiv 16 = ((q / 16 : Nat) : Int) := rfl
              have hr0 : (q : Int).tmod 16 = ((q % 16 : Nat) : Int) := rfl
              have HQ := Lib.hid (nib_ok (q / 16) (by omega))
              have HR := Lib.hid (nib_ok (q % 16) (by omega))
              have heqv : ((⟨#[hxd (q / 16)]⟩ ++ ⟨#[hxd (q % 16)]⟩ : ByteArray).toList == X.toList) = decide (hx2 q = [A, B]) := by
                rw [Lib.toList_data, Lib.toList_data, HX2.out, app_list]
                show (hx2 q == [A, B]) = decide (hx2 q = [A, B])
                rw [Bool.eq_iff_iff]
                simp
              obtain ⟨u, hu⟩ : ∃ u, q / 16 = u := ⟨_, rfl⟩
              obtain ⟨v, hvv⟩ : ∃ u, q % 16 = u := ⟨_, rfl⟩
              have hu16 : u < 16 := by omega
              have hv16 : v < 16 := by omega
              rw [hu] at hq0 HQ heqv
              rw [hvv] at hr0 HR heqv
              obtain ⟨cq, hcq⟩ : ∃ c, hxd u = c := ⟨_, rfl⟩
              obtain ⟨cr, hcr⟩ : ∃ c, hxd v = c := ⟨_, rfl⟩
              rw [hcq] at HQ heqv
              rw [hcr] at HR heqv
              have hwq : IntKind.i64.wrap (u : Int) = (u : Int) := IntWalk.i64_in _ (by omega)
              have hwr : IntKind.i64.wrap (v : Int) = (v : Int) := IntWalk.i64_in _ (by omega)
              have hwq8 : IntKind.u8.wrap (u : Int) = (u : Int) := IntWalk.u8_in _ (by omega)
              have hwr8 : IntKind.u8.wrap (v : Int) = (v : Int) := IntWalk.u8_in _ (by omega)
              have hwz : IntKind.u8.wrap (q : Int) = (q : Int) := IntWalk.u8_in _ (by omega)
              clear hu hvv hcq hcr hu16 hv16
              have hhit : hx2 q = [A, B] ∨ hx2 q ≠ [A, B] := by by_cases h : hx2 q = [A, B]; exact .inl h; exact .inr h
              rcases hhit with hh | hh
              · rw [decide_eq_true hh] at heqv
                obtain ⟨rfl, rfl, hf⟩ := HF.out.hit hlq hh
                have HF2 := Lib.hid hf
                have HB0 := Lib.hid HB.out.size
                have hzc : Lib.byteCells [UInt8.ofNat q] = [.int .u8 (q : Int)] := by
                  unfold Lib.byteCells
                  simp
                  omega
                have HZ := Lib.hid hzc
                clear hf hh hzc HF
                go_wp2_with fail
                go_region_held3 (fun w' => True) (trivial)
                  ((first
                    | (go_at_call 66; refine (HQ.out _).mono ?_; rintro e w1 ⟨rfl, rfl⟩)
                    | (go_at_call 66; refine (HR.out _).mono ?_; rintro e w1 ⟨rfl, rfl⟩)))
                all_goals
                  go_wp2_with (at_builtin; refine wpList_append_own _ rfl (.tmp 40) (.tmp 43) 55 rfl w.heap.size 5 i0 (.int .u8 0) 1 1 Tryd.underlying55 hi0 hz0 hz1 hz2' rfl (by decide) _ _ _ rfl (HO.out.drew.alloc _) ⟨wr.heap.size, 0, none⟩ 1 1 [.int .u8 (q : Int)] rfl rfl (newsB1 (heap_alloc_new wr.drew _)) oneB1 (by unfold maxLen; omega) (by omega) (by simp; have := HB0.out; omega) ?_)
                  intro v' w4 hown hg _
                  obtain ⟨va', vc', rfl⟩ := own_slice hown
                  have hs3 := HB0.out
                  have HB4 := Lib.hid ((HB.out.drew.alloc (show w.heap.size ≤ wr.drew.heap.size from hs3) (.cells #[.int .u8 (q : Int)] 5)).grown hg (by simp; omega) (by intro r hr; exact (HO.out.lt r hr).1))
                  have HW : Hid (w4.ownsRow w.heap.size 5 1 (.slice va' (M' ++ [UInt8.ofNat q]).length vc') (M' ++ [UInt8.ofNat q]).length (Lib.byteCells (M' ++ [UInt8.ofNat q]))) := Lib.hid (by rw [Lib.byteCells_append, HZ.out, List.length_append, List.length_singleton]; exact hown)
                  clear hown hg
                  go_wp2
                  go_roundw
                  case rel => exact ⟨q + 1, true, M' ++ [UInt8.ofNat q], va', vc', by go_num, by omega, rfl, by rw [List.length_append, List.length_singleton], HF2, HW, HB4⟩
                  case measure => simp [intOf]; omega
              · rw [decide_eq_false hh] at heqv
                have HF2 := Lib.hid (HF.out.miss hh)
                clear hh HF
                go_wp2_with fail
                go_region_held3 (fun w' => True) (trivial)
                  ((first
                    | (go_at_call 66; refine (HQ.out _).mono ?_; rintro e w1 ⟨rfl, rfl⟩)
                    | (go_at_call 66; refine (HR.out _).mono ?_; rintro e w1 ⟨rfl, rfl⟩)))
                all_goals
                  go_wp2
                  go_roundw
                  case rel => exact ⟨q + 1, b, M', va, vc, by go_num, by omega, rfl, rfl, HF2, Lib.hid HO.out.drew, Lib.hid HB.out.drew⟩
                  case measure => simp [intOf]; omega
            · obtain rfl : q = 256 := by omega
              rcases HF.out.end_ with ⟨rfl, rfl, hn⟩ | ⟨rfl, hy, rfl⟩
              · obtain ⟨e1, e2⟩ := HBAD.out (HBD.out hn)
                have HE := Lib.hid (And.intro e1 e2)
                clear e1 e2 hn hX hto hmj hmm hml hwm
                go_wp2
                go_ret2
                rw [HE.out.1, HE.out.2]
                exact PxPost.none HB.out
              · have HN := Lib.hid (HNX.out hy)
                have HM2 : Hid (m + 2 = 2 * (M ++ [UInt8.ofNat (hvB A B)]).length ∧ UnA L (M ++ [UInt8.ofNat (hvB A B)]) (M ++ [UInt8.ofNat (hvB A B)]).length) := Lib.hid (by
                  rw [List.length_append, List.length_singleton]
                  exact ⟨by have := HM.out.1; omega, HN.out⟩)
                obtain ⟨M2, hM2⟩ : ∃ M2, M ++ [UInt8.ofNat (hvB A B)] = M2 := ⟨_, rfl⟩
                rw [hM2] at HM2 HO
                have HLN : (M ++ [UInt8.ofNat (hvB A B)]).length = M2.length := by rw [hM2]
                clear hy hX hto hM2 hmj hmm
                go_wp2
                go_roundw
                case rel => exact ⟨m + 2, M2, va, vc, by go_num, by omega, by rw [HLN], HM2, HO, HB⟩
                case measure => simp [intOf]; omega
        · obtain rfl : m = s.size := by omega
          have hML2 := HM.out.1
          obtain ⟨e1, e2⟩ := HGOOD.out M (HM.out.2.end_ (by have := HLE.out; omega))
          have HE := Lib.hid (And.intro e1 e2)
          clear e1 e2 HGOOD HBAD hML2
          go_wp2
          go_ret2
          rw [HE.out.1, HE.out.2]
          exact ⟨va, vc, rfl, SlB.of_own HO.out, HB.out⟩
end Go.Proofs.YtkklmljannclmaaDoor
