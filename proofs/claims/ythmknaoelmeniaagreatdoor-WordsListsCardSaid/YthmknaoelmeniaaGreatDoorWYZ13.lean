/- Words: an item is read, by the reference: the walk. | Words: the reference's way to a list's pieces, plain. | Words: the items that the reference read, in memory. | Words: a list is read, by the reference: the walk (under way). | The frame of a statement: what a law's walk gives its row. -/
import Derived.Test.YthmknaoelmeniaaGreatDoorWYZ11
import Derived.Test.YthmknaoelmeniaaGreatDoorWYZ12
import Derived.Test.YthmknaoelmeniaaGreatDoorWYZ2
import Derived.Test.YthmknaoelmeniaaGreatDoorWYZ3
import Derived.Test.YthmknaoelmeniaaGreatDoorWYZ8
import Derived.Deep.AppendLies
import Derived.Test.YthmknaoelmeniaaGreatDoorCards
import Derived.Test.YthmknaoelmeniaaGreatDoorTie
import Derived.ProofKit
import Derived.OpenShut
import Derived.Deep.DeepHandedRow
import Derived.Lib.LaidTab
namespace Go.Proofs.YthmknaoelmeniaaGreatDoor
open Go.RowKit Go.Sort Go.Joins Go.Shelf
attribute [local go_sem] cell_grow frozen_grow size_grow

abbrev RiB (W : World) (g : Nat) (a b c : ByteArray) : Prop := W.heap[g]? = some (.cells #[.string a, .string b, .string c] 66 (0, 0))
theorem itput {W : World} {g : Nat} {a b c : ByteArray} (h : RiB W g a b c) (x y z : ByteArray) :
    (((W.setCell ⟨g, 0, none⟩ (.string x)).setCell ⟨g, 1, none⟩ (.string y)).setCell ⟨g, 2, none⟩ (.string z)).cell? ⟨g, 0, none⟩ = some (.string x) ∧
    (((W.setCell ⟨g, 0, none⟩ (.string x)).setCell ⟨g, 1, none⟩ (.string y)).setCell ⟨g, 2, none⟩ (.string z)).cell? ⟨g, 1, none⟩ = some (.string y) ∧
    (((W.setCell ⟨g, 0, none⟩ (.string x)).setCell ⟨g, 1, none⟩ (.string y)).setCell ⟨g, 2, none⟩ (.string z)).cell? ⟨g, 2, none⟩ = some (.string z) := by
  have h1 : RiB (W.setCell ⟨g, 0, none⟩ (.string x)) g x b c := (setCell_block h _).trans (by simp)
  have h2 : RiB ((W.setCell ⟨g, 0, none⟩ (.string x)).setCell ⟨g, 1, none⟩ (.string y)) g x y c := (setCell_block h1 _).trans (by simp)
  have hp : RiB (((W.setCell ⟨g, 0, none⟩ (.string x)).setCell ⟨g, 1, none⟩ (.string y)).setCell ⟨g, 2, none⟩ (.string z)) g x y z := (setCell_block h2 _).trans (by simp)
  exact ⟨by rw [cell_of_block hp]; rfl, by rw [cell_of_block hp]; rfl, by rw [cell_of_block hp]; rfl⟩
theorem rr_fin {w W : World} {L : List UInt8} {N M T : ByteArray} {r : Bool} (hW : Below w.heap.size w W) (h1 : (itmP L).isSome = r) (h2 : ∀ y, itmP L = some y → RrT y N.data.toList M.data.toList T.data.toList) (s1 : N.size ≤ L.length) (s2 : M.size ≤ L.length) (s3 : T.size ≤ L.length + 1) :
    RrPost w L (.returned (.tuple #[.agg #[.string N, .string M, .string T], .bool r])) (((W.setCell ⟨w.heap.size, 0, none⟩ (.string N)).setCell ⟨w.heap.size, 1, none⟩ (.string M)).setCell ⟨w.heap.size, 2, none⟩ (.string T)) :=
  ⟨N, M, T, by rw [h1], h2, s1, s2, s3, below3 hW _ _ _⟩
set_option maxRecDepth 100000 in
set_option maxHeartbeats 6400000 in
theorem rread_ok (s : ByteArray) (L : List UInt8) (hL : s.data.toList = L) (hs : s.size ≤ 4294967280) (w : World) :
    Calls Tryz.prog 22 #[.string s] w (RrPost w L) := by
  have hlen := len_of hL
  have b0 := below_box0 w (.cells #[.string ⟨#[]⟩, .string ⟨#[]⟩, .string ⟨#[]⟩] 66)
  have HX0 : Hid (RiB (w.alloc (.cells #[.string ⟨#[]⟩, .string ⟨#[]⟩, .string ⟨#[]⟩] 66)) w.heap.size ⟨#[]⟩ ⟨#[]⟩ ⟨#[]⟩) := Lib.hid (heap_alloc_new w _)
  have HB0 := Lib.hid b0
  have hpl := pcut_le L
  have HL := Lib.hid hL
  have HLEN := Lib.hid hlen
  have HBF := Lib.hid (fun k (h : k < pcut L) => pcut_before h)
  have HPA := Lib.hid (fun (h : pcut L < L.length) => pcut_at h)
  have HONE := Lib.hid (fun (h : pcut L = L.length) => rr_one h)
  obtain ⟨p, hp⟩ : ∃ p, pcut L = p := ⟨_, rfl⟩
  rw [hp] at hpl HBF HPA HONE
  have HP := Lib.hid hp
  rw [hlen] at hpl
  clear hL hlen b0 hp
  go_enter Tryz.func22, Tryz.ntmps22
  go_wp2_with fail
  go_loopw [4] (fun i wr => ∃ (k : Nat), i = .int .i64 (k : Int) ∧ k ≤ p ∧ Hid (RiB wr w.heap.size ⟨#[]⟩ ⟨#[]⟩ ⟨#[]⟩) ∧ Hid (Below w.heap.size w wr)) (fun i _ => p - (intOf i).toNat)
  case atStart => exact ⟨0, rfl, Nat.zero_le _, HX0, HB0⟩
  case round =>
    clear HX0 HB0
    obtain ⟨k, rfl, hk, HX, HB⟩ := hrel
    by_cases hlt : k < s.size
    · have hb := bt_get HL.out hlt
      have hk0 : (0 : Int) ≤ (k : Int) := by omega
      have hk1 : (k : Int) ≤ (s.size : Int) := by omega
      have hk2 : (k : Int) + 1 ≤ (s.size : Int) := by omega
      have hk3 : (0 : Int) ≤ (k : Int) + 1 := by omega
      have hks : k ≤ s.size := by omega
      have hks1 : k + 1 ≤ s.size := by omega
      have hwk : IntKind.i64.wrap ((k : Int) + 1) = (k : Int) + 1 := IntWalk.i64_in _ (by omega)
      by_cases hkp : k < p
      · obtain ⟨n1, n2⟩ := HBF.out k hkp
        have d1 : (((bt L k).toNat : Int) == 45) = false := beq_eq_false_iff_ne.2 (fun e => n1 (UInt8.toNat_inj.1 (by rw [show (45 : UInt8).toNat = 45 from rfl]; omega)))
        have d2 : (((bt L k).toNat : Int) == 120) = false := beq_eq_false_iff_ne.2 (fun e => n2 (UInt8.toNat_inj.1 (by rw [show (120 : UInt8).toNat = 120 from rfl]; omega)))
        obtain ⟨z, hz⟩ : ∃ z, (bt L k).toNat = z := ⟨_, rfl⟩
        rw [hz] at hb d1 d2
        clear hz n1 n2
        go_wp2_with fail
        go_quiet (fail)
        go_wp2
        go_roundw
        case rel => exact ⟨k + 1, by go_num, by omega, Lib.hid HX.out, Lib.hid (HB.out.trans ((below_draw _ _).mono HB.out.size))⟩
        case measure => simp [intOf]; omega
      · obtain rfl : k = p := by omega
        have hkL : k < L.length := by rw [HLEN.out]; exact hlt
        have hat := HPA.out hkL
        have hcut : L = L.take k ++ bt L k :: L.drop (k + 1) := by
          have := drop_bt hkL
          rw [← this, List.take_append_drop]
        have hcl : pcut L = (L.take k).length := by rw [HP.out, List.length_take]; omega
        have HEA : Hid ((s.extract 0 k).data.toList = L.take k) := Lib.hid (by rw [Lib.extract_from_zero, HL.out])
        have HEB : Hid ((s.extract (k + 1) s.size).data.toList = L.drop (k + 1)) := Lib.hid (by rw [ext_list HL.out, List.take_of_length_le (by rw [List.length_drop, HLEN.out]; exact Nat.le_refl _)])
        have HSZ : Hid ((s.extract 0 k).size ≤ L.length ∧ (s.extract (k + 1) s.size).size ≤ L.length ∧ L.length ≤ 4294967280) := Lib.hid (by
          have := HLEN.out
          rw [ByteArray.size_extract, ByteArray.size_extract]; omega)
        obtain ⟨A, hA⟩ : ∃ A, L.take k = A := ⟨_, rfl⟩
        obtain ⟨B, hB⟩ : ∃ B, L.drop (k + 1) = B := ⟨_, rfl⟩
        rw [hA] at HEA hcut hcl
        rw [hB] at HEB hcut
        clear hA hB HONE HPA HBF
        rcases hat with h45 | h120
        · have hb45 : s[k].toNat = 45 := by rw [hb, h45]; rfl
          rw [h45] at hcut
          have HRR := Lib.hid (rr_45 hcut hcl)
          clear hb h45 hcut hcl
          go_wp2_with fail
          go_quiet (fail)
          have HBq := Lib.hid (HB.out.trans ((below_draw wr nq).mono HB.out.size))
          have HXq : Hid (RiB (wr.drewN nq) w.heap.size ⟨#[]⟩ ⟨#[]⟩ ⟨#[]⟩) := Lib.hid HX.out
          obtain ⟨w2, hw2⟩ : ∃ w2, wr.drewN nq = w2 := ⟨_, rfl⟩
          rw [hw2] at HBq HXq ⊢
          clear hw2 HB HX
          have HNA := Lib.hid (rnum_ok (s.extract 0 k) A HEA.out (by have := HSZ.out; omega) w2)
          have HNB := Lib.hid (rnum_ok (s.extract (k + 1) s.size) B HEB.out (by have := HSZ.out; omega) w2)
          have HLS := Lib.hid (rless_ok (s.extract 0 k) (s.extract (k + 1) s.size) A B HEA.out HEB.out w2)
          obtain ⟨qa, hqa⟩ : ∃ x, natB A = x := ⟨_, rfl⟩
          obtain ⟨qb, hqb⟩ : ∃ x, natB B = x := ⟨_, rfl⟩
          obtain ⟨r, hr⟩ : ∃ x, lessB A B = x := ⟨_, rfl⟩
          rw [hqa] at HNA HRR
          rw [hqb] at HNB HRR
          rw [hr] at HLS HRR
          have x0 : w2.cell? ⟨w.heap.size, 0, none⟩ = some (.string ⟨#[]⟩) := by rw [cell_of_block HXq.out]; rfl
          have x1 : w2.cell? ⟨w.heap.size, 1, none⟩ = some (.string ⟨#[]⟩) := by rw [cell_of_block HXq.out]; rfl
          have x2 : w2.cell? ⟨w.heap.size, 2, none⟩ = some (.string ⟨#[]⟩) := by rw [cell_of_block HXq.out]; rfl
          have fx := unfrozen_of_block HXq.out
          have lx := blk_lt HXq.out
          obtain ⟨y0, y1, y2⟩ := itput HXq.out (s.extract 0 k) (s.extract (k + 1) s.size) ⟨#[49]⟩
          clear hqa hqb hr
          cases qa
          · go_wp2_with fail
            refine HNA.out.mono ?_
            rintro e w3 ⟨rfl, rfl⟩
            go_wp2_with fail
            exact bodyPost_ret (v := .tuple #[.agg #[.string (s.extract 0 k), .string (s.extract (k + 1) s.size), .string ⟨#[49]⟩], .bool _]) (by simp [results, Tryz.results22, go_sem, y0, y1, y2]) rfl (rr_fin HBq.out (HRR.out.1.trans rfl) (by rw [HEA.out, HEB.out]; exact HRR.out.2) (by have := HSZ.out; omega) (by have := HSZ.out; omega) (by have := HSZ.out; show 1 ≤ _; omega))
          · cases qb
            · go_wp2_with fail
              refine HNA.out.mono ?_
              rintro e w3 ⟨rfl, rfl⟩
              go_wp2_with fail
              refine HNB.out.mono ?_
              rintro e w4 ⟨rfl, rfl⟩
              go_wp2_with fail
              exact bodyPost_ret (v := .tuple #[.agg #[.string (s.extract 0 k), .string (s.extract (k + 1) s.size), .string ⟨#[49]⟩], .bool _]) (by simp [results, Tryz.results22, go_sem, y0, y1, y2]) rfl (rr_fin HBq.out (HRR.out.1.trans rfl) (by rw [HEA.out, HEB.out]; exact HRR.out.2) (by have := HSZ.out; omega) (by have := HSZ.out; omega) (by have := HSZ.out; show 1 ≤ _; omega))
            · go_wp2_with fail
              refine HNA.out.mono ?_
              rintro e w3 ⟨rfl, rfl⟩
              go_wp2_with fail
              refine HNB.out.mono ?_
              rintro e w4 ⟨rfl, rfl⟩
              go_wp2_with fail
              refine HLS.out.mono ?_
              rintro e w5 ⟨rfl, rfl⟩
              go_wp2_with fail
              exact bodyPost_ret (v := .tuple #[.agg #[.string (s.extract 0 k), .string (s.extract (k + 1) s.size), .string ⟨#[49]⟩], .bool _]) (by simp [results, Tryz.results22, go_sem, y0, y1, y2]) rfl (rr_fin HBq.out (HRR.out.1.trans rfl) (by rw [HEA.out, HEB.out]; exact HRR.out.2) (by have := HSZ.out; omega) (by have := HSZ.out; omega) (by have := HSZ.out; show 1 ≤ _; omega))
        · have hb45 : s[k].toNat = 120 := by rw [hb, h120]; rfl
          rw [h120] at hcut
          have HRR := Lib.hid (rr_120 hcut hcl)
          clear hb h120 hcut hcl
          go_wp2_with fail
          go_quiet (fail)
          have HBq := Lib.hid (HB.out.trans ((below_draw wr nq).mono HB.out.size))
          have HXq : Hid (RiB (wr.drewN nq) w.heap.size ⟨#[]⟩ ⟨#[]⟩ ⟨#[]⟩) := Lib.hid HX.out
          obtain ⟨w2, hw2⟩ : ∃ w2, wr.drewN nq = w2 := ⟨_, rfl⟩
          rw [hw2] at HBq HXq ⊢
          clear hw2 HB HX
          have HNA := Lib.hid (rnum_ok (s.extract 0 k) A HEA.out (by have := HSZ.out; omega) w2)
          have HNB := Lib.hid (rnum_ok (s.extract (k + 1) s.size) B HEB.out (by have := HSZ.out; omega) w2)
          have HLS := Lib.hid (rless_ok ⟨#[49]⟩ (s.extract 0 k) [49] A rfl HEA.out w2)
          obtain ⟨qa, hqa⟩ : ∃ x, natB A = x := ⟨_, rfl⟩
          obtain ⟨qb, hqb⟩ : ∃ x, natB B = x := ⟨_, rfl⟩
          obtain ⟨r, hr⟩ : ∃ x, lessB [49] A = x := ⟨_, rfl⟩
          rw [hqa] at HNA HRR
          rw [hqb] at HNB HRR
          rw [hr] at HLS HRR
          have x0 : w2.cell? ⟨w.heap.size, 0, none⟩ = some (.string ⟨#[]⟩) := by rw [cell_of_block HXq.out]; rfl
          have x1 : w2.cell? ⟨w.heap.size, 1, none⟩ = some (.string ⟨#[]⟩) := by rw [cell_of_block HXq.out]; rfl
          have x2 : w2.cell? ⟨w.heap.size, 2, none⟩ = some (.string ⟨#[]⟩) := by rw [cell_of_block HXq.out]; rfl
          have fx := unfrozen_of_block HXq.out
          have lx := blk_lt HXq.out
          obtain ⟨y0, y1, y2⟩ := itput HXq.out (s.extract (k + 1) s.size) (s.extract (k + 1) s.size) (s.extract 0 k)
          clear hqa hqb hr
          cases qa
          · go_wp2_with fail
            refine HNA.out.mono ?_
            rintro e w3 ⟨rfl, rfl⟩
            go_wp2_with fail
            exact bodyPost_ret (v := .tuple #[.agg #[.string (s.extract (k + 1) s.size), .string (s.extract (k + 1) s.size), .string (s.extract 0 k)], .bool _]) (by simp [results, Tryz.results22, go_sem, y0, y1, y2]) rfl (rr_fin HBq.out (HRR.out.1.trans rfl) (by rw [HEB.out, HEA.out]; exact HRR.out.2) (by have := HSZ.out; omega) (by have := HSZ.out; omega) (by have := HSZ.out; omega))
          · cases qb
            · go_wp2_with fail
              refine HNA.out.mono ?_
              rintro e w3 ⟨rfl, rfl⟩
              go_wp2_with fail
              refine HNB.out.mono ?_
              rintro e w4 ⟨rfl, rfl⟩
              go_wp2_with fail
              exact bodyPost_ret (v := .tuple #[.agg #[.string (s.extract (k + 1) s.size), .string (s.extract (k + 1) s.size), .string (s.extract 0 k)], .bool _]) (by simp [results, Tryz.results22, go_sem, y0, y1, y2]) rfl (rr_fin HBq.out (HRR.out.1.trans rfl) (by rw [HEB.out, HEA.out]; exact HRR.out.2) (by have := HSZ.out; omega) (by have := HSZ.out; omega) (by have := HSZ.out; omega))
            · go_wp2_with fail
              refine HNA.out.mono ?_
              rintro e w3 ⟨rfl, rfl⟩
              go_wp2_with fail
              refine HNB.out.mono ?_
              rintro e w4 ⟨rfl, rfl⟩
              go_wp2_with fail
              refine HLS.out.mono ?_
              rintro e w5 ⟨rfl, rfl⟩
              go_wp2_with fail
              exact bodyPost_ret (v := .tuple #[.agg #[.string (s.extract (k + 1) s.size), .string (s.extract (k + 1) s.size), .string (s.extract 0 k)], .bool _]) (by simp [results, Tryz.results22, go_sem, y0, y1, y2]) rfl (rr_fin HBq.out (HRR.out.1.trans rfl) (by rw [HEB.out, HEA.out]; exact HRR.out.2) (by have := HSZ.out; omega) (by have := HSZ.out; omega) (by have := HSZ.out; omega))
    · obtain rfl : p = s.size := by omega
      obtain ⟨o1, o2⟩ := HONE.out HLEN.out.symm
      have HO := Lib.hid (And.intro o1 o2)
      have HN := Lib.hid (rnum_ok s L HL.out (by omega) wr)
      have x0 : wr.cell? ⟨w.heap.size, 0, none⟩ = some (.string ⟨#[]⟩) := by rw [cell_of_block HX.out]; rfl
      have x1 : wr.cell? ⟨w.heap.size, 1, none⟩ = some (.string ⟨#[]⟩) := by rw [cell_of_block HX.out]; rfl
      have x2 : wr.cell? ⟨w.heap.size, 2, none⟩ = some (.string ⟨#[]⟩) := by rw [cell_of_block HX.out]; rfl
      have fx := unfrozen_of_block HX.out
      have lx := blk_lt HX.out
      obtain ⟨y0, y1, y2⟩ := itput HX.out s s ⟨#[49]⟩
      obtain ⟨r, hr⟩ : ∃ r, natB L = r := ⟨_, rfl⟩
      rw [hr] at HN HO
      clear o1 o2 hr
      go_wp2_with fail
      refine HN.out.mono ?_
      rintro e w1 ⟨rfl, rfl⟩
      go_wp2_with fail
      have hsl : s.size ≤ L.length := by rw [HLEN.out]; exact Nat.le_refl _
      exact bodyPost_ret (v := .tuple #[.agg #[.string s, .string s, .string ⟨#[49]⟩], .bool r]) (by simp [results, Tryz.results22, go_sem, y0, y1, y2]) rfl (rr_fin HB.out HO.out.1 (by rw [HL.out]; exact HO.out.2) hsl hsl (by show 1 ≤ L.length + 1; omega))
end Go.Proofs.YthmknaoelmeniaaGreatDoor

namespace Go.Proofs.YthmknaoelmeniaaGreatDoor

/-- where the reader of pieces stands: P are read, the next begins at f, no comma up to i -/
structure PcA (L : List UInt8) (P : List (List UInt8)) (f i : Nat) : Prop where
  fi : f ≤ i
  il : i ≤ L.length
  no : (44 : UInt8) ∉ (L.drop f).take (i - f)
  sp : spl 44 L = P ++ spl 44 (L.drop f)
theorem PcA.zero (L : List UInt8) : PcA L [] 0 0 := ⟨Nat.le_refl _, Nat.zero_le _, by simp, by simp⟩
theorem PcA.step {L : List UInt8} {P : List (List UInt8)} {f i : Nat} (h : PcA L P f i) (hi : i < L.length) (hc : bt L i ≠ 44) : PcA L P f (i + 1) := by
  refine ⟨by have := h.fi; omega, hi, ?_, h.sp⟩
  have hfi := h.fi
  have e : (L.drop f).take (i + 1 - f) = (L.drop f).take (i - f) ++ [bt L i] := by
    rw [show i + 1 - f = (i - f) + 1 by omega, List.take_add_one, List.getElem?_drop, show f + (i - f) = i by omega, bt_at hi]; rfl
  rw [e]
  intro hm
  rcases List.mem_append.1 hm with k | k
  · exact h.no k
  · exact hc (List.mem_singleton.1 k).symm
theorem PcA.hit {L : List UInt8} {P : List (List UInt8)} {f i : Nat} (h : PcA L P f i) (hi : i < L.length) (hc : bt L i = 44) : PcA L (P ++ [(L.drop f).take (i - f)]) (i + 1) (i + 1) := by
  have hfi := h.fi
  refine ⟨Nat.le_refl _, hi, by simp, ?_⟩
  have e : L.drop f = (L.drop f).take (i - f) ++ 44 :: L.drop (i + 1) := by
    have h1 := (List.take_append_drop (i - f) (L.drop f)).symm
    rw [List.drop_drop, show f + (i - f) = i by omega] at h1
    have h2 : L.drop i = bt L i :: L.drop (i + 1) := by
      rw [List.drop_eq_getElem_cons hi]
      have := bt_at hi
      rw [List.getElem?_eq_getElem hi] at this
      rw [Option.some.inj this]
    rw [h2, hc] at h1
    exact h1
  rw [h.sp, List.append_assoc]
  congr 1
  conv => lhs; rw [e]
  rw [spl_two, spl_one h.no]
theorem PcA.last {L : List UInt8} {P : List (List UInt8)} {f : Nat} (h : PcA L P f L.length) : spl 44 L = P ++ [(L.drop f).take (L.length - f)] := by
  have hn := h.no
  rw [List.take_of_length_le (by rw [List.length_drop]; exact Nat.le_refl _)] at hn ⊢
  rw [h.sp, spl_one hn]
end Go.Proofs.YthmknaoelmeniaaGreatDoor

namespace Go.Proofs.YthmknaoelmeniaaGreatDoor
open Go.RowKit Go.Sort Go.Joins Go.Shelf

/-- an item as three texts -/
abbrev Tri := ByteArray × ByteArray × ByteArray
def tri3 (Z : List Tri) : List Value := Z.flatMap fun z => [.string z.1, .string z.2.1, .string z.2.2]
theorem tri3_snoc (Z : List Tri) (z : Tri) : tri3 (Z ++ [z]) = tri3 Z ++ [.string z.1, .string z.2.1, .string z.2.2] := by unfold tri3; rw [List.flatMap_append]; rfl
theorem tri3_at : ∀ {Z : List Tri} {j : Nat} {z : Tri}, Z[j]? = some z → (tri3 Z)[3 * j]? = some (.string z.1) ∧ (tri3 Z)[3 * j + 1]? = some (.string z.2.1) ∧ (tri3 Z)[3 * j + 2]? = some (.string z.2.2)
  | [], _, _, h => by cases h
  | x :: Z, 0, z, h => by cases h; exact ⟨rfl, rfl, rfl⟩
  | x :: Z, j + 1, z, h => tri3_at (Z := Z) (j := j) (z := z) h
/-- the three texts are the item's numbers, one by one -/
def TriOk (Y : List Prt) (Z : List Tri) : Prop := Z.length = Y.length ∧ ∀ (j : Nat) (y : Prt) (z : Tri), Y[j]? = some y → Z[j]? = some z → RrT y z.1.data.toList z.2.1.data.toList z.2.2.data.toList ∧ z.1.size ≤ 2501 ∧ z.2.1.size ≤ 2501 ∧ z.2.2.size ≤ 2501
theorem TriOk.zero : TriOk [] [] := ⟨rfl, fun j y z h => by cases h⟩
theorem TriOk.snoc {Y : List Prt} {Z : List Tri} {y : Prt} {z : Tri} (h : TriOk Y Z) (hz : RrT y z.1.data.toList z.2.1.data.toList z.2.2.data.toList ∧ z.1.size ≤ 2501 ∧ z.2.1.size ≤ 2501 ∧ z.2.2.size ≤ 2501) : TriOk (Y ++ [y]) (Z ++ [z]) := by
  refine ⟨by rw [List.length_append, List.length_append, h.1]; rfl, fun j a b ha hb => ?_⟩
  by_cases hj : j < Y.length
  · rw [List.getElem?_append_left hj] at ha
    rw [List.getElem?_append_left (by rw [h.1]; exact hj)] at hb
    exact h.2 j a b ha hb
  · rw [List.getElem?_append_right (by omega)] at ha
    rw [List.getElem?_append_right (by rw [h.1]; omega), h.1] at hb
    have e : j - Y.length = 0 := by
      rcases Nat.eq_zero_or_pos (j - Y.length) with k | k
      · exact k
      · rw [List.getElem?_eq_none (by simp; omega)] at ha; cases ha
    rw [e] at ha hb
    cases ha
    cases hb
    exact hz
theorem tri_read {W : World} {base len cap : Nat} {e : TypeId} {a : Option Addr} {Z : List Tri} (h : W.ownsRow base e 3 (.slice a len cap) Z.length (tri3 Z)) {j : Nat} {z : Tri} (hz : Z[j]? = some z) :
    ∃ b, a = some ⟨b, 0, none⟩ ∧ W.cell? ⟨b, 3 * j, none⟩ = some (.string z.1) ∧ W.cell? ⟨b, 3 * j + 1, none⟩ = some (.string z.2.1) ∧ W.cell? ⟨b, 3 * j + 2, none⟩ = some (.string z.2.2) := by
  have hl := (List.getElem?_eq_some_iff.1 hz).1
  obtain ⟨g, cap', hv, _, _⟩ := h.form (by omega)
  have hA : a = some ⟨g, 0, none⟩ := by injection hv
  subst hA
  have hc := h.cells (g := g) rfl
  obtain ⟨t0, t1, t2⟩ := tri3_at hz
  have e : ∀ i, (⟨g, 0, none⟩ : Addr).add i = ⟨g, i, none⟩ := fun i => by unfold Addr.add; split <;> simp_all
  have c0 := hc _ _ t0
  have c1 := hc _ _ t1
  have c2 := hc _ _ t2
  rw [e] at c0 c1 c2
  exact ⟨g, rfl, c0, c1, c2⟩
theorem info_item : (Tryz.prog.info? 66).map (fun i => (i.zero, i.size, i.bytes)) = some (some (.agg #[.string ⟨#[]⟩, .string ⟨#[]⟩, .string ⟨#[]⟩]), 3, 48) := by kernel_rfl
end Go.Proofs.YthmknaoelmeniaaGreatDoor

namespace Go.Proofs.YthmknaoelmeniaaGreatDoor
open Go.RowKit Go.Sort Go.Joins Go.Shelf
attribute [local go_sem] cell_grow frozen_grow size_grow

theorem nat_valZ {l : List UInt8} (h : natB l = true) : valZ l = (valN 0 l : Int) := by
  have h1 := num_head (whole_nat h)
  rw [h] at h1
  have hne : l ≠ [] := natB_ne h
  have hg : ngB l = false := by
    unfold ngB
    rw [head_bt hne]
    exact decide_eq_false fun e => of_decide_eq_false h1.2 (Option.some.inj e)
  unfold valZ absL
  rw [hg]; rfl
theorem nat_int {l : List UInt8} {lo hi : Int} (h : natB l = true) (h1 : lo ≤ hi) (h2 : lo ≤ (valN 0 l : Int)) (h3 : (valN 0 l : Int) ≤ hi) : intE l lo hi = 0 ∧ intV l lo hi = (valN 0 l : Int) := by
  have hE : intE l lo hi = 0 := by rw [intE_whole h1 (whole_nat h), nat_valZ h, if_pos ⟨h2, h3⟩]
  exact ⟨hE, by rw [intV, if_pos hE, nat_valZ h]⟩
theorem nat_int_big {l : List UInt8} {lo hi : Int} (h : natB l = true) (h1 : lo ≤ hi) (h3 : ¬ (valN 0 l : Int) ≤ hi) : intE l lo hi = 7 ∧ intV l lo hi = 0 := by
  have hE : intE l lo hi = 7 := by rw [intE_whole h1 (whole_nat h), nat_valZ h, if_neg (fun k => h3 k.2)]
  exact ⟨hE, by rw [intV, if_neg (by rw [hE]; decide)]⟩
set_option maxRecDepth 100000 in
set_option maxHeartbeats 6400000 in
theorem rparse_ok (s : ByteArray) (L : List UInt8) (hL : s.data.toList = L) (hs : s.size ≤ 4611686018427387904) (w : World) :
    Calls Tryz.prog 8 #[.string s] w (PlPost w (plL L) (plE L)) := by
  have hlen := len_of hL
  by_cases h1 : 2500 < s.size
  · have d1 : decide ((2500 : Int) < (s.size : Int)) = true := decide_eq_true (by omega)
    have hE := plE_long (s := L) (by omega)
    rw [plL_bad (by rw [hE]; decide), hE]
    clear hL hE
    go_enter Tryz.func8, Tryz.ntmps8
    go_wp2_with fail
    go_ret2
    exact PlPost.none (Below.refl _ _)
  · have d1 : decide ((2500 : Int) < (s.size : Int)) = false := decide_eq_false (by omega)
    have hs25 : s.size ≤ 2500 := by omega
    obtain ⟨i0, hi0, hz0, hz1, hz2⟩ := info_parts info_item
    have HL := Lib.hid hL
    have HLEN := Lib.hid hlen
    clear hL hlen h1
    by_cases h0 : s.size = 0
    · have hL0 : L = [] := List.eq_nil_of_length_eq_zero (by have := HLEN.out; omega)
      have HE : Hid (plE L = 0 ∧ plL L = []) := Lib.hid (by rw [hL0]; exact ⟨rfl, rfl⟩)
      have d2 : decide ((0 : Int) < (s.size : Int)) = false := decide_eq_false (by omega)
      have d2' : decide (0 < s.size) = false := decide_eq_false (by omega)
      clear hL0 HL HLEN
      go_enter Tryz.func8, Tryz.ntmps8
      go_wp2_with fail
      go_loopw [4, 5, 6] (fun o f i wr => o = .slice none 0 0 ∧ f = .int .i64 0 ∧ i = .int .i64 0 ∧ wr = w) (fun _ _ _ _ => 0)
      case atStart => exact ⟨rfl, rfl, rfl, rfl⟩
      case round =>
        obtain ⟨rfl, rfl, rfl, rfl⟩ := hrel
        go_wp2_with fail
        go_loopw [9] (fun i wx => i = .int .i64 0 ∧ wx = wr) (fun _ _ => 0)
        case atStart => exact ⟨rfl, rfl⟩
        case round =>
          obtain ⟨rfl, rfl⟩ := hrel
          go_wp2_with fail
          go_loopw [10, 11] (fun o i wy => o = .slice none 0 0 ∧ i = .int .i64 0 ∧ wy = wr) (fun _ _ _ => 0)
          case atStart => exact ⟨rfl, rfl, rfl⟩
          case round =>
            obtain ⟨rfl, rfl, rfl⟩ := hrel
            go_wp2
            go_ret2
            rw [HE.out.1, HE.out.2]
            exact PlPost.none (Below.refl _ _)
    · have d2 : decide ((0 : Int) < (s.size : Int)) = true := decide_eq_true (by omega)
      have d2' : decide (0 < s.size) = true := decide_eq_true (by omega)
      go_enter Tryz.func8, Tryz.ntmps8
      go_wp2_with fail
      go_loopw [4, 5, 6] (fun o f i wr => ∃ (j k : Nat) (va : Option Addr) (vc : Nat) (P : List (List UInt8)) (Y : List Prt) (Z : List Tri), f = .int .i64 (j : Int) ∧ i = .int .i64 (k : Int) ∧ k ≤ s.size + 1 ∧ o = .slice va Z.length vc ∧ Z.length ≤ k ∧ Hid ((k ≤ s.size ∧ PcA L P j k) ∨ (k = s.size + 1 ∧ spl 44 L = P)) ∧ Hid (P.map itmP = Y.map some ∧ TriOk Y Z) ∧ Hid (wr.ownsRow w.heap.size 66 3 (.slice va Z.length vc) Z.length (tri3 Z)) ∧ Hid (Below w.heap.size w wr)) (fun _ _ i _ => s.size + 1 - (intOf i).toNat)
      case atStart => exact ⟨0, 0, none, 0, [], [], [], rfl, rfl, by omega, rfl, by simp, Lib.hid (.inl ⟨Nat.zero_le _, PcA.zero L⟩), Lib.hid ⟨rfl, TriOk.zero⟩, Lib.hid (World.ownsRow_nil _ _ _ _), Lib.hid (Below.refl _ _)⟩
      case round =>
        obtain ⟨j, k, va, vc, P, Y, Z, rfl, rfl, hk, rfl, hZk, HPC, HYZ, HO, HB⟩ := hrel
        by_cases hkz : k ≤ s.size
        · have hpc : PcA L P j k := by
            rcases HPC.out with ⟨_, h⟩ | ⟨h, _⟩
            · exact h
            · omega
          have HPA := Lib.hid hpc
          have d3 : decide ((k : Int) ≤ (s.size : Int)) = true := decide_eq_true (by omega)
          have d3' : decide (k ≤ s.size) = true := decide_eq_true hkz
          have hwk : IntKind.i64.wrap ((k : Int) + 1) = (k : Int) + 1 := IntWalk.i64_in _ (by omega)
          clear hpc HPC
          by_cases hlt : k < s.size
          · have hb := bt_get HL.out hlt
            have hk0 : (0 : Int) ≤ (k : Int) := by omega
            by_cases hc : bt L k = 44
            · have HHIT := Lib.hid (HPA.out.hit (by rw [HLEN.out]; exact hlt) hc)
              have hjk := HPA.out.fi
              have HD : Hid ((s.extract j k).data.toList = (L.drop j).take (k - j)) := Lib.hid (ext_list HL.out _ _)
              obtain ⟨D, hD⟩ : ∃ D, (L.drop j).take (k - j) = D := ⟨_, rfl⟩
              rw [hD] at HD HHIT
              have hsz : (s.extract j k).size ≤ 2500 := by rw [ByteArray.size_extract]; omega
              have hDl : D.length ≤ 2500 := by rw [len_of HD.out]; exact hsz
              have HRD := Lib.hid (fun W => rread_ok (s.extract j k) D HD.out (by omega) W)
              have hmem : D ∈ spl 44 L := by rw [HHIT.out.sp]; simp
              have HMEM := Lib.hid hmem
              have d4 : s[k].toNat = 44 := by rw [hb, hc]; rfl
              have hj0 : (0 : Int) ≤ (j : Int) := by omega
              have hj1 : (j : Int) ≤ (k : Int) := by omega
              have hk1 : (k : Int) ≤ (s.size : Int) := by omega
              clear hb hc hD hmem hsz
              go_wp2_with fail
              refine (HRD.out _).mono ?_
              rintro e w3 ⟨N, M, T, rfl, hv, z1, z2, z3, b3⟩
              have HV := Lib.hid hv
              have HB3 := Lib.hid b3
              have HO3 := Lib.hid (own_below HO.out b3)
              clear hv b3
              cases hi : itmP D with
              | none =>
                have hE := plE_form (s := L) (by have := HLEN.out; omega) (by intro e; have := HLEN.out; rw [e] at this; simp at this; omega) HMEM.out hi
                have hR := plL_bad (s := L) (by rw [hE]; decide)
                have HE := Lib.hid (And.intro hE hR)
                simp only [Option.isSome_none]
                clear hi hE hR
                go_wp2
                go_ret2
                rw [HE.out.1, HE.out.2]
                exact PlPost.none (below_tr HB.out ((HB3.out).alloc HB3.out.size _))
              | some y =>
                have HYY : Hid ((P ++ [D]).map itmP = (Y ++ [y]).map some ∧ TriOk (Y ++ [y]) (Z ++ [(N, M, T)])) := Lib.hid ⟨by rw [List.map_append, HYZ.out.1, List.map_append]; simp [hi], HYZ.out.2.snoc ⟨HV.out y hi, by show N.size ≤ 2501; omega, by show M.size ≤ 2501; omega, by show T.size ≤ 2501; omega⟩⟩
                simp only [Option.isSome_some]
                clear hi z1 z2 z3
                go_wp2_with (at_builtin; refine wpList_append_own _ rfl (.tmp 54) (.tmp 56) 64 rfl w.heap.size 66 i0 (.agg #[.string ⟨#[]⟩, .string ⟨#[]⟩, .string ⟨#[]⟩]) 3 48 Tryz.underlying64 hi0 hz0 hz1 hz2 rfl (by decide) _ _ _ rfl ((HO3.out.alloc _).alloc _) ⟨w3.heap.size + 1, 0, none⟩ 1 1 [.string N, .string M, .string T] rfl rfl ?c1 ?c2 ?c3 ?c4 ?c5 ?_)
                case c1 => intro j q hq; match j with | 0 => (simp at hq; subst hq; simp [go_sem]) | 1 => (simp at hq; subst hq; simp [go_sem]) | 2 => (simp at hq; subst hq; simp [go_sem]) | j + 3 => simp at hq
                case c2 => intro q hq; simp at hq; rcases hq with rfl | rfl | rfl <;> rfl
                case c3 => unfold maxLen; omega
                case c4 => omega
                case c5 => have := HB3.out.size; have := HB.out.size; simp; omega
                intro v' w4 hown hg _
                obtain ⟨va', vc', rfl⟩ := own_slice hown
                have hs3 := HB3.out.size
                have hs4 := HB.out.size
                have HB4 := Lib.hid (((below_tr HB.out HB3.out).alloc (by omega) (.cells #[.string N, .string M, .string T] 66)).alloc (by simp; omega) (.cells #[.string N, .string M, .string T] 66) |>.grown hg (by simp; omega) (by intro r hr; exact (HO.out.lt r hr).1))
                have HW : Hid (w4.ownsRow w.heap.size 66 3 (.slice va' (Z ++ [(N, M, T)]).length vc') (Z ++ [(N, M, T)]).length (tri3 (Z ++ [(N, M, T)]))) := Lib.hid (by rw [tri3_snoc, List.length_append, List.length_singleton]; exact hown)
                clear hown hg
                go_wp2
                go_roundw
                case rel => exact ⟨k + 1, k + 1, va', vc', P ++ [D], Y ++ [y], Z ++ [(N, M, T)], by go_num, by go_num, by omega, by rw [List.length_append, List.length_singleton], by rw [List.length_append, List.length_singleton]; omega, Lib.hid (.inl ⟨by omega, HHIT.out⟩), HYY, HW, HB4⟩
                case measure => simp [intOf]; omega
            · have d4 : (((bt L k).toNat : Int) == 44) = false := beq_eq_false_iff_ne.2 (fun e => hc (UInt8.toNat_inj.1 (by rw [show (44 : UInt8).toNat = 44 from rfl]; omega)))
              have d4' : (((bt L k).toNat : Int) != 44) = true := bne_iff_ne.2 (fun e => hc (UInt8.toNat_inj.1 (by rw [show (44 : UInt8).toNat = 44 from rfl]; omega)))
              have HST := Lib.hid (HPA.out.step (by rw [HLEN.out]; exact hlt) hc)
              obtain ⟨z, hz⟩ : ∃ z, (bt L k).toNat = z := ⟨_, rfl⟩
              rw [hz] at hb d4 d4'
              clear hz hc
              go_wp2
              go_roundw
              case rel => exact ⟨j, k + 1, va, vc, P, Y, Z, rfl, by go_num, by omega, rfl, by omega, Lib.hid (.inl ⟨by omega, HST.out⟩), HYZ, HO, HB⟩
              case measure => simp [intOf]; omega
          · have hks : k = L.length := by have := HLEN.out; omega
            have HHIT := Lib.hid (PcA.last (L := L) (P := P) (f := j) (by rw [← hks]; exact HPA.out))
            rw [← hks] at HHIT
            have hjk := HPA.out.fi
            have HD : Hid ((s.extract j k).data.toList = (L.drop j).take (k - j)) := Lib.hid (ext_list HL.out _ _)
            obtain ⟨D, hD⟩ : ∃ D, (L.drop j).take (k - j) = D := ⟨_, rfl⟩
            rw [hD] at HD HHIT
            have hsz : (s.extract j k).size ≤ 2500 := by rw [ByteArray.size_extract]; omega
            have hDl : D.length ≤ 2500 := by rw [len_of HD.out]; exact hsz
            have HRD := Lib.hid (fun W => rread_ok (s.extract j k) D HD.out (by omega) W)
            have hmem : D ∈ spl 44 L := by rw [HHIT.out]; simp
            have HMEM := Lib.hid hmem
            have d4 : decide ((k : Int) < (s.size : Int)) = false := decide_eq_false (by omega)
            have d4' : decide (k < s.size) = false := decide_eq_false (by omega)
            have hj0 : (0 : Int) ≤ (j : Int) := by omega
            have hj1 : (j : Int) ≤ (k : Int) := by omega
            have hk1 : (k : Int) ≤ (s.size : Int) := by omega
            clear hks hD hmem hsz
            go_wp2_with fail
            refine (HRD.out _).mono ?_
            rintro e w3 ⟨N, M, T, rfl, hv, z1, z2, z3, b3⟩
            have HV := Lib.hid hv
            have HB3 := Lib.hid b3
            have HO3 := Lib.hid (own_below HO.out b3)
            clear hv b3
            cases hi : itmP D with
            | none =>
              have hE := plE_form (s := L) (by have := HLEN.out; omega) (by intro e; have := HLEN.out; rw [e] at this; simp at this; omega) HMEM.out hi
              have hR := plL_bad (s := L) (by rw [hE]; decide)
              have HE := Lib.hid (And.intro hE hR)
              simp only [Option.isSome_none]
              clear hi hE hR
              go_wp2
              go_ret2
              rw [HE.out.1, HE.out.2]
              exact PlPost.none (below_tr HB.out ((HB3.out).alloc HB3.out.size _))
            | some y =>
              have HYY : Hid ((P ++ [D]).map itmP = (Y ++ [y]).map some ∧ TriOk (Y ++ [y]) (Z ++ [(N, M, T)])) := Lib.hid ⟨by rw [List.map_append, HYZ.out.1, List.map_append]; simp [hi], HYZ.out.2.snoc ⟨HV.out y hi, by show N.size ≤ 2501; omega, by show M.size ≤ 2501; omega, by show T.size ≤ 2501; omega⟩⟩
              simp only [Option.isSome_some]
              clear hi z1 z2 z3
              go_wp2_with (at_builtin; refine wpList_append_own _ rfl (.tmp 54) (.tmp 56) 64 rfl w.heap.size 66 i0 (.agg #[.string ⟨#[]⟩, .string ⟨#[]⟩, .string ⟨#[]⟩]) 3 48 Tryz.underlying64 hi0 hz0 hz1 hz2 rfl (by decide) _ _ _ rfl ((HO3.out.alloc _).alloc _) ⟨w3.heap.size + 1, 0, none⟩ 1 1 [.string N, .string M, .string T] rfl rfl ?c1 ?c2 ?c3 ?c4 ?c5 ?_)
              case c1 => intro j q hq; match j with | 0 => (simp at hq; subst hq; simp [go_sem]) | 1 => (simp at hq; subst hq; simp [go_sem]) | 2 => (simp at hq; subst hq; simp [go_sem]) | j + 3 => simp at hq
              case c2 => intro q hq; simp at hq; rcases hq with rfl | rfl | rfl <;> rfl
              case c3 => unfold maxLen; omega
              case c4 => omega
              case c5 => have := HB3.out.size; have := HB.out.size; simp; omega
              intro v' w4 hown hg _
              obtain ⟨va', vc', rfl⟩ := own_slice hown
              have hs3 := HB3.out.size
              have hs4 := HB.out.size
              have HB4 := Lib.hid (((below_tr HB.out HB3.out).alloc (by omega) (.cells #[.string N, .string M, .string T] 66)).alloc (by simp; omega) (.cells #[.string N, .string M, .string T] 66) |>.grown hg (by simp; omega) (by intro r hr; exact (HO.out.lt r hr).1))
              have HW : Hid (w4.ownsRow w.heap.size 66 3 (.slice va' (Z ++ [(N, M, T)]).length vc') (Z ++ [(N, M, T)]).length (tri3 (Z ++ [(N, M, T)]))) := Lib.hid (by rw [tri3_snoc, List.length_append, List.length_singleton]; exact hown)
              clear hown hg
              go_wp2
              go_roundw
              case rel => exact ⟨k + 1, k + 1, va', vc', P ++ [D], Y ++ [y], Z ++ [(N, M, T)], by go_num, by go_num, by omega, by rw [List.length_append, List.length_singleton], by rw [List.length_append, List.length_singleton]; omega, Lib.hid (.inr ⟨by omega, HHIT.out⟩), HYY, HW, HB4⟩
              case measure => simp [intOf]; omega
        · obtain ⟨hk9, hP⟩ : k = s.size + 1 ∧ spl 44 L = P := by
            rcases HPC.out with ⟨h, _⟩ | h
            · omega
            · exact h
          have hne : L ≠ [] := by intro e; have := HLEN.out; rw [e] at this; simp at this; omega
          have hPY : (spl 44 L).map itmP = Y.map some := by rw [hP]; exact HYZ.out.1
          have hQY : plP L = Y := filt_some hPY
          have hall := all_some hPY
          have HRG := Lib.hid (fun (x : Prt) (hx : x ∈ Y) (hn : 9999 < x.2.1) => plE_range (s := L) (by have := HLEN.out; omega) hne hall (by rw [hQY]; exact hx) hn)
          have HRS := Lib.hid (fun (hr : ∀ x, x ∈ Y → ¬ 9999 < x.2.1) => (plE_rest (s := L) (by have := HLEN.out; omega) hne hall (by rw [hQY]; exact hr)).trans (by rw [hQY]))
          have HOK := Lib.hid (fun h => (plL_ok (s := L) h hne).trans (by rw [hQY]))
          have HZL : Hid (Z.length = Y.length) := Lib.hid HYZ.out.2.1
          have d3 : decide ((k : Int) ≤ (s.size : Int)) = false := decide_eq_false (by omega)
          have d3' : decide (k ≤ s.size) = false := decide_eq_false (by omega)
          have hZb : Z.length ≤ 2501 := by omega
          clear hP hPY hQY hall hne HPC hk hkz hk9
          go_wp2_with fail
          go_loopw [9] (fun i wx => ∃ (q : Nat), i = .int .i64 (q : Int) ∧ q ≤ Z.length ∧ Hid (∀ j y, Y[j]? = some y → j < q → ¬ 9999 < y.2.1) ∧ Hid (Below wr.heap.size wr wx)) (fun i _ => Z.length - (intOf i).toNat)
          case atStart => exact ⟨0, rfl, Nat.zero_le _, Lib.hid (fun j y _ h => absurd h (Nat.not_lt_zero _)), Lib.hid (Below.refl _ _)⟩
          case round =>
            obtain ⟨q, rfl, hq, HA, HBx⟩ := hrel
            by_cases hlq : q < Z.length
            · obtain ⟨z, hz⟩ : ∃ z, Z[q]? = some z := ⟨_, List.getElem?_eq_getElem hlq⟩
              obtain ⟨y, hy⟩ : ∃ y, Y[q]? = some y := ⟨_, List.getElem?_eq_getElem (by rw [← HZL.out]; exact hlq)⟩
              obtain ⟨b, rfl, c0, c1, c2⟩ := tri_read (own_below HO.out HBx.out) hz
              have ht := (HYZ.out.2.2 q y z hy hz).1
              have HY := Lib.hid hy
              have HLS := Lib.hid (fun W => rless_ok ⟨(Lib.itoa 9999).toArray⟩ z.2.1 (Lib.itoa 9999) z.2.1.data.toList rfl rfl W)
              have HDG := Lib.hid (fun W => rdig_ok 9999 W (by decide) (by decide))
              obtain ⟨D9, hD9⟩ : ∃ D : ByteArray, (⟨(Lib.itoa 9999).toArray⟩ : ByteArray) = D := ⟨_, rfl⟩
              obtain ⟨z1, hz1'⟩ : ∃ x, z.2.1 = x := ⟨_, rfl⟩
              have hle : lessB (Lib.itoa 9999) z.2.1.data.toList = decide (9999 < y.2.1) := by
                rw [natB_less (by decide +kernel) ht.2.1.1, ht.2.1.2, show valN 0 (Lib.itoa 9999) = 9999 by decide +kernel]
              rw [hle, hz1', hD9] at HLS
              rw [hD9] at HDG
              rw [hz1', Nat.mul_comm] at c1
              have HC : Hid (∀ w', Below wr.heap.size wr w' → w'.cell? ⟨b, q * 3 + 1, none⟩ = some (.string z1)) := Lib.hid fun w' h => (h.cell (World.block_lt_of_cell? _ _ c1)).trans c1
              have hq0 : (0 : Int) ≤ (q : Int) := by omega
              have hql : (q : Int) < (Z.length : Int) := by omega
              by_cases h9 : 9999 < y.2.1
              · have hE := HRG.out y (List.mem_of_getElem? HY.out) h9
                have hR := plL_bad (s := L) (by rw [hE]; decide)
                have HE := Lib.hid (And.intro hE hR)
                rw [decide_eq_true h9] at HLS
                clear h9 hE hR
                go_wp2_with fail
                go_region_held3 (fun w' => Below wr.heap.size wr w' ∧ w'.cell? ⟨b, q * 3 + 1, none⟩ = some (.string z1))
                  ((refine keepN HC ?_; first | exact (Below.refl _ _).drew | exact And.left (by assumption) | exact bel_call (by assumption) (by assumption)))
                  ((first
                    | (go_at_call 24; (with_reducible refine (HDG.out _).mono ?_); rintro e w5 ⟨rfl, b5⟩)
                    | (go_at_call 23; (with_reducible refine (HLS.out _).mono ?_); rintro e w6 ⟨rfl, rfl⟩)))
                all_goals
                  have HB5 := Lib.hid (And.left (show Below wr.heap.size wr _ ∧ _ by assumption))
                  go_wp2
                  go_ret2
                  rw [HE.out.1, HE.out.2]
                  exact PlPost.none (below_tr HB.out (below_tr HBx.out HB5.out))
              · have HA2 : Hid (∀ j y, Y[j]? = some y → j < q + 1 → ¬ 9999 < y.2.1) := Lib.hid (fun j x hx hj => by
                  by_cases ej : j = q
                  · rw [ej, HY.out] at hx; cases hx; exact h9
                  · exact HA.out j x hx (by omega))
                rw [decide_eq_false h9] at HLS
                go_wp2_with fail
                go_region_held3 (fun w' => Below wr.heap.size wr w' ∧ w'.cell? ⟨b, q * 3 + 1, none⟩ = some (.string z1))
                  ((refine keepN HC ?_; first | exact (Below.refl _ _).drew | exact And.left (by assumption) | exact bel_call (by assumption) (by assumption)))
                  ((first
                    | (go_at_call 24; (with_reducible refine (HDG.out _).mono ?_); rintro e w5 ⟨rfl, b5⟩)
                    | (go_at_call 23; (with_reducible refine (HLS.out _).mono ?_); rintro e w6 ⟨rfl, rfl⟩)))
                all_goals
                  have HB5 := Lib.hid (And.left (show Below wr.heap.size wr _ ∧ _ by assumption))
                  go_wp2
                  go_roundw
                  case rel => exact ⟨q + 1, by go_num, by omega, HA2, Lib.hid (below_tr HBx.out HB5.out)⟩
                  case measure => simp [intOf]; omega
            · obtain rfl : q = Z.length := by omega
              have HL9 : Hid (∀ y, y ∈ Y → y.2.1 ≤ 9999) := Lib.hid (fun y hy => by
                obtain ⟨j, hj, rfl⟩ := List.mem_iff_getElem.1 hy
                have := HA.out j _ (List.getElem?_eq_getElem hj) (by rw [HZL.out]; exact hj)
                omega)
              have HE : Hid (plE L = if 500 < sumP Y then 3 else 0) := Lib.hid (HRS.out (fun x hx => by have := HL9.out x hx; omega))
              have HBC := Lib.hid (below_tr HB.out HBx.out)
              have HOC := Lib.hid (own_below HO.out HBx.out)
              have HTR := Lib.hid HYZ.out.2
              have HPO : Hid (∀ y, y ∈ Y → PrtOk y) := Lib.hid (fun y hy => by
                have h1 : some y ∈ Y.map some := List.mem_map_of_mem hy
                rw [← HYZ.out.1] at h1
                obtain ⟨p, _, hp⟩ := List.mem_map.1 h1
                exact itm_ok hp)
              clear HA HBx HB HO HRG HRS hq hlq HYZ
              obtain ⟨i1, hi1, hy0, hy1, hy2⟩ := info_parts info_int
              obtain ⟨zn, hzn⟩ : ∃ n, Z.length = n := ⟨_, rfl⟩
              have HZN := Lib.hid hzn
              rw [hzn] at HOC hZb ⊢
              clear hzn
              go_wp2
              obtain ⟨W4, hW4⟩ : ∃ V, wr = V := ⟨_, rfl⟩
              rw [hW4] at HOC HBC ⊢
              clear hW4
              go_loopw [10, 11] (fun o i wr => ∃ (k : Nat) (va : Option Addr) (vc : Nat) (I : List Nat), i = .int .i64 (k : Int) ∧ k ≤ zn ∧ o = .slice va I.length vc ∧ I.length ≤ 500 ∧ Hid (I = (Y.take k).flatMap prtL) ∧ Hid (wr.ownsRow W4.heap.size 3 1 (.slice va I.length vc) I.length ((ints I).map (Value.int .i64))) ∧ Hid (Below W4.heap.size W4 wr)) (fun _ i _ => zn - (intOf i).toNat)
              case atStart => exact ⟨0, none, 0, [], rfl, Nat.zero_le _, rfl, Nat.zero_le _, Lib.hid rfl, Lib.hid (World.ownsRow_nil _ _ _ _), Lib.hid (Below.refl _ _)⟩
              case round =>
                obtain ⟨k, va, vc, I, rfl, hk, rfl, hI5, HI, HO, HBr⟩ := hrel
                by_cases hlt : k < zn
                · obtain ⟨z, hz⟩ : ∃ z, Z[k]? = some z := ⟨_, List.getElem?_eq_getElem (by rw [HZN.out]; exact hlt)⟩
                  have hky : k < Y.length := by rw [← HZL.out, HZN.out]; exact hlt
                  obtain ⟨y, hy⟩ : ∃ y, Y[k] = y := ⟨_, rfl⟩
                  have hyk : Y[k]? = some y := by rw [List.getElem?_eq_getElem hky, hy]
                  have hmem := List.mem_of_getElem? hyk
                  obtain ⟨b, rfl, c0, c1, c2⟩ := tri_read (by have := own_below HOC.out HBr.out; rwa [← HZN.out] at this) hz
                  obtain ⟨⟨⟨n1, v1⟩, ⟨n2, v2⟩, ⟨n3, v3⟩⟩, s1, s2, s3⟩ := HTR.out.2 k y z hyk hz
                  have hle := HL9.out y hmem
                  obtain ⟨p1, p2, _⟩ := HPO.out y hmem
                  have hmu := many_up hky
                  rw [hy] at hmu
                  have hml := many_le (Y := Y) (k + 1)
                  have hIl : I.length = sumP (Y.take k) := by rw [HI.out, sumP_len]
                  have hnx : (Y.take (k + 1)).flatMap prtL = I ++ prtL y := by
                    rw [take_snoc hyk, List.flatMap_append, ← HI.out]; simp
                  have hpl : prtL y = (List.replicate y.2.2 (List.range' y.1 (y.2.1 + 1 - y.1))).flatten := rfl
                  rw [hpl] at hnx
                  have hpn : prtN y = y.2.2 * (y.2.1 + 1 - y.1) := rfl
                  rw [hpn] at hmu
                  have hi1 := nat_int (lo := 0) (hi := 9999) n1 (by decide) (by omega) (by rw [v1]; omega)
                  have hi2 := nat_int (lo := 0) (hi := 9999) n2 (by decide) (by omega) (by rw [v2]; omega)
                  have HI1 := Lib.hid (fun W => rint_ok z.1 _ rfl (by omega) 0 9999 (by decide) (by decide) W)
                  have HI2 := Lib.hid (fun W => rint_ok z.2.1 _ rfl (by omega) 0 9999 (by decide) (by decide) W)
                  have HI3 := Lib.hid (fun W => rint_ok z.2.2 _ rfl (by omega) 1 500 (by decide) (by decide) W)
                  rw [hi1.1, hi1.2, v1] at HI1
                  rw [hi2.1, hi2.2, v2] at HI2
                  obtain ⟨z1, z2, z3⟩ := z
                  dsimp only at c0 c1 c2 n1 v1 n2 v2 n3 v3 s1 s2 s3 HI1 HI2 HI3
                  obtain ⟨f, hf⟩ : ∃ f, y.1 = f := ⟨_, rfl⟩
                  obtain ⟨l, hl⟩ : ∃ l, y.2.1 = l := ⟨_, rfl⟩
                  obtain ⟨c, hc⟩ : ∃ c, y.2.2 = c := ⟨_, rfl⟩
                  rw [hf] at p1 hmu hnx HI1
                  rw [hl] at p1 hmu hnx HI2 hle
                  rw [hc] at p2 hmu hnx v3
                  have HNX := Lib.hid hnx
                  have hiw : (500 < c ∧ plE L = 3 ∧ intE z3.data.toList 1 500 = 7 ∧ intV z3.data.toList 1 500 = 0) ∨ (c ≤ 500 ∧ intE z3.data.toList 1 500 = 0 ∧ intV z3.data.toList 1 500 = (c : Int)) := by
                    by_cases h : 500 < c
                    · left
                      obtain ⟨e1, e2⟩ := nat_int_big (lo := 1) (hi := 500) n3 (by decide) (by rw [v3]; omega)
                      refine ⟨h, ?_, e1, e2⟩
                      have h3 := Nat.mul_le_mul (Nat.le_refl c) (show 1 ≤ l + 1 - f by omega)
                      rw [HE.out, if_pos (by omega)]
                    · right
                      obtain ⟨e1, e2⟩ := nat_int (lo := 1) (hi := 500) n3 (by decide) (by rw [v3]; omega) (by rw [v3]; omega)
                      exact ⟨by omega, e1, by rw [e2, v3]⟩
                  have HPL := Lib.hid (fun (h : 500 < I.length + c * (l + 1 - f)) => (show plE L = 3 by rw [HE.out, if_pos (by omega)]))
                  have hb0 := World.block_lt_of_cell? _ _ c0
                  dsimp only at hb0
                  rw [Nat.mul_comm] at c0 c1 c2
                  have HBR := Lib.hid HBr.out
                  have HOR := Lib.hid HO.out
                  have hIl5 : I.length ≤ 500 := hI5
                  clear hz hky hy hyk hmem n1 v1 n2 v2 n3 v3 s1 s2 s3 hi1 hi2 hmu hml hIl hnx hpl hpn HBr HO HI hf hl hc
                  go_wp2_with fail
                  refine (HI1.out _).mono ?_
                  rintro e w5 ⟨rfl, b5⟩
                  have x1 := (b5.cell (p := ⟨b, k * 3 + 1, none⟩) hb0).trans c1
                  have x2 := (b5.cell (p := ⟨b, k * 3 + 2, none⟩) hb0).trans c2
                  have hb1 := World.block_lt_of_cell? _ _ x1
                  dsimp only at hb1
                  have HB5 := Lib.hid b5
                  clear b5 c0 c1 c2
                  go_wp2_with fail
                  refine (HI2.out _).mono ?_
                  rintro e w6 ⟨rfl, b6⟩
                  have y2 := (b6.cell (p := ⟨b, k * 3 + 2, none⟩) hb1).trans x2
                  have HB6 := Lib.hid (below_tr HB5.out b6)
                  clear b6 x1 x2 HB5
                  rcases hiw with ⟨h5, hE3, e1, e2⟩ | ⟨h5, e1, e2⟩
                  · rw [e1, e2] at HI3
                    have hR := plL_bad (s := L) (by rw [hE3]; decide)
                    have HEE := Lib.hid (And.intro hE3 hR)
                    clear hE3 hR e1 e2
                    go_wp2_with fail
                    refine (HI3.out _).mono ?_
                    rintro e w7 ⟨rfl, b7⟩
                    have HB7 := Lib.hid (below_tr HBR.out (below_tr HB6.out b7))
                    clear b7
                    go_wp2
                    go_ret2
                    rw [HEE.out.1, HEE.out.2]
                    exact PlPost.none (below_tr HBC.out HB7.out)
                  · rw [e1, e2] at HI3
                    obtain ⟨q, hq⟩ : ∃ q, c * (l + 1 - f) = q := ⟨_, rfl⟩
                    have hqb : q ≤ 5000000 := by
                      rw [← hq]
                      exact Nat.mul_le_mul (show c ≤ 500 from h5) (show l + 1 - f ≤ 10000 by omega)
                    have hwq : wrap64 ((c : Int) * ((l : Int) - (f : Int) + 1)) = (q : Int) := by
                      rw [← hq, show (l : Int) - (f : Int) + 1 = ((l + 1 - f : Nat) : Int) by omega, ← Int.natCast_mul]
                      exact IntWalk.wrap64_in _ (by omega)
                    rw [hq] at HPL
                    have HQ := Lib.hid hq
                    clear e1 e2 hq
                    go_wp2_with fail
                    refine (HI3.out _).mono ?_
                    rintro e w7 ⟨rfl, b7⟩
                    have HB7 := Lib.hid (below_tr HBR.out (below_tr HB6.out b7))
                    have HO7 := Lib.hid (own_below HOR.out (below_tr HB6.out b7))
                    clear b7 HB6 y2 HBR HOR
                    by_cases hq5 : 500 < I.length + q
                    · have d5 : decide ((500 : Int) - (I.length : Int) < (q : Int)) = true := decide_eq_true (by omega)
                      have hE3 := HPL.out hq5
                      have hR := plL_bad (s := L) (by rw [hE3]; decide)
                      have HEE := Lib.hid (And.intro hE3 hR)
                      clear hE3 hR hq5
                      go_wp2
                      go_ret2
                      rw [HEE.out.1, HEE.out.2]
                      exact PlPost.none (below_tr HBC.out HB7.out)
                    · have d5 : decide ((500 : Int) - (I.length : Int) < (q : Int)) = false := decide_eq_false (by omega)
                      have HLN : Hid (I.length + c * (l + 1 - f) ≤ 500) := Lib.hid (by rw [HQ.out]; omega)
                      clear HI1 HI2 HI3 HPL hq5
                      go_wp2
                      clear hwq d5
                      go_loopw [10, 18] (fun o i wr => ∃ (r : Nat) (va : Option Addr) (vc : Nat) (J : List Nat), i = .int .i64 (r : Int) ∧ r ≤ c ∧ o = .slice va J.length vc ∧ Hid (J = I ++ (List.replicate r (List.range' f (l + 1 - f))).flatten) ∧ Hid (wr.ownsRow W4.heap.size 3 1 (.slice va J.length vc) J.length ((ints J).map (Value.int .i64))) ∧ Hid (Below W4.heap.size W4 wr)) (fun _ i _ => c - (intOf i).toNat)
                      case atStart => exact ⟨0, va, vc, I, rfl, Nat.zero_le _, rfl, Lib.hid (by simp), HO7, HB7⟩
                      case round =>
                        clear HO7 HB7
                        obtain ⟨r, va, vc, J, rfl, hr, rfl, HJ, HO, HBr⟩ := hrel
                        by_cases hlr : r < c
                        · have HJL : Hid (J.length + (l + 1 - f) ≤ 500) := Lib.hid (by
                            have h1 := HLN.out
                            have h2 := Nat.mul_le_mul (show r + 1 ≤ c by omega) (Nat.le_refl (l + 1 - f))
                            rw [Nat.add_mul] at h2
                            rw [HJ.out]
                            simp
                            omega)
                          have HJN : Hid (J ++ List.range' f (l + 1 - f) = I ++ (List.replicate (r + 1) (List.range' f (l + 1 - f))).flatten) := Lib.hid (by rw [rep_more, HJ.out, List.append_assoc])
                          clear HJ
                          go_wp2
                          go_loopw [10, 19] (fun o i wr => ∃ (n : Nat) (va : Option Addr) (vc : Nat) (K : List Nat), i = .int .i64 (n : Int) ∧ f ≤ n ∧ n ≤ l + 1 ∧ o = .slice va K.length vc ∧ Hid (K = J ++ List.range' f (n - f)) ∧ Hid (wr.ownsRow W4.heap.size 3 1 (.slice va K.length vc) K.length ((ints K).map (Value.int .i64))) ∧ Hid (Below W4.heap.size W4 wr)) (fun _ i _ => l + 1 - (intOf i).toNat)
                          case atStart => exact ⟨f, va, vc, J, rfl, Nat.le_refl _, by omega, rfl, Lib.hid (by simp), HO, HBr⟩
                          case round =>
                            clear HO HBr
                            obtain ⟨n, va, vc, K, rfl, hfn, hnl, rfl, HK, HO, HBr⟩ := hrel
                            by_cases hln : n ≤ l
                            · have d1 : decide ((n : Int) ≤ (l : Int)) = true := decide_eq_true (by omega)
                              have hKl : K.length + 1 ≤ 500 := by
                                have h1 := HJL.out
                                rw [HK.out]
                                simp
                                omega
                              have HKN : Hid (K ++ [n] = J ++ List.range' f (n + 1 - f)) := Lib.hid (by rw [rg_more f n hfn, HK.out, List.append_assoc])
                              have hsz := HBr.out.size
                              clear HK
                              go_wp2_with (at_builtin; refine wpList_append_own _ rfl (.tmp 131) (.tmp 133) 22 rfl W4.heap.size 3 i1 (.int .i64 0) 1 8 Tryz.underlying22 hi1 hy0 hy1 hy2 rfl (by decide) _ _ _ rfl (HO.out.alloc _) ⟨wr.heap.size, 0, none⟩ 1 1 [.int .i64 (n : Int)] rfl rfl ?c1 ?c2 ?c3 ?c4 ?c5 ?_)
                              case c1 => intro j q hq; match j with | 0 => (simp at hq; subst hq; simp [go_sem]) | j + 1 => simp at hq
                              case c2 => intro q hq; simp at hq; subst hq; rfl
                              case c3 => unfold maxLen; omega
                              case c4 => omega
                              case c5 => simp; omega
                              intro v' w6 hown hg _
                              obtain ⟨va', vc', rfl⟩ := own_slice hown
                              have HB6 := Lib.hid ((HBr.out.alloc hsz (.cells #[.int .i64 (n : Int)] 3)).grown hg (by simp; omega) (by intro r hr; exact (HO.out.lt r hr).1))
                              have HW : Hid (w6.ownsRow W4.heap.size 3 1 (.slice va' (K ++ [n]).length vc') (K ++ [n]).length ((ints (K ++ [n])).map (Value.int .i64))) := Lib.hid (by rw [ints_snoc, List.length_append, List.length_singleton]; exact hown)
                              clear hown hg
                              go_wp2
                              go_roundw
                              case rel => exact ⟨n + 1, va', vc', K ++ [n], by go_num, by omega, by omega, by rw [List.length_append, List.length_singleton], HKN, HW, HB6⟩
                              case measure => simp [intOf]; omega
                            · obtain rfl : n = l + 1 := by omega
                              have d1 : decide (((l + 1 : Nat) : Int) ≤ (l : Int)) = false := decide_eq_false (by omega)
                              have HJK : Hid (K = I ++ (List.replicate (r + 1) (List.range' f (l + 1 - f))).flatten) := Lib.hid (HK.out.trans HJN.out)
                              clear HK
                              go_wp2
                              go_roundw
                              case rel => exact ⟨r + 1, va, vc, K, by go_num, by omega, rfl, HJK, HO, HBr⟩
                              case measure => simp [intOf]; omega
                        · obtain rfl : r = c := by omega
                          have HIN : Hid (J = (Y.take (k + 1)).flatMap prtL) := Lib.hid (HJ.out.trans HNX.out.symm)
                          have hJ5 : J.length ≤ 500 := by
                            have h1 := HLN.out
                            rw [HJ.out]
                            simp
                            omega
                          clear HJ
                          go_wp2
                          go_roundw
                          case rel => exact ⟨k + 1, va, vc, J, by go_num, by omega, rfl, hJ5, HIN, HO, HBr⟩
                          case measure => simp [intOf]; omega
                · obtain rfl : k = zn := by omega
                  have hsum : ¬ 500 < sumP Y := by
                    have h1 := HI.out
                    rw [List.take_of_length_le (by rw [← HZL.out, HZN.out]; exact Nat.le_refl _)] at h1
                    have h2 := sumP_len Y
                    rw [← h1] at h2
                    omega
                  have hE := HE.out
                  rw [if_neg hsum] at hE
                  have hR : plL L = I := by
                    rw [HOK.out hE, HI.out, List.take_of_length_le (by rw [← HZL.out, HZN.out]; exact Nat.le_refl _)]
                  have HEE := Lib.hid (And.intro hE hR)
                  clear hE hR hsum
                  go_wp2
                  go_ret2
                  rw [HEE.out.1, HEE.out.2]
                  exact ⟨va, vc, rfl, ints_own HO.out, below_tr HBC.out HBr.out⟩
end Go.Proofs.YthmknaoelmeniaaGreatDoor

namespace Go.Proofs.YthmknaoelmeniaaGreatDoor
open Go.ChangeShapes Go.WideShapes Go.ChangeAt Go.RowKit

theorem own : ownKnob Tryz.prog.godebug = none := by kernel_rfl
theorem laidOut : laidOutB Tryz.prog = true := by kernel_rfl

theorem trodAll_below {H : Type} {enc : TypeId × Value → H} {W W' : World} (hb : Below W.heap.size W W') (ts : List TypeId) : ∀ (vs : List Value) (ds : List (DataW H)) (ps : List MemPlace),
    (ts.all fun t => Tryz.prog.readableRec t && decide (t < Tryz.prog.types.size)) = true → (∀ x ∈ ps, x.block < W.heap.size) → DataW.TrodAll enc Tryz.prog W 0 (fun _ => true) true ts vs ds ps →
    DataW.TrodAll enc Tryz.prog W' 0 (fun b => decide (b < W.heap.size)) true ts vs ds ps := by
  induction ts with
  | nil =>
    intro vs ds ps _ _ h
    obtain ⟨rfl, rfl, rfl⟩ := trodAll_nil h
    exact trodAll_mk0
  | cons t ts ih =>
    intro vs ds ps hr hlt h
    obtain ⟨v, vs', d, ds', p, q, rfl, rfl, rfl, h1, h2⟩ := trodAll_cons h
    rw [List.all_cons, Bool.and_eq_true, Bool.and_eq_true] at hr
    exact trodAll_cons_mk (Below.trod laidOut hr.1.1 (of_decide_eq_true hr.1.2) h1 hb (fun x hx => hlt x (List.mem_append_left _ hx))) (ih vs' ds' q hr.2 (fun x hx => hlt x (List.mem_append_right _ hx)) h2)

/-- WHAT A LAW's WALK GIVES THE ROW: true, the arguments read as they did. -/
theorem law_post {H : Type} {enc : TypeId × Value → H} {fn : Func} {s : ChangeSpec} {W W' : World} {args : Array Value} {ds gs : List (DataW H)} {before : List MemPlace}
    (hW : DataW.Whole enc Tryz.prog fn.params.toList s.vars false W args.toList ds gs before) (hv : s.vars = []) (hr : (fn.params.toList.all fun t => Tryz.prog.readableRec t && decide (t < Tryz.prog.types.size)) = true) (hrt : fn.resultTypes = #[4])
    (h1 : (s.fn H (ds ++ gs)).results = [.lit (.bool true)]) (h2 : (s.fn H (ds ++ gs)).args = ds) (h3 : (s.fn H (ds ++ gs)).vars = []) (hb : Below W.heap.size W W') :
    s.post enc Tryz.prog fn false true false false W args (.bool true) W' := by
  have hW' := hW
  have hlt := hW.lt
  obtain ⟨p, q, hA, hV, rfl, hfz, hnd⟩ := hW
  refine ⟨ds, gs, p ++ q, [], p, [], hW', ?_, ?_, ?_, hb.frame _, fun h => by cases h⟩
  · rw [h1, hrt]
    exact trodAll_cons_mk (shut_bool Tryz.underlying4 _) trodAll_mk0
  · rw [h2]
    exact trodAll_below hb _ _ _ _ hr (fun x hx => hlt x (List.mem_append_left _ hx)) hA
  · rw [h3, hv]; rfl
end Go.Proofs.YthmknaoelmeniaaGreatDoor
