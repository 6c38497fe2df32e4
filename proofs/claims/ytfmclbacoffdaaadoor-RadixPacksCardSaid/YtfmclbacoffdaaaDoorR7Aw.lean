/- The radix map: the awake calls. -/
import Derived.Test.YtfmclbacoffdaaaDoorR7W
namespace Go.Proofs.YtfmclbacoffdaaaDoor
open Go.RowKit Go.Sort Go.Joins
attribute [local go_sem] cell_grow frozen_grow size_grow
theorem aw_put : ∀ j, j < 2 → PutP (setM 401419 j (newM 4) 7) (7 + j) := fun j hj => by
  match j, hj with
  | 0, _ => exact ⟨by decide +kernel, by decide +kernel, by decide +kernel, by decide +kernel, by decide +kernel⟩
  | 1, _ => exact ⟨by decide +kernel, by decide +kernel, by decide +kernel, by decide +kernel, by decide +kernel⟩
theorem aw_k0 : ∀ k, k < 16 → ((newM 4).st.getD 0 ndZ).kd k < (newM 4).st.length := by decide +kernel
theorem aw_k1 : ∀ k, k < 16 → (awM.st.getD 0 ndZ).kd k < awM.st.length := by decide +kernel
theorem aw_2 : mdI awM.st 9 < awM.st.length ∧ lfI awM.st 9 < awM.st.length ∧ wdI awM.st 9 = 0 := by decide +kernel
theorem aw_pk : pkE 5 1 3 = 0 ∧ pkV 5 1 3 false = 401419 ∧ (pkW 5 1 3 false).toNat = 401419 := by decide +kernel
section
variable {w : World} {B p q : Nat}
theorem aw_set1 (htp : 0 ≠ p) (htq : 0 ≠ q) (hT : Tab w) (h : TM w B p q (newM 4).st (newM 4).m (newM 4).r) (hB : B ≤ w.heap.size) :
    Calls Tryd.prog 32 #[.pointer (some ⟨p, 0, none⟩), .int .i64 7, .int .i64 9, dsV 5 1 3 false] w fun e w' => e = .returned (.int .i64 0) ∧ TM w' B p q awM.st awM.m awM.r ∧ Fr p q w w' := by
  have h1 := set_in htp htq hT (X := newM 4) h hB (f := 7) (t := 9) (by decide) (by decide) aw_k0 5 1 3 false aw_pk.1 (by have := aw_1.2.1; show (newM 4).m + needF (newM 4).st 2 7 (-1) (-1) ≤ _; rw [this]; decide) (by rw [aw_pk.2.2]; exact aw_put) (by decide)
  rw [aw_pk.2.2] at h1
  exact h1
theorem aw_set2 (h : TM w B p q awM.st awM.m awM.r) :
    Calls Tryd.prog 32 #[.pointer (some ⟨p, 0, none⟩), .int .i64 64, .int .i64 65, dsV 5 1 3 false] w fun e w' => e = .returned (.int .i64 5) ∧ Below w.heap.size w w' := by
  obtain ⟨_, _, h3, h4, h5, _⟩ := aw_1
  have h1 := set_full (X := awM) h (f := 64) (t := 65) (by decide) (by decide) aw_k1 5 1 3 false aw_pk.1 (by show _ < awM.m + needF awM.st 1 64 (-1) (-1); rw [h3, h4, h5]; decide) (by rw [h3]; decide)
  exact h1
theorem aw_get (h : TM w B p q awM.st awM.m awM.r) :
    Calls Tryd.prog 19 #[.pointer (some ⟨p, 0, none⟩), .int .i64 9] w fun e w' => e = .returned (.tuple #[dsV 0 0 0 false, .int .i64 4]) ∧ Below w.heap.size w w' :=
  get_none h (pg := 9) (by decide) aw_2.1 aw_2.2.1 aw_2.2.2
theorem aw_nodes (h : TM w B p q awM.st awM.m awM.r) : Calls Tryd.prog 20 #[.pointer (some ⟨p, 0, none⟩)] w fun e w' => e = .returned (.int .i64 4) ∧ w = w' := by
  have := nodes_ok h
  rw [aw_1.2.2.1] at this
  exact this
theorem aw_pack (w : World) : Calls Tryd.prog 13 #[dsV 5 1 3 false] w fun e w' => e = .returned (.tuple #[.int .u64 401419, .int .i64 0]) ∧ Below w.heap.size w w' := by
  have := pack_ok 5 1 3 false w
  rw [aw_pk.1, aw_pk.2.1] at this
  exact this
theorem Tab.lt {w : World} (h : Tab w) : 0 < w.heap.size := World.block_lt_of_cell? _ _ (h 0 (by decide))
set_option maxRecDepth 100000 in
set_option maxHeartbeats 3200000 in
theorem awake_ok (w : World) (hT : Tab w) : Calls Tryd.prog 17 #[] w fun e w' => e = .returned (.bool true) ∧ Below w.heap.size w w' := by
  have hlt := hT.lt
  have htp : 0 ≠ w.heap.size + 1 := by omega
  have htq : 0 ≠ w.heap.size := by omega
  have HTP := Lib.hid htp
  have HTQ := Lib.hid htq
  have HN : Hid (Calls Tryd.prog 21 #[.int .i64 4] w fun e w' => e = .returned (.tuple #[.pointer (some ⟨w.heap.size + 1, 0, none⟩), .int .i64 0]) ∧ TM w' w.heap.size (w.heap.size + 1) w.heap.size (newM 4).st (newM 4).m (newM 4).r ∧ Below w.heap.size w w') := Lib.hid (newm_ok 4 w (by decide) (by decide))
  have HT := Lib.hid hT
  clear hT hlt htp htq
  go_enter Tryd.func17, Tryd.ntmps17
  go_wp2_with fail
  refine HN.out.mono ?_
  rintro e w1 ⟨rfl, h1, b1⟩
  have H1 := Lib.hid h1
  have B1 := Lib.hid b1
  clear h1 b1 HN
  go_wp2_with fail
  refine (five_ok w1).mono ?_
  rintro e w2 ⟨rfl, b2⟩
  have H2 := Lib.hid (H1.out.below b2)
  have B2 := Lib.hid (below_tr B1.out b2)
  clear b2 H1 B1
  go_wp2_with fail
  refine (aw_pack w2).mono ?_
  rintro e w3 ⟨rfl, b3⟩
  have H3 := Lib.hid (H2.out.below b3)
  have B3 := Lib.hid (below_tr B2.out b3)
  clear b3 H2 B2
  go_wp2_with fail
  refine (five_ok w3).mono ?_
  rintro e w4 ⟨rfl, b4⟩
  have H4 := Lib.hid (H3.out.below b4)
  have B4 := Lib.hid (below_tr B3.out b4)
  clear b4 H3 B3
  go_wp2_with fail
  refine (aw_set1 HTP.out HTQ.out (HT.out.below B4.out) H4.out B4.out.size).mono ?_
  rintro e w5 ⟨rfl, h5, f5⟩
  have H5 := Lib.hid h5
  have B5 := Lib.hid (Fr.below B4.out f5 (by omega) (Nat.le_refl _) B4.out.size)
  clear h5 f5 H4 B4
  go_wp2_with fail
  refine (five_ok w5).mono ?_
  rintro e w6 ⟨rfl, b6⟩
  have H6 := Lib.hid (H5.out.below b6)
  have B6 := Lib.hid (below_tr B5.out b6)
  clear b6 H5 B5
  go_wp2_with fail
  refine (aw_set2 H6.out).mono ?_
  rintro e w7 ⟨rfl, b7⟩
  have H7 := Lib.hid (H6.out.below b7)
  have B7 := Lib.hid (below_tr B6.out b7)
  clear b7 H6 B6
  go_wp2_with fail
  refine (aw_get H7.out).mono ?_
  rintro e w8 ⟨rfl, b8⟩
  have b9 := below_box0 w8 (.cells #[.int .i64 0, .int .i64 0, .int .i64 0, .bool false] 23)
  have H9 := Lib.hid ((H7.out.below b8).below b9)
  have B9 := Lib.hid (below_tr B7.out (below_tr b8 b9))
  clear b8 b9 H7 B7
  go_wp2_with fail
  refine (aw_nodes H9.out).mono ?_
  rintro e w10 ⟨rfl, rfl⟩
  go_wp2
  go_ret
  exact ⟨rfl, B9.out⟩
end
end Go.Proofs.YtfmclbacoffdaaaDoor
