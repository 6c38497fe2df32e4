/- The radix map: Set that finds no room, Get of a page without a description; the awake calls. -/
import Derived.Test.YtfmclbacoffdaaaDoorR7S
namespace Go.Proofs.YtfmclbacoffdaaaDoor
open Go.RowKit Go.Sort Go.Joins
attribute [local go_sem] cell_grow frozen_grow size_grow
section
variable {w : World} {B p q : Nat}
set_option maxRecDepth 100000 in
set_option maxHeartbeats 3200000 in
theorem set_full {X : RM} (h : TM w B p q X.st X.m X.r) {f t : Nat} (hft : f ≤ t) (ht : t ≤ 1024) (hk : ∀ k, k < 16 → (X.st.getD 0 ndZ).kd k < X.st.length) (o s c : Int) (g : Bool) (hE : pkE o s c = 0)
    (hroom : X.st.length < X.m + needF X.st (t - f) f (-1) (-1)) (hm : X.m ≤ 1000) :
    Calls Tryd.prog 32 #[.pointer (some ⟨p, 0, none⟩), .int .i64 f, .int .i64 t, dsV o s c g] w fun e w' => e = .returned (.int .i64 5) ∧ Below w.heap.size w w' := by
  have b0 := below_box0 w (.cells #[.int .i64 o, .int .i64 s, .int .i64 c, .bool g] 23)
  have h0 := h.below b0
  have H0 := Lib.hid h0
  have HPa := Lib.hid (part_ok h0 f t)
  have hpa : paE f t = 0 := by unfold paE; rw [if_neg (by omega)]
  rw [hpa] at HPa
  have HPk := Lib.hid (pack_ok o s c g)
  rw [pkV_ok hE, hE] at HPk
  have HN := Lib.hid (fun (W : World) (hb : Below (w.alloc (.cells #[.int .i64 o, .int .i64 s, .int .i64 c, .bool g] 23)).heap.size (w.alloc (.cells #[.int .i64 o, .int .i64 s, .int .i64 c, .bool g] 23)) W) => needed_ok (h0.below hb) hft ht hk)
  have hle := needF_le X.st (t - f) f (-1) (-1)
  obtain ⟨nd, hnd⟩ : ∃ z, needF X.st (t - f) f (-1) (-1) = z := ⟨_, rfl⟩
  rw [hnd] at HN hroom hle
  have hroomi : decide ((X.st.length : Int) < (X.m : Int) + (nd : Int)) = true := decide_eq_true (by omega)
  have hwn : IntKind.i64.wrap ((X.m : Int) + (nd : Int)) = (X.m : Int) + (nd : Int) := IntWalk.i64_in _ (by omega)
  have HB0 := Lib.hid b0
  clear b0 h0 h hpa hk hE hroom hnd
  go_enter Tryd.func32, Tryd.ntmps32
  go_wp2_with fail
  refine HPa.out.mono ?_
  rintro e w1 ⟨rfl, rfl⟩
  go_wp2_with fail
  refine (HPk.out _).mono ?_
  rintro e w2 ⟨rfl, b2⟩
  have B2 := Lib.hid b2
  have H2 := Lib.hid (H0.out.below b2)
  have c0 := H2.out.c0
  have c3 := H2.out.c3
  clear b2
  go_wp2_with fail
  go_quiet (first | (go_at_call 54; exact quiet_more (HN.out (w2.drewN _) (below_tr B2.out (below_draw _ _)))))
  go_wp2
  go_ret
  exact ⟨rfl, below_tr (below_tr HB0.out B2.out) (below_draw _ _)⟩
set_option maxRecDepth 100000 in
set_option maxHeartbeats 3200000 in
theorem get_none {st : List Nd} {m : Nat} {r : Nat → Bool} (h : TM w B p q st m r) {pg : Nat} (hp : pg < 1024) (hm : mdI st pg < st.length) (hl : lfI st pg < st.length) (hz : wdI st pg = 0) :
    Calls Tryd.prog 19 #[.pointer (some ⟨p, 0, none⟩), .int .i64 pg] w fun e w' => e = .returned (.tuple #[dsV 0 0 0 false, .int .i64 4]) ∧ Below w.heap.size w w' := by
  have b0 := below_box0 w (.cells #[.int .i64 0, .int .i64 0, .int .i64 0, .bool false] 23)
  have h0 := h.below b0
  have H0 := Lib.hid h0
  have hx : (w.alloc (.cells #[.int .i64 0, .int .i64 0, .int .i64 0, .bool false] 23)).heap[w.heap.size]? = some (.cells #[.int .i64 0, .int .i64 0, .int .i64 0, .bool false] 23 (0, 0)) := heap_alloc_new w _
  have HX := Lib.hid hx
  have HB0 := Lib.hid b0
  have HM := Lib.hid (made_ok h0)
  have HL := Lib.hid (leaf_ok h0 pg hp hm)
  have i0 : (0 : Int) ≤ (pg : Int) := by omega
  have d1 : decide ((pg : Int) < 0) = false := decide_eq_false (by omega)
  have d2 : decide (1024 ≤ (pg : Int)) = false := decide_eq_false (by omega)
  have hb7 := and7 pg hp
  obtain ⟨md, hmd⟩ : ∃ z, mdI st pg = z := ⟨_, rfl⟩
  have hww : lfI st pg ≠ 0 → (st.getD (lfI st pg) ndZ).wd (pg % 8) = 0 := fun hne => by
    unfold wdI at hz
    rw [if_neg hne] at hz; exact hz
  obtain ⟨lf, hlf⟩ : ∃ z, lfI st pg = z := ⟨_, rfl⟩
  rw [hmd, hlf] at HL
  rw [hlf] at hl hww
  have HW := Lib.hid hww
  have j0 : (0 : Int) ≤ (lf : Int) := by omega
  have j1 : (lf : Int) < (st.length : Int) := by omega
  clear b0 h0 h hx hm hmd hlf hz hww
  go_enter Tryd.func19, Tryd.ntmps19
  go_wp2_with fail
  refine HM.out.mono ?_
  rintro e w1 ⟨rfl, rfl⟩
  go_wp2_with fail
  refine HL.out.mono ?_
  rintro e w2 ⟨rfl, n2, hn2⟩
  have hb2 : Below (w.alloc (.cells #[.int .i64 0, .int .i64 0, .int .i64 0, .bool false] 23)).heap.size (w.alloc (.cells #[.int .i64 0, .int .i64 0, .int .i64 0, .bool false] 23)) w2 := by rw [hn2]; exact below_draw _ _
  have HB2 := Lib.hid (below_tr HB0.out hb2)
  have H2 := Lib.hid (H0.out.below hb2)
  have hx2 := (hb2.block _ (blk_lt HX.out)).trans HX.out
  have y0 : w2.cell? ⟨w.heap.size, 0, none⟩ = some (.int .i64 0) := by rw [cell_of_block hx2]; rfl
  have y1 : w2.cell? ⟨w.heap.size, 1, none⟩ = some (.int .i64 0) := by rw [cell_of_block hx2]; rfl
  have y2 : w2.cell? ⟨w.heap.size, 2, none⟩ = some (.int .i64 0) := by rw [cell_of_block hx2]; rfl
  have y3 : w2.cell? ⟨w.heap.size, 3, none⟩ = some (.bool false) := by rw [cell_of_block hx2]; rfl
  have yf : ∀ j, w2.frozen? ⟨w.heap.size, j, none⟩ = false := fun j => unfrozen_of_block hx2 j
  have c0 := H2.out.c0
  have s0 := H2.out.wd hl (show pg % 8 < 8 by omega)
  have HS4 : Hid (∀ a b c d, Below w.heap.size w ((((w2.setCell ⟨w.heap.size, 0, none⟩ a).setCell ⟨w.heap.size, 1, none⟩ b).setCell ⟨w.heap.size, 2, none⟩ c).setCell ⟨w.heap.size, 3, none⟩ d)) := Lib.hid (fun a b c d => (((HB2.out.setCell (p := ⟨w.heap.size, 0, none⟩) (Nat.le_refl _) a).setCell (p := ⟨w.heap.size, 1, none⟩) (Nat.le_refl _) b).setCell (p := ⟨w.heap.size, 2, none⟩) (Nat.le_refl _) c).setCell (p := ⟨w.heap.size, 3, none⟩) (Nat.le_refl _) d)
  clear hn2 hb2 hx2
  by_cases hz : lf = 0
  · have dz : ((lf : Int) == 0) = true := by simp; omega
    clear hz
    go_wp2
    exact bodyPost_ret (v := .tuple #[dsV 0 0 0 false, .int .i64 4]) (by simp [results, Tryd.results19, go_sem, y0, y1, y2, y3, yf]) rfl ⟨rfl, HS4.out _ _ _ _⟩
  · have dz : ((lf : Int) == 0) = false := by simp; omega
    rw [HW.out hz] at s0
    clear hz
    go_wp2
    exact bodyPost_ret (v := .tuple #[dsV 0 0 0 false, .int .i64 4]) (by simp [results, Tryd.results19, go_sem, y0, y1, y2, y3, yf]) rfl ⟨rfl, HS4.out _ _ _ _⟩
set_option maxRecDepth 100000 in
theorem five_ok (w : World) : Calls Tryd.prog 33 #[] w fun e w' => e = .returned (dsV 5 1 3 false) ∧ Below w.heap.size w w' := by
  have HB := Lib.hid (below_box0 w (.cells #[.int .i64 5, .int .i64 1, .int .i64 3, .bool false] 23))
  go_enter Tryd.func33, Tryd.ntmps33
  go_wp2
  exact bodyPost_ret (v := dsV 5 1 3 false) (by simp [results, Tryd.results33, go_sem]) rfl ⟨rfl, HB.out⟩
end
end Go.Proofs.YtfmclbacoffdaaaDoor
