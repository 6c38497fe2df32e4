/- Refusals: RefusalsSteps returns true. -/
import Derived.Test.YtpjhedkloljpjaaDoorRRLawStepsM
namespace Go.Proofs.YtpjhedkloljpjaaDoorRR
open Go.RowKit Go.Sort Go.Joins Go.Shelf
attribute [local go_sem] cell_grow frozen_grow size_grow
set_option maxRecDepth 100000 in
set_option maxHeartbeats 6400000 in
theorem stepsC (a : Option Addr) (n c : Nat) (R : Nat → Rl) (C H : Nat → Int) (q : Int) (w : World) (w6 : World) (g5 g7 : Nat) (a5 : Option Addr) (c5 : Nat) (a7 : Option Addr) (c7 N : Nat) (v1 v2 : Int) (w7 w9 V10 : World) (aa : Option Addr) (ca : Nat) (bb : Option Addr) (cb M : Nat) (D J : Nat → Int) (v3 : Bool) (v4 : Int)
    (hS : SlR w a n R) (hn : n ≤ 9223372036854775807) (hT : T5 w) (hA : StpB w V10 a n c R C H g5 g7 aa ca bb cb M D J) :
    (stepsB a n c R C H q w w6 g5 g7 a5 c5 a7 c7 N v1 v2).1 w7 w9 V10 aa ca bb cb M D J v3 v4 := by
  have hL := rsO_le n R C H hn
  have hM : M ≤ 9223372036854775807 := Nat.le_trans hA.m hn
  have HS00 := Lib.hid hS
  have HT00 := Lib.hid hT
  have HRE : Hid (∀ (w : World), SlR w a n R → _) := Lib.hid (fun w h => Rest_ok (w := w) (c := c) (C := C) (H := H) h hn)
  have HRRE : Hid (∀ (w : World), SlR w a n R → _) := Lib.hid (fun w h => rRest_ok (w := w) (c := c) (C := C) (H := H) h hn)
  obtain ⟨L, hL0⟩ : ∃ L, rsO n R C H = L := ⟨_, rfl⟩
  obtain ⟨v5, hv5⟩ : ∃ v, csE n R C H = v := ⟨_, rfl⟩
  rw [hL0] at hL
  rw [hL0, hv5] at HRE HRRE
  have HB10 := Lib.hid hA.b
  have HN10 := Lib.hid hA.o
  have HX10 := Lib.hid hA.x
  have HY10 := Lib.hid hA.y
  have hl2 := hA.l5
  have h24 := hA.l7
  have HA10 := Lib.hid hA.ra
  have HC10 := Lib.hid hA.rb
  have hMn := hA.m
  have HT10 := Lib.hid (HT00.out.below HB10.out)
  have HS10 := Lib.hid (HS00.out.below HB10.out)
  clear hS hT hA hL0 hv5
  unfold stepsB
  dsimp only
  obtain ⟨s0, s1, s2, s3, s4, s5, s6, s7, s8, s9, s10, s11, s12, s13, s14⟩ := HN10.out.cells
  go_wp2_with fail
  refine (HRE.out _ HS10.out).mono ?_
  clear s0 s1 s2 s3 s4 s5 s6 s7 s8 s9 s10 s11 s12 s13 s14
  rintro e w11 ⟨a11, c11, rfl, hL11, b11⟩
  have HB11 := Lib.hid (below_tr HB10.out b11)
  have HT11 := Lib.hid (HT10.out.below b11)
  have HS11 := Lib.hid (HS10.out.below b11)
  have HN11 := Lib.hid (HN10.out.below b11)
  have HX11 := Lib.hid (HX10.out.below b11)
  have HY11 := Lib.hid (HY10.out.below b11)
  have HA11 := Lib.hid (HA10.out.below b11)
  have HC11 := Lib.hid (HC10.out.below b11)
  obtain ⟨s0, s1, s2, s3, s4, s5, s6, s7, s8, s9, s10, s11, s12, s13, s14⟩ := HN11.out.cells
  have hl11 : w.heap.size < w11.heap.size := HN11.out.lt
  have b12 := below_box0 w11 (.cells #[.slice a11 L.length c11] 24)
  have HB12 := Lib.hid (below_tr HB11.out b12)
  have HT12 := Lib.hid (HT11.out.below b12)
  have HS12 := Lib.hid (HS11.out.below b12)
  have HN12 := Lib.hid (HN11.out.below b12)
  have HX12 := Lib.hid (HX11.out.below b12)
  have HY12 := Lib.hid (HY11.out.below b12)
  have HA12 := Lib.hid (HA11.out.below b12)
  have HC12 := Lib.hid (HC11.out.below b12)
  have HP12 := Lib.hid (hL11.below b12)
  have HQ12 : Hid (BoxP (w11.alloc (.cells #[.slice a11 L.length c11] 24)) w11.heap.size a11 L.length c11) := Lib.hid (heap_alloc_new w11 _)
  clear b11 b12 hL11
  go_wp2_with fail
  refine (HRRE.out _ HS12.out).mono ?_
  clear s0 s1 s2 s3 s4 s5 s6 s7 s8 s9 s10 s11 s12 s13 s14
  rintro e w13 ⟨a13, c13, rfl, hL13, b13⟩
  have HB13 := Lib.hid (below_tr HB12.out b13)
  have HT13 := Lib.hid (HT12.out.below b13)
  have HS13 := Lib.hid (HS12.out.below b13)
  have HN13 := Lib.hid (HN12.out.below b13)
  have HX13 := Lib.hid (HX12.out.below b13)
  have HY13 := Lib.hid (HY12.out.below b13)
  have HA13 := Lib.hid (HA12.out.below b13)
  have HC13 := Lib.hid (HC12.out.below b13)
  have HP13 := Lib.hid (HP12.out.below b13)
  have HQ13 : Hid (BoxP w13 w11.heap.size a11 L.length c11) := Lib.hid ((b13.block _ (blk_lt HQ12.out)).trans HQ12.out)
  obtain ⟨s0, s1, s2, s3, s4, s5, s6, s7, s8, s9, s10, s11, s12, s13, s14⟩ := HX13.out.cells
  obtain ⟨r0, r1, r2, r3, r4, r5, r6, r7, r8, r9, r10, r11, r12, r13, r14⟩ := HY13.out.cells
  have h513 : g5 < w13.heap.size := HX13.out.lt
  have h713 : g7 < w13.heap.size := HY13.out.lt
  have b14 := below_box0 w13 (.cells #[.slice a13 L.length c13] 24)
  have HB14 := Lib.hid (below_tr HB13.out b14)
  have HT14 := Lib.hid (HT13.out.below b14)
  have HS14 := Lib.hid (HS13.out.below b14)
  have HN14 := Lib.hid (HN13.out.below b14)
  have HX14 := Lib.hid (HX13.out.below b14)
  have HY14 := Lib.hid (HY13.out.below b14)
  have HA14 := Lib.hid (HA13.out.below b14)
  have HC14 := Lib.hid (HC13.out.below b14)
  have HP14 := Lib.hid (HP13.out.below b14)
  have HO14 := Lib.hid (hL13.below b14)
  have HQ14 : Hid (BoxP (w13.alloc (.cells #[.slice a13 L.length c13] 24)) w11.heap.size a11 L.length c11) := Lib.hid ((b14.block _ (blk_lt HQ13.out)).trans HQ13.out)
  have HQ14' : Hid (BoxP (w13.alloc (.cells #[.slice a13 L.length c13] 24)) w13.heap.size a13 L.length c13) := Lib.hid (heap_alloc_new w13 _)
  clear b13 b14 hL13
  go_wp2_with fail
  have HSS2 := Lib.hid (sameState_ok (c := ca) (d := cb) (C := D) (H := J) (D := D) (J := J) HA14.out hM HC14.out hM)
  rw [ssB_self] at HSS2
  refine HSS2.out.mono ?_
  clear s0 s1 s2 s3 s4 s5 s6 s7 s8 s9 s10 s11 s12 s13 s14 r0 r1 r2 r3 r4 r5 r6 r7 r8 r9 r10 r11 r12 r13 r14
  rintro e w15 ⟨rfl, b15⟩
  have HB15 := Lib.hid (below_tr HB14.out b15)
  have HT15 := Lib.hid (HT14.out.below b15)
  have HS15 := Lib.hid (HS14.out.below b15)
  have HN15 := Lib.hid (HN14.out.below b15)
  have HP15 := Lib.hid (HP14.out.below b15)
  have HO15 := Lib.hid (HO14.out.below b15)
  have p0 : w15.cell? ⟨w11.heap.size, 0, none⟩ = some (.slice a11 L.length c11) := by rw [cell_of_block ((b15.block _ (blk_lt HQ14.out)).trans HQ14.out)]; rfl
  have p1 : w15.cell? ⟨w13.heap.size, 0, none⟩ = some (.slice a13 L.length c13) := by rw [cell_of_block ((b15.block _ (blk_lt HQ14'.out)).trans HQ14'.out)]; rfl
  clear b15
  go_wp2_with fail
  have HSP := Lib.hid (samePlan_ok (c := c11) (d := c13) HP15.out hL HO15.out hL)
  rw [spB_yes (fun _ _ => rfl)] at HSP
  refine HSP.out.mono ?_
  rintro e w16 ⟨rfl, b16⟩
  have HB16 := Lib.hid (below_tr HB15.out b16)
  have HT16 := Lib.hid (HT15.out.below b16)
  clear b16
  go_wp2_with fail
  refine (shown_ok _ HT16.out).mono ?_
  rintro e w17 ⟨rfl, b17⟩
  have HB17 := Lib.hid (below_tr HB16.out b17)
  clear b17
  go_wp2
  go_ret
  exact ⟨rfl, HB17.out⟩
theorem law_steps {a : Option Addr} {n c : Nat} {R : Nat → Rl} {C H : Nat → Int} (q : Int) (w : World) (hS : SlR w a n R) (hn : n ≤ 9223372036854775807) (hT : T5 w) (hw : wideB n C = false) :
    Calls Tryd.prog 7 #[sV a n c C H, .int .i64 q] w fun e w' => e = .returned (.bool true) ∧ Below w.heap.size w w' :=
  (stepsA a n c R C H q w).2 (fun w6 g5 g7 a5 c5 a7 c7 N v1 v2 hA => (stepsB a n c R C H q w w6 g5 g7 a5 c5 a7 c7 N v1 v2).2 (fun w7 w9 V aa ca bb cb M D J v3 v4 hB => stepsC a n c R C H q w w6 g5 g7 a5 c5 a7 c7 N v1 v2 w7 w9 V aa ca bb cb M D J v3 v4 hS hn hT hB) hS hn hT hA) hS hn hT hw
end Go.Proofs.YtpjhedkloljpjaaDoorRR
