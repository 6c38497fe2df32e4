/- Handles: HandlesKnown returns true: the examples of the document. -/
import Derived.Test.YtpaecmpiokkdnaaDoorHTabStr
import Derived.Test.YtpaecmpiokkdnaaDoorHSaveStr
import Derived.Test.YtpaecmpiokkdnaaDoorHAwake
namespace Go.Proofs.YtpaecmpiokkdnaaDoor
open Go.RowKit Go.Sort Go.Joins
attribute [local go_sem] cell_grow frozen_grow size_grow

theorem kget (h : Int) (st : List Slt) {B p q : Nat} (w : World) (H : Str.TT w B p q st) (he : findE st h = 4) : Calls Tryd.prog 32 #[.pointer (some ⟨p, 0, none⟩), .int .i64 h] w fun e w' => e = .returned (.tuple #[Z0, .int .i64 4]) ∧ w = w' := by
  have := Str.get_err h w H (by rw [he]; decide)
  rwa [he] at this
section
variable {B p q : Nat} {w : World}
abbrev KS (w : World) (B p q : Nat) (st : List Slt) : Prop := Str.TT w B p q st
theorem kput1 (h : KS w B p q aw0) (hT : Tab w) : Calls Tryd.prog 30 #[.pointer (some ⟨p, 0, none⟩), SA] w fun e w' => e = .returned (.tuple #[.int .i64 65536, .int .i64 0]) ∧ KS w' B p q aw1 ∧ Fr p q w w' :=
  (Str.tput_ok 0 ⟨#[97]⟩ w h hT (by decide) (by decide)).mono fun _ _ ⟨he, ht, hf⟩ => ⟨he.trans rfl, ht, hf⟩
theorem kput2 (h : KS w B p q aw1) (hT : Tab w) : Calls Tryd.prog 30 #[.pointer (some ⟨p, 0, none⟩), SB] w fun e w' => e = .returned (.tuple #[.int .i64 65537, .int .i64 0]) ∧ KS w' B p q aw2 ∧ Fr p q w w' :=
  (Str.tput_ok 1 ⟨#[98]⟩ w h hT (by decide) (by decide)).mono fun _ _ ⟨he, ht, hf⟩ => ⟨he.trans rfl, ht, hf⟩
theorem kdrop (h : KS w B p q aw2) : Calls Tryd.prog 31 #[.pointer (some ⟨p, 0, none⟩), .int .i64 65536] w fun e w' => e = .returned (.tuple #[SA, .int .i64 0]) ∧ KS w' B p q aw3 ∧ Fr p q w w' :=
  (Str.tdrop_ok 65536 0 w h afind2 slot_65536).mono fun _ _ ⟨he, ht, hf⟩ => ⟨he.trans rfl, ht, hf⟩
theorem kput4 (h : KS w B p q aw3) (hT : Tab w) : Calls Tryd.prog 30 #[.pointer (some ⟨p, 0, none⟩), SC] w fun e w' => e = .returned (.tuple #[.int .i64 131072, .int .i64 0]) ∧ KS w' B p q aw4 ∧ Fr p q w w' :=
  (Str.tput_ok 0 ⟨#[99]⟩ w h hT (by decide) (by decide)).mono fun _ _ ⟨he, ht, hf⟩ => ⟨he.trans rfl, ht, hf⟩
theorem kfind5 : findE aw4 131072 = 0 := by unfold findE atH; rw [show slotI 131072 = 0 by decide, show numI 131072 = 2 by decide]; decide
theorem kfind6 : findE aw4 0 = 4 := by unfold findE atH; rw [show slotI 0 = -1 by decide, show numI 0 = 0 by decide]; decide
theorem kfind7 : findE aw4 65538 = 4 := by unfold findE atH; rw [show slotI 65538 = 2 by decide, show numI 65538 = 1 by decide]; decide
theorem kfind8 : findE aw4 196608 = 4 := by unfold findE atH; rw [show slotI 196608 = 0 by decide, show numI 196608 = 3 by decide]; decide
theorem kget5 (h : KS w B p q aw4) : Calls Tryd.prog 32 #[.pointer (some ⟨p, 0, none⟩), .int .i64 131072] w fun e w' => e = .returned (.tuple #[SC, .int .i64 0]) ∧ w = w' := by
  have := Str.get_ok 131072 w h kfind5
  rw [show slotI 131072 = 0 by decide] at this
  exact this
theorem knew (w : World) : Calls Tryd.prog 29 #[.int .i64 2] w fun e w' => e = .returned (.tuple #[.pointer (some ⟨w.heap.size + 1, 0, none⟩), .int .i64 0]) ∧ KS w' w.heap.size (w.heap.size + 1) w.heap.size aw0 ∧ Below w.heap.size w w' :=
  (Str.tnew_ok 2 w (by decide) (by decide)).mono fun _ _ h => h
theorem kslot (w : World) : Calls Tryd.prog 11 #[.int .i64 131073] w fun e w' => e = .returned (.tuple #[.int .i64 1, .int .i64 2]) ∧ w = w' := by
  have := slot_ok 131073 w
  rwa [show slotI 131073 = 1 by decide, show numI 131073 = 2 by decide] at this
theorem ksave (h : KS w B p q aw4) : Calls Tryd.prog 33 #[.pointer (some ⟨p, 0, none⟩)] w fun e w' => ∃ gb go gc ab ao ac va vc, e = .returned (.agg #[.slice (some ⟨gb, go, none⟩) 2 gc, .slice (some ⟨ab, ao, none⟩) 2 ac, .slice va 2 vc]) ∧
    (w'.cell? ⟨gb, go + 0, none⟩ = some (.int .i64 2) ∧ w'.cell? ⟨gb, go + 1, none⟩ = some (.int .i64 1)) ∧ (w'.cell? ⟨ab, ao + 0, none⟩ = some (.bool true) ∧ w'.cell? ⟨ab, ao + 1, none⟩ = some (.bool true)) ∧ Below w.heap.size w w' := by
  refine (Str.save_ok w h (fun j hj => ?_)).mono ?_
  · match j, hj with
    | 0, _ => exact ⟨_, rfl⟩
    | 1, _ => exact ⟨_, rfl⟩
  · rintro e w' ⟨x, rfl, ⟨ga, gc, aa, ac, va, vc, rfl, hr⟩, hb⟩
    obtain ⟨gb, go, rfl, hg⟩ := hr.g.resolve_left (by decide)
    obtain ⟨ab, ao, rfl, ha⟩ := hr.a.resolve_left (by decide)
    exact ⟨gb, go, gc, ab, ao, ac, va, vc, rfl, ⟨hg 0 (by decide), hg 1 (by decide)⟩, ⟨ha 0 (by decide), ha 1 (by decide)⟩, hb⟩
theorem slF_one {b : Nat} {f : Nat → Value} (h : w.cell? ⟨b, 0, none⟩ = some (f 0)) : SlF w (some ⟨b, 0, none⟩) 1 f := .inr ⟨b, 0, rfl, fun j hj => by
  obtain rfl : j = 0 := by omega
  exact h⟩
abbrev SX : Value := .string ⟨#[120]⟩
def sp0 : List Slt := [(65535, false, Z0)]
theorem kload {gb ab vb : Nat} (hg : w.cell? ⟨gb, 0, none⟩ = some (.int .i64 65535)) (ha : w.cell? ⟨ab, 0, none⟩ = some (.bool false)) (hv : w.cell? ⟨vb, 0, none⟩ = some SX) :
    Calls Tryd.prog 34 #[.agg #[.slice (some ⟨gb, 0, none⟩) 1 1, .slice (some ⟨ab, 0, none⟩) 1 1, .slice (some ⟨vb, 0, none⟩) 1 1]] w fun e w' => ∃ p q, e = .returned (.tuple #[.pointer (some ⟨p, 0, none⟩), .int .i64 0]) ∧ KS w' w.heap.size p q sp0 ∧ Below w.heap.size w w' :=
  Str.load_ok (G := fun _ => 65535) (A := fun _ => false) (V := fun _ => SX) w (slF_one hg) (slF_one ha) (slF_one hv) (fun _ => ⟨_, rfl⟩)
    (hc_good (G := fun _ => 65535) (A := fun _ => false) (n := 1) (by decide) (fun j _ => by simp [badS])).2.symm
theorem kroom (h : KS w B p q sp0) : Calls Tryd.prog 35 #[.pointer (some ⟨p, 0, none⟩)] w fun e w' => e = .returned (.int .i64 0) ∧ Below w.heap.size w w' :=
  (Str.room_ok w h).mono fun _ _ ⟨he, hb⟩ => ⟨he.trans (by rw [show cnt (rdyF sp0) 0 sp0.length = 0 by decide]; rfl), hb⟩
theorem kfull (h : KS w B p q sp0) (hT : Tab w) : Calls Tryd.prog 30 #[.pointer (some ⟨p, 0, none⟩), .string ⟨#[100]⟩] w fun e w' => e = .returned (.tuple #[.int .i64 0, .int .i64 5]) ∧ Below w.heap.size w w' :=
  Str.tput_full ⟨#[100]⟩ w h hT (by decide)
end

set_option maxRecDepth 100000 in
set_option maxHeartbeats 3200000 in
theorem law_known (w : World) (hT : Tab w) :
    Calls Tryd.prog 7 #[] w fun e w' => e = .returned (.bool true) ∧ Below w.heap.size w w' := by
  have hTl := hT.lt
  have HT := Lib.hid hT
  have HTl := Lib.hid hTl
  clear hT hTl
  go_enter Tryd.func7, Tryd.ntmps7
  go_wp2_with fail
  refine (knew _).mono ?_
  rintro e w1 ⟨rfl, t1, b1⟩
  have HB1 := Lib.hid b1
  have X1 := Lib.hid (HT.out.below b1)
  have T1 := Lib.hid t1
  clear t1 b1
  go_wp2_with fail
  refine (kput1 T1.out X1.out).mono ?_
  rintro e w2 ⟨rfl, t2, f2⟩
  have X2 := Lib.hid (X1.out.fr f2 (by have := HTl.out; omega) (by have := HTl.out; omega))
  have T2 := Lib.hid t2
  have F2 := Lib.hid f2
  clear t2 f2
  go_wp2_with fail
  refine (kput2 T2.out X2.out).mono ?_
  rintro e w3 ⟨rfl, t3, f3⟩
  have X3 := Lib.hid (X2.out.fr f3 (by have := HTl.out; omega) (by have := HTl.out; omega))
  have T3 := Lib.hid t3
  have F3 := Lib.hid (F2.out.trans f3)
  clear t3 f3
  go_wp2_with fail
  refine (kdrop T3.out).mono ?_
  rintro e w5 ⟨rfl, t5, f5⟩
  have X5 := Lib.hid (X3.out.fr f5 (by have := HTl.out; omega) (by have := HTl.out; omega))
  have T5 := Lib.hid t5
  have F5 := Lib.hid (F3.out.trans f5)
  clear t5 f5
  go_wp2_with fail
  refine (kput4 T5.out X5.out).mono ?_
  rintro e w6 ⟨rfl, t6, f6⟩
  have X6 := Lib.hid (X5.out.fr f6 (by have := HTl.out; omega) (by have := HTl.out; omega))
  have T6 := Lib.hid t6
  have F6 := Lib.hid (F5.out.trans f6)
  clear t6 f6
  have HB6 := Lib.hid (Fr.below HB1.out F6.out (by omega) (Nat.le_refl _) HB1.out.size)
  go_wp2_with fail
  refine (kget5 T6.out).mono ?_
  rintro e w7 ⟨rfl, rfl⟩
  go_wp2_with fail
  refine (kget 0 aw4 _ T6.out kfind6).mono ?_
  rintro e w7 ⟨rfl, rfl⟩
  go_wp2_with fail
  refine (kget 65538 aw4 _ T6.out kfind7).mono ?_
  rintro e w7 ⟨rfl, rfl⟩
  go_wp2_with fail
  refine (kget 196608 aw4 _ T6.out kfind8).mono ?_
  rintro e w7 ⟨rfl, rfl⟩
  go_wp2_with fail
  refine (kslot _).mono ?_
  rintro e w7 ⟨rfl, rfl⟩
  go_wp2_with fail
  refine (ksave T6.out).mono ?_
  rintro e w7 ⟨gb, go, gc, ab, ao, ac, va, vc, rfl, ⟨g0, g1⟩, ⟨a0, a1⟩, b7⟩
  have lg := World.block_lt_of_cell? _ _ g0
  have la := World.block_lt_of_cell? _ _ a0
  dsimp only at lg la
  rw [Nat.add_zero] at g0 a0
  have HB7 := Lib.hid (HB6.out.trans (b7.mono HB6.out.size))
  have X7 := Lib.hid (X6.out.below b7)
  clear b7
  go_wp2_with fail
  refine (kload (by simp [go_sem]) (by simp [go_sem]) (by simp [go_sem])).mono ?_
  rintro e w8 ⟨p8, q8, rfl, t8, b8⟩
  have T8 := Lib.hid t8
  have HB8 := Lib.hid b8
  clear t8 b8
  have key : Below w.heap.size w w8 ∧ Tab w8 := by
    have c := ((((Below.refl w7.heap.size w7).alloc (Nat.le_refl _) (.cells #[.slice (some ⟨gb, go, none⟩) 2 gc, .slice (some ⟨ab, ao, none⟩) 2 ac, .slice va 2 vc] 67)).alloc (by simp) (.cells #[.int .i64 65535] 3)).alloc (by simp; omega) (.cells #[.bool false] 4)).alloc (by simp; omega) (.cells #[.string ⟨#[120]⟩] 9)
    have hb7 : Below w7.heap.size w7 w8 := c.trans (HB8.out.mono (by simp; omega))
    exact ⟨HB7.out.trans (hb7.mono HB7.out.size), X7.out.below hb7⟩
  have K8 := Lib.hid key
  clear key
  go_wp2_with fail
  refine (kroom T8.out).mono ?_
  rintro e w9 ⟨rfl, b9⟩
  have T9 := Lib.hid (T8.out.below b9)
  have K9 := Lib.hid (And.intro (K8.out.1.trans (b9.mono K8.out.1.size)) (K8.out.2.below b9))
  clear b9
  go_wp2_with fail
  refine (kfull T9.out K9.out.2).mono ?_
  rintro e w10 ⟨rfl, b10⟩
  have K10 := Lib.hid (And.intro (K9.out.1.trans (b10.mono K9.out.1.size)) (K9.out.2.below b10))
  clear b10
  go_wp2_with fail
  refine (awake_ok _ K10.out.2).mono ?_
  rintro e w11 ⟨rfl, b11⟩
  have K11 := Lib.hid (K10.out.1.trans (b11.mono K10.out.1.size))
  clear b11
  go_wp2
  go_ret
  exact ⟨rfl, K11.out⟩
end Go.Proofs.YtpaecmpiokkdnaaDoor
