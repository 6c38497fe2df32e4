/- Handles: awake returns true. -/
import Derived.Test.YtpaecmpiokkdnaaDoorHNewStr
import Derived.Test.YtpaecmpiokkdnaaDoorHPutStr
import Derived.Test.YtpaecmpiokkdnaaDoorHGetStr
namespace Go.Proofs.YtpaecmpiokkdnaaDoor
open Go.RowKit Go.Sort Go.Joins
attribute [local go_sem] cell_grow frozen_grow size_grow

theorem Tab.fr {p q : Nat} {w w' : World} (h : Tab w) (k : Fr p q w w') (hp : 0 ≠ p) (hq : 0 ≠ q) : Tab w' := fun i hi => by
  have h0 := World.block_lt_of_cell? _ _ (h i hi)
  rw [World.cell?_of_block (w := w) (k.block 0 h0 hp hq)]
  exact h i hi
theorem Tab.lt {w : World} (h : Tab w) : 0 < w.heap.size := World.block_lt_of_cell? _ _ (h 0 (by decide))

abbrev Z0 : Value := .string ⟨#[]⟩
abbrev SA : Value := .string ⟨#[97]⟩
abbrev SB : Value := .string ⟨#[98]⟩
abbrev SC : Value := .string ⟨#[99]⟩
def aw0 : List Slt := [(0, false, Z0), (0, false, Z0)]
def aw1 : List Slt := [(1, true, SA), (0, false, Z0)]
def aw2 : List Slt := [(1, true, SA), (1, true, SB)]
def aw3 : List Slt := [(1, false, Z0), (1, true, SB)]
def aw4 : List Slt := [(2, true, SC), (1, true, SB)]
def ar0 : Nat → Bool := fun i => decide (i < 2)
def ar1 : Nat → Bool := filled ar0 0 1 false
def ar2 : Nat → Bool := filled ar1 1 2 false
def ar3 : Nat → Bool := filled ar2 0 1 (rdy (1, false, Z0))
def ar4 : Nat → Bool := filled ar3 0 1 false
theorem slot_65536 : slotI 65536 = 0 := by decide
theorem num_65536 : numI 65536 = 1 := by decide

section
variable {B p q : Nat} {w : World}
abbrev TS (w : World) (B p q : Nat) (st : List Slt) (m : Nat) (r : Nat → Bool) : Prop := Tb 114 117 w B p q st m r
theorem aput1 (h : TS w B p q aw0 0 ar0) (hT : Tab w) : Calls Tryd.prog 30 #[.pointer (some ⟨p, 0, none⟩), SA] w fun e w' => e = .returned (.tuple #[.int .i64 65536, .int .i64 0]) ∧ TS w' B p q aw1 1 ar1 ∧ Fr p q w w' :=
  (Str.put_ok 0 0 ⟨#[97]⟩ w h hT (by decide) (by decide) rfl (by decide) (by decide)).mono fun _ _ ⟨he, ht, hf⟩ => ⟨he.trans rfl, ht, hf⟩
theorem aput2 (h : TS w B p q aw1 1 ar1) (hT : Tab w) : Calls Tryd.prog 30 #[.pointer (some ⟨p, 0, none⟩), SB] w fun e w' => e = .returned (.tuple #[.int .i64 65537, .int .i64 0]) ∧ TS w' B p q aw2 2 ar2 ∧ Fr p q w w' :=
  (Str.put_ok 1 0 ⟨#[98]⟩ w h hT (by decide) (by decide) rfl (by decide) (by decide)).mono fun _ _ ⟨he, ht, hf⟩ => ⟨he.trans rfl, ht, hf⟩
theorem aput3 (h : TS w B p q aw2 2 ar2) (hT : Tab w) : Calls Tryd.prog 30 #[.pointer (some ⟨p, 0, none⟩), SC] w fun e w' => e = .returned (.tuple #[.int .i64 0, .int .i64 5]) ∧ Below w.heap.size w w' :=
  Str.put_full ⟨#[99]⟩ w h hT (by decide)
theorem afind2 : findE aw2 65536 = 0 := by
  unfold findE atH; rw [slot_65536, num_65536]; decide
theorem adrop (h : TS w B p q aw2 2 ar2) : Calls Tryd.prog 31 #[.pointer (some ⟨p, 0, none⟩), .int .i64 65536] w fun e w' => e = .returned (.tuple #[SA, .int .i64 0]) ∧ TS w' B p q aw3 1 ar3 ∧ Fr p q w w' :=
  (Str.drop_ok (m := 1) 65536 0 1 w h afind2 slot_65536 rfl (by decide)).mono fun _ _ ⟨he, ht, hf⟩ => ⟨he.trans rfl, ht, hf⟩
theorem aput4 (h : TS w B p q aw3 1 ar3) (hT : Tab w) : Calls Tryd.prog 30 #[.pointer (some ⟨p, 0, none⟩), SC] w fun e w' => e = .returned (.tuple #[.int .i64 131072, .int .i64 0]) ∧ TS w' B p q aw4 2 ar4 ∧ Fr p q w w' :=
  (Str.put_ok 0 1 ⟨#[99]⟩ w h hT (by decide) (by decide) rfl (by decide) (by decide)).mono fun _ _ ⟨he, ht, hf⟩ => ⟨he.trans rfl, ht, hf⟩
theorem afind4 : findE aw4 65536 = 160 := by
  unfold findE atH; rw [slot_65536, num_65536]; decide
theorem aget (h : TS w B p q aw4 2 ar4) : Calls Tryd.prog 32 #[.pointer (some ⟨p, 0, none⟩), .int .i64 65536] w fun e w' => e = .returned (.tuple #[Z0, .int .i64 160]) ∧ w = w' := by
  have := Str.get_err 65536 w h (by rw [afind4]; decide)
  rwa [afind4] at this
theorem anew (w : World) : Calls Tryd.prog 29 #[.int .i64 2] w fun e w' => e = .returned (.tuple #[.pointer (some ⟨w.heap.size + 1, 0, none⟩), .int .i64 0]) ∧ TS w' w.heap.size (w.heap.size + 1) w.heap.size aw0 0 ar0 ∧ Below w.heap.size w w' :=
  (Str.new_ok 2 w (by decide) (by decide)).mono fun _ _ h => h
end

set_option maxRecDepth 100000 in
set_option maxHeartbeats 1600000 in
theorem awake_ok (w : World) (hT : Tab w) :
    Calls Tryd.prog 15 #[] w fun e w' => e = .returned (.bool true) ∧ Below w.heap.size w w' := by
  have hTl := hT.lt
  have HT := Lib.hid hT
  have HTl := Lib.hid hTl
  clear hT hTl
  go_enter Tryd.func15, Tryd.ntmps15
  go_wp2_with fail
  refine (anew _).mono ?_
  rintro e w1 ⟨rfl, t1, b1⟩
  have HB1 := Lib.hid b1
  have X1 := Lib.hid (HT.out.below b1)
  have T1 := Lib.hid t1
  clear t1 b1
  go_wp2_with fail
  refine (aput1 T1.out X1.out).mono ?_
  rintro e w2 ⟨rfl, t2, f2⟩
  have X2 := Lib.hid (X1.out.fr f2 (by have := HTl.out; omega) (by have := HTl.out; omega))
  have T2 := Lib.hid t2
  have F2 := Lib.hid f2
  clear t2 f2
  go_wp2_with fail
  refine (aput2 T2.out X2.out).mono ?_
  rintro e w3 ⟨rfl, t3, f3⟩
  have X3 := Lib.hid (X2.out.fr f3 (by have := HTl.out; omega) (by have := HTl.out; omega))
  have T3 := Lib.hid t3
  have F3 := Lib.hid (F2.out.trans f3)
  clear t3 f3
  go_wp2_with fail
  refine (aput3 T3.out X3.out).mono ?_
  rintro e w4 ⟨rfl, b4⟩
  have X4 := Lib.hid (X3.out.below b4)
  have T4 := Lib.hid (T3.out.below b4)
  have F4 := Lib.hid (F3.out.trans (Fr.of_below b4))
  clear b4
  go_wp2_with fail
  refine (adrop T4.out).mono ?_
  rintro e w5 ⟨rfl, t5, f5⟩
  have X5 := Lib.hid (X4.out.fr f5 (by have := HTl.out; omega) (by have := HTl.out; omega))
  have T5 := Lib.hid t5
  have F5 := Lib.hid (F4.out.trans f5)
  clear t5 f5
  go_wp2_with fail
  refine (aput4 T5.out X5.out).mono ?_
  rintro e w6 ⟨rfl, t6, f6⟩
  have T6 := Lib.hid t6
  have F6 := Lib.hid (F5.out.trans f6)
  clear t6 f6
  go_wp2_with fail
  refine (aget T6.out).mono ?_
  rintro e w7 ⟨rfl, rfl⟩
  go_wp2
  go_ret
  exact ⟨rfl, Fr.below HB1.out F6.out (by omega) (Nat.le_refl _) HB1.out.size⟩
end Go.Proofs.YtpaecmpiokkdnaaDoor
