/- Words: Split of the reference. | Words: Lines of the reference. | Words: the texts of a list of numbers, the shortest and first of them. No program. | Words: list expressions, read. No program. -/
import Derived.Test.YtkklmljannclmaaDoorWZ2
import Derived.Test.YtkklmljannclmaaDoorWZ1
namespace Go.Proofs.YtkklmljannclmaaDoor
open Go.RowKit Go.Sort Go.Joins
attribute [local go_sem] cell_grow frozen_grow size_grow

theorem ext_list {s : ByteArray} {L : List UInt8} (hL : s.data.toList = L) (f z : Nat) : (s.extract f z).data.toList = (L.drop f).take (z - f) := by
  rw [ByteArray.data_extract, Array.toList_extract, hL, List.extract_eq_take_drop]
theorem fld1_q {L : List UInt8} {f : Nat} (hf : f < L.length) (h : (bt L f).toNat = 34) : fld1 ((L.drop f).take (fend (L.drop f))) = (unq ((L.drop f).take (fend (L.drop f)))).map (fun u => (true, u)) := by
  have hb : bt L f = 34 := UInt8.toNat_inj.1 h
  rw [drop_bt hf, hb]
  unfold fld1
  rw [if_pos]
  rw [fend_q, Nat.add_comm, List.take_succ_cons]; rfl
theorem fld1_u {L : List UInt8} {f : Nat} (hf : f < L.length) (h : (bt L f).toNat ≠ 34) : fld1 ((L.drop f).take (fend (L.drop f))) = if rtB ((L.drop f).take (fend (L.drop f))) then some (false, (L.drop f).take (fend (L.drop f))) else none := by
  have hb : bt L f ≠ 34 := fun e => h (by rw [e]; rfl)
  rw [drop_bt hf]
  have : ((bt L f :: L.drop (f + 1)).take (fend (bt L f :: L.drop (f + 1)))).head? ≠ some 34 := by
    cases fend (bt L f :: L.drop (f + 1)) with
    | zero => simp
    | succ n => rw [List.take_succ_cons]; simpa using hb
  generalize (bt L f :: L.drop (f + 1)).take (fend (bt L f :: L.drop (f + 1))) = T at *
  unfold fld1
  rw [if_neg this]
theorem unq_len {l u : List UInt8} (h : unq l = some u) : u.length ≤ l.length := by
  obtain ⟨_, h2⟩ := unq_some h
  have := dbl_len u
  rw [← h2]
  unfold qtL
  simp only [List.length_cons, List.length_append, List.length_nil]
  omega
theorem fls_len (X : List (Bool × ByteArray)) : (fls X).length = X.length := by unfold fls; rw [List.length_map]
theorem own_belowS {w w' : World} {base : Nat} {e : TypeId} {size : Nat} {v : Value} {n : Nat} {xs : List Value} (h : w.ownsRow base e size v n xs) (hb : Below w.heap.size w w') : w'.ownsRow base e size v n xs := own_below h hb
/-- what Split hands back -/
def SplPost (w : World) (fs : List Fl) (E : Int) (x : Ending) (w' : World) : Prop :=
  ∃ a c, x = .returned (.tuple #[.slice a fs.length c, .int .i64 E]) ∧ SlF w' a fs ∧ Below w.heap.size w w'
theorem SplPost.none {w w' : World} {E : Int} (h : Below w.heap.size w w') : SplPost w [] E (.returned (.tuple #[.slice none 0 0, .int .i64 E])) w' := ⟨_, _, rfl, .inl rfl, h⟩
abbrev FB (W : World) (g : Nat) (b : Bool) (S : ByteArray) : Prop := W.heap[g]? = some (.cells #[.bool b, .string S] 64 (0, 0))
set_option maxRecDepth 100000 in
set_option maxHeartbeats 3200000 in
theorem rsplit_ok (s : ByteArray) (L : List UInt8) (hL : s.data.toList = L) (hs : s.size ≤ 4611686018427387904) (w : World) :
    Calls Tryd.prog 15 #[.string s] w (SplPost w (splR L) (splE L)) := by
  obtain ⟨i0, hi, hz0, hz1, hz2⟩ := info_parts info_field
  have hlen := len_of hL
  have HL := Lib.hid hL
  by_cases h1 : 4096 < s.size
  · have d1 : decide ((4096 : Int) < (s.size : Int)) = true := decide_eq_true (by omega)
    obtain ⟨hE, hR⟩ := splE_long (l := L) (by omega)
    rw [hE, hR]
    clear hL hE hR
    go_enter Tryd.func15, Tryd.ntmps15
    go_wp2_with fail
    go_ret2
    exact SplPost.none (Below.refl _ _)
  · have d1 : decide ((4096 : Int) < (s.size : Int)) = false := decide_eq_false (by omega)
    have hE6 := @splE_form L (by omega)
    have hE3 := @splE_many L (by omega)
    have hE0 := @splE_ok L (by omega)
    obtain ⟨E, hE⟩ : ∃ x, splE L = x := ⟨_, rfl⟩
    obtain ⟨R, hR⟩ : ∃ x, splR L = x := ⟨_, rfl⟩
    rw [hE, hR] at hE6 hE3 hE0 ⊢
    have H6 := Lib.hid hE6
    have H3 := Lib.hid (fun fs => @hE3 fs)
    have H0 := Lib.hid (fun fs => @hE0 fs)
    clear hL hE hR hE6 hE3 hE0
    go_enter Tryd.func15, Tryd.ntmps15
    go_wp2_with fail
    go_loopw [4, 5] (fun o i wr => ∃ (f : Nat) (va : Option Addr) (vc : Nat) (X : List (Bool × ByteArray)), i = .int .i64 (f : Int) ∧ o = .slice va X.length vc ∧ f ≤ s.size + 1 ∧ X.length ≤ f ∧ Hid (splT L = (splT (L.drop f)).map (fls X ++ ·)) ∧ Hid (wr.ownsRow w.heap.size 64 2 (.slice va X.length vc) X.length (flc X)) ∧ Hid (Below w.heap.size w wr)) (fun _ i _ => s.size + 1 - (intOf i).toNat)
    case atStart => exact ⟨0, none, 0, [], rfl, rfl, by omega, Nat.le_refl _, Lib.hid (by rw [List.drop_zero]; cases splT L <;> rfl), Lib.hid (World.ownsRow_nil _ _ _ _), Lib.hid (Below.refl _ _)⟩
    case round =>
      obtain ⟨f, va, vc, X, rfl, rfl, hf, hX, HQ, HO, HB⟩ := hrel
      by_cases hlt : f < s.size
      · have hfe := fend_le (L.drop f)
        rw [List.length_drop] at hfe
        have HEND := Lib.hid (rend_ok s L HL.out (by omega) f hlt)
        have hext := ext_list HL.out f (f + fend (L.drop f))
        rw [Nat.add_sub_cancel_left] at hext
        have hFq := @fld1_q L f (by omega)
        have hFu := @fld1_u L f (by omega)
        have hSn := @spl_none L f (by omega)
        have hSl := fun x => @spl_last L f (by omega) x
        have hSb := fun x h => @spl_bad L f (by omega) x h (f + fend (L.drop f)) rfl
        have hSg := fun x h => @spl_go L f (by omega) x h (f + fend (L.drop f)) rfl
        obtain ⟨z, hz⟩ : ∃ z, f + fend (L.drop f) = z := ⟨_, rfl⟩
        rw [hz] at hext HEND hSl hSb hSg
        have hzs : z ≤ s.size := by omega
        have hfz : f ≤ z := by omega
        obtain ⟨T, hT⟩ : ∃ T, (L.drop f).take (fend (L.drop f)) = T := ⟨_, rfl⟩
        rw [hT] at hext hFq hFu hSn hSl hSb hSg
        have hb := bt_get HL.out hlt
        have hb2 := (bt L f).toNat_lt
        have HSn := Lib.hid hSn
        have HSl := Lib.hid hSl
        have HSb := Lib.hid hSb
        have HSg := Lib.hid hSg
        have HT := Lib.hid hext
        have HFq := Lib.hid hFq
        have HFu := Lib.hid hFu
        have HX0 : Hid (FB (wr.alloc (.cells #[.bool false, .string (s.extract f z)] 64)) wr.heap.size false (s.extract f z)) := Lib.hid (heap_alloc_new wr _)
        have hesz : (s.extract f z).size ≤ s.size := by rw [ByteArray.size_extract]; omega
        obtain ⟨es, hes⟩ : ∃ x, s.extract f z = x := ⟨_, rfl⟩
        rw [hes] at HX0 HT hesz
        clear hfe hz hT hext hFq hFu hSn hSl hSb hSg
        by_cases h34 : (bt L f).toNat = 34
        · have hF := HFq.out h34
          rw [h34] at hb
          have d2 : (((34 : Nat) : Int) == 34) = true := rfl
          have HUQ := Lib.hid (runq_ok es T HT.out (by omega))
          clear HFq HFu hb2 h34
          go_wp2_with fail
          refine (HEND.out _).mono ?_
          rintro e w1 ⟨rfl, rfl⟩
          clear HEND
          go_wp2_with fail
          refine (HUQ.out _).mono ?_
          rintro e w1 ⟨S, rfl, hS, rfl⟩
          cases hu : unq T with
          | none =>
            have hE := (unq_6 hu).1
            rw [hE]
            rw [hu] at hF
            obtain ⟨rfl, rfl⟩ := H6.out (by rw [HQ.out, HSn.out hF]; rfl)
            clear hF hS hE hu
            go_wp2_with fail
            go_ret2
            exact SplPost.none (HB.out.alloc HB.out.size _)
          | some u =>
            have hE := unq_0 hu
            rw [hE.1]
            rw [hE.2] at hS
            rw [hu] at hF
            have hF : fld1 T = some (true, u) := hF
            have hfl := (fld1_some hF).1
            have HF := Lib.hid hF
            have HS := Lib.hid hS
            have hSz : S.size ≤ s.size := by
              have h1 := len_of hS
              have h2 := unq_len hu
              have h3 := len_of HT.out
              omega
            clear hF hS hE hu
            go_wp2_with fail
            -- TAILQ begin
            have HRT := Lib.hid (rright_ok true S u HS.out (by omega) (wr.alloc (.cells #[.bool true, .string S] 64)))
            rw [hfl] at HRT
            clear hfl
            refine HRT.out.mono ?_
            rintro e w2 ⟨rfl, b2⟩
            clear HRT
            have HX2 : Hid (FB w2 wr.heap.size true S) := Lib.hid ((b2.block _ (by simp)).trans (heap_alloc_new wr _))
            have HB2 := Lib.hid (below_tr (HB.out.alloc HB.out.size _) b2)
            have HO2 := Lib.hid (own_belowS HO.out ((below_box0 wr (.cells #[.bool true, .string S] 64)).trans (b2.mono (by simp))))
            have x0 : w2.cell? ⟨wr.heap.size, 0, none⟩ = some (.bool true) := by rw [cell_of_block HX2.out]; rfl
            have x1 : w2.cell? ⟨wr.heap.size, 1, none⟩ = some (.string S) := by rw [cell_of_block HX2.out]; rfl
            have hX0 := HB.out.size
            clear b2
            by_cases hzs2 : z < s.size
            · have d3 : decide ((z : Int) < (s.size : Int)) = true := decide_eq_true (by omega)
              have hc := bt_get HL.out hzs2
              have hc2 := (bt L z).toNat_lt
              by_cases h32 : (bt L z).toNat = 32
              · rw [h32] at hc
                have d4 : (((32 : Nat) : Int) != 32) = false := rfl
                by_cases hz1s : z + 1 = s.size
                · have d5 : (((z : Int) + 1) == (s.size : Int)) = true := beq_iff_eq.2 (by omega)
                  obtain ⟨rfl, rfl⟩ := H6.out (by rw [HQ.out, HSb.out _ HF.out (by omega) (.inr (by omega))]; rfl)
                  clear hc2 h32
                  go_wp2
                  go_ret2
                  exact SplPost.none HB2.out
                · have d5 : (((z : Int) + 1) == (s.size : Int)) = false := beq_eq_false_iff_ne.2 (by omega)
                  have HQN : Hid (splT L = (splT (L.drop (z + 1))).map (fls (X ++ [(true, S)]) ++ ·)) := Lib.hid (by
                    rw [HQ.out, HSg.out _ HF.out (by omega) (UInt8.toNat_inj.1 h32), map_snoc]
                    unfold fls
                    rw [List.map_append, List.map_singleton]
                    rw [HS.out])
                  clear hc2 h32
                  go_wp2_with (at_builtin; refine wpList_append_own _ rfl (.tmp 61) (.tmp 63) 27 rfl w.heap.size 64 i0 (.agg #[.bool false, .string ⟨#[]⟩]) 2 24 Tryd.underlying27 hi hz0 hz1 hz2 rfl (by decide) _ _ _ rfl (HO2.out.alloc _) ⟨w2.heap.size, 0, none⟩ 1 1 [.bool true, .string S] rfl rfl ?c1 ?c2 ?c3 ?c4 ?c5 ?_)
                  case c1 => intro j q hq; match j with | 0 => (simp at hq; subst hq; simp [go_sem]) | 1 => (simp at hq; subst hq; simp [go_sem]) | j + 2 => simp at hq
                  case c2 => intro q hq; simp at hq; rcases hq with rfl | rfl <;> rfl
                  case c3 => unfold maxLen; omega
                  case c4 => omega
                  case c5 => have := HB2.out.size; first | omega | (simp; omega)
                  intro v' w3 hown hg _
                  obtain ⟨va', vc', rfl⟩ := own_slice hown
                  have hB3 := Lib.hid ((HB2.out.alloc HB2.out.size (.cells #[.bool true, .string S] 64)).grown hg (by have := HB2.out.size; simp; omega) (by intro r hr; exact (HO2.out.lt r hr).1))
                  have HW : Hid (w3.ownsRow w.heap.size 64 2 (.slice va' (X ++ [(true, S)]).length vc') (X ++ [(true, S)]).length (flc (X ++ [(true, S)]))) := Lib.hid (by rw [flc_snoc, List.length_append, List.length_singleton]; exact hown)
                  clear hown hg
                  go_wp2
                  go_roundw
                  case rel => exact ⟨z + 1, va', vc', X ++ [(true, S)], by go_num, by rw [List.length_append, List.length_singleton], by omega, by rw [List.length_append, List.length_singleton]; omega, HQN, HW, hB3⟩
                  case measure => simp [intOf]; omega
              · obtain ⟨rfl, rfl⟩ := H6.out (by rw [HQ.out, HSb.out _ HF.out (by omega) (.inl (fun e => h32 (by rw [e]; rfl)))]; rfl)
                obtain ⟨cz, hcz⟩ : ∃ c, (bt L z).toNat = c := ⟨_, rfl⟩
                rw [hcz] at hc hc2 h32
                have d4 : ((cz : Int) != 32) = true := bne_iff_ne.2 (by omega)
                clear hcz
                go_wp2
                go_ret2
                exact SplPost.none HB2.out
            · have d3 : decide ((z : Int) < (s.size : Int)) = false := decide_eq_false (by omega)
              have HQN : Hid (splT L = (splT (L.drop (z + 1))).map (fls (X ++ [(true, S)]) ++ ·)) := Lib.hid (by
                rw [HQ.out, HSl.out _ HF.out (by omega), List.drop_eq_nil_of_le (show L.length ≤ z + 1 by omega), splT_nil]
                unfold fls
                rw [List.map_append, List.map_singleton]
                rw [HS.out]
                simp)
              go_wp2_with (at_builtin; refine wpList_append_own _ rfl (.tmp 61) (.tmp 63) 27 rfl w.heap.size 64 i0 (.agg #[.bool false, .string ⟨#[]⟩]) 2 24 Tryd.underlying27 hi hz0 hz1 hz2 rfl (by decide) _ _ _ rfl (HO2.out.alloc _) ⟨w2.heap.size, 0, none⟩ 1 1 [.bool true, .string S] rfl rfl ?c1 ?c2 ?c3 ?c4 ?c5 ?_)
              case c1 => intro j q hq; match j with | 0 => (simp at hq; subst hq; simp [go_sem]) | 1 => (simp at hq; subst hq; simp [go_sem]) | j + 2 => simp at hq
              case c2 => intro q hq; simp at hq; rcases hq with rfl | rfl <;> rfl
              case c3 => unfold maxLen; omega
              case c4 => omega
              case c5 => have := HB2.out.size; first | omega | (simp; omega)
              intro v' w3 hown hg _
              obtain ⟨va', vc', rfl⟩ := own_slice hown
              have hB3 := Lib.hid ((HB2.out.alloc HB2.out.size (.cells #[.bool true, .string S] 64)).grown hg (by have := HB2.out.size; simp; omega) (by intro r hr; exact (HO2.out.lt r hr).1))
              have HW : Hid (w3.ownsRow w.heap.size 64 2 (.slice va' (X ++ [(true, S)]).length vc') (X ++ [(true, S)]).length (flc (X ++ [(true, S)]))) := Lib.hid (by rw [flc_snoc, List.length_append, List.length_singleton]; exact hown)
              clear hown hg
              go_wp2
              go_roundw
              case rel => exact ⟨z + 1, va', vc', X ++ [(true, S)], by go_num, by rw [List.length_append, List.length_singleton], by omega, by rw [List.length_append, List.length_singleton]; omega, HQN, HW, hB3⟩
              case measure => simp [intOf]; omega
            -- TAILQ end
        · have hF := HFu.out h34
          obtain ⟨c, hcd⟩ : ∃ c, (bt L f).toNat = c := ⟨_, rfl⟩
          rw [hcd] at hb hb2 h34
          have d2 : ((c : Int) == 34) = false := by simp; omega
          clear HFq HFu hcd
          go_wp2_with fail
          refine (HEND.out _).mono ?_
          rintro e w1 ⟨rfl, rfl⟩
          clear HEND
          go_wp2_with fail
          -- TAILU begin
          have HRT := Lib.hid (rright_ok false es T HT.out (by omega) (wr.alloc (.cells #[.bool false, .string es] 64)))
          have hft : flB (false, T) = rtB T := rfl
          rw [hft] at HRT
          obtain ⟨r, hr⟩ : ∃ r, rtB T = r := ⟨_, rfl⟩
          rw [hr] at HRT hF
          clear hft hr
          refine HRT.out.mono ?_
          rintro e w2 ⟨rfl, b2⟩
          clear HRT
          cases r
          · obtain ⟨rfl, rfl⟩ := H6.out (by rw [HQ.out, HSn.out hF]; rfl)
            have HB2 := Lib.hid (below_tr (HB.out.alloc HB.out.size _) b2)
            clear b2 hF
            go_wp2
            go_ret2
            exact SplPost.none HB2.out
          · have HF : Hid (fld1 T = some (false, T)) := Lib.hid hF
            have HS := HT
            clear hF
            have HX2 : Hid (FB w2 wr.heap.size false es) := Lib.hid ((b2.block _ (by simp)).trans (heap_alloc_new wr _))
            have HB2 := Lib.hid (below_tr (HB.out.alloc HB.out.size _) b2)
            have HO2 := Lib.hid (own_belowS HO.out ((below_box0 wr (.cells #[.bool false, .string es] 64)).trans (b2.mono (by simp))))
            have x0 : w2.cell? ⟨wr.heap.size, 0, none⟩ = some (.bool false) := by rw [cell_of_block HX2.out]; rfl
            have x1 : w2.cell? ⟨wr.heap.size, 1, none⟩ = some (.string es) := by rw [cell_of_block HX2.out]; rfl
            have hX0 := HB.out.size
            clear b2
            by_cases hzs2 : z < s.size
            · have d3 : decide ((z : Int) < (s.size : Int)) = true := decide_eq_true (by omega)
              have hc := bt_get HL.out hzs2
              have hc2 := (bt L z).toNat_lt
              by_cases h32 : (bt L z).toNat = 32
              · rw [h32] at hc
                have d4 : (((32 : Nat) : Int) != 32) = false := rfl
                by_cases hz1s : z + 1 = s.size
                · have d5 : (((z : Int) + 1) == (s.size : Int)) = true := beq_iff_eq.2 (by omega)
                  obtain ⟨rfl, rfl⟩ := H6.out (by rw [HQ.out, HSb.out _ HF.out (by omega) (.inr (by omega))]; rfl)
                  clear hc2 h32
                  go_wp2
                  go_ret2
                  exact SplPost.none HB2.out
                · have d5 : (((z : Int) + 1) == (s.size : Int)) = false := beq_eq_false_iff_ne.2 (by omega)
                  have HQN : Hid (splT L = (splT (L.drop (z + 1))).map (fls (X ++ [(false, es)]) ++ ·)) := Lib.hid (by
                    rw [HQ.out, HSg.out _ HF.out (by omega) (UInt8.toNat_inj.1 h32), map_snoc]
                    unfold fls
                    rw [List.map_append, List.map_singleton]
                    rw [HS.out])
                  clear hc2 h32
                  go_wp2_with (at_builtin; refine wpList_append_own _ rfl (.tmp 61) (.tmp 63) 27 rfl w.heap.size 64 i0 (.agg #[.bool false, .string ⟨#[]⟩]) 2 24 Tryd.underlying27 hi hz0 hz1 hz2 rfl (by decide) _ _ _ rfl (HO2.out.alloc _) ⟨w2.heap.size, 0, none⟩ 1 1 [.bool false, .string es] rfl rfl ?c1 ?c2 ?c3 ?c4 ?c5 ?_)
                  case c1 => intro j q hq; match j with | 0 => (simp at hq; subst hq; simp [go_sem]) | 1 => (simp at hq; subst hq; simp [go_sem]) | j + 2 => simp at hq
                  case c2 => intro q hq; simp at hq; rcases hq with rfl | rfl <;> rfl
                  case c3 => unfold maxLen; omega
                  case c4 => omega
                  case c5 => have := HB2.out.size; first | omega | (simp; omega)
                  intro v' w3 hown hg _
                  obtain ⟨va', vc', rfl⟩ := own_slice hown
                  have hB3 := Lib.hid ((HB2.out.alloc HB2.out.size (.cells #[.bool false, .string es] 64)).grown hg (by have := HB2.out.size; simp; omega) (by intro r hr; exact (HO2.out.lt r hr).1))
                  have HW : Hid (w3.ownsRow w.heap.size 64 2 (.slice va' (X ++ [(false, es)]).length vc') (X ++ [(false, es)]).length (flc (X ++ [(false, es)]))) := Lib.hid (by rw [flc_snoc, List.length_append, List.length_singleton]; exact hown)
                  clear hown hg
                  go_wp2
                  go_roundw
                  case rel => exact ⟨z + 1, va', vc', X ++ [(false, es)], by go_num, by rw [List.length_append, List.length_singleton], by omega, by rw [List.length_append, List.length_singleton]; omega, HQN, HW, hB3⟩
                  case measure => simp [intOf]; omega
              · obtain ⟨rfl, rfl⟩ := H6.out (by rw [HQ.out, HSb.out _ HF.out (by omega) (.inl (fun e => h32 (by rw [e]; rfl)))]; rfl)
                obtain ⟨cz, hcz⟩ : ∃ c, (bt L z).toNat = c := ⟨_, rfl⟩
                rw [hcz] at hc hc2 h32
                have d4 : ((cz : Int) != 32) = true := bne_iff_ne.2 (by omega)
                clear hcz
                go_wp2
                go_ret2
                exact SplPost.none HB2.out
            · have d3 : decide ((z : Int) < (s.size : Int)) = false := decide_eq_false (by omega)
              have HQN : Hid (splT L = (splT (L.drop (z + 1))).map (fls (X ++ [(false, es)]) ++ ·)) := Lib.hid (by
                rw [HQ.out, HSl.out _ HF.out (by omega), List.drop_eq_nil_of_le (show L.length ≤ z + 1 by omega), splT_nil]
                unfold fls
                rw [List.map_append, List.map_singleton]
                rw [HS.out]
                simp)
              go_wp2_with (at_builtin; refine wpList_append_own _ rfl (.tmp 61) (.tmp 63) 27 rfl w.heap.size 64 i0 (.agg #[.bool false, .string ⟨#[]⟩]) 2 24 Tryd.underlying27 hi hz0 hz1 hz2 rfl (by decide) _ _ _ rfl (HO2.out.alloc _) ⟨w2.heap.size, 0, none⟩ 1 1 [.bool false, .string es] rfl rfl ?c1 ?c2 ?c3 ?c4 ?c5 ?_)
              case c1 => intro j q hq; match j with | 0 => (simp at hq; subst hq; simp [go_sem]) | 1 => (simp at hq; subst hq; simp [go_sem]) | j + 2 => simp at hq
              case c2 => intro q hq; simp at hq; rcases hq with rfl | rfl <;> rfl
              case c3 => unfold maxLen; omega
              case c4 => omega
              case c5 => have := HB2.out.size; first | omega | (simp; omega)
              intro v' w3 hown hg _
              obtain ⟨va', vc', rfl⟩ := own_slice hown
              have hB3 := Lib.hid ((HB2.out.alloc HB2.out.size (.cells #[.bool false, .string es] 64)).grown hg (by have := HB2.out.size; simp; omega) (by intro r hr; exact (HO2.out.lt r hr).1))
              have HW : Hid (w3.ownsRow w.heap.size 64 2 (.slice va' (X ++ [(false, es)]).length vc') (X ++ [(false, es)]).length (flc (X ++ [(false, es)]))) := Lib.hid (by rw [flc_snoc, List.length_append, List.length_singleton]; exact hown)
              clear hown hg
              go_wp2
              go_roundw
              case rel => exact ⟨z + 1, va', vc', X ++ [(false, es)], by go_num, by rw [List.length_append, List.length_singleton], by omega, by rw [List.length_append, List.length_singleton]; omega, HQN, HW, hB3⟩
              case measure => simp [intOf]; omega
          -- TAILU end
      · have hT : splT L = some (fls X) := by
          rw [HQ.out, List.drop_eq_nil_of_le (by omega), splT_nil]
          simp
        by_cases h64 : 64 < X.length
        · have d6 : decide ((64 : Int) < (X.length : Int)) = true := decide_eq_true (by omega)
          obtain ⟨rfl, rfl⟩ := H3.out _ hT (by rw [fls_len]; exact h64)
          clear hT
          go_wp2
          go_ret2
          exact SplPost.none HB.out
        · have d6 : decide ((64 : Int) < (X.length : Int)) = false := decide_eq_false (by omega)
          obtain ⟨rfl, rfl⟩ := H0.out _ hT (by rw [fls_len]; exact h64)
          clear hT
          go_wp2
          go_ret2
          exact ⟨va, vc, by rw [fls_len]; rfl, SlF.of_own HO.out, HB.out⟩
end Go.Proofs.YtkklmljannclmaaDoor

namespace Go.Proofs.YtkklmljannclmaaDoor
open Go.RowKit Go.Sort Go.Joins
attribute [local go_sem] cell_grow frozen_grow size_grow

/-- texts as cells -/
def sts (X : List ByteArray) : List (List UInt8) := X.map (·.data.toList)
theorem sts_len (X : List ByteArray) : (sts X).length = X.length := by unfold sts; rw [List.length_map]
theorem sts_snoc (X : List ByteArray) (x : ByteArray) : sts (X ++ [x]) = sts X ++ [x.data.toList] := by unfold sts; simp
theorem stv_snoc (X : List ByteArray) (x : ByteArray) : (X ++ [x]).map Value.string = X.map Value.string ++ [.string x] := by simp
theorem SlT.of_own {w : World} {base len cap : Nat} {e : TypeId} {a : Option Addr} {X : List ByteArray} (h : w.ownsRow base e 1 (.slice a len cap) X.length (X.map Value.string)) : SlT w a (sts X) := by
  by_cases h0 : X.length = 0
  · left
    have : X = [] := List.length_eq_zero_iff.1 h0
    rw [this]; rfl
  · obtain ⟨g, cap', hv⟩ := ownsRow_form h (by omega)
    cases hv
    refine .inr ⟨g, 0, rfl, fun j hj => ?_⟩
    rw [sts_len] at hj
    have c0 := h.cellAt j (by omega)
    rw [List.getElem?_map, List.getElem?_eq_getElem hj] at c0
    refine ⟨X[j], ?_, ?_⟩
    · rw [Nat.zero_add]; exact c0
    · unfold sts
      rw [List.getD_eq_getElem?_getD, List.getElem?_map, List.getElem?_eq_getElem hj]; rfl
theorem info_str : (Tryd.prog.info? 9).map (fun i => (i.zero, i.size, i.bytes)) = some (some (.string ⟨#[]⟩), 1, 16) := by kernel_rfl
theorem spl_snoc (c : UInt8) : ∀ l : List UInt8, spl c (l ++ [c]) = spl c l ++ [[]]
  | [] => by rw [List.nil_append, spl_hit, spl_nil]; rfl
  | x :: r => by
    have ih := spl_snoc c r
    by_cases e : x = c
    · subst e; rw [List.cons_append, spl_hit, spl_hit, ih]; rfl
    · rw [List.cons_append, spl_miss e, spl_miss e, ih]
      cases hs : spl c r with
      | nil => exact absurd hs (spl_ne c r)
      | cons p q => rfl
/-- the piece that ends at k -/
theorem spl_piece {L : List UInt8} {f k : Nat} (hf : f ≤ k) (hk : k < L.length) (h : ∀ j, f ≤ j → j < k → bt L j ≠ 10) (h10 : bt L k = 10) : spl 10 (L.drop f) = (L.drop f).take (k - f) :: spl 10 (L.drop (k + 1)) := by
  have e : L.drop f = (L.drop f).take (k - f) ++ 10 :: L.drop (k + 1) := by
    conv => lhs; rw [← List.take_append_drop (k - f) (L.drop f)]
    rw [List.drop_drop, show f + (k - f) = k by omega, drop_bt hk, h10]
  have hno : (10 : UInt8) ∉ (L.drop f).take (k - f) := by
    intro hm
    obtain ⟨i, hi⟩ := List.mem_iff_getElem?.1 hm
    have hik : i < k - f := by
      rcases Nat.lt_or_ge i (k - f) with h' | h'
      · exact h'
      · rw [List.getElem?_eq_none (by rw [List.length_take]; omega)] at hi; cases hi
    rw [List.getElem?_take, if_pos hik, List.getElem?_drop, bt_at (by omega)] at hi
    exact h (f + i) (by omega) (by omega) (Option.some.inj hi)
  conv => lhs; rw [e]
  exact spl_cut hno
theorem lns_long {l : List UInt8} (h : 1048576 < l.length) : lnsE l = 3 ∧ lnsL l = [] := by
  have he : lnsE l = 3 := by unfold lnsE; rw [if_pos h]
  exact ⟨he, by unfold lnsL; rw [if_pos (.inl (by rw [he]; decide))]⟩
theorem lns_nil : lnsE [] = 0 ∧ lnsL [] = [] := ⟨rfl, rfl⟩
theorem lns_form {l : List UInt8} (h : ¬ 1048576 < l.length) (h0 : l ≠ []) (h1 : l.getLast? ≠ some 10) : lnsE l = 6 ∧ lnsL l = [] := by
  have he : lnsE l = 6 := by unfold lnsE; rw [if_neg h, if_neg h0, if_pos h1]
  exact ⟨he, by unfold lnsL; rw [if_pos (.inl (by rw [he]; decide))]⟩
theorem lns_split {l : List UInt8} (h : ¬ 1048576 < l.length) (h1 : l.getLast? = some 10) {P : List (List UInt8)} (hP : spl 10 l = P ++ [[]]) :
    (5000 < P.length → lnsE l = 3 ∧ lnsL l = []) ∧ (¬ 5000 < P.length → lnsE l = 0 ∧ lnsL l = P) := by
  have h0 : l ≠ [] := by rintro rfl; cases h1
  have hd : l = l.dropLast ++ [10] := by
    rw [List.getLast?_eq_some_getLast h0] at h1
    rw [← Option.some.inj h1]
    exact (List.dropLast_concat_getLast h0).symm
  have hs : spl 10 l.dropLast = P := by
    rw [hd, spl_snoc] at hP
    exact List.append_cancel_right hP
  have hc : l.count 10 = P.length := by
    have := spl_len 10 l
    rw [hP, List.length_append, List.length_singleton] at this
    omega
  constructor
  · intro h5
    have he : lnsE l = 3 := by unfold lnsE; rw [if_neg h, if_neg h0, if_neg (by simp [h1]), if_pos (by rw [hc]; exact h5)]
    exact ⟨he, by unfold lnsL; rw [if_pos (.inl (by rw [he]; decide))]⟩
  · intro h5
    have he : lnsE l = 0 := by unfold lnsE; rw [if_neg h, if_neg h0, if_neg (by simp [h1]), if_neg (by rw [hc]; exact h5)]
    exact ⟨he, by unfold lnsL; rw [if_neg (by rintro (h | h); exact h he; exact h0 h)]; exact hs⟩
/-- what Lines hands back -/
def LnPost (w : World) (ls : List (List UInt8)) (E : Int) (x : Ending) (w' : World) : Prop :=
  ∃ a c, x = .returned (.tuple #[.slice a ls.length c, .int .i64 E]) ∧ SlT w' a ls ∧ Below w.heap.size w w'
theorem LnPost.none {w w' : World} {E : Int} (h : Below w.heap.size w w') : LnPost w [] E (.returned (.tuple #[.slice none 0 0, .int .i64 E])) w' := ⟨_, _, rfl, .inl rfl, h⟩
theorem last_bt {L : List UInt8} {m : Nat} (h : L.length = m + 1) : L.getLast? = some (bt L m) := by
  rw [List.getLast?_eq_getElem?, h, ← bt_at (by omega)]; rfl
set_option maxRecDepth 100000 in
set_option maxHeartbeats 1600000 in
theorem rlines_ok (s : ByteArray) (L : List UInt8) (hL : s.data.toList = L) (hs : s.size ≤ 4611686018427387904) (w : World) :
    Calls Tryd.prog 36 #[.string s] w (LnPost w (lnsL L) (lnsE L)) := by
  obtain ⟨i0, hi, hz0, hz1, hz2⟩ := info_parts info_str
  have hlen := len_of hL
  have HL := Lib.hid hL
  by_cases h1 : 1048576 < s.size
  · have d1 : decide ((1048576 : Int) < (s.size : Int)) = true := decide_eq_true (by omega)
    obtain ⟨hE, hR⟩ := lns_long (l := L) (by omega)
    rw [hE, hR]
    clear hL hE hR
    go_enter Tryd.func36, Tryd.ntmps36
    go_wp2_with fail
    go_ret2
    exact LnPost.none (Below.refl _ _)
  · have d1 : decide ((1048576 : Int) < (s.size : Int)) = false := decide_eq_false (by omega)
    by_cases h0 : s.size = 0
    · have d0 : decide ((0 : Int) < (s.size : Int)) = false := decide_eq_false (by omega)
      obtain rfl : L = [] := List.length_eq_zero_iff.1 (by omega)
      rw [lns_nil.1, lns_nil.2]
      clear hL
      go_enter Tryd.func36, Tryd.ntmps36
      go_wp2_with fail
      go_loopw [4, 5, 6] (fun o f i wr => ∃ z : Nat, z = 0 ∧ i = .int .i64 (z : Int) ∧ o = .slice none 0 0 ∧ wr = w) (fun _ _ _ _ => 0)
      case atStart => exact ⟨0, rfl, rfl, rfl, rfl⟩
      case round =>
        obtain ⟨z, rfl, rfl, rfl, rfl⟩ := hrel
        have d2 : decide ((0 : Int) < (s.size : Int)) = false := decide_eq_false (by omega)
        have hs0 : ¬ 0 < s.size := by omega
        go_wp2
        go_ret2
        exact LnPost.none (Below.refl _ _)
    · have d0 : decide ((0 : Int) < (s.size : Int)) = true := decide_eq_true (by omega)
      obtain ⟨m, hm⟩ : ∃ m, s.size = m + 1 := ⟨s.size - 1, by omega⟩
      have hlast := last_bt (L := L) (m := m) (by omega)
      have hs1 : (s.size : Int) - 1 = (m : Int) := by omega
      have hlt1 : m < s.size := by omega
      have HMS := Lib.hid hm
      clear hm
      have hb1 := bt_get HL.out hlt1
      have hz1' := (bt L m).toNat_lt
      by_cases h10 : (bt L m).toNat = 10
      · rw [h10] at hb1
        have d2 : (((10 : Nat) : Int) != 10) = false := rfl
        rw [u8_of h10 (by decide)] at hlast
        have hsp := fun P => @lns_split L (by omega) hlast P
        obtain ⟨E, hE⟩ : ∃ x, lnsE L = x := ⟨_, rfl⟩
        obtain ⟨R, hR⟩ : ∃ x, lnsL L = x := ⟨_, rfl⟩
        rw [hE, hR] at hsp ⊢
        have HSP := Lib.hid hsp
        have HT10 := Lib.hid (UInt8.toNat_inj.1 h10 : bt L m = 10)
        clear hL hE hR hsp hlast h10 hz1'
        go_enter Tryd.func36, Tryd.ntmps36
        go_wp2_with fail
        clear hb1 d2 hs1
        go_loopw [4, 5, 6] (fun o fr i wr => ∃ (k f : Nat) (va : Option Addr) (vc : Nat) (X : List ByteArray), i = .int .i64 (k : Int) ∧ fr = .int .i64 (f : Int) ∧ o = .slice va X.length vc ∧ f ≤ k ∧ k ≤ s.size ∧ X.length ≤ k ∧ Hid (spl 10 L = sts X ++ spl 10 (L.drop f)) ∧ Hid (∀ j, f ≤ j → j < k → bt L j ≠ 10) ∧ Hid (wr.ownsRow w.heap.size 9 1 (.slice va X.length vc) X.length (X.map Value.string)) ∧ Hid (Below w.heap.size w wr)) (fun _ _ i _ => s.size - (intOf i).toNat)
        case atStart => exact ⟨0, 0, none, 0, [], rfl, rfl, rfl, Nat.le_refl _, Nat.zero_le _, Nat.zero_le _, Lib.hid (by rw [List.drop_zero]; rfl), Lib.hid (fun j _ hj => by omega), Lib.hid (World.ownsRow_nil _ _ _ _), Lib.hid (Below.refl _ _)⟩
        case round =>
          obtain ⟨k, f, va, vc, X, rfl, rfl, rfl, hfk, hk, hXk, HQ, HA, HO, HB⟩ := hrel
          by_cases hlt : k < s.size
          · have hb := bt_get HL.out hlt
            have hb2 := (bt L k).toNat_lt
            by_cases hk10 : (bt L k).toNat = 10
            · rw [hk10] at hb
              have d3 : (((10 : Nat) : Int) == 10) = true := rfl
              have hpc := spl_piece hfk (by omega : k < L.length) HA.out (UInt8.toNat_inj.1 hk10)
              have hext := ext_list HL.out f k
              rw [← hext] at hpc
              have hesz : (s.extract f k).size ≤ s.size := by rw [ByteArray.size_extract]; omega
              have HPC := Lib.hid hpc
              have hX0 := HB.out.size
              clear hb2 hk10 hpc hext
              go_wp2_with (at_builtin; refine wpList_append_own _ rfl (.tmp 31) (.tmp 36) 52 rfl w.heap.size 9 i0 (.string ⟨#[]⟩) 1 16 Tryd.underlying52 hi hz0 hz1 hz2 rfl (by decide) _ _ _ rfl (HO.out.alloc _) ⟨wr.heap.size, 0, none⟩ 1 1 [.string (s.extract f k)] rfl rfl ?c1 ?c2 ?c3 ?c4 ?c5 ?_)
              case c1 => intro j q hq; match j with | 0 => (simp at hq; subst hq; simp [go_sem]) | j + 1 => simp at hq
              case c2 => intro q hq; simp at hq; subst hq; rfl
              case c3 => unfold maxLen; omega
              case c4 => omega
              case c5 => first | omega | (simp; omega)
              intro v' w3 hown hg _
              obtain ⟨va', vc', rfl⟩ := own_slice hown
              have hB3 := Lib.hid ((HB.out.alloc HB.out.size (.cells #[.string (s.extract f k)] 9)).grown hg (by simp; omega) (by intro r hr; exact (HO.out.lt r hr).1))
              have HW : Hid (w3.ownsRow w.heap.size 9 1 (.slice va' (X ++ [s.extract f k]).length vc') (X ++ [s.extract f k]).length ((X ++ [s.extract f k]).map Value.string)) := Lib.hid (by rw [stv_snoc, List.length_append, List.length_singleton]; exact hown)
              clear hown hg
              go_wp2
              go_roundw
              case rel => exact ⟨k + 1, k + 1, va', vc', X ++ [s.extract f k], by go_num, by go_num, by rw [List.length_append, List.length_singleton], Nat.le_refl _, by omega, by rw [List.length_append, List.length_singleton]; omega, Lib.hid (by rw [sts_snoc, HQ.out, HPC.out]; simp), Lib.hid (fun j h1 h2 => by omega), HW, hB3⟩
              case measure => simp [intOf]; omega
            · have HN := Lib.hid hk10
              obtain ⟨c, hcd⟩ : ∃ c, (bt L k).toNat = c := ⟨_, rfl⟩
              rw [hcd] at hb hb2 hk10
              have d3 : ((c : Int) == 10) = false := beq_eq_false_iff_ne.2 (by omega)
              clear hcd
              go_wp2
              go_roundw
              case rel => exact ⟨k + 1, f, va, vc, X, by go_num, rfl, rfl, by omega, by omega, by omega, HQ, Lib.hid (fun j h1 h2 => by
                by_cases ej : j = k
                · rw [ej]; exact fun e => HN.out (by rw [e]; rfl)
                · exact HA.out j h1 (by omega)), HO, HB⟩
              case measure => simp [intOf]; omega
          · obtain rfl : k = s.size := by omega
            have hfs : f = s.size := by
              rcases Nat.lt_or_ge m f with h | h
              · have := HMS.out; omega
              · exact absurd HT10.out (HA.out m h hlt1)
            obtain ⟨g3, g0⟩ := HSP.out (sts X) (by rw [HQ.out, List.drop_eq_nil_of_le (by omega), spl_nil])
            rw [sts_len] at g3 g0
            clear HA HQ
            by_cases h5 : 5000 < X.length
            · have d6 : decide ((5000 : Int) < (X.length : Int)) = true := decide_eq_true (by omega)
              obtain ⟨rfl, rfl⟩ := g3 h5
              clear g0 g3
              go_wp2
              go_ret2
              exact LnPost.none HB.out
            · have d6 : decide ((5000 : Int) < (X.length : Int)) = false := decide_eq_false (by omega)
              obtain ⟨rfl, rfl⟩ := g0 h5
              clear g0 g3
              go_wp2
              go_ret2
              exact ⟨va, vc, by rw [sts_len]; rfl, SlT.of_own HO.out, HB.out⟩
      · obtain ⟨hE, hR⟩ := lns_form (l := L) (by omega) (fun e => by rw [e, List.length_nil] at hlen; omega) (by rw [hlast]; intro e; exact h10 (by rw [Option.some.inj e]; rfl))
        rw [hE, hR]
        obtain ⟨c, hcd⟩ : ∃ c, (bt L m).toNat = c := ⟨_, rfl⟩
        rw [hcd] at hb1 hz1' h10
        have d2 : ((c : Int) != 10) = true := bne_iff_ne.2 (by omega)
        clear hL hE hR hlast hcd
        go_enter Tryd.func36, Tryd.ntmps36
        go_wp2_with fail
        go_ret2
        exact LnPost.none (Below.refl _ _)
end Go.Proofs.YtkklmljannclmaaDoor

namespace Go.Proofs.YtkklmljannclmaaDoor

/-- how many numbers go up from a one on -/
def runU : Nat → List Nat → Nat
  | _, [] => 0
  | a, x :: r => if x = a then 1 + runU (a + 1) r else 0
/-- how many are that number -/
def runA (a : Nat) : List Nat → Nat
  | [] => 0
  | x :: r => if x = a then 1 + runA a r else 0
theorem runU_le : ∀ (N : List Nat) (a : Nat), runU a N ≤ N.length
  | [], _ => Nat.le_refl _
  | x :: r, a => by
    rw [runU]
    split
    · have := runU_le r (a + 1); rw [List.length_cons]; omega
    · exact Nat.zero_le _
theorem runA_le (a : Nat) : ∀ N : List Nat, runA a N ≤ N.length
  | [] => Nat.le_refl _
  | x :: r => by
    rw [runA]
    split
    · have := runA_le a r; rw [List.length_cons]; omega
    · exact Nat.zero_le _
theorem runU_iff : ∀ (N : List Nat) (a n : Nat), n ≤ runU a N ↔ ∀ j, j < n → N[j]? = some (a + j)
  | [], a, n => by
    rw [runU]
    constructor
    · intro h j hj; omega
    · intro h
      rcases Nat.eq_zero_or_pos n with h0 | h0
      · omega
      · have := h 0 h0; simp at this
  | x :: r, a, 0 => by constructor
                       · intro _ j hj; omega
                       · intro _; exact Nat.zero_le _
  | x :: r, a, n + 1 => by
    rw [runU]
    by_cases hx : x = a
    · subst hx
      rw [if_pos rfl]
      have ih := runU_iff r (x + 1) n
      constructor
      · intro h j hj
        cases j with
        | zero => rfl
        | succ j =>
          have := ih.1 (by omega) j (by omega)
          rw [List.getElem?_cons_succ, this]; congr 1; omega
      · intro h
        have := ih.2 (fun j hj => by have := h (j + 1) (by omega); rw [List.getElem?_cons_succ] at this; rw [this]; congr 1; omega)
        omega
    · rw [if_neg hx]
      constructor
      · intro h; omega
      · intro h
        have := h 0 (by omega)
        simp at this
        exact absurd this hx
theorem runA_iff (a : Nat) : ∀ (N : List Nat) (n : Nat), n ≤ runA a N ↔ ∀ j, j < n → N[j]? = some a
  | [], n => by
    rw [runA]
    constructor
    · intro h j hj; omega
    · intro h
      rcases Nat.eq_zero_or_pos n with h0 | h0
      · omega
      · have := h 0 h0; simp at this
  | x :: r, 0 => by constructor
                    · intro _ j hj; omega
                    · intro _; exact Nat.zero_le _
  | x :: r, n + 1 => by
    rw [runA]
    by_cases hx : x = a
    · subst hx
      rw [if_pos rfl]
      have ih := runA_iff x r n
      constructor
      · intro h j hj
        cases j with
        | zero => rfl
        | succ j => exact ih.1 (by omega) j (by omega)
      · intro h
        have := ih.2 (fun j hj => h (j + 1) (by omega))
        omega
    · rw [if_neg hx]
      constructor
      · intro h; omega
      · intro h
        have := h 0 (by omega)
        simp at this
        exact absurd this hx
/-- the items that may begin at a list's first number: the text, and how many numbers -/
abbrev Itm := List UInt8 × Nat
def upI (a j : Nat) : Itm := (Lib.decDigits a ++ 45 :: Lib.decDigits (a + j + 1), j + 2)
def alI (a j : Nat) : Itm := (Lib.decDigits (j + 2) ++ 120 :: Lib.decDigits a, j + 2)
def itemsL : List Nat → List Itm
  | [] => []
  | a :: r => (Lib.decDigits a, 1) :: ((List.range (runU a (a :: r) - 1)).map (upI a) ++ (List.range (runA a (a :: r) - 1)).map (alI a))
theorem mem_items {a : Nat} {r : List Nat} {x : Itm} : x ∈ itemsL (a :: r) ↔ x = (Lib.decDigits a, 1) ∨ (∃ j, j + 2 ≤ runU a (a :: r) ∧ x = upI a j) ∨ (∃ j, j + 2 ≤ runA a (a :: r) ∧ x = alI a j) := by
  unfold itemsL
  simp only [List.mem_cons, List.mem_append, List.mem_map, List.mem_range]
  refine or_congr_right (or_congr ⟨fun ⟨j, h, e⟩ => ⟨j, by omega, e.symm⟩, fun ⟨j, h, e⟩ => ⟨j, by omega, e.symm⟩⟩ ⟨fun ⟨j, h, e⟩ => ⟨j, by omega, e.symm⟩, fun ⟨j, h, e⟩ => ⟨j, by omega, e.symm⟩⟩)
theorem items_many {N : List Nat} {x : Itm} (h : x ∈ itemsL N) : 1 ≤ x.2 ∧ x.2 ≤ N.length := by
  cases N with
  | nil => cases h
  | cons a r =>
    rcases mem_items.1 h with rfl | ⟨j, hj, rfl⟩ | ⟨j, hj, rfl⟩
    · exact ⟨Nat.le_refl _, by simp⟩
    · have := runU_le (a :: r) a
      exact ⟨by unfold upI; omega, by show j + 2 ≤ _; omega⟩
    · have := runA_le a (a :: r)
      exact ⟨by unfold alI; omega, by show j + 2 ≤ _; omega⟩
theorem dec_not {c : UInt8} (hc : dgC c = false) (n : Nat) : c ∉ Lib.decDigits n := fun h => by
  have := List.all_eq_true.1 (dec_dig n) c h
  rw [hc] at this; cases this
theorem items_comma {N : List Nat} {x : Itm} (h : x ∈ itemsL N) : (44 : UInt8) ∉ x.1 := by
  have hd : ∀ n, (44 : UInt8) ∉ Lib.decDigits n := dec_not rfl
  cases N with
  | nil => cases h
  | cons a r =>
    rcases mem_items.1 h with rfl | ⟨j, hj, rfl⟩ | ⟨j, hj, rfl⟩
    · exact hd a
    · unfold upI
      simp only [List.mem_append, List.mem_cons, not_or]
      exact ⟨hd _, by decide, hd _⟩
    · unfold alI
      simp only [List.mem_append, List.mem_cons, not_or]
      exact ⟨hd _, by decide, hd _⟩
theorem items_ne {N : List Nat} {x : Itm} (h : x ∈ itemsL N) : x.1 ≠ [] := by
  cases N with
  | nil => cases h
  | cons a r =>
    rcases mem_items.1 h with rfl | ⟨j, hj, rfl⟩ | ⟨j, hj, rfl⟩
    · exact dec_ne a
    · unfold upI; simp
    · unfold alI; simp
theorem dec_inj {a b : Nat} (h : Lib.decDigits a = Lib.decDigits b) : a = b := by
  have := dec_val a
  rw [h, dec_val] at this
  exact this.symm
/-- an item's text says how many numbers it is -/
theorem items_inj {N : List Nat} {x y : Itm} (hx : x ∈ itemsL N) (hy : y ∈ itemsL N) (h : x.1 = y.1) : x = y := by
  have h45 : ∀ n, (45 : UInt8) ∉ Lib.decDigits n := dec_not rfl
  have h120 : ∀ n, (120 : UInt8) ∉ Lib.decDigits n := dec_not rfl
  have u45 : ∀ a j, (45 : UInt8) ∈ (upI a j).1 := fun a j => by unfold upI; simp
  have a120 : ∀ a j, (120 : UInt8) ∈ (alI a j).1 := fun a j => by unfold alI; simp
  have u120 : ∀ a j, (120 : UInt8) ∉ (upI a j).1 := fun a j => by unfold upI; simp only [List.mem_append, List.mem_cons, not_or]; exact ⟨h120 _, by decide, h120 _⟩
  cases N with
  | nil => cases hx
  | cons a r =>
    rcases mem_items.1 hx with rfl | ⟨j, hj, rfl⟩ | ⟨j, hj, rfl⟩ <;> rcases mem_items.1 hy with rfl | ⟨i, hi, rfl⟩ | ⟨i, hi, rfl⟩
    · rfl
    · have := u45 a i; rw [← h] at this; exact absurd this (h45 a)
    · have := a120 a i; rw [← h] at this; exact absurd this (h120 a)
    · have := u45 a j; rw [h] at this; exact absurd this (h45 a)
    · unfold upI at h
      have h2 := (List.cons.inj (List.append_cancel_left h)).2
      have := dec_inj h2
      have : j = i := by omega
      rw [this]
    · have := a120 a i; rw [← h] at this; exact absurd this (u120 a j)
    · have := a120 a j; rw [h] at this; exact absurd this (h120 a)
    · have := a120 a j; rw [h] at this; exact absurd this (u120 a i)
    · unfold alI at h
      have := dec_inj (List.append_cancel_right h)
      have : j = i := by omega
      rw [this]
/-- the texts of a list, with a comma behind each item -/
inductive Tc : List Nat → List UInt8 → Prop
  | nil : Tc [] []
  | cons {N : List Nat} {x : Itm} {u : List UInt8} (h : x ∈ itemsL N) (k : Tc (N.drop x.2) u) : Tc N (x.1 ++ 44 :: u)
/-- the order of texts: shorter, or as long and before -/
def ltS (s t : List UInt8) : Bool := decide (s.length < t.length) || (decide (s.length = t.length) && decide (s < t))
theorem ltS_yes {s t : List UInt8} : ltS s t = true ↔ s.length < t.length ∨ s.length = t.length ∧ s < t := by unfold ltS; simp
theorem lt_irr (s : List UInt8) : ¬ s < s := List.lt_irrefl s
theorem ltS_irr (s : List UInt8) : ltS s s = false := by
  cases h : ltS s s
  · rfl
  · rcases ltS_yes.1 h with h | ⟨_, h⟩
    · omega
    · exact absurd h (lt_irr s)
theorem ltS_tr {s t u : List UInt8} (h : ltS s t = true) (k : ltS t u = true) : ltS s u = true := by
  rw [ltS_yes] at *
  rcases h with h | ⟨h, h'⟩ <;> rcases k with k | ⟨k, k'⟩
  · left; omega
  · left; omega
  · left; omega
  · right; exact ⟨by omega, List.lt_trans h' k'⟩
theorem ltS_tri {s t : List UInt8} (h : ltS s t = false) (hne : s ≠ t) : ltS t s = true := by
  rw [ltS_yes]
  have h' : ¬ (s.length < t.length ∨ s.length = t.length ∧ s < t) := fun k => by rw [ltS_yes.2 k] at h; cases h
  rcases Nat.lt_trichotomy s.length t.length with k | k | k
  · exact absurd (.inl k) h'
  · right
    refine ⟨k.symm, ?_⟩
    by_cases q : t < s
    · exact q
    · rw [List.not_lt] at q
      rcases List.le_iff_lt_or_eq.1 q with g | g
      · exact absurd (.inr ⟨k, g⟩) h'
      · exact absurd g hne
  · exact .inl k
/-- the least of some texts: the first of them in that order -/
def pickM : List (List UInt8) → List UInt8
  | [] => []
  | s :: r => r.foldl (fun b x => if ltS x b then x else b) s
theorem pick_fold : ∀ (r : List (List UInt8)) (b : List UInt8), (r.foldl (fun b x => if ltS x b then x else b) b = b ∨ r.foldl (fun b x => if ltS x b then x else b) b ∈ r) ∧ ltS b (r.foldl (fun b x => if ltS x b then x else b) b) = false ∧ ∀ t, t ∈ r → ltS t (r.foldl (fun b x => if ltS x b then x else b) b) = false
  | [], b => ⟨.inl rfl, ltS_irr b, by simp⟩
  | x :: r, b => by
    rw [List.foldl_cons]
    obtain ⟨b', hb'⟩ : ∃ z, (if ltS x b then x else b) = z := ⟨_, rfl⟩
    rw [hb']
    obtain ⟨h1, h2, h3⟩ := pick_fold r b'
    obtain ⟨z, hz⟩ : ∃ z, r.foldl (fun b x => if ltS x b then x else b) b' = z := ⟨_, rfl⟩
    rw [hz] at h1 h2 h3 ⊢
    have key : ltS b z = false ∧ ltS x z = false := by
      cases hx : ltS x b
      · rw [hx] at hb'
        have hb' : b = b' := hb'
        subst hb'
        refine ⟨h2, ?_⟩
        cases hk : ltS x z
        · rfl
        · exfalso
          by_cases e : b = z
          · rw [e] at hx; rw [hx] at hk; cases hk
          · have := ltS_tr hk (ltS_tri h2 e)
            rw [hx] at this; cases this
      · rw [hx] at hb'
        have hb' : x = b' := hb'
        subst hb'
        refine ⟨?_, h2⟩
        cases hk : ltS b z
        · rfl
        · have := ltS_tr hx hk
          rw [h2] at this; cases this
    refine ⟨?_, key.1, ?_⟩
    · rcases h1 with h1 | h1
      · cases hx : ltS x b
        · rw [hx] at hb'; left; rw [h1]; exact hb'.symm
        · rw [hx] at hb'; right; rw [h1, ← hb']; exact List.mem_cons_self ..
      · exact .inr (List.mem_cons_of_mem _ h1)
    · intro t ht
      rcases List.mem_cons.1 ht with rfl | ht
      · exact key.2
      · exact h3 t ht
theorem pick_mem {R : List (List UInt8)} (h : R ≠ []) : pickM R ∈ R ∧ ∀ t, t ∈ R → ltS t (pickM R) = false := by
  cases R with
  | nil => exact absurd rfl h
  | cons s r =>
    obtain ⟨h1, h2, h3⟩ := pick_fold r s
    refine ⟨?_, ?_⟩
    · rcases h1 with h1 | h1
      · exact List.mem_cons.2 (.inl h1)
      · exact List.mem_cons_of_mem _ h1
    · intro t ht
      rcases List.mem_cons.1 ht with rfl | ht
      · exact h2
      · exact h3 t ht
theorem pick_is {R : List (List UInt8)} {s : List UInt8} (hs : s ∈ R) (hm : ∀ t, t ∈ R → ltS t s = false) : pickM R = s := by
  have hne : R ≠ [] := by rintro rfl; cases hs
  obtain ⟨h1, h2⟩ := pick_mem hne
  by_cases e : pickM R = s
  · exact e
  · have := ltS_tri (hm _ h1) e
    rw [h2 s hs] at this; cases this
/-- the best text of a list, with a comma behind each item (the number: at least its length) -/
def bestF : Nat → List Nat → List UInt8
  | 0, _ => []
  | k + 1, N => pickM ((itemsL N).map fun x => x.1 ++ 44 :: bestF k (N.drop x.2))
def bestC (N : List Nat) : List UInt8 := bestF N.length N
theorem bestF_nil (k : Nat) : bestF k [] = [] := by cases k <;> rfl
theorem bestF_more : ∀ (k m : Nat) (N : List Nat), N.length ≤ k → N.length ≤ m → bestF k N = bestF m N
  | 0, m, N, h, _ => by
    have : N = [] := List.length_eq_zero_iff.1 (by omega)
    subst this; rw [bestF_nil, bestF_nil]
  | k + 1, 0, N, _, h => by
    have : N = [] := List.length_eq_zero_iff.1 (by omega)
    subst this; rw [bestF_nil, bestF_nil]
  | k + 1, m + 1, N, h, h' => by
    rw [bestF, bestF]
    congr 1
    apply List.map_congr_left
    intro x hx
    have := items_many hx
    rw [bestF_more k m (N.drop x.2) (by rw [List.length_drop]; omega) (by rw [List.length_drop]; omega)]
/-- the candidates -/
def candL (N : List Nat) : List (List UInt8) := (itemsL N).map fun x => x.1 ++ 44 :: bestC (N.drop x.2)
theorem bestC_nil : bestC [] = [] := rfl
theorem bestC_eq {N : List Nat} (h : N ≠ []) : bestC N = pickM (candL N) := by
  obtain ⟨k, hk⟩ : ∃ k, N.length = k + 1 := ⟨N.length - 1, by have := List.length_pos_iff.2 h; omega⟩
  unfold bestC candL
  rw [hk, bestF]
  congr 1
  apply List.map_congr_left
  intro x hx
  have := items_many hx
  unfold bestC
  rw [bestF_more k _ (N.drop x.2) (by rw [List.length_drop]; omega) (Nat.le_refl _)]
theorem items_some {N : List Nat} (h : N ≠ []) : itemsL N ≠ [] := by
  cases N with
  | nil => exact absurd rfl h
  | cons a r => unfold itemsL; simp
theorem cand_ne {N : List Nat} (h : N ≠ []) : candL N ≠ [] := by
  unfold candL; simpa using items_some h
/-- it is a text of the list -/
theorem best_tc : ∀ (k : Nat) (N : List Nat), N.length ≤ k → Tc N (bestC N)
  | 0, N, h => by
    have : N = [] := List.length_eq_zero_iff.1 (by omega)
    subst this; exact .nil
  | k + 1, N, h => by
    by_cases hN : N = []
    · subst hN; exact .nil
    · rw [bestC_eq hN]
      have := (pick_mem (cand_ne hN)).1
      unfold candL at this
      obtain ⟨x, hx, e⟩ := List.mem_map.1 this
      rw [show candL N = (itemsL N).map fun x => x.1 ++ 44 :: bestC (N.drop x.2) from rfl, ← e]
      have hm := items_many hx
      exact .cons hx (best_tc k _ (by rw [List.length_drop]; omega))
/-- two texts that differ before their first comma -/
theorem lt_comma : ∀ (x y u v : List UInt8), (44 : UInt8) ∉ x → (44 : UInt8) ∉ y → x ≠ y → ((x ++ 44 :: u < y ++ 44 :: v) ↔ (x ++ [44] < y ++ [44]))
  | [], [], _, _, _, _, h => absurd rfl h
  | [], c :: y, u, v, _, hy, _ => by
    have hc : (44 : UInt8) ≠ c := fun e => hy (by rw [e]; exact List.mem_cons_self ..)
    simp only [List.nil_append, List.cons_append, List.cons_lt_cons_iff]
    simp [hc]
  | c :: x, [], u, v, hx, _, _ => by
    have hc : c ≠ (44 : UInt8) := fun e => hx (by rw [e]; exact List.mem_cons_self ..)
    simp only [List.nil_append, List.cons_append, List.cons_lt_cons_iff]
    simp [hc]
  | c :: x, d :: y, u, v, hx, hy, h => by
    simp only [List.cons_append, List.cons_lt_cons_iff]
    by_cases e : c = d
    · subst e
      have ih := lt_comma x y u v (fun k => hx (List.mem_cons_of_mem _ k)) (fun k => hy (List.mem_cons_of_mem _ k)) (fun k => h (by rw [k]))
      rw [ih]
    · simp [e]
theorem lt_same (x : List UInt8) (a b : List UInt8) : (x ++ a < x ++ b) ↔ a < b := by
  induction x with
  | nil => exact Iff.rfl
  | cons c x ih => simp only [List.cons_append, List.cons_lt_cons_iff]; simp [ih]
theorem ltS_pre (x : List UInt8) (a b : List UInt8) : ltS (x ++ a) (x ++ b) = ltS a b := by
  rw [Bool.eq_iff_iff, ltS_yes, ltS_yes, lt_same]
  simp only [List.length_append]
  constructor
  · rintro (h | ⟨h, k⟩)
    · left; omega
    · right; exact ⟨by omega, k⟩
  · rintro (h | ⟨h, k⟩)
    · left; omega
    · right; exact ⟨by omega, k⟩
/-- and none is before it -/
theorem best_min : ∀ (k : Nat) (N : List Nat) (t : List UInt8), N.length ≤ k → Tc N t → ltS t (bestC N) = false
  | _, _, _, _, .nil => ltS_irr _
  | 0, N, _, h, .cons (x := x) hx _ => by
    have := items_many hx; omega
  | k + 1, N, _, h, .cons (x := x) (u := u) hx hu => by
    have hm := items_many hx
    have hN : N ≠ [] := by rintro rfl; cases hx
    have ih := best_min k (N.drop x.2) u (by rw [List.length_drop]; omega) hu
    have hc : x.1 ++ 44 :: bestC (N.drop x.2) ∈ candL N := List.mem_map.2 ⟨x, hx, rfl⟩
    have h2 := (pick_mem (cand_ne hN)).2 _ hc
    rw [← bestC_eq hN] at h2
    have h3 : ltS (x.1 ++ 44 :: u) (x.1 ++ 44 :: bestC (N.drop x.2)) = false := by
      rw [ltS_pre, show (44 :: u) = [44] ++ u from rfl, show (44 :: bestC (N.drop x.2)) = [44] ++ bestC (N.drop x.2) from rfl, ltS_pre]
      exact ih
    cases hk : ltS (x.1 ++ 44 :: u) (bestC N)
    · rfl
    · exfalso
      by_cases e : x.1 ++ 44 :: u = x.1 ++ 44 :: bestC (N.drop x.2)
      · rw [e, h2] at hk; cases hk
      · have := ltS_tr (ltS_tri h3 e) hk
        rw [h2] at this; cases this
theorem best_text (N : List Nat) : Tc N (bestC N) := best_tc _ N (Nat.le_refl _)
theorem best_least {N : List Nat} {t : List UInt8} (h : Tc N t) : ltS t (bestC N) = false := best_min _ N t (Nat.le_refl _) h
/-- what the program picks: of the items that attain the least length the first one -/
theorem pick_item {N : List Nat} {x : Itm} (hx : x ∈ itemsL N) (hl : x.1.length + 1 + (bestC (N.drop x.2)).length = (bestC N).length)
    (hm : ∀ y, y ∈ itemsL N → y.1.length + 1 + (bestC (N.drop y.2)).length = (bestC N).length → ¬ (y.1 ++ [44] < x.1 ++ [44])) : x.1 ++ 44 :: bestC (N.drop x.2) = bestC N := by
  have hN : N ≠ [] := by rintro rfl; cases hx
  have hlen : ∀ y : Itm, (y.1 ++ 44 :: bestC (N.drop y.2)).length = y.1.length + 1 + (bestC (N.drop y.2)).length := fun y => by rw [List.length_append, List.length_cons]; omega
  symm
  rw [bestC_eq hN]
  refine pick_is (List.mem_map.2 ⟨x, hx, rfl⟩) ?_
  intro t ht
  obtain ⟨y, hy, rfl⟩ := List.mem_map.1 ht
  cases hk : ltS (y.1 ++ 44 :: bestC (N.drop y.2)) (x.1 ++ 44 :: bestC (N.drop x.2))
  · rfl
  · exfalso
    have hb := best_least (Tc.cons hy (best_text (N.drop y.2)))
    have hle : (bestC N).length ≤ y.1.length + 1 + (bestC (N.drop y.2)).length := by
      rcases Nat.lt_or_ge (y.1.length + 1 + (bestC (N.drop y.2)).length) (bestC N).length with h | h
      · rw [ltS_yes.2 (.inl (by rw [hlen]; exact h))] at hb; cases hb
      · exact h
    rcases ltS_yes.1 hk with h | ⟨h, h'⟩
    · rw [hlen, hlen] at h; omega
    · rw [hlen, hlen] at h
      by_cases e : x.1 = y.1
      · have := items_inj hx hy e
        subst this
        exact lt_irr _ h'
      · exact hm y hy (by omega) ((lt_comma _ _ _ _ (items_comma hy) (items_comma hx) (fun k => e k.symm)).1 h')
/-- without the comma at the end -/
theorem lt_last {a b : List UInt8} (h : a.length = b.length) : (a ++ [44] < b ++ [44]) ↔ a < b := by
  induction a generalizing b with
  | nil =>
    cases b with
    | nil => simp
    | cons d b => simp at h
  | cons c a ih =>
    cases b with
    | nil => simp at h
    | cons d b =>
      simp only [List.cons_append, List.cons_lt_cons_iff]
      rw [ih (by simpa using h)]
theorem ltS_last (a b : List UInt8) : ltS (a ++ [44]) (b ++ [44]) = ltS a b := by
  rw [Bool.eq_iff_iff, ltS_yes, ltS_yes]
  simp only [List.length_append, List.length_singleton]
  constructor
  · rintro (h | ⟨h, k⟩)
    · left; omega
    · right; exact ⟨by omega, (lt_last (by omega)).1 k⟩
  · rintro (h | ⟨h, k⟩)
    · left; omega
    · right; exact ⟨by omega, (lt_last (by omega)).2 k⟩
theorem tc_end : ∀ {N : List Nat} {t : List UInt8}, Tc N t → N ≠ [] → ∃ s, t = s ++ [44]
  | _, _, .nil, h => absurd rfl h
  | N, _, .cons (x := x) (u := u) hx hu, _ => by
    by_cases h : N.drop x.2 = []
    · rw [h] at hu
      cases hu with
      | nil => exact ⟨x.1, rfl⟩
      | cons h' _ => cases h'
    · obtain ⟨s, rfl⟩ := tc_end hu h
      exact ⟨x.1 ++ 44 :: s, by simp⟩
/-- the text itself -/
def bestS (N : List Nat) : List UInt8 := (bestC N).dropLast
theorem bestS_nil : bestS [] = [] := rfl
theorem bestC_S {N : List Nat} (h : N ≠ []) : bestC N = bestS N ++ [44] := by
  obtain ⟨s, hs⟩ := tc_end (best_text N) h
  unfold bestS
  rw [hs, List.dropLast_concat]
end Go.Proofs.YtkklmljannclmaaDoor

namespace Go.Proofs.YtkklmljannclmaaDoor

/-- where an item is parted -/
def pcut (s : List UInt8) : Nat := s.findIdx (fun c => decide (c = 45) || decide (c = 120))
/-- an item that is read: the first number, the last one, how many times -/
abbrev Prt := Nat × Nat × Nat
def itmP (s : List UInt8) : Option Prt :=
  if pcut s < s.length then
    if natB (s.take (pcut s)) = true ∧ natB (s.drop (pcut s + 1)) = true then
      if s.getD (pcut s) 0 = 45 then
        if valN 0 (s.take (pcut s)) < valN 0 (s.drop (pcut s + 1)) then some (valN 0 (s.take (pcut s)), valN 0 (s.drop (pcut s + 1)), 1) else none
      else if 2 ≤ valN 0 (s.take (pcut s)) then some (valN 0 (s.drop (pcut s + 1)), valN 0 (s.drop (pcut s + 1)), valN 0 (s.take (pcut s))) else none
    else none
  else if natB s = true then some (valN 0 s, valN 0 s, 1) else none
theorem pcut_le (s : List UInt8) : pcut s ≤ s.length := List.findIdx_le_length
theorem pcut_all {s : List UInt8} (h : ∀ c, c ∈ s → c ≠ 45 ∧ c ≠ 120) : pcut s = s.length := by
  unfold pcut
  rw [List.findIdx_eq_length]
  intro c hc
  simp [(h c hc).1, (h c hc).2]
theorem pcut_app {a r : List UInt8} {c : UInt8} (h : ∀ c, c ∈ a → c ≠ 45 ∧ c ≠ 120) (hc : c = 45 ∨ c = 120) : pcut (a ++ c :: r) = a.length := by
  unfold pcut
  rw [List.findIdx_append]
  have := pcut_all h
  unfold pcut at this
  rw [this, if_neg (Nat.lt_irrefl _), List.findIdx_cons]
  have : (decide (c = 45) || decide (c = 120)) = true := by simpa using hc
  rw [this]; simp
theorem itm_one {s : List UInt8} (h : pcut s = s.length) : itmP s = if natB s = true then some (valN 0 s, valN 0 s, 1) else none := by
  unfold itmP; rw [if_neg (by omega)]
theorem itm_cut {a b : List UInt8} {c : UInt8} (h : pcut (a ++ c :: b) = a.length) : itmP (a ++ c :: b) = if natB a = true ∧ natB b = true then (if c = 45 then (if valN 0 a < valN 0 b then some (valN 0 a, valN 0 b, 1) else none) else if 2 ≤ valN 0 a then some (valN 0 b, valN 0 b, valN 0 a) else none) else none := by
  have h1 : (a ++ c :: b).take a.length = a := List.take_left' rfl
  have h2 : (a ++ c :: b).drop (a.length + 1) = b := by rw [List.drop_append]; simp
  have h3 : (a ++ c :: b).getD a.length 0 = c := by simp
  unfold itmP
  rw [h, h1, h2, h3, if_pos (by rw [List.length_append, List.length_cons]; omega)]
/-- a string is parted there -/
theorem pcut_ways (s : List UInt8) : (pcut s = s.length) ∨ ∃ a c b, s = a ++ c :: b ∧ pcut s = a.length ∧ (c = 45 ∨ c = 120) := by
  rcases Nat.lt_or_ge (pcut s) s.length with h | h
  · right
    refine ⟨s.take (pcut s), s[pcut s], s.drop (pcut s + 1), ?_, ?_, ?_⟩
    · rw [List.getElem_cons_drop h, List.take_append_drop]
    · rw [List.length_take]; omega
    · have := List.findIdx_getElem (p := fun c => decide (c = 45) || decide (c = 120)) (xs := s) (w := h)
      simp only [Bool.or_eq_true, decide_eq_true_eq] at this
      exact this
  · left
    have := pcut_le s
    omega
/-- the numbers that it stands for -/
def prtL (x : Prt) : List Nat := (List.replicate x.2.2 (List.range' x.1 (x.2.1 + 1 - x.1))).flatten
def prtN (x : Prt) : Nat := x.2.2 * (x.2.1 + 1 - x.1)
theorem prt_len (x : Prt) : (prtL x).length = prtN x := by unfold prtL prtN; simp
theorem prtL_one (a b : Nat) : prtL (a, b, 1) = List.range' a (b + 1 - a) := by unfold prtL; simp
theorem rep_flat (k b : Nat) : (List.replicate k [b]).flatten = List.replicate k b := by
  induction k with
  | zero => rfl
  | succ k ih => rw [List.replicate_succ, List.flatten_cons, ih, List.replicate_succ]; rfl
theorem prtL_times (b k : Nat) : prtL (b, b, k) = List.replicate k b := by
  unfold prtL
  rw [show b + 1 - b = 1 by omega, show List.range' b 1 = [b] from rfl]
  exact rep_flat k b
/-- what an item is like -/
structure PrtOk (x : Prt) : Prop where
  le : x.1 ≤ x.2.1
  one : 1 ≤ x.2.2
  eq : x.2.2 = 1 ∨ x.1 = x.2.1
theorem itm_ok {s : List UInt8} {x : Prt} (h : itmP s = some x) : PrtOk x := by
  rcases pcut_ways s with hc | ⟨a, c, b, rfl, hc, hcc⟩
  · rw [itm_one hc] at h
    split at h
    · cases h; exact ⟨Nat.le_refl _, Nat.le_refl _, .inl rfl⟩
    · cases h
  · rw [itm_cut hc] at h
    split at h
    · split at h
      · split at h
        · rename_i hlt
          cases h
          exact ⟨Nat.le_of_lt hlt, Nat.le_refl _, .inl rfl⟩
        · cases h
      · split at h
        · rename_i hlt
          cases h
          exact ⟨Nat.le_refl _, by show 1 ≤ valN 0 a; omega, .inr rfl⟩
        · cases h
    · cases h
theorem rg_get {a n j : Nat} (h : j < n) (R : List Nat) : (List.range' a n ++ R)[j]? = some (a + j) := by
  rw [List.getElem?_append_left (by simpa using h), List.getElem?_range' h]; simp
/-- what is read is an item that may begin there -/
theorem itm_item {s : List UInt8} {x : Prt} (h : itmP s = some x) (R : List Nat) : (s, prtN x) ∈ itemsL (prtL x ++ R) := by
  rcases pcut_ways s with hc | ⟨a, c, b, rfl, hc, hcc⟩
  · rw [itm_one hc] at h
    split at h
    · rename_i hn
      cases h
      rw [prtL_one, show valN 0 s + 1 - valN 0 s = 1 by omega]
      refine mem_items.2 (.inl ?_)
      rw [dec_of _ s rfl hn]
      unfold prtN
      dsimp only
      rw [show valN 0 s + 1 - valN 0 s = 1 by omega]
    · cases h
  · rw [itm_cut hc] at h
    split at h
    · rename_i hn
      split at h
      · rename_i he
        subst he
        split at h
        · rename_i hlt
          cases h
          rw [prtL_one]
          obtain ⟨v, hv⟩ : ∃ v, valN 0 a = v := ⟨_, rfl⟩
          obtain ⟨u, hu⟩ : ∃ u, valN 0 b = u := ⟨_, rfl⟩
          have ha := dec_of _ a rfl hn.1
          have hb := dec_of _ b rfl hn.2
          rw [hv] at ha hlt ⊢
          rw [hu] at hb hlt ⊢
          obtain ⟨n, hn'⟩ : ∃ n, u + 1 - v = n + 2 := ⟨u - v - 1, by omega⟩
          unfold prtN
          rw [hn']
          have hr : List.range' v (n + 2) ++ R = v :: (List.range' (v + 1) (n + 1) ++ R) := by rw [List.range'_succ]; rfl
          have hru : n + 2 ≤ runU v (List.range' v (n + 2) ++ R) := (runU_iff _ _ _).2 (fun j hj => rg_get hj R)
          rw [hr] at hru ⊢
          refine mem_items.2 (.inr (.inl ⟨n, hru, ?_⟩))
          unfold upI
          rw [ha, show v + n + 1 = u by omega, hb, Nat.one_mul]
        · cases h
      · rename_i he
        have hx : c = 120 := hcc.resolve_left he
        subst hx
        split at h
        · rename_i hlt
          cases h
          rw [prtL_times]
          obtain ⟨v, hv⟩ : ∃ v, valN 0 a = v := ⟨_, rfl⟩
          obtain ⟨u, hu⟩ : ∃ u, valN 0 b = u := ⟨_, rfl⟩
          have ha := dec_of _ a rfl hn.1
          have hb := dec_of _ b rfl hn.2
          rw [hv] at ha hlt ⊢
          rw [hu] at hb ⊢
          obtain ⟨n, rfl⟩ : ∃ n, v = n + 2 := ⟨v - 2, by omega⟩
          unfold prtN
          have hr : List.replicate (n + 2) u ++ R = u :: (List.replicate (n + 1) u ++ R) := by rw [List.replicate_succ]; rfl
          have hru : n + 2 ≤ runA u (List.replicate (n + 2) u ++ R) := (runA_iff _ _ _).2 (fun j hj => by
            rw [List.getElem?_append_left (by simpa using hj)]; simp [hj])
          rw [hr] at hru ⊢
          refine mem_items.2 (.inr (.inr ⟨n, hru, ?_⟩))
          unfold alI
          rw [ha, hb, show u + 1 - u = 1 by omega, Nat.mul_one]
        · cases h
    · cases h
theorem dg_cut {l : List UInt8} (h : l.all dgC = true) : ∀ c, c ∈ l → c ≠ 45 ∧ c ≠ 120 := fun c hc => by
  have := List.all_eq_true.1 h c hc
  refine ⟨?_, ?_⟩
  · rintro rfl; cases this
  · rintro rfl; cases this
/-- an item is read as its numbers -/
theorem item_itm {N : List Nat} {x : Itm} (h : x ∈ itemsL N) : ∃ p, itmP x.1 = some p ∧ prtL p = N.take x.2 := by
  cases N with
  | nil => cases h
  | cons a r =>
    have hd : ∀ n, ∀ c, c ∈ Lib.decDigits n → c ≠ 45 ∧ c ≠ 120 := fun n => dg_cut (dec_dig n)
    rcases mem_items.1 h with rfl | ⟨j, hj, rfl⟩ | ⟨j, hj, rfl⟩
    · refine ⟨(a, a, 1), ?_, ?_⟩
      · show itmP (Lib.decDigits a) = _
        rw [itm_one (pcut_all (hd a)), if_pos (dec_natB a), dec_val]
      · rw [prtL_one, show a + 1 - a = 1 by omega]; rfl
    · refine ⟨(a, a + j + 1, 1), ?_, ?_⟩
      · show itmP (Lib.decDigits a ++ 45 :: Lib.decDigits (a + j + 1)) = _
        rw [itm_cut (pcut_app (hd a) (.inl rfl)), if_pos ⟨dec_natB _, dec_natB _⟩, if_pos rfl, dec_val, dec_val, if_pos (by omega)]
      · rw [prtL_one, show a + j + 1 + 1 - a = j + 2 by omega]
        show _ = List.take (j + 2) (a :: r)
        have hru := (runU_iff _ _ _).1 hj
        apply List.ext_getElem?
        intro i
        rcases Nat.lt_or_ge i (j + 2) with hi | hi
        · rw [List.getElem?_range' hi, List.getElem?_take_of_lt hi, hru i hi]; simp
        · rw [List.getElem?_eq_none (by simpa using hi), List.getElem?_eq_none (by rw [List.length_take]; omega)]
    · refine ⟨(a, a, j + 2), ?_, ?_⟩
      · show itmP (Lib.decDigits (j + 2) ++ 120 :: Lib.decDigits a) = _
        rw [itm_cut (pcut_app (hd _) (.inr rfl)), if_pos ⟨dec_natB _, dec_natB _⟩, if_neg (by decide), dec_val, dec_val, if_pos (by omega)]
      · rw [prtL_times]
        show _ = List.take (j + 2) (a :: r)
        have hru := (runA_iff _ _ _).1 hj
        apply List.ext_getElem?
        intro i
        rcases Nat.lt_or_ge i (j + 2) with hi | hi
        · rw [List.getElem?_take_of_lt hi, hru i hi]; simp [hi]
        · rw [List.getElem?_eq_none (by simpa using hi), List.getElem?_eq_none (by rw [List.length_take]; omega)]
/-- texts, with a comma behind each -/
def cmm (P : List (List UInt8)) : List UInt8 := (P.map (· ++ [44])).flatten
theorem cmm_cons (p : List UInt8) (P : List (List UInt8)) : cmm (p :: P) = p ++ 44 :: cmm P := by unfold cmm; simp
theorem cmm_jn {P : List (List UInt8)} (h : P ≠ []) : cmm P = jn 44 P ++ [44] := by
  induction P with
  | nil => exact absurd rfl h
  | cons p q ih =>
    cases q with
    | nil => simp [jn, cmm]
    | cons a b =>
      have := ih (by simp)
      rw [jn_cons (by simp), cmm_cons, this]
      simp
/-- items that are read, one behind the other -/
theorem read_tc : ∀ {P : List (List UInt8)}, (∀ p, p ∈ P → itmP p ≠ none) → Tc ((P.filterMap itmP).flatMap prtL) (cmm P)
  | [], _ => .nil
  | p :: P, h => by
    have ih := read_tc (P := P) (fun q hq => h q (List.mem_cons_of_mem _ hq))
    cases hp : itmP p with
    | none => exact absurd hp (h p (List.mem_cons_self ..))
    | some x =>
      rw [List.filterMap_cons, hp, cmm_cons]
      dsimp only
      rw [List.flatMap_cons]
      have hi := itm_item hp ((P.filterMap itmP).flatMap prtL)
      refine .cons hi ?_
      show Tc ((prtL x ++ _).drop (prtN x)) _
      rw [← prt_len, List.drop_left' rfl]
      exact ih
theorem tc_read : ∀ {N : List Nat} {t : List UInt8}, Tc N t → ∃ P, t = cmm P ∧ (∀ p, p ∈ P → (44 : UInt8) ∉ p ∧ itmP p ≠ none) ∧ (P.filterMap itmP).flatMap prtL = N ∧ (N ≠ [] → P ≠ [])
  | _, _, .nil => ⟨[], rfl, by simp, rfl, fun h => absurd rfl h⟩
  | N, _, .cons (x := x) (u := u) hx hu => by
    obtain ⟨P, rfl, h1, h2, _⟩ := tc_read hu
    obtain ⟨p, hp, hl⟩ := item_itm hx
    refine ⟨x.1 :: P, (cmm_cons _ _).symm, ?_, ?_, fun _ => by simp⟩
    · intro q hq
      rcases List.mem_cons.1 hq with rfl | hq
      · exact ⟨items_comma hx, by rw [hp]; simp⟩
      · exact h1 q hq
    · rw [List.filterMap_cons, hp]
      dsimp only
      rw [List.flatMap_cons, hl, h2, List.take_append_drop]
/-- what ParseList answers -/
def plP (s : List UInt8) : List Prt := (spl 44 s).filterMap itmP
def sumP (X : List Prt) : Nat := (X.map prtN).sum
def plE (s : List UInt8) : Int := if 2500 < s.length then 3 else if s = [] then 0 else if (spl 44 s).any (fun p => (itmP p).isNone) = true then 6 else if (plP s).any (fun x => decide (9999 < x.2.1)) = true then 7 else if 500 < sumP (plP s) then 3 else 0
def plL (s : List UInt8) : List Nat := if plE s = 0 ∧ s ≠ [] then (plP s).flatMap prtL else []
theorem sumP_len (X : List Prt) : (X.flatMap prtL).length = sumP X := by
  induction X with
  | nil => rfl
  | cons x X ih => rw [List.flatMap_cons, List.length_append, ih, prt_len]; rfl
section
variable {s : List UInt8}
theorem plE_long (h : 2500 < s.length) : plE s = 3 := by unfold plE; rw [if_pos h]
theorem plE_nil : plE [] = 0 := rfl
theorem plE_form (h : ¬ 2500 < s.length) (h0 : s ≠ []) {p : List UInt8} (hp : p ∈ spl 44 s) (hn : itmP p = none) : plE s = 6 := by
  unfold plE; rw [if_neg h, if_neg h0, if_pos]
  rw [List.any_eq_true]; exact ⟨p, hp, by rw [hn]; rfl⟩
theorem pl_all (h : ∀ p, p ∈ spl 44 s → itmP p ≠ none) : (spl 44 s).any (fun p => (itmP p).isNone) = false := by
  rw [List.any_eq_false]
  intro p hp
  have := h p hp
  cases hi : itmP p with
  | none => exact absurd hi this
  | some x => simp
theorem plE_range (h : ¬ 2500 < s.length) (h0 : s ≠ []) (ha : ∀ p, p ∈ spl 44 s → itmP p ≠ none) {x : Prt} (hx : x ∈ plP s) (hn : 9999 < x.2.1) : plE s = 7 := by
  unfold plE; rw [if_neg h, if_neg h0, if_neg (by rw [pl_all ha]; simp), if_pos]
  rw [List.any_eq_true]; exact ⟨x, hx, decide_eq_true hn⟩
theorem plE_rest (h : ¬ 2500 < s.length) (h0 : s ≠ []) (ha : ∀ p, p ∈ spl 44 s → itmP p ≠ none) (hr : ∀ x, x ∈ plP s → ¬ 9999 < x.2.1) : plE s = if 500 < sumP (plP s) then 3 else 0 := by
  unfold plE; rw [if_neg h, if_neg h0, if_neg (by rw [pl_all ha]; simp), if_neg]
  rw [Bool.not_eq_true, List.any_eq_false]
  intro x hx
  have := hr x hx
  simpa using this
theorem plL_bad (h : plE s ≠ 0) : plL s = [] := by unfold plL; rw [if_neg (fun k => h k.1)]
theorem plL_ok (h : plE s = 0) (h0 : s ≠ []) : plL s = (plP s).flatMap prtL := by unfold plL; rw [if_pos ⟨h, h0⟩]
theorem pl_good (h : plE s = 0) (h0 : s ≠ []) : ¬ 2500 < s.length ∧ (∀ p, p ∈ spl 44 s → itmP p ≠ none) ∧ (∀ x, x ∈ plP s → ¬ 9999 < x.2.1) ∧ ¬ 500 < sumP (plP s) := by
  have h1 : ¬ 2500 < s.length := fun k => by rw [plE_long k] at h; cases h
  have h2 : ∀ p, p ∈ spl 44 s → itmP p ≠ none := fun p hp hn => by rw [plE_form h1 h0 hp hn] at h; cases h
  have h3 : ∀ x, x ∈ plP s → ¬ 9999 < x.2.1 := fun x hx hn => by rw [plE_range h1 h0 h2 hx hn] at h; cases h
  refine ⟨h1, h2, h3, fun k => ?_⟩
  rw [plE_rest h1 h0 h2 h3, if_pos k] at h; cases h
/-- a text that is read is a text of its list -/
theorem pl_tc (h : plE s = 0) (h0 : s ≠ []) : Tc (plL s) (s ++ [44]) := by
  obtain ⟨_, h2, _⟩ := pl_good h h0
  have := read_tc h2
  rw [cmm_jn (spl_ne 44 s), jn_spl] at this
  rw [plL_ok h h0]
  exact this
end
/-- the text of a list is read as the list -/
theorem best_len (N : List Nat) (h : ∀ x, x ∈ N → x ≤ 9999) : (bestC N).length ≤ 5 * N.length := by
  have key : ∀ N : List Nat, (∀ x, x ∈ N → x ≤ 9999) → ∃ t, Tc N t ∧ t.length ≤ 5 * N.length := by
    intro N
    induction N with
    | nil => intro _; exact ⟨[], .nil, by simp⟩
    | cons a r ih =>
      intro h
      obtain ⟨t, ht, hl⟩ := ih (fun x hx => h x (List.mem_cons_of_mem _ hx))
      refine ⟨Lib.decDigits a ++ 44 :: t, .cons (x := (Lib.decDigits a, 1)) (mem_items.2 (.inl rfl)) ht, ?_⟩
      have ha := h a (List.mem_cons_self ..)
      have : (Lib.decDigits a).length ≤ 4 := by
        rcases Nat.lt_or_ge (Lib.decDigits a).length 5 with k | k
        · omega
        · have hb := val_big (dec_dig a) (dec_ne a)
          by_cases ha0 : 1 ≤ a
          · have hb := hb (dec_head a ha0)
            rw [dec_val] at hb
            have : 10 ^ 4 ≤ 10 ^ ((Lib.decDigits a).length - 1) := Nat.pow_le_pow_right (by decide) (by omega)
            omega
          · have : a = 0 := by omega
            subst this
            rw [Lib.decDigits_one (by decide)] at k; simp at k
      rw [List.length_append, List.length_cons, List.length_cons]
      omega
  obtain ⟨t, ht, hl⟩ := key N h
  have := best_least ht
  rcases Nat.lt_or_ge t.length (bestC N).length with k | k
  · rw [ltS_yes.2 (.inl k)] at this; cases this
  · omega
theorem prtL_last {x : Prt} (h : PrtOk x) : x.2.1 ∈ prtL x := by
  unfold prtL
  rw [List.mem_flatten]
  have := h.one
  have := h.le
  refine ⟨_, List.mem_replicate.2 ⟨by omega, rfl⟩, ?_⟩
  rw [List.mem_range'_1]
  omega
theorem spl_cmm {P : List (List UInt8)} (h : P ≠ []) (hp : ∀ p, p ∈ P → (44 : UInt8) ∉ p) : spl 44 ((cmm P).dropLast) = P := by
  rw [cmm_jn h, List.dropLast_concat, spl_jn h hp]
theorem pl_best {N : List Nat} (h : ∀ x, x ∈ N → x ≤ 9999) (hn : N.length ≤ 500) : plE (bestS N) = 0 ∧ plL (bestS N) = N := by
  by_cases h0 : N = []
  · subst h0; exact ⟨rfl, rfl⟩
  · obtain ⟨P, hP, h1, h2, h3⟩ := tc_read (best_text N)
    have hPn := h3 h0
    have hsp : spl 44 (bestS N) = P := by unfold bestS; rw [hP]; exact spl_cmm hPn (fun p hp => (h1 p hp).1)
    have hpl : plP (bestS N) = P.filterMap itmP := by unfold plP; rw [hsp]
    have hlen : (bestS N).length ≤ 2500 := by
      have := best_len N h
      unfold bestS
      rw [List.length_dropLast]; omega
    have hne : bestS N ≠ [] := by
      intro e
      have := bestC_S h0
      rw [e, hP] at this
      cases P with
      | nil => exact hPn rfl
      | cons p P =>
        rw [cmm_cons] at this
        have hl := congrArg List.length this
        simp only [List.length_append, List.length_cons, List.length_nil] at hl
        have : p = [] := List.length_eq_zero_iff.1 (by omega)
        have hp := (h1 p (List.mem_cons_self ..)).2
        rw [this] at hp
        exact hp rfl
    have hr : ∀ x, x ∈ plP (bestS N) → ¬ 9999 < x.2.1 := by
      intro x hx
      rw [hpl] at hx
      obtain ⟨p, hp, hx2⟩ := List.mem_filterMap.1 hx
      have hm : x.2.1 ∈ N := by rw [← h2]; exact List.mem_flatMap.2 ⟨x, hx, prtL_last (itm_ok hx2)⟩
      have := h _ hm
      omega
    have hE : plE (bestS N) = 0 := by
      rw [plE_rest (by omega) hne (by rw [hsp]; exact fun p hp => (h1 p hp).2) hr, if_neg]
      rw [← sumP_len, hpl, h2]; omega
    refine ⟨hE, ?_⟩
    rw [plL_ok hE hne, hpl, h2]
/-- two expressions with a comma between them -/
theorem spl_two {c : UInt8} : ∀ (s t : List UInt8), spl c (s ++ c :: t) = spl c s ++ spl c t
  | [], t => by rw [List.nil_append, spl_hit]; rfl
  | x :: s, t => by
    have ih := spl_two (c := c) s t
    by_cases e : x = c
    · subst e; rw [List.cons_append, spl_hit, spl_hit, ih]; rfl
    · rw [List.cons_append, spl_miss e, spl_miss e, ih]
      cases hs : spl c s with
      | nil => exact absurd hs (spl_ne c s)
      | cons p P => rfl
theorem plP_two (s t : List UInt8) : plP (s ++ 44 :: t) = plP s ++ plP t := by unfold plP; rw [spl_two, List.filterMap_append]
theorem sumP_two (X Y : List Prt) : sumP (X ++ Y) = sumP X + sumP Y := by unfold sumP; simp
end Go.Proofs.YtkklmljannclmaaDoor
