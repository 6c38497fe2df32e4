/- Words: the law of Split. | Words: Join of the reference. | Words: the law of Join. | Slices of structs whose fields are one cell each, as a row hands them. | The argument of type []words.Field, as a row hands it. | WordsJoins returns true for every input, on every schedule; its arguments read afterwards as they read before. No condition beyond the row's own. -/
import Derived.Test.YtkklmljannclmaaDoorWJZ1
import Derived.Test.YtkklmljannclmaaDoorProg
import Derived.WalkKit
import Derived.OpenShut
import Derived.Lib.SmallJoins
import Derived.Deep.Slices
import Derived.Deep.Fields
import Derived.ChangeSame
import Derived.Test.YtkklmljannclmaaDoorWZ9
namespace Go.Proofs.YtkklmljannclmaaDoor
open Go.RowKit Go.Sort Go.Joins Go.Shelf
attribute [local go_sem] cell_grow frozen_grow size_grow

theorem spl_facts (l : List UInt8) : (splR l).length ≤ 64 ∧ (∀ x, x ∈ splR l → x.2.length ≤ 200) := by
  by_cases h : splE l = 0
  · have hE := h
    rw [splE_eq] at h
    by_cases h1 : 4096 < l.length
    · rw [if_pos h1] at h; cases h
    rw [if_neg h1] at h
    cases hs : splT l with
    | none => rw [hs] at h; cases h
    | some fs =>
      rw [hs] at h
      by_cases h2 : 64 < fs.length
      · exact absurd h (by simp [h2])
      obtain ⟨_, hR⟩ := splE_ok h1 hs h2
      rw [hR]
      obtain ⟨_, j2⟩ := jnP_spl hs
      refine ⟨by omega, fun x hx => ?_⟩
      have hb := j2 x hx
      obtain ⟨b, u⟩ := x
      cases b
      · exact (txB_yes.1 (rtB_yes.1 (show rtB u = true from hb)).2.2).2
      · exact (txB_yes.1 (show txB u = true from hb)).2
  · have e : splR l = [] := by unfold splR; rw [if_neg h]
    rw [e]
    exact ⟨by simp, by simp⟩
theorem spl_ways (l : List UInt8) : (splE l = 0 ∧ jnE (splR l) = 0 ∧ jnS (splR l) = l) ∨ splE l = 3 ∨ splE l = 6 := by
  by_cases h : splE l = 0
  · obtain ⟨h1, h2⟩ := join_split h
    exact .inl ⟨h, h1, h2⟩
  · right
    rw [splE_eq] at h ⊢
    by_cases h1 : 4096 < l.length
    · rw [if_pos h1]; exact .inl rfl
    · rw [if_neg h1] at h ⊢
      cases hs : splT l with
      | none => exact .inr rfl
      | some fs =>
        rw [hs] at h
        by_cases h2 : 64 < fs.length
        · left; simp [h2]
        · exact absurd (by simp [h2]) h
set_option maxRecDepth 100000 in
set_option maxHeartbeats 1600000 in
theorem law_splits (s : ByteArray) (w : World) (hT : T1 w) : Calls Tryd.prog 3 #[.string s] w fun e w' => e = .returned (.bool true) ∧ Below w.heap.size w w' := by
  have HT := Lib.hid hT
  clear hT
  by_cases hs : 6000 < s.size
  · have d1 : decide ((6000 : Int) < (s.size : Int)) = true := decide_eq_true (by omega)
    go_enter Tryd.func3, Tryd.ntmps3
    go_wp2_with fail
    refine (shown_ok _ HT.out).mono ?_
    rintro e w1 ⟨rfl, b1⟩
    have HB := Lib.hid b1
    clear b1
    go_wp2
    go_ret
    exact ⟨rfl, HB.out⟩
  · have d1 : decide ((6000 : Int) < (s.size : Int)) = false := decide_eq_false (by omega)
    have HSZ : Hid (s.size ≤ 6000) := Lib.hid (by omega)
    have HF := Lib.hid (spl_facts s.data.toList)
    have hways := spl_ways s.data.toList
    clear hs
    go_enter Tryd.func3, Tryd.ntmps3
    go_wp2_with fail
    refine (wsplit_ok s _ rfl (by have := HSZ.out; omega) _ HT.out.ml).mono ?_
    rintro e w1 ⟨a1, c1, rfl, s1, b1⟩
    have HB1 := Lib.hid b1
    have HS1 := Lib.hid s1
    clear b1 s1
    go_wp2_with fail
    refine (rsplit_ok s _ rfl (by have := HSZ.out; omega) _).mono ?_
    rintro e w2 ⟨a2, c2, rfl, s2, b2⟩
    have HB2 := Lib.hid (HB1.out.trans (b2.mono HB1.out.size))
    have HS1b := Lib.hid (HS1.out.below b2)
    have HS2 := Lib.hid s2
    clear b2 s2 HB1 HS1
    obtain ⟨L, hL⟩ : ∃ L, s.data.toList = L := ⟨_, rfl⟩
    rw [hL] at hways HS1b HS2 HF ⊢
    have HL := Lib.hid hL
    obtain ⟨F, hFd⟩ : ∃ F, splR L = F := ⟨_, rfl⟩
    rw [hFd] at hways HS1b HS2 HF ⊢
    obtain ⟨n, hn⟩ : ∃ n, F.length = n := ⟨_, rfl⟩
    have hn64 : n ≤ 64 := by have := HF.out.1; omega
    obtain ⟨E, hE⟩ : ∃ E, splE L = E := ⟨_, rfl⟩
    rw [hE] at hways ⊢
    have HFI := Lib.hid (fun W (h : SlF W a1 F) => fields_ok a1 c1 F W h (by omega))
    have HAI := Lib.hid (fun W a c (h : SlF W a F) (h2 : SlF W a2 F) => alike_ok a a2 c c2 F F W h h2 (by omega))
    have HJI := Lib.hid (fun W (h : SlF W a1 F) hm => wjoin_ok a1 c1 F W h (fun x hx => by have := HF.out.2 x hx; omega) (by omega) hm)
    rw [decide_eq_true rfl] at HAI
    rw [hn] at HFI HAI HJI ⊢
    clear hL hFd hE
    go_wp2_with fail
    refine (HFI.out _ HS1b.out).mono ?_
    rintro e w3 ⟨a3, c3, rfl, s3, b3⟩
    have HB3 := Lib.hid (HB2.out.trans (b3.mono HB2.out.size))
    have HS1c := Lib.hid (HS1b.out.below b3)
    have HS2c := Lib.hid (HS2.out.below b3)
    have HS3 := Lib.hid s3
    clear b3 s3 HB2 HS1b HS2
    go_wp2_with fail
    refine (HAI.out _ _ _ HS3.out HS2c.out).mono ?_
    rintro e w4 ⟨rfl, b4⟩
    have HB4 := Lib.hid (HB3.out.trans (b4.mono HB3.out.size))
    have HS1d := Lib.hid (HS1c.out.below b4)
    clear b4 HB3 HS1c HS2c HS3 hn
    have q2 : (E != E) = false := by simp
    rcases hways with ⟨rfl, j1, j2⟩ | rfl | rfl
    · rw [j1, j2] at HJI
      clear q2 j1 j2
      go_wp2_with fail
      refine (HJI.out _ HS1d.out (HT.out.below HB4.out).ml).mono ?_
      rintro e w5 ⟨S, rfl, h5, b5⟩
      obtain rfl : s = S := by rw [ba_lit HL.out, ba_lit h5]
      have HB5 := Lib.hid (HB4.out.trans (b5.mono HB4.out.size))
      clear b5 h5
      go_wp2_with fail
      refine (shown_ok _ (HT.out.below HB5.out)).mono ?_
      rintro e w7 ⟨rfl, b7⟩
      have HB7 := Lib.hid (HB5.out.trans (b7.mono HB5.out.size))
      clear b7
      go_wp2
      go_ret
      exact ⟨rfl, HB7.out⟩
    all_goals
      clear q2
      go_wp2_with fail
      refine (shown_ok _ (HT.out.below HB4.out)).mono ?_
      rintro e w7 ⟨rfl, b7⟩
      have HB7 := Lib.hid (HB4.out.trans (b7.mono HB4.out.size))
      clear b7
      go_wp2
      go_ret
      exact ⟨rfl, HB7.out⟩
end Go.Proofs.YtkklmljannclmaaDoor

namespace Go.Proofs.YtkklmljannclmaaDoor
open Go.RowKit Go.Sort Go.Joins Go.Shelf
attribute [local go_sem] cell_grow frozen_grow size_grow

theorem jn_snoc : ∀ (P : List (List UInt8)) (p : List UInt8), jn 32 (P ++ [p]) = (if P = [] then [] else jn 32 P ++ [32]) ++ p
  | [], p => by rw [if_pos rfl]; rfl
  | [q], p => by
    rw [if_neg (by simp)]
    show q ++ 32 :: jn 32 [p] = q ++ [32] ++ p
    show q ++ 32 :: p = q ++ [32] ++ p
    simp
  | q :: r :: P, p => by
    have ih := jn_snoc (r :: P) p
    rw [if_neg (by simp)] at ih ⊢
    rw [List.cons_append, jn_cons (by simp), ih, show jn 32 (q :: r :: P) = q ++ 32 :: jn 32 (r :: P) from jn_cons (by simp)]
    simp
set_option maxRecDepth 100000 in
set_option maxHeartbeats 1600000 in
theorem rjoin_ok (a : Option Addr) (c : Nat) (I : List Fl) (w : World) (hI : SlF w a I) (hz : ∀ x, x ∈ I → x.2.length ≤ 4294967280) (hlen : I.length ≤ 4611686018427387904) :
    Calls Tryd.prog 19 #[.slice a I.length c] w fun e w' => ∃ S : ByteArray, e = .returned (.tuple #[.string S, .int .i64 (jnE I)]) ∧ S.data.toList = jnS I ∧ Below w.heap.size w w' := by
  have HI := Lib.hid hI
  have HZ := Lib.hid hz
  obtain ⟨n, hn⟩ : ∃ n, I.length = n := ⟨_, rfl⟩
  have HN := Lib.hid hn
  by_cases h64 : 64 < n
  · have d1 : decide ((64 : Int) < (n : Int)) = true := decide_eq_true (by omega)
    have HX := Lib.hid (jnE_many (I := I) (by omega))
    rw [hn]
    clear hI hz hn
    go_enter Tryd.func19, Tryd.ntmps19
    go_wp2
    go_ret2
    exact ⟨⟨#[]⟩, by rw [HX.out.1]; rfl, HX.out.2.symm, Below.refl _ _⟩
  · have d1 : decide ((64 : Int) < (n : Int)) = false := decide_eq_false (by omega)
    have HW := Lib.hid (fun k x (h1 : I[k]? = some x) h2 => jnE_wrong (I := I) (by omega) h1 h2)
    have HR := Lib.hid (fun hb => jnE_rest (I := I) (by omega) hb)
    have h64' : n ≤ 64 := by omega
    rw [hn]
    clear hI hz hn h64 hlen
    go_enter Tryd.func19, Tryd.ntmps19
    go_wp2
    go_loopw [4, 5] (fun o i wr => ∃ (k : Nat) (O : ByteArray), o = .string O ∧ i = .int .i64 (k : Int) ∧ k ≤ n ∧ O.size ≤ 404 * k ∧ Hid (O.data.toList = jn 32 ((I.take k).map flT) ∧ ∀ x, x ∈ I.take k → flB x = true) ∧ Hid (Below w.heap.size w wr)) (fun _ i _ => n - (intOf i).toNat)
    case atStart => exact ⟨0, ⟨#[]⟩, rfl, rfl, Nat.zero_le _, Nat.zero_le _, Lib.hid ⟨rfl, by simp⟩, Lib.hid (Below.refl _ _)⟩
    case round =>
      obtain ⟨k, O, rfl, rfl, hk, hO, HX, HB⟩ := hrel
      clear d1
      by_cases hlt : k < n
      · obtain ⟨b1, o1, S1, rfl, g1, g1s, e1⟩ := (HI.out.below HB.out).at_ (j := k) (by rw [HN.out]; exact hlt)
        have hli : (k : Int) < (n : Int) := by omega
        have hk0 : (0 : Int) ≤ (k : Int) := by omega
        obtain ⟨x, hx⟩ : ∃ x, (I.getD k (false, [])).1 = x := ⟨_, rfl⟩
        rw [hx] at g1
        have hE : I[k]? = some (x, S1.data.toList) := by
          rw [List.getElem?_eq_getElem (by rw [HN.out]; exact hlt)]
          have h : I.getD k (false, []) = (x, S1.data.toList) := Prod.ext hx e1.symm
          rw [List.getD_eq_getElem?_getD, List.getElem?_eq_getElem (by rw [HN.out]; exact hlt)] at h
          exact congrArg some h
        have hS1 : S1.size ≤ 4294967280 := by
          have := HZ.out _ (List.mem_of_getElem? hE)
          rw [len_of rfl] at this; exact this
        rw [Nat.mul_comm] at g1 g1s
        have HE := Lib.hid hE
        clear hx e1 hE
        cases hf : flB (x, S1.data.toList) with
        | false =>
          have HX2 := Lib.hid (HW.out k _ HE.out hf)
          go_wp2_with fail
          refine (rright_ok x S1 _ rfl (by omega) _).mono ?_
          rintro e w1 ⟨rfl, c1⟩
          rw [hf]
          have HB1 := Lib.hid (HB.out.trans (c1.mono HB.out.size))
          clear c1 hf
          go_wp2
          go_ret2
          exact ⟨⟨#[]⟩, by rw [HX2.out.1]; rfl, HX2.out.2.symm, HB1.out⟩
        | true =>
          have hfl := flT_len hf
          have HF := Lib.hid hf
          have HTK : Hid (I.take (k + 1) = I.take k ++ [(x, S1.data.toList)]) := Lib.hid (take_snoc HE.out)
          have HNE : Hid (((I.take k).map flT = []) ↔ k = 0) := Lib.hid (by
            rw [List.map_eq_nil_iff, ← List.length_eq_zero_iff, List.length_take, HN.out]; omega)
          have hC1 : (9223372036854775807 < O.size + 1) = False := by simp; omega
          by_cases hk00 : k = 0 <;> cases x
          · have d2 : decide ((0 : Int) < (k : Int)) = false := decide_eq_false (by omega)
            have d4 : decide (0 < k) = false := decide_eq_false (by omega)
            have HK00 := Lib.hid hk00
            clear hk00
            go_wp2_with fail
            refine (rright_ok false S1 _ rfl (by omega) _).mono ?_
            rintro e w1 ⟨rfl, c1⟩
            rw [hf]
            have HB1 := Lib.hid (HB.out.trans (c1.mono HB.out.size))
            have k0 := cell_later c1 g1
            have k1 := cell_later c1 g1s
            clear c1 hf g1 g1s
            have hST : S1.size ≤ 402 := by
              have e : flT (false, S1.data.toList) = S1.data.toList := rfl
              rw [e, len_of rfl] at hfl; exact hfl
            have hC2 : (9223372036854775807 < O.size + S1.size) = False := by simp; omega
            go_wp2
            go_roundw
            case rel => exact ⟨k + 1, O ++ S1, rfl, by go_num, by omega, by simp only [ByteArray.size_append]; have h32 : (⟨#[32]⟩ : ByteArray).size = 1 := rfl; omega, Lib.hid ⟨by
                rw [HTK.out, List.map_append, show [(false, S1.data.toList)].map flT = [flT (false, S1.data.toList)] from rfl, jn_snoc, ← (rfl : S1.data.toList = flT (false, S1.data.toList))]
                rw [if_pos (HNE.out.2 HK00.out), app_list, HX.out.1, HNE.out.2 HK00.out]; rfl, fun y hy => by
                rw [HTK.out] at hy
                rcases List.mem_append.1 hy with hy | hy
                · exact HX.out.2 y hy
                · rw [List.mem_singleton] at hy
                  rw [hy]; exact HF.out⟩, HB1⟩
            case measure => simp [intOf]; omega
          · have d2 : decide ((0 : Int) < (k : Int)) = false := decide_eq_false (by omega)
            have d4 : decide (0 < k) = false := decide_eq_false (by omega)
            have HK00 := Lib.hid hk00
            clear hk00
            have htx : txB S1.data.toList = true := hf
            have hqv : qtV S1.data.toList = flT (true, S1.data.toList) := by unfold qtV; rw [if_pos htx]; rfl
            have hqe : qtE S1.data.toList = 0 := by unfold qtE; rw [if_pos htx]
            go_wp2_with fail
            refine (rright_ok true S1 _ rfl (by omega) _).mono ?_
            rintro e w1 ⟨rfl, c1⟩
            rw [hf]
            have HB1 := Lib.hid (HB.out.trans (c1.mono HB.out.size))
            have k0 := cell_later c1 g1
            have k1 := cell_later c1 g1s
            clear c1 hf g1 g1s
            clear htx
            go_wp2_with fail
            refine (rquote_ok S1 _ rfl (by omega) _).mono ?_
            rintro e w2 ⟨S2, rfl, h2, rfl⟩
            rw [hqe]
            rw [hqv] at h2
            have hST : S2.size ≤ 402 := by have := len_of h2; omega
            have H2 := Lib.hid h2
            clear h2 hqv hqe
            have hC2 : (9223372036854775807 < O.size + S2.size) = False := by simp; omega
            go_wp2
            go_roundw
            case rel => exact ⟨k + 1, O ++ S2, rfl, by go_num, by omega, by simp only [ByteArray.size_append]; have h32 : (⟨#[32]⟩ : ByteArray).size = 1 := rfl; omega, Lib.hid ⟨by
                rw [HTK.out, List.map_append, show [(true, S1.data.toList)].map flT = [flT (true, S1.data.toList)] from rfl, jn_snoc, ← H2.out]
                rw [if_pos (HNE.out.2 HK00.out), app_list, HX.out.1, HNE.out.2 HK00.out]; rfl, fun y hy => by
                rw [HTK.out] at hy
                rcases List.mem_append.1 hy with hy | hy
                · exact HX.out.2 y hy
                · rw [List.mem_singleton] at hy
                  rw [hy]; exact HF.out⟩, HB1⟩
            case measure => simp [intOf]; omega
          · have d2 : decide ((0 : Int) < (k : Int)) = true := decide_eq_true (by omega)
            have d4 : decide (0 < k) = true := decide_eq_true (by omega)
            have HK00 := Lib.hid hk00
            clear hk00
            go_wp2_with fail
            refine (rright_ok false S1 _ rfl (by omega) _).mono ?_
            rintro e w1 ⟨rfl, c1⟩
            rw [hf]
            have HB1 := Lib.hid (HB.out.trans (c1.mono HB.out.size))
            have k0 := cell_later c1 g1
            have k1 := cell_later c1 g1s
            clear c1 hf g1 g1s
            have hST : S1.size ≤ 402 := by
              have e : flT (false, S1.data.toList) = S1.data.toList := rfl
              rw [e, len_of rfl] at hfl; exact hfl
            have hC2 : (9223372036854775807 < O.size + 1 + S1.size) = False := by simp; omega
            go_wp2
            go_roundw
            case rel => exact ⟨k + 1, (O ++ ⟨#[32]⟩) ++ S1, rfl, by go_num, by omega, by simp only [ByteArray.size_append]; have h32 : (⟨#[32]⟩ : ByteArray).size = 1 := rfl; omega, Lib.hid ⟨by
                rw [HTK.out, List.map_append, show [(false, S1.data.toList)].map flT = [flT (false, S1.data.toList)] from rfl, jn_snoc, ← (rfl : S1.data.toList = flT (false, S1.data.toList))]
                rw [if_neg (fun e => HK00.out (HNE.out.1 e)), app_list, app_list, HX.out.1] <;> (try rfl), fun y hy => by
                rw [HTK.out] at hy
                rcases List.mem_append.1 hy with hy | hy
                · exact HX.out.2 y hy
                · rw [List.mem_singleton] at hy
                  rw [hy]; exact HF.out⟩, HB1⟩
            case measure => simp [intOf]; omega
          · have d2 : decide ((0 : Int) < (k : Int)) = true := decide_eq_true (by omega)
            have d4 : decide (0 < k) = true := decide_eq_true (by omega)
            have HK00 := Lib.hid hk00
            clear hk00
            have htx : txB S1.data.toList = true := hf
            have hqv : qtV S1.data.toList = flT (true, S1.data.toList) := by unfold qtV; rw [if_pos htx]; rfl
            have hqe : qtE S1.data.toList = 0 := by unfold qtE; rw [if_pos htx]
            go_wp2_with fail
            refine (rright_ok true S1 _ rfl (by omega) _).mono ?_
            rintro e w1 ⟨rfl, c1⟩
            rw [hf]
            have HB1 := Lib.hid (HB.out.trans (c1.mono HB.out.size))
            have k0 := cell_later c1 g1
            have k1 := cell_later c1 g1s
            clear c1 hf g1 g1s
            clear htx
            go_wp2_with fail
            refine (rquote_ok S1 _ rfl (by omega) _).mono ?_
            rintro e w2 ⟨S2, rfl, h2, rfl⟩
            rw [hqe]
            rw [hqv] at h2
            have hST : S2.size ≤ 402 := by have := len_of h2; omega
            have H2 := Lib.hid h2
            clear h2 hqv hqe
            have hC2 : (9223372036854775807 < O.size + 1 + S2.size) = False := by simp; omega
            go_wp2
            go_roundw
            case rel => exact ⟨k + 1, (O ++ ⟨#[32]⟩) ++ S2, rfl, by go_num, by omega, by simp only [ByteArray.size_append]; have h32 : (⟨#[32]⟩ : ByteArray).size = 1 := rfl; omega, Lib.hid ⟨by
                rw [HTK.out, List.map_append, show [(true, S1.data.toList)].map flT = [flT (true, S1.data.toList)] from rfl, jn_snoc, ← H2.out]
                rw [if_neg (fun e => HK00.out (HNE.out.1 e)), app_list, app_list, HX.out.1] <;> (try rfl), fun y hy => by
                rw [HTK.out] at hy
                rcases List.mem_append.1 hy with hy | hy
                · exact HX.out.2 y hy
                · rw [List.mem_singleton] at hy
                  rw [hy]; exact HF.out⟩, HB1⟩
            case measure => simp [intOf]; omega
      · obtain rfl : k = n := by omega
        have htk : I.take k = I := List.take_of_length_le (by rw [HN.out]; exact Nat.le_refl _)
        have hx := HX.out
        rw [htk] at hx
        obtain ⟨x1, x2⟩ := hx
        have hr := HR.out x2
        have hlen : (jnP I).length = O.size := by
          have e : jnP I = O.data.toList := x1.symm
          rw [e, len_of rfl]
        by_cases hbig : 4096 < O.size
        · have d2 : decide ((4096 : Int) < (O.size : Int)) = true := decide_eq_true (by omega)
          have HX3 : Hid (jnE I = 3 ∧ jnS I = []) := Lib.hid (by
            have e : jnE I = 3 := by rw [hr, if_pos (by omega)]
            exact ⟨e, by unfold jnS; rw [e]; rfl⟩)
          clear x1 x2 hr htk hlen
          go_wp2
          go_ret2
          exact ⟨⟨#[]⟩, by rw [HX3.out.1]; rfl, HX3.out.2.symm, HB.out⟩
        · have d2 : decide ((4096 : Int) < (O.size : Int)) = false := decide_eq_false (by omega)
          have HX3 : Hid (jnE I = 0 ∧ jnS I = O.data.toList) := Lib.hid (by
            have e : jnE I = 0 := by rw [hr, if_neg (by omega)]
            exact ⟨e, by unfold jnS; rw [if_pos e]; exact x1.symm⟩)
          clear x1 x2 hr htk hlen
          go_wp2
          go_ret2
          exact ⟨O, by rw [HX3.out.1]; rfl, HX3.out.2.symm, HB.out⟩
end Go.Proofs.YtkklmljannclmaaDoor

namespace Go.Proofs.YtkklmljannclmaaDoor
open Go.RowKit Go.Sort Go.Joins Go.Shelf
attribute [local go_sem] cell_grow frozen_grow size_grow

def smJ (I : List Fl) : Nat := (I.map (fun x => min x.2.length 6001)).sum
theorem smJ_snoc (I : List Fl) (x : Fl) : smJ (I ++ [x]) = smJ I + min x.2.length 6001 := by unfold smJ; simp
theorem smJ_mem : ∀ {I : List Fl} {x : Fl}, x ∈ I → min x.2.length 6001 ≤ smJ I
  | [], _, h => by cases h
  | y :: I, x, h => by
    have e : smJ (y :: I) = min y.2.length 6001 + smJ I := by unfold smJ; rw [List.map_cons, List.sum_cons]
    rw [e]
    rcases List.mem_cons.1 h with rfl | h
    · omega
    · have := smJ_mem h; omega
theorem jn_ways (I : List Fl) : (jnE I = 0 ∧ splE (jnS I) = 0 ∧ splR (jnS I) = I ∧ (jnS I).length ≤ 4096 ∧ I.length ≤ 64) ∨ jnE I = 2 ∨ jnE I = 3 := by
  by_cases h : jnE I = 0
  · obtain ⟨h1, h2⟩ := split_join h
    refine .inl ⟨h, h1, h2, ?_, ?_⟩
    · have hS : jnS I = jnP I := by unfold jnS; rw [if_pos h]
      rw [hS]
      unfold jnE at h
      by_cases g1 : 64 < I.length
      · rw [if_pos g1] at h; cases h
      rw [if_neg g1] at h
      cases ha : I.any (fun x => !flB x) with
      | true => rw [ha] at h; cases h
      | false =>
        rw [ha, if_neg (by decide)] at h
        by_cases g2 : 4096 < (jnP I).length
        · rw [if_pos g2] at h; cases h
        · omega
    · rcases Nat.lt_or_ge 64 I.length with g | g
      · rw [(jnE_many g).1] at h; cases h
      · exact g
  · right
    unfold jnE at h ⊢
    by_cases g1 : 64 < I.length
    · rw [if_pos g1]; exact .inr rfl
    rw [if_neg g1] at h ⊢
    cases ha : I.any (fun x => !flB x) with
    | true => exact .inl rfl
    | false =>
      simp only [ha, Bool.false_eq_true, if_false] at h ⊢
      by_cases g2 : 4096 < (jnP I).length
      · rw [if_pos g2]; exact .inr rfl
      · rw [if_neg g2] at h; exact absurd rfl h
set_option maxRecDepth 100000 in
set_option maxHeartbeats 1600000 in
theorem law_joins (a : Option Addr) (c : Nat) (I : List Fl) (w : World) (hI : SlF w a I) (hlen : I.length ≤ 9223372036854775807) (hT : T1 w) :
    Calls Tryd.prog 4 #[.slice a I.length c] w fun e w' => e = .returned (.bool true) ∧ Below w.heap.size w w' := by
  have HT := Lib.hid hT
  have HI := Lib.hid hI
  obtain ⟨n, hn⟩ : ∃ n, I.length = n := ⟨_, rfl⟩
  have HN := Lib.hid hn
  clear hT hI
  by_cases h100 : 100 < n
  · have d1 : decide ((100 : Int) < (n : Int)) = true := decide_eq_true (by omega)
    rw [hn]
    clear hn
    go_enter Tryd.func4, Tryd.ntmps4
    go_wp2_with fail
    refine (shown_ok _ HT.out).mono ?_
    rintro e w1 ⟨rfl, b1⟩
    have HB := Lib.hid b1
    clear b1
    go_wp2
    go_ret
    exact ⟨rfl, HB.out⟩
  · have d1 : decide ((100 : Int) < (n : Int)) = false := decide_eq_false (by omega)
    have hn100 : n ≤ 100 := by omega
    have HL := Lib.hid hlen
    rw [hn]
    clear hn h100 hlen
    go_enter Tryd.func4, Tryd.ntmps4
    go_wp2
    go_loopw [3, 4] (fun z i wr => ∃ (k sz : Nat), z = .int .i64 (sz : Int) ∧ i = .int .i64 (k : Int) ∧ k ≤ n ∧ sz ≤ 6001 * k ∧ Hid (sz = smJ (I.take k)) ∧ wr = w) (fun _ i _ => n - (intOf i).toNat)
    case atStart => exact ⟨0, 0, rfl, rfl, Nat.zero_le _, Nat.zero_le _, Lib.hid rfl, rfl⟩
    case round =>
      obtain ⟨k, sz, rfl, rfl, hk, hsz, HS, rfl⟩ := hrel
      clear d1
      by_cases hlt : k < n
      · obtain ⟨b1, o1, S1, rfl, g1, g1s, e1⟩ := HI.out.at_ (j := k) (by rw [HN.out]; exact hlt)
        have hli : (k : Int) < (n : Int) := by omega
        have hk0 : (0 : Int) ≤ (k : Int) := by omega
        obtain ⟨x, hx⟩ : ∃ x, (I.getD k (false, [])).1 = x := ⟨_, rfl⟩
        have hE : I[k]? = some (x, S1.data.toList) := by
          rw [List.getElem?_eq_getElem (by rw [HN.out]; exact hlt)]
          have h : I.getD k (false, []) = (x, S1.data.toList) := Prod.ext hx e1.symm
          rw [List.getD_eq_getElem?_getD, List.getElem?_eq_getElem (by rw [HN.out]; exact hlt)] at h
          exact congrArg some h
        have HTK : Hid (smJ (I.take (k + 1)) = smJ (I.take k) + min S1.size 6001) := Lib.hid (by
          rw [take_snoc hE, smJ_snoc, len_of rfl])
        rw [Nat.mul_comm] at g1 g1s
        have hw1 : IntKind.i64.wrap ((sz : Int) + min (S1.size : Int) 6001) = (sz : Int) + min (S1.size : Int) 6001 := IntWalk.i64_in _ (by omega)
        have hmn : (sz : Int) + min (S1.size : Int) 6001 = ((sz + min S1.size 6001 : Nat) : Int) := by omega
        have HMN := Lib.hid hmn
        clear e1 hE g1 hmn hx
        go_wp2
        go_roundw
        case rel => exact ⟨k + 1, sz + min S1.size 6001, by rw [HMN.out], by go_num, by omega, by omega, Lib.hid (by rw [HTK.out, HS.out]), trivial⟩
        case measure => simp [intOf]; omega
      · obtain rfl : k = n := by omega
        have hs := HS.out
        rw [List.take_of_length_le (by rw [HN.out]; exact Nat.le_refl _)] at hs
        by_cases hbig : 6000 < sz
        · have d2 : decide ((6000 : Int) < (sz : Int)) = true := decide_eq_true (by omega)
          clear hs
          go_wp2_with fail
          refine (shown_ok _ HT.out).mono ?_
          rintro e w1 ⟨rfl, b1⟩
          have HB := Lib.hid b1
          clear b1
          go_wp2
          go_ret
          exact ⟨rfl, HB.out⟩
        · have d2 : decide ((6000 : Int) < (sz : Int)) = false := decide_eq_false (by omega)
          have HZ : Hid (∀ x, x ∈ I → x.2.length ≤ 4294967280) := Lib.hid (fun x hx => by
            have := smJ_mem hx
            omega)
          have hways := jn_ways I
          have HJ := Lib.hid (fun W (h : SlF W a I) hm => wjoin_ok a c I W h HZ.out (by rw [HN.out]; omega) hm)
          have HR := Lib.hid (fun W a' c' (h : SlF W a' I) => rjoin_ok a' c' I W h HZ.out (by rw [HN.out]; omega))
          have HFI := Lib.hid (fun W a' c' (h : SlF W a' I) => fields_ok a' c' I W h (by rw [HN.out]; omega))
          have HAI := Lib.hid (fun W a1 c1 a2 c2 (h : SlF W a1 I) (h2 : SlF W a2 I) => alike_ok a1 a2 c1 c2 I I W h h2 (by rw [HN.out]; omega))
          rw [decide_eq_true rfl] at HAI
          rw [HN.out] at HJ HR HFI HAI hways
          obtain ⟨E, hE⟩ : ∃ E, jnE I = E := ⟨_, rfl⟩
          rw [hE] at hways HJ HR
          clear hs hE
          go_wp2_with fail
          refine (HJ.out _ HI.out HT.out.ml).mono ?_
          rintro e w1 ⟨S1, rfl, h1, b1⟩
          have HB1 := Lib.hid b1
          have HI1 := Lib.hid (HI.out.below b1)
          have H1 := Lib.hid h1
          clear b1
          go_wp2_with fail
          refine (HFI.out _ _ _ HI1.out).mono ?_
          rintro e w2 ⟨a2, c2, rfl, s2, b2⟩
          have HB2 := Lib.hid (HB1.out.trans (b2.mono HB1.out.size))
          have HI2 := Lib.hid (HI1.out.below b2)
          have HS2 := Lib.hid s2
          clear b2 s2 HB1 HI1
          go_wp2_with fail
          refine (HR.out _ _ _ HS2.out).mono ?_
          rintro e w3 ⟨S3, rfl, h3, b3⟩
          obtain rfl : S1 = S3 := by rw [ba_lit h1, ba_lit h3]
          have HB3 := Lib.hid (HB2.out.trans (b3.mono HB2.out.size))
          have HI3 := Lib.hid (HI2.out.below b3)
          clear b3 h3 h1 HB2 HI2 HS2
          have q2 : (E != E) = false := by simp
          rcases hways with ⟨rfl, j1, j2, j3, j4⟩ | rfl | rfl
          · have HSP := Lib.hid (fun W hm => wsplit_ok S1 _ H1.out (by have := len_of H1.out; omega) W hm)
            rw [j1, j2] at HSP
            clear q2 j1 j2 j3
            go_wp2_with fail
            refine (HSP.out _ (HT.out.below HB3.out).ml).mono ?_
            rintro e w4 ⟨a4, c4, rfl, s4, b4⟩
            rw [HN.out]
            have HB4 := Lib.hid (HB3.out.trans (b4.mono HB3.out.size))
            have HI4 := Lib.hid (HI3.out.below b4)
            have HS4 := Lib.hid s4
            clear b4 s4 HB3 HI3
            go_wp2_with fail
            refine (HFI.out _ _ _ HS4.out).mono ?_
            rintro e w5 ⟨a5, c5, rfl, s5, b5⟩
            have HB5 := Lib.hid (HB4.out.trans (b5.mono HB4.out.size))
            have HI5 := Lib.hid (HI4.out.below b5)
            have HS5 := Lib.hid s5
            clear b5 s5 HB4 HI4 HS4
            go_wp2_with fail
            refine (HFI.out _ _ _ HI5.out).mono ?_
            rintro e w6 ⟨a6, c6, rfl, s6, b6⟩
            have HB6 := Lib.hid (HB5.out.trans (b6.mono HB5.out.size))
            have HS5b := Lib.hid (HS5.out.below b6)
            have HS6 := Lib.hid s6
            clear b6 s6 HB5 HI5 HS5
            go_wp2_with fail
            refine (HAI.out _ _ _ _ _ HS5b.out HS6.out).mono ?_
            rintro e w7 ⟨rfl, b7⟩
            have HB7 := Lib.hid (HB6.out.trans (b7.mono HB6.out.size))
            clear b7
            go_wp2_with fail
            refine (shown_ok _ (HT.out.below HB7.out)).mono ?_
            rintro e w8 ⟨rfl, b8⟩
            have HB8 := Lib.hid (HB7.out.trans (b8.mono HB7.out.size))
            clear b8
            go_wp2
            go_ret
            exact ⟨rfl, HB8.out⟩
          all_goals
            clear q2
            go_wp2_with fail
            refine (shown_ok _ (HT.out.below HB3.out)).mono ?_
            rintro e w7 ⟨rfl, b7⟩
            have HB7 := Lib.hid (HB3.out.trans (b7.mono HB3.out.size))
            clear b7
            go_wp2
            go_ret
            exact ⟨rfl, HB7.out⟩
end Go.Proofs.YtkklmljannclmaaDoor

namespace Go.Proofs.YtkklmljannclmaaDoor
open Go.ChangeShapes Go.WideShapes Go.ChangeAt Go.RowKit Go.Joins Go.Deep
section
variable {H : Type} {enc : TypeId × Value → H} {P : Program} {w : World} {base : Nat} {spare : Nat → Bool} {held : Bool}
theorem open_slice_fields {t e : TypeId} {fs : Array Field} {fuel : Nat} {cs : List Value} {x : DataW H × List MemPlace} (ht : P.underlying t = some (.slice e)) (he : P.underlying e = some (.struct fs))
    (hone : oneCellFields P fs = true) (hC : P.cellsOf e = fs.size) (h : DataW.trod enc P w base spare held fuel t cs = some x) :
    (cs = [.slice none 0 0] ∧ x = (.nil, [])) ∨
    ∃ (a : Addr) (len cap m : Nat) (D : Nat → DataW H) (Pl : Nat → List MemPlace), cs = [.slice (some a) len cap] ∧ base ≤ a.block ∧ len ≤ cap ∧ cap ≤ maxLen ∧ m = (if spare a.block then cap else len) ∧
      x = (.slice ((List.range len).map D) ((List.range (m - len)).map fun j => D (len + j)), MemPlace.row a (m * fs.size) ++ (List.range m).flatMap Pl) ∧
      ∀ i, i < m → ∃ (ys : List (DataW H × List MemPlace)) (n : Nat), D i = .agg (ys.map (·.1)) ∧ Pl i = ys.flatMap (·.2) ∧ ys.length = fs.size ∧
        ∀ (j : Nat) (f : Field), fs[j]? = some f → ∃ (v : Value) (y : DataW H × List MemPlace), w.cell? (a.add (i * fs.size + j)) = some v ∧ ys[j]? = some y ∧ DataW.trod enc P w base spare held n f.type [v] = some y := by
  rcases open_slice ht h with h0 | ⟨a, len, cap, m, n, D, Pl, hcs, hb, hl, hm, hmm, hx, hi⟩
  · exact .inl h0
  · refine .inr ⟨a, len, cap, m, D, Pl, hcs, hb, hl, hm, hmm, by rw [hC] at hx; exact hx, fun i him => ?_⟩
    obtain ⟨cs', hc, ht'⟩ := hi i him
    rw [hC] at hc
    obtain ⟨ys, n', hn', hy, hlen, hyl, hf⟩ := DataW.trod_struct he ht'
    obtain ⟨_, hcl, hat⟩ := World.cells?_some hc
    simp only [Prod.mk.injEq] at hy
    refine ⟨ys, n', hy.1, hy.2, hyl, fun j f hj => ?_⟩
    obtain ⟨ho, hk⟩ := hone_of hone j f hj
    have hjl : j < fs.size := (Array.getElem?_eq_some_iff.1 hj).1
    have hcell := hat j hjl
    have hv : cs'[j]? = some (cs'[j]'(by omega)) := List.getElem?_eq_getElem (by omega)
    have h1 := hf j f hj
    rw [ho, hk] at h1
    have hone' : (cs'.drop j).take 1 = [cs'[j]'(by omega)] := by
      rw [List.drop_eq_getElem_cons (by omega)]
      rfl
    rw [hone'] at h1
    have hys : ys[j]? = some (ys[j]'(by omega)) := List.getElem?_eq_getElem (by omega)
    refine ⟨_, _, ?_, hys, h1.trans hys⟩
    rw [← Go.Deep.add_add, hcell, hv]
/-- the address of such a slice is plain -/
theorem plain_addr {a : Addr} {v : Value} {w : World} (h : w.cell? a = some v) : ∃ b o, a = ⟨b, o, none⟩ := by
  obtain ⟨b, o, spot⟩ := a
  have hs : spot = none := World.cell?_spot h
  subst hs
  exact ⟨b, o, rfl⟩
theorem choose4 {α : Type} [Inhabited α] {n : Nat} {p : Nat → α → Prop} (h : ∀ i, i < n → ∃ x, p i x) : ∃ f : Nat → α, ∀ i, i < n → p i (f i) := by
  classical
  refine ⟨fun i => if hi : i < n then Classical.choose (h i hi) else default, fun i hi => ?_⟩
  dsimp only
  rw [dif_pos hi]
  exact Classical.choose_spec (h i hi)
end
end Go.Proofs.YtkklmljannclmaaDoor

namespace Go.Proofs.YtkklmljannclmaaDoor
open Go.ChangeShapes Go.WideShapes Go.ChangeAt Go.RowKit Go.Joins Go.Deep
section
variable {H : Type} {enc : TypeId × Value → H} {W : World} {base : Nat}
set_option maxRecDepth 100000 in
theorem open_wfieldsF {fuel : Nat} {v : Value} {x : DataW H × List MemPlace} (hf : DataW.trod enc Tryd.prog W base (fun _ => true) true fuel 23 [v] = some x) :
    ∃ (a : Option Addr) (cap : Nat) (I : List Fl), v = .slice a I.length cap ∧ SlF W a I ∧ I.length ≤ 9223372036854775807 := by
  rcases open_slice_fields Tryd.underlying23 Tryd.underlying36 (by kernel_rfl) (by kernel_rfl) hf with ⟨h, _⟩ | ⟨A, len, cap, mm, D, Pl, h, _, hl, hm, hmm, _, hi⟩
  · cases h
    exact ⟨none, 0, [], rfl, .inl rfl, by decide⟩
  · cases h
    have hml : maxLen ≤ 9223372036854775807 := by decide
    simp only [↓reduceIte] at hmm
    have key : ∀ i, i < cap → ∃ x : Bool × ByteArray, W.cell? (A.add (i * 2)) = some (.bool x.1) ∧ W.cell? (A.add (i * 2 + 1)) = some (.string x.2) ∧ True ∧ True := by
      intro i hic
      obtain ⟨ys, n', _, _, _, hf⟩ := hi i (by omega)
      obtain ⟨v0, y0, g0, _, t0⟩ := hf 0 _ rfl
      obtain ⟨v1, y1, g1, _, t1⟩ := hf 1 _ rfl
      obtain ⟨x0, e0, _⟩ := DataW.trod_bool Tryd.underlying4 t0
      obtain ⟨x1, e1, _, _⟩ := DataW.trod_string Tryd.underlying9 t1
      cases e0; cases e1
      exact ⟨(x0, x1), g0, g1, trivial, trivial⟩
    obtain ⟨R, hR⟩ := choose4 key
    have hlen : ((List.range len).map (fun j => ((R j).1, (R j).2.data.toList))).length = len := by simp
    refine ⟨some A, cap, (List.range len).map (fun j => ((R j).1, (R j).2.data.toList)), by rw [hlen], ?_, by rw [hlen]; omega⟩
    by_cases h0 : len = 0
    · subst h0; exact .inl rfl
    · obtain ⟨b, o, rfl⟩ := plain_addr (hR 0 (by omega)).1
      refine .inr ⟨b, o, rfl, fun j hj => ?_⟩
      rw [hlen] at hj
      obtain ⟨e0, e1, _, _⟩ := hR j (by omega)
      simp only [Go.WideShapes.add_plain] at e0 e1
      have hg : ((List.range len).map (fun j => ((R j).1, (R j).2.data.toList))).getD j (false, []) = ((R j).1, (R j).2.data.toList) := by simp [hj]
      rw [hg, Nat.mul_comm]
      exact ⟨e0, (R j).2, e1, rfl⟩
set_option maxRecDepth 100000 in
theorem open_wfields {v : Value} {d : DataW H} {p : List MemPlace} (hv : Value.okWide Tryd.prog W .any base 23 v) (h : DataW.Trod enc Tryd.prog W 0 (fun _ => true) true 23 v d p) :
    ∃ (a : Option Addr) (cap : Nat) (I : List Fl), v = .slice a I.length cap ∧ SlF W a I ∧ I.length ≤ 9223372036854775807 := by
  obtain ⟨a, l, c, rfl⟩ := okWide_slice Tryd.underlying23 hv
  obtain ⟨fuel, hf⟩ := h
  exact open_wfieldsF hf
end
end Go.Proofs.YtkklmljannclmaaDoor

namespace Go.Proofs.YtkklmljannclmaaDoor.wordsJoins
open Go.ChangeShapes Go.WideShapes Go.ChangeAt Go.RowKit

set_option maxRecDepth 100000 in
theorem contract (H : Type) (enc : TypeId × Value → H) (W : World) (base : Nat) (args : Array Value) (ds gs : List (DataW H)) (before : List MemPlace)
    (hval : ∀ (j : Nat) t v, Tryd.f4.params[j]? = some t → args[j]? = some v → Value.okWide Tryd.prog W .any base t v)
    (hW : DataW.Whole enc Tryd.prog Tryd.f4.params.toList Rows.wordsJoinsSpec.vars false W args.toList ds gs before) (hL : laidMetH Tryd.prog Rows.wordsJoinsRow.laid W) (hsh : W.ShapedOpen Tryd.prog) :
    Calls Tryd.prog 4 args W fun e W' => ∃ v, e = .returned v ∧ Rows.wordsJoinsSpec.post enc Tryd.prog Tryd.f4 false true false false W args v W' := by
  have hW' := hW
  obtain ⟨p, q, hA0, hV, rfl, hfz, hnd⟩ := hW
  have hA : DataW.TrodAll enc Tryd.prog W 0 (fun _ => true) true Tryd.f4.params.toList args.toList ds p := hA0
  rw [Tryd.params4] at hA hval
  obtain ⟨v0, vs0, d0, ds0, p0, q0, hargs, rfl, rfl, h0, r0⟩ := trodAll_cons hA
  obtain ⟨rfl, rfl, rfl⟩ := trodAll_nil r0
  obtain rfl : args = #[v0] := by cases args; simp_all
  obtain ⟨rfl, rfl⟩ := trodVars_none hV
  obtain ⟨a0, c0, I0, rfl, hI0, hl0⟩ := open_wfields (hval 0 23 v0 rfl rfl) h0
  refine (law_joins a0 c0 I0 W hI0 hl0 (t1_of hL hsh)).mono fun e W' ⟨he, hb⟩ => ?_
  exact ⟨_, he, law_post hW' rfl (by rw [Tryd.params4]; kernel_rfl) rfl rfl rfl rfl hb⟩

theorem laid_met (os : Os) : laidMet Tryd.prog Rows.wordsJoinsRow.laid ((laidWorld os).forCall (fun _ _ => 0) ⟨#[], #[.slice none 0 0], []⟩).memory :=
  laidMet_of_run' 8 (by kernel_rfl) (by kernel_rfl)
theorem reads (os : Os) {H : Type} (enc : TypeId × Value → H) : ∃ places, DataW.whole enc Tryd.prog ((laidWorld os).forCall (fun _ _ => 0) ⟨#[], #[.slice none 0 0], []⟩).memory Tryd.f4.params.toList Rows.wordsJoinsSpec.vars false #[Value.slice none 0 0].toList 8 = some ([.nil], [], places) :=
  ⟨[], by kernel_rfl⟩

set_option maxRecDepth 100000 in
theorem lifted (os : Os) (started : os.Started) (H : Type) (enc : TypeId × Value → H) (F : Stop.Interp) :
    ReturnsInHanded {} Tryd.checked os 4 .any ((OpenSpec.ofChange Rows.wordsJoinsSpec).preRow enc Tryd.prog Tryd.f4 Rows.wordsJoinsRow.domain false Rows.wordsJoinsRow.laid) (((OpenSpec.ofChange Rows.wordsJoinsSpec).at F).post enc Tryd.prog Tryd.f4 false true false false) := by
  obtain ⟨places, hx⟩ := reads os enc
  refine returnsInHanded_of_row (C := Tryd.checked) (s := OpenSpec.ofChange Rows.wordsJoinsSpec) own started (by kernel_rfl) Tryd.func4
    (witness_row_at (enc := enc) (C := Tryd.checked) false (laidWorld os) #[.slice none 0 0] rfl (by kernel_rfl) (by kernel_rfl) (by kernel_rfl)
      (OpenSpec.preRow_of_cond 8 hx (by kernel_rfl) (fun k hk => by cases hk) (by kernel_rfl) (laid_met os))) ?_
  intro W base args ds gs before hval hW _ _ _ hL hsh _
  exact contract H enc W base args ds gs before hval hW hL hsh

theorem said : Rows.WordsJoinsSaid :=
  OpenClaim.holds_of_cond 4 Tryd.f4 rfl rfl rfl rfl rfl rfl rfl ⟨rfl, rfl, rfl, rfl, rfl⟩ rfl rfl rfl rfl rfl (by kernel_rfl) Tryd.func4 (by kernel_rfl)
    (of_decide_eq_true (by kernel_rfl)) (by unfold Func.isWrapper; first | (rw [if_pos (by decide +kernel)]; kernel_rfl) | (rw [if_neg (by decide +kernel)]; exact ⟨rfl, rfl⟩))
    (fun os started H enc _ F => by rw [OpenClaim.pre_eq_preRow]; exact lifted os started H enc F)

theorem plain (f : FuncId) (fn : Func) (hf : Tryd.pinned.checked.prog.funcNamed "polder/polderlaw01.WordsJoins" = some f) (hfn : Tryd.pinned.checked.prog.funcs[f]? = some fn) :
    true = Tryd.pinned.checked.prog.looks [] ∧ ∀ (j : Nat) t, fn.params[j]? = some t → Tryd.pinned.checked.prog.wantsStandIn t = false := by
  obtain rfl : f = 4 := Option.some.inj ((show Tryd.prog.funcNamed "polder/polderlaw01.WordsJoins" = some 4 by kernel_rfl).symm.trans hf) |>.symm
  obtain rfl : fn = Tryd.f4 := (Option.some.inj (Tryd.func4.symm.trans hfn)).symm
  refine ⟨by kernel_rfl, fun j t ht => ?_⟩
  rw [Tryd.params4] at ht
  have hm : t ∈ [23] := by simpa using Array.mem_of_getElem? ht
  have hall : ([23].all fun u => !Tryd.prog.wantsStandIn u) = true := by kernel_rfl
  exact (show Tryd.prog.wantsStandIn t = false by simpa using List.all_eq_true.1 hall t hm)

/-- THE CARD. -/
theorem card : Rows.WordsJoinsCardSaid :=
  Claim7.holds_tied_plain_at .later [] _ _ _ _ said (fun _ h => by cases h) (by kernel_rfl) (fun _ h => by cases h) wordsJoins_row_tie rfl ⟨rfl, rfl⟩ (by kernel_rfl) rfl plain (by kernel_rfl)
#print axioms card
end Go.Proofs.YtkklmljannclmaaDoor.wordsJoins
