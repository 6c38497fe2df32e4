/- Regions that draw their order inside a fence: an invariant of what is done; append at a step. No program. -/
import Derived.Test.YtpaecmpiokkdnaaDoorChains
import Derived.OwnWalkIn
import Derived.OrdersIn
namespace Go.Proofs.YtpaecmpiokkdnaaDoor
open Go.RowKit Go.Sort Go.Joins

section
variable {F : Fence} {m : Nat} {P : Program} {ops : Array Oper} {Q : Exit → Act → World → Prop} {l : Array Bool} {a : Act} {w : World}
theorem wpAnyIn_inv (INV : Array Bool → Act → World → Prop) (hacyc : inOrder ops = true) (hsz : ∀ l a w, INV l a w → l.size = ops.size)
    (H : ∀ l a w, INV l a w → wpAnyIn F m P .any ops Q (openOps ops l) l a w ∨ (0 < openOps ops l ∧ ∀ i ∈ Region.ready .any ops l, wpOpIn F m P ops Q i (fun a' w' => INV (l.setIfInBounds i true) a' w') a w)) :
    ∀ (n : Nat) (l : Array Bool) (a : Act) (w : World), openOps ops l = n → INV l a w → wpAnyIn F m P .any ops Q n l a w
  | 0, l, a, w, hn, h => by
    rcases H l a w h with h1 | ⟨h1, _⟩
    · rwa [hn] at h1
    · omega
  | n + 1, l, a, w, hn, h => by
    rcases H l a w h with h1 | ⟨h1, h2⟩
    · rwa [hn] at h1
    · obtain ⟨i, hi, ho⟩ := openOps_zero h1
      refine ⟨fun hr => absurd hr (ready_some hacyc (hsz l a w h) i i (Nat.le_refl _) hi ho), fun j hj => ?_⟩
      obtain ⟨o1, o2⟩ := ready_open hj
      exact wpOpIn_mono (fun a' w' h' => wpAnyIn_inv INV hacyc hsz H n _ a' w' (by have := openOps_set o2 o1; omega) h') (h2 j hj)
theorem wpAnyIn_fuel (n : Nat) (h : openOps ops l = n) (hw : wpAnyIn F m P .any ops Q n l a w) : wpAnyIn F m P .any ops Q (openOps ops l) l a w := h ▸ hw
theorem wpAnyIn_named {n : Nat} (h : ∀ a0, a0 = a → wpAnyIn F m P .any ops Q n l a0 w) : wpAnyIn F m P .any ops Q n l a w := h a rfl
theorem wpIn_append_lies {o : Oper} {K : Act → World → Prop} (w : World) (s x : Operand) (t : TypeId)
    (ho : o.op = .call { callee := .builtin .append, args := #[s, x], argTypes := #[t, t] })
    (base : Nat) (e : TypeId) (i : TypeInfo) (z : Value) (size bytes : Nat) (ht : P.underlying t = some (.slice e)) (hi : P.info? e = some i) (hz : i.zero = some z)
    (hsize : i.size = size) (hby : i.bytes = bytes) (hzs : z.cells.size = size) (hsz : 0 < size)
    (v : Value) (n : Nat) (xs : List Value) (hs : a.eval s = v) (hown : w.ownsRow base e size v n xs)
    (ad : Addr) (k c : Nat) (news : List Value) (hx : a.eval x = .slice (some ad) k c) (hl : news.length = k * size) (hnews : ∀ j u, news[j]? = some u → w.cell? (ad.add j) = some u) (h1 : ∀ u ∈ news, u.oneCell' = true)
    (hm : 0 < k) (h63 : n + k ≤ maxLen) (hbytes : (n + k) * bytes ≤ 140737488355328) (hbase : base ≤ w.heap.size) (H : Nat) (hH : w.heap.size = H)
    (h : ∀ g cap w', w'.ownsRow base e size (.slice (some ⟨g, 0, none⟩) (n + k) cap) (n + k) (xs ++ news) → w.grownBy w' v.ownBlock → (v.ownBlock = some g ∨ g = H) → g < w'.heap.size → K (a.put o.dst (.slice (some ⟨g, 0, none⟩) (n + k) cap)) w') : Oper.wpIn F m P o a w K Q := by
  obtain ⟨g, cap, w', hrun, r1, r2, r3, r4⟩ := run_append_lies (P := P) w t o.type base e i z size bytes ht hi hz hsize hby hzs hsz v n xs hown ad k c news hl hnews h1 hm h63 hbytes hbase H hH
  unfold Oper.wpIn
  refine ⟨?_, ?_⟩
  · simp [Oper.about, ho, resolve, Target.leads, Sem.run_pure]
  · rw [Oper.semAt_plain F _ _ (by rw [ho]; intro c hc'; cases hc')]
    simp [execOp, ho, resolve, invoke, builtin, hs, hx, hrun, Result.andThen]
    exact h g cap w' r1 r2 r3 r4
end
end Go.Proofs.YtpaecmpiokkdnaaDoor
