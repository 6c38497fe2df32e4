/- The radix map, plain: what its calls do. -/
import Derived.Test.YtfmclbacoffdaaaDoorR7Plain
namespace Go.Proofs.YtfmclbacoffdaaaDoor
/-- the middle node of a page -/
def mdI (st : List Nd) (p : Nat) : Nat := (st.getD 0 ndZ).kd (p / 64)
/-- the leaf of a page -/
def lfI (st : List Nd) (p : Nat) : Nat := if mdI st p = 0 then 0 else (st.getD (mdI st p) ndZ).kd (p / 8 % 8)
/-- the word of a page -/
def wdI (st : List Nd) (p : Nat) : Nat := if lfI st p = 0 then 0 else (st.getD (lfI st p) ndZ).wd (p % 8)
/-- how many nodes must be made for n pages from p on -/
def needF (st : List Nd) : Nat → Nat → Int → Int → Nat
  | 0, _, _, _ => 0
  | n + 1, p, big, small => (if mdI st p = 0 ∧ ((p / 64 : Nat) : Int) ≠ big then 1 else 0) + (if lfI st p = 0 ∧ ((p / 8 : Nat) : Int) ≠ small then 1 else 0) + needF st n (p + 1) ((p / 64 : Nat) : Int) ((p / 8 : Nat) : Int)
/-- a map: nodes, how many, which numbers are taken -/
structure RM where
  st : List Nd
  m : Nat
  r : Nat → Bool
/-- the least number that is free -/
def frI (X : RM) : Nat := nxt (fun i => !X.r i) 0 X.st.length
def takeM (X : RM) (i : Nat) (l : Int) : RM := ⟨X.st.set i (nd0 l), X.m + 1, filled X.r i (i + 1) true⟩
/-- a node with a kid more -/
def kidN (n : Nd) (k v : Nat) : Nd := { n with kd := upd n.kd k v, mn := n.mn + 1 }
def growM (X : RM) (i k : Nat) : RM :=
  { takeM X (frI X) ((X.st.getD i ndZ).lv + 1) with st := (X.st.set (frI X) (nd0 ((X.st.getD i ndZ).lv + 1))).set i (kidN ((X.st.set (frI X) (nd0 ((X.st.getD i ndZ).lv + 1))).getD i ndZ) k (frI X)) }
/-- a leaf with a word more -/
def wordN (n : Nd) (k x : Nat) : Nd := { n with wd := upd n.wd k x, mn := n.mn + (if n.wd k = 0 then 1 else 0) }
/-- the map after the middle node of a page is made; that node -/
def putA (X : RM) (p : Nat) : RM := if mdI X.st p = 0 then growM X 0 (p / 64) else X
def putAI (X : RM) (p : Nat) : Nat := if mdI X.st p = 0 then frI X else mdI X.st p
/-- .. after its leaf is made; that leaf -/
def putB (X : RM) (p : Nat) : RM := if lfI X.st p = 0 then growM (putA X p) (putAI X p) (p / 8 % 8) else putA X p
def putBI (X : RM) (p : Nat) : Nat := if lfI X.st p = 0 then frI (putA X p) else lfI X.st p
/-- a page gets a word -/
def putM (X : RM) (x p : Nat) : RM := { putB X p with st := (putB X p).st.set (putBI X p) (wordN ((putB X p).st.getD (putBI X p) ndZ) (p % 8) x) }
/-- does it go well? -/
def putOk (X : RM) (p : Nat) : Bool :=
  decide (mdI X.st p < X.st.length) && (decide (mdI X.st p ≠ 0) || decide (frI X < X.st.length)) && decide (putAI X p < X.st.length) &&
  decide (lfI X.st p < X.st.length) && (decide (lfI X.st p ≠ 0) || decide (frI (putA X p) < X.st.length)) && decide (putBI X p < X.st.length)
/-- n pages from p on -/
def setM (x : Nat) : Nat → RM → Nat → RM
  | 0, X, _ => X
  | n + 1, X, p => putM (setM x n X p) x (p + n)
def setOk (x n : Nat) (X : RM) (p : Nat) : Bool := (List.range n).all fun j => putOk (setM x j X p) (p + j)
theorem growM_len (X : RM) (i k : Nat) : (growM X i k).st.length = X.st.length := by simp [growM]
theorem putA_len (X : RM) (p : Nat) : (putA X p).st.length = X.st.length := by unfold putA; split <;> simp [growM_len]
theorem putB_len (X : RM) (p : Nat) : (putB X p).st.length = X.st.length := by unfold putB; split <;> simp [growM_len, putA_len]
theorem putM_len (X : RM) (x p : Nat) : (putM X x p).st.length = X.st.length := by simp [putM, putB_len]
/-- a new map -/
def newM (n : Nat) : RM := ⟨(List.replicate n (nd0 (-1))).set 0 (nd0 0), 1, filled (fun _ => false) 0 1 true⟩
theorem setM_len (x : Nat) (X : RM) (p : Nat) : ∀ n, (setM x n X p).st.length = X.st.length
  | 0 => rfl
  | n + 1 => by simp [setM, putM_len, setM_len x X p n]
theorem setOk_at {x n : Nat} {X : RM} {p : Nat} (h : setOk x n X p = true) {j : Nat} (hj : j < n) : putOk (setM x j X p) (p + j) = true := List.all_eq_true.1 h j (List.mem_range.2 hj)
theorem putOk_parts {X : RM} {p : Nat} (h : putOk X p = true) : mdI X.st p < X.st.length ∧ (mdI X.st p = 0 → frI X < X.st.length) ∧ putAI X p < X.st.length ∧ lfI X.st p < X.st.length ∧ (lfI X.st p = 0 → frI (putA X p) < X.st.length) ∧ putBI X p < X.st.length := by
  unfold putOk at h
  simp only [Bool.and_eq_true, Bool.or_eq_true, decide_eq_true_eq] at h
  obtain ⟨⟨⟨⟨⟨h1, h2⟩, h3⟩, h4⟩, h5⟩, h6⟩ := h
  exact ⟨h1, fun e => h2.resolve_left (fun h => h e), h3, h4, fun e => h5.resolve_left (fun h => h e), h6⟩
/-- the awake map -/
def awM : RM := setM 401419 2 (newM 4) 7
theorem aw_1 : setOk 401419 2 (newM 4) 7 = true ∧ needF (newM 4).st 2 7 (-1) (-1) = 3 ∧ awM.m = 4 ∧ needF awM.st 1 64 (-1) (-1) = 2 ∧ awM.st.length = 4 ∧ wdI awM.st 9 = 0 := by decide +kernel
end Go.Proofs.YtfmclbacoffdaaaDoor
