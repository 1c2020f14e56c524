/- ViewWaits is true. -/
import Derived.Test.YtmekbgeknkknfaaV3
import Derived.Test.YtmekbgeknkknfaaL3
set_option linter.unusedVariables false
set_option linter.unusedSimpArgs false
set_option linter.unusedSectionVars false
namespace Go.Ab
open Go.Proofs

def mT (s : Vs) : Nat := s.th.length + sizeW s.w
def mL (s : Vs) : Nat := s.log.length + sizeW s.w
theorem oneV_m (next : Int) {s : Vs} (i : Nat) (hs : VsOk s) : mT (oneV next s i) ≤ mT s ∧ mL (oneV next s i) ≤ mL s := by
  have hd := size_del ((i : Int), next) s.w
  unfold oneV foldsV mT mL
  cases hb : (foldS s.th (getW ((i : Int), next) s.w).2).2 with
  | false => exact ⟨by show s.th.length + sizeW (delW ((i : Int), next) s.w) ≤ _; omega, by show s.log.length + sizeW (delW ((i : Int), next) s.w) ≤ _; omega⟩
  | true =>
    obtain ⟨q1, q2⟩ := foldS_rising (getW ((i : Int), next) s.w).2 hs.r
    refine ⟨?_, ?_⟩
    · show (foldS s.th (getW ((i : Int), next) s.w).2).1.length + sizeW (delW ((i : Int), next) s.w) ≤ _
      omega
    · show (s.log ++ (getW ((i : Int), next) s.w).2).length + sizeW (delW ((i : Int), next) s.w) ≤ _
      rw [List.length_append]
      omega
theorem foldl_m (next : Int) : ∀ (l : List Nat) {s : Vs}, VsOk s → mT (l.foldl (oneV next) s) ≤ mT s ∧ mL (l.foldl (oneV next) s) ≤ mL s
  | [], s, hs => ⟨Nat.le_refl _, Nat.le_refl _⟩
  | i :: l, s, hs => by
    obtain ⟨h1, h2⟩ := foldl_m next l (oneV_ok next i hs)
    obtain ⟨h3, h4⟩ := oneV_m next i hs
    exact ⟨Nat.le_trans h1 h3, Nat.le_trans h2 h4⟩
theorem rounds_m (start : Int) (N : Nat) : ∀ (f : Nat) (b : Int) {s : Vs}, VsOk s → VsOk (roundsV start N f b s).2 ∧ mT (roundsV start N f b s).2 ≤ mT s ∧ mL (roundsV start N f b s).2 ≤ mL s
  | 0, b, s, hs => ⟨hs, Nat.le_refl _, Nat.le_refl _⟩
  | f + 1, b, s, hs => by
    simp only [roundsV]
    cases allB N (nextB start b) s.w with
    | false => exact ⟨hs, Nat.le_refl _, Nat.le_refl _⟩
    | true =>
      obtain ⟨h1, h2, h3⟩ := rounds_m start N f (nextB start b) (foldl_ok (nextB start b) (List.range N) hs).1
      obtain ⟨h4, h5⟩ := foldl_m (nextB start b) (List.range N) hs
      exact ⟨h1, Nat.le_trans h2 h4, Nat.le_trans h3 h5⟩
theorem take_m (cl se : Int) (N : Nat) (beat start : Int) {v : Vs} (hv : VsOk v) (fr c s st bt : Int) (n : Bool) (es : List Ev) (h1 : mT v + es.length ≤ 200000) (h2 : mL v + es.length ≤ 200000) :
    VsOk (takeV cl se N beat start v fr c s st bt n es).2.2.2 ∧ mT (takeV cl se N beat start v fr c s st bt n es).2.2.2 ≤ mT v + es.length ∧ mL (takeV cl se N beat start v fr c s st bt n es).2.2.2 ≤ mL v + es.length := by
  unfold takeV
  cases mayV cl se N beat start v.w fr c s st bt es with
  | false => exact ⟨hv, Nat.le_add_right _ _, Nat.le_add_right _ _⟩
  | true =>
    have e1 : mT { v with w := v.w ++ [((fr, bt), (n, es))] } = mT v + es.length := by
      show v.th.length + sizeW (v.w ++ [((fr, bt), (n, es))]) = v.th.length + sizeW v.w + es.length
      rw [sizeW_snoc]; omega
    have e2 : mL { v with w := v.w ++ [((fr, bt), (n, es))] } = mL v + es.length := by
      show v.log.length + sizeW (v.w ++ [((fr, bt), (n, es))]) = v.log.length + sizeW v.w + es.length
      rw [sizeW_snoc]; omega
    have hok : VsOk { v with w := v.w ++ [((fr, bt), (n, es))] } := ⟨hv.tn, hv.ln, hv.r, by show mT { v with w := v.w ++ [((fr, bt), (n, es))] } ≤ _; omega, by show mL { v with w := v.w ++ [((fr, bt), (n, es))] } ≤ _; omega⟩
    obtain ⟨q1, q2, q3⟩ := rounds_m st N (v.w.length + 2) beat hok
    rw [e1] at q2
    rw [e2] at q3
    exact ⟨q1, q2, q3⟩

/-- How far a view is; where it began; what it holds. -/
structure Wv where
  b : Int
  s : Int
  v : Vs
def takeW (k : Nat) (s : Wv) (i : Nat) : Bool × Wv :=
  ((takeV 0 1 k s.b s.s s.v ((i % k : Nat) : Int) 0 1 0 ((i / k : Nat) : Int) false [evEnter (thX (i : Int))]).1,
    ⟨(takeV 0 1 k s.b s.s s.v ((i % k : Nat) : Int) 0 1 0 ((i / k : Nat) : Int) false [evEnter (thX (i : Int))]).2.1, (takeV 0 1 k s.b s.s s.v ((i % k : Nat) : Int) 0 1 0 ((i / k : Nat) : Int) false [evEnter (thX (i : Int))]).2.2.1, (takeV 0 1 k s.b s.s s.v ((i % k : Nat) : Int) 0 1 0 ((i / k : Nat) : Int) false [evEnter (thX (i : Int))]).2.2.2⟩)
/-- Frames but one. -/
def runW (k t : Nat) : List Nat → Wv → Option Wv
  | [], s => some s
  | i :: l, s => bif Nat.beq i t then runW k t l s else bif (takeW k s i).1 then runW k t l (takeW k s i).2 else none
def wv0 : Wv := ⟨-1, -1, vs0⟩
def checkW (k b t : Nat) : Bool :=
  match runW k t (List.range (k * b)) wv0 with
  | none => false
  | some s => decide (s.b = ((t / k : Nat) : Int) - 1) && (Nat.beq s.v.th.length (t / k * k) && (Nat.beq (s.v.w.length + 1 + t / k * k) (k * b) && ((takeW k s t).1 && (decide ((takeW k s t).2.b = (b : Int) - 1) && (Nat.beq (takeW k s t).2.v.th.length (k * b) && Nat.beq (takeW k s t).2.v.w.length 0)))))
theorem all_check : ((List.range 3).all fun a => (List.range 8).all fun b => (List.range ((a + 2) * (b + 1))).all fun t => checkW (a + 2) (b + 1) t) = true := by kernel_rfl
end Go.Ab
