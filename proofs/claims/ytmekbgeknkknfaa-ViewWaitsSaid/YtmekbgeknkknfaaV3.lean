/- ViewBad is true. -/
import Derived.Test.YtmekbgeknkknfaaV2
set_option linter.unusedVariables false
set_option linter.unusedSimpArgs false
namespace Go.Ab
open Go.Proofs

/-- A thing of nothing but a number. -/
def thX (x : Int) : Th := ⟨x, 0, 0, .zero, .zero, .zero, .zero⟩
theorem thX_ok {x : Int} (h0 : 0 ≤ x) (h1 : x ≤ 1000000) : (thX x).ok = true := by
  unfold Th.ok thX
  simp only [decide_eq_true h0, decide_eq_true h1, Bool.true_and]
  rfl
theorem v41_eq (x : Int) : v41 x = some ([evEnter (thX x)].map Ev.enc) := rfl
def badE (x : Int) : List Ev := [evEnter (thX x), evLeave (x + 1)]
section
variable (x y : Int) (hx0 : 0 ≤ x) (hx1 : x ≤ 255) (hy0 : 0 ≤ y) (hy1 : y ≤ 255)
include hx0 hx1
theorem okX : (evEnter (thX x)).ok = true := ok_enter (thX_ok hx0 (by omega))
theorem okL : (evLeave (x + 1)).ok = true := ok_leave (by omega) (by omega)
theorem apX : applyS [] (evEnter (thX x)) = ([thX x], true) := by
  unfold applyS
  rw [okX x hx0 hx1]
  rfl
theorem apL : applyS [thX x] (evLeave (x + 1)) = ([thX x], false) := by
  have hp : postOf [thX x] (evLeave (x + 1)).id = [] := by
    unfold postOf
    rw [List.dropWhile_cons, if_pos (by show decide (x < x + 1) = true; simp; omega)]
    rfl
  unfold applyS
  rw [okL x hx0 hx1, hp]
  rfl
theorem foldBad : (foldS [] (badE x)).2 = false := by
  unfold badE foldS
  rw [apX x hx0 hx1, cond_true]
  unfold foldS
  rw [apL x hx0 hx1]
  rfl
theorem foldOne : foldS [] [evEnter (thX x)] = ([thX x], true) := by
  unfold foldS
  rw [apX x hx0 hx1, cond_true]
  rfl
theorem anyBad : ((badE x).any fun e => !e.ok) = false := by
  unfold badE
  simp [okX x hx0 hx1, okL x hx0 hx1]
theorem anyOne : ([evEnter (thX x)].any fun e => !e.ok) = false := by
  simp [okX x hx0 hx1]
end

def vs0 : Vs := ⟨[], true, [], true, []⟩
def vs1 (x : Int) : Vs := ⟨[((0, 0), (false, badE x))], true, [], true, []⟩
def vs2 (x y : Int) : Vs := ⟨[((0, 0), (false, badE x)), ((1, 0), (false, [evEnter (thX y)]))], true, [], true, []⟩
def vs3 (y : Int) : Vs := ⟨[((1, 0), (false, [evEnter (thX y)]))], true, [], true, []⟩
def vs4 (y : Int) : Vs := ⟨[], false, [thX y], false, [evEnter (thX y)]⟩
theorem take1 {x : Int} (hx0 : 0 ≤ x) (hx1 : x ≤ 255) : takeV 0 1 2 (-1) (-1) vs0 0 0 1 0 0 false (badE x) = (true, -1, 0, vs1 x) := by
  unfold takeV mayV
  rw [anyBad x hx0 hx1]
  kernel_rfl
theorem take2 {x y : Int} (hx0 : 0 ≤ x) (hx1 : x ≤ 255) (hy0 : 0 ≤ y) (hy1 : y ≤ 255) : takeV 0 1 2 (-1) 0 (vs1 x) 1 0 1 0 0 false [evEnter (thX y)] = (true, 0, 0, vs4 y) := by
  have hr : roundsV 0 2 3 (-1) (vs2 x y) = (0, vs4 y) := by
    have h1 : allB 2 (nextB 0 (-1)) (vs2 x y).w = true := by kernel_rfl
    have h2 : (List.range 2).foldl (oneV (nextB 0 (-1))) (vs2 x y) = vs4 y := by
      show oneV (nextB 0 (-1)) (oneV (nextB 0 (-1)) (vs2 x y) 0) 1 = vs4 y
      have e1 : oneV (nextB 0 (-1)) (vs2 x y) 0 = vs3 y := by
        unfold oneV
        have hg : (getW (((0 : Nat) : Int), nextB 0 (-1)) (vs2 x y).w).2 = badE x := by kernel_rfl
        rw [hg]
        unfold foldsV
        have hf : (foldS (vs2 x y).th (badE x)).2 = false := foldBad x hx0 hx1
        rw [hf]
        rfl
      rw [e1]
      unfold oneV
      have hg : (getW (((1 : Nat) : Int), nextB 0 (-1)) (vs3 y).w).2 = [evEnter (thX y)] := by kernel_rfl
      rw [hg]
      unfold foldsV
      have hf : foldS (vs3 y).th [evEnter (thX y)] = ([thX y], true) := foldOne y hy0 hy1
      rw [hf]
      rfl
    show (bif allB 2 (nextB 0 (-1)) (vs2 x y).w then roundsV 0 2 2 (nextB 0 (-1)) ((List.range 2).foldl (oneV (nextB 0 (-1))) (vs2 x y)) else (-1, vs2 x y)) = _
    rw [h1, cond_true, h2]
    kernel_rfl
  have hm : mayV 0 1 2 (-1) 0 (vs1 x).w 1 0 1 0 0 [evEnter (thX y)] = true := by
    unfold mayV
    rw [anyOne y hy0 hy1]
    kernel_rfl
  unfold takeV
  rw [hm, cond_true]
  show (true, (roundsV 0 2 3 (-1) (vs2 x y)).1, (0 : Int), (roundsV 0 2 3 (-1) (vs2 x y)).2) = _
  rw [hr]
theorem ok0 : VsOk vs0 := ⟨fun _ => rfl, fun _ => rfl, List.Pairwise.nil, by decide, by decide⟩
theorem ok1 (x : Int) : VsOk (vs1 x) := ⟨fun _ => rfl, fun _ => rfl, List.Pairwise.nil, by show 0 + sizeW (vs1 x).w ≤ 200000; show 0 + 2 ≤ 200000; omega, by show 0 + 2 ≤ 200000; omega⟩
theorem v8_true {x y : Int} (hx0 : 0 ≤ x) (hx1 : x ≤ 255) (hy0 : 0 ≤ y) (hy1 : y ≤ 255) : ∃ r, v8 x y = some (true, r) := by
  have hwx : wrapF .i64 x = x := wrap_i64 (by omega) (by omega)
  have hwy : wrapF .i64 y = y := wrap_i64 (by omega) (by omega)
  have hwx1 : wrapF .i64 (x + 1) = x + 1 := wrap_i64 (by omega) (by omega)
  have h31 : v31 0 1 2 = some 2 := by kernel_rfl
  have h33a := v33_eq 0 1 2 (by decide) (by decide) (-1) (-1) vs0 ok0 0 0 1 0 0 false (badE x) (fun h => by cases h) (by show 0 + 0 + 2 ≤ 200000; omega) (by show 0 + 0 + 2 ≤ 200000; omega)
  rw [take1 hx0 hx1] at h33a
  have h33b := v33_eq 0 1 2 (by decide) (by decide) (-1) 0 (vs1 x) (ok1 x) 1 0 1 0 0 false [evEnter (thX y)] (fun h => by cases h) (by show 0 + 2 + 1 ≤ 200000; omega) (by show 0 + 2 + 1 ≤ 200000; omega)
  rw [take2 hx0 hx1 hy0 hy1] at h33b
  refine ⟨(encW (vs4 y).w, 2, 0, 0, (vs4 y).tn, (vs4 y).th.map Th.enc, (vs4 y).ln, (vs4 y).log.map Ev.enc), ?_⟩
  unfold v8 d8
  rw [show v29 = some () from rfl, Dt.val_some, h31, Dt.val_some, hwx, v41_eq, Dt.val_some, Dt.val_yes (show decide (([evEnter (thX x)].map Ev.enc).length + 1 ≤ 268435456) = true from rfl), hwx1]
  have e1 : v33 0 0 1 0 0 false ([evEnter (thX x)].map Ev.enc ++ ([[(.int .i64 3), (.int .i64 (x + 1)), (.int .i64 0), (.int .i64 0), (.int .i64 0), (.int .i64 0), (.str []), (.int .i64 0), (.str []), (.int .i64 0), (.str []), (.int .i64 0), (.str []), (.int .i64 0), (.int .u8 0), (.int .i64 0), (.int .i64 0), (.int .i64 0), (.str []), (.int .i64 0), (.str []), (.int .i64 0), (.str []), (.int .i64 0), (.str [])]] : List (List AV))) [] 0 1 2 (-1) (-1) true [] true [] = some (true, encW (vs1 x).w, -1, 0, true, [], true, []) := h33a
  rw [e1, Dt.val_some, hwy, v41_eq, Dt.val_some]
  have e2 : v33 1 0 1 0 0 false ([evEnter (thX y)].map Ev.enc) (encW (vs1 x).w) 0 1 2 (-1) 0 true [] true [] = some (true, encW (vs4 y).w, 0, 0, (vs4 y).tn, (vs4 y).th.map Th.enc, (vs4 y).ln, (vs4 y).log.map Ev.enc) := h33b
  dsimp only
  rw [e2, Dt.val_some]
  have h37 : v37 (encW (vs4 y).w) 0 1 2 0 0 (vs4 y).tn ((vs4 y).th.map Th.enc) (vs4 y).ln ((vs4 y).log.map Ev.enc) = some (false, [(thX y).enc]) := rfl
  have h35 : v35 (encW (vs4 y).w) 0 1 2 0 0 (vs4 y).tn ((vs4 y).th.map Th.enc) (vs4 y).ln ((vs4 y).log.map Ev.enc) = some () := rfl
  have h39 : v39 (encW (vs4 y).w) 0 1 2 0 0 (vs4 y).tn ((vs4 y).th.map Th.enc) (vs4 y).ln ((vs4 y).log.map Ev.enc) = some (false, [(evEnter (thX y)).enc]) := rfl
  dsimp only
  rw [h37, Dt.val_some]
  refine (Dt.val_yes rfl).trans ?_
  refine (Dt.val_yes rfl).trans ?_
  rw [h35, Dt.val_some]
  refine (Dt.val_yes rfl).trans ?_
  refine (Dt.val_yes rfl).trans ?_
  refine (Dt.val_yes rfl).trans ?_
  refine (Dt.val_yes rfl).trans ?_
  have hid : ((nth ([(thX y).enc].getD 0 []) 0).intOf == y) = true := by show (y == y) = true; simp
  refine (Dt.val_yes hid).trans ?_
  rw [h39, Dt.val_some]
  rfl
end Go.Ab
