/- Guards, merging, folding: what they come to. -/
import Derived.Test.YtmekbgeknkknfaaQ3
set_option linter.unusedVariables false
set_option linter.unusedSimpArgs false
namespace Go.Ab

/-- A scan: the first place of which something holds ends it. -/
def allFrom {α : Type} (q : Nat → α → Bool) : List α → Nat → Bool
  | [], _ => true
  | a :: l, k => bif q k a then false else allFrom q l (k + 1)
theorem foldX_all {α : Type} (q : Nat → α → Bool) : ∀ (l : List α) (k : Nat), foldX (fun (k : Nat) a => bif q k a then .inr (0 : Nat) else .inl (k + 1)) (fun _ => (1 : Nat)) l k = bif allFrom q l k then 1 else 0
  | [], k => rfl
  | a :: l, k => by
    simp only [foldX, allFrom]
    cases q k a with
    | true => rfl
    | false => exact foldX_all q l (k + 1)
theorem allFrom_iff {α : Type} (q : Nat → α → Bool) : ∀ (l : List α) (k : Nat), allFrom q l k = true ↔ ∀ i (h : i < l.length), q (k + i) l[i] = false
  | [], k => by simp [allFrom]
  | a :: l, k => by
    simp only [allFrom]
    cases hq : q k a with
    | true =>
      simp only [cond_true]
      constructor
      · intro h; cases h
      · intro h
        have := h 0 (by simp)
        simp [hq] at this
    | false =>
      simp only [cond_false]
      rw [allFrom_iff q l (k + 1)]
      constructor
      · intro h i hi
        cases i with
        | zero => simpa using hq
        | succ i =>
          have := h i (by simpa using hi)
          rw [show k + (i + 1) = k + 1 + i by omega]
          simpa using this
      · intro h i hi
        have := h (i + 1) (by simpa using hi)
        rw [show k + (i + 1) = k + 1 + i by omega] at this
        simpa using this
theorem scan {α : Type} {step : Int → Dt (Int ⊕ Nat)} (l : List α) (q : Nat → α → Bool) (hstep : ∀ (k : Nat) (h : k < l.length), (step (k : Int)).val = some (bif q k l[k] then .inr 0 else .inl ((k + 1 : Nat) : Int)))
    (hend : (step (l.length : Int)).val = some (.inr 1)) : loopV step 0 = some (bif allFrom q l 0 then 1 else 0) := by
  rw [← foldX_all q l 0]
  refine loop_fold (step := step) l (fun _ (k : Nat) => (k : Int)) _ _ (fun k s => s = k) (fun k s h hi => ?_) (fun s hi => ?_) 0 rfl
  · subst hi
    refine ⟨?_, fun s' hs => ?_⟩
    · rw [hstep s h]
      cases q s l[s] <;> rfl
    · cases hq : q s l[s] with
      | true => rw [hq] at hs; cases hs
      | false => rw [hq] at hs; cases hs; rfl
  · subst hi
    exact hend

def M63 : Nat := 9223372036854775807
theorem next_ok {k n : Nat} (h : k < n) (hn : n ≤ 9223372036854775807) : wrapF .i64 ((k : Int) + 1) = ((k + 1 : Nat) : Int) := by
  rw [wrap_i64 (by omega) (by omega)]
  rfl
theorem prev_ok {k : Nat} (h : k + 1 ≤ 9223372036854775807) : wrapF .i64 (((k + 1 : Nat) : Int) - 1) = (k : Int) := by
  rw [wrap_i64 (by omega) (by omega)]
  omega

/-- Few things. -/
def Th.few (t : Th) : Bool :=
  decide ((t.a.s.length : Int) ≤ 40) && (decide ((t.b.s.length : Int) ≤ 40) && (decide ((t.c.s.length : Int) ≤ 40) && decide ((t.d.s.length : Int) ≤ 40)))
theorem v147_eq (f : Fi) : v147 f.n f.s = some (decide ((f.s.length : Int) ≤ 40)) := rfl
theorem v84_eq (t : Th) : v84 t.id t.x t.y t.a.n t.a.s t.b.n t.b.s t.c.n t.c.s t.d.n t.d.s = some t.few := by
  simp only [v84, d84, v147_eq, Dt.val_some, Dt.val_br, Dt.val_ret, Th.few]
  cases decide ((t.a.s.length : Int) ≤ 40) <;> cases decide ((t.b.s.length : Int) ≤ 40) <;> cases decide ((t.c.s.length : Int) ≤ 40) <;> cases decide ((t.d.s.length : Int) ≤ 40) <;> rfl
theorem v22_eq (n : Bool) (l : List Th) (hl : l.length ≤ 9223372036854775807) : v22 n (l.map Th.enc) = some (bif allFrom (fun _ t => !t.few) l 0 then decide ((l.length : Int) ≤ 30) else false) := by
  have hw : w22_2 n (l.map Th.enc) 0 = some (bif allFrom (fun _ t => !t.few) l 0 then 1 else 0) := by
    refine scan (step := fun p : P22_2 => d22_2 n (l.map Th.enc) p) l (fun _ (t : Th) => !t.few) (fun k h => ?_) ?_
    · have h' : k < (l.map Th.enc).length := by simpa using h
      show (d22_2 n (l.map Th.enc) (k : Int)).val = _
      unfold d22_2
      rw [Dt.val_yes (by simpa using h), Dt.val_yes (idx_ok h'), toNat_cast, getD_map _ _ _ h, Dt.val_yes (epOk_th _)]
      have hv : v84 (nth l[k].enc 0).intOf (nth l[k].enc 1).intOf (nth l[k].enc 2).intOf (nth l[k].enc 3).intOf (nth l[k].enc 4).strOf (nth l[k].enc 5).intOf (nth l[k].enc 6).strOf (nth l[k].enc 7).intOf (nth l[k].enc 8).strOf (nth l[k].enc 9).intOf (nth l[k].enc 10).strOf = some l[k].few := v84_eq _
      rw [hv, Dt.val_some, Dt.val_br, next_ok h hl]
      cases l[k].few <;> rfl
    · show (d22_2 n (l.map Th.enc) (l.length : Int)).val = _
      unfold d22_2
      rw [Dt.val_no (by simp)]
      rfl
  unfold v22 d22
  rw [Dt.val_ob, hw, Dt.val_some]
  cases allFrom (fun _ (t : Th) => !t.few) l 0 with
  | true =>
    show some (decide (((l.map Th.enc).length : Int) ≤ 30)) = some (decide ((l.length : Int) ≤ 30))
    rw [List.length_map]
  | false => rfl

theorem v124_eq (x y : Int) : v124 x y = some (onB x y) := by
  simp only [v124, d124, Dt.val_br, Dt.val_ret, onB]
  cases decide (0 ≤ x) <;> cases decide (x < 64) <;> cases decide (0 ≤ y) <;> rfl
theorem v125_eq (f : Fi) : v125 f.n f.s = some f.ok := by
  simp only [v125, d125, Dt.val_br, Dt.val_ret, Fi.ok]
  cases f.n == 0 <;> cases f.s == [] <;> rfl
theorem v74_eq (t : Th) : v74 t.id t.x t.y t.a.n t.a.s t.b.n t.b.s t.c.n t.c.s t.d.n t.d.s = some t.ok := by
  simp only [v74, d74, Dt.val_br, v124_eq, v125_eq, Dt.val_some, Dt.val_ret, Th.ok]
  cases decide (0 ≤ t.id) <;> cases decide (t.id ≤ 1000000) <;> cases onB t.x t.y <;> cases t.a.ok <;> cases t.b.ok <;> cases t.c.ok <;> cases t.d.ok <;> rfl

/-- Things that are any, rising. -/
def notRise (l : List Th) (k : Nat) (t : Th) : Bool := bif !t.ok then true else bif decide (0 < k) then decide (t.id ≤ (l.getD (k - 1) default).id) else false
theorem v23_eq (n : Bool) (l : List Th) (hl : l.length ≤ 9223372036854775807) : v23 n (l.map Th.enc) = some (allFrom (notRise l) l 0) := by
  have hw : w23_2 n (l.map Th.enc) 0 = some (bif allFrom (notRise l) l 0 then 1 else 0) := by
    refine scan (step := fun p : P23_2 => d23_2 n (l.map Th.enc) p) l (notRise l) (fun k h => ?_) ?_
    · have h' : k < (l.map Th.enc).length := by simpa using h
      show (d23_2 n (l.map Th.enc) (k : Int)).val = _
      unfold d23_2
      rw [Dt.val_yes (by simpa using h), Dt.val_yes (idx_ok h'), toNat_cast, getD_map _ _ _ h, Dt.val_yes (epOk_th _)]
      have hv : v74 (nth l[k].enc 0).intOf (nth l[k].enc 1).intOf (nth l[k].enc 2).intOf (nth l[k].enc 3).intOf (nth l[k].enc 4).strOf (nth l[k].enc 5).intOf (nth l[k].enc 6).strOf (nth l[k].enc 7).intOf (nth l[k].enc 8).strOf (nth l[k].enc 9).intOf (nth l[k].enc 10).strOf = some l[k].ok := v74_eq _
      rw [hv, Dt.val_some, Dt.val_br, next_ok h hl]
      unfold notRise
      cases l[k].ok with
      | false => rfl
      | true =>
        rw [show (!true) = false from rfl, cond_false, cond_false]
        cases k with
        | zero => rfl
        | succ k =>
          have hk : k < l.length := by omega
          have hk' : k < (l.map Th.enc).length := by simpa using hk
          rw [Dt.val_yes (by simp), Dt.val_yes (idx_ok h'), Dt.val_yes (epOk_th0 _), prev_ok (by omega), Dt.val_yes (idx_ok hk'), toNat_cast, getD_map _ _ _ hk, Dt.val_yes (epOk_th0 _), Dt.val_br]
          have hg : l.getD (k + 1 - 1) default = l[k] := by simp [List.getD, hk]
          rw [hg, show decide (0 < k + 1) = true by simp, cond_true]
          show (bif decide (l[k + 1].id ≤ l[k].id) then _ else _) = _
          cases decide (l[k + 1].id ≤ l[k].id) <;> rfl
    · show (d23_2 n (l.map Th.enc) (l.length : Int)).val = _
      unfold d23_2
      rw [Dt.val_no (by simp)]
      rfl
  unfold v23 d23
  rw [Dt.val_ob, hw, Dt.val_some]
  cases allFrom (notRise l) l 0 <;> rfl

/-- By their numbers. -/
def Rising (l : List Th) : Prop := l.Pairwise fun a b => a.id < b.id
theorem rising_of {l : List Th} (h : allFrom (notRise l) l 0 = true) : (∀ t ∈ l, t.ok = true) ∧ Rising l := by
  rw [allFrom_iff] at h
  have h1 : ∀ i (hi : i < l.length), l[i].ok = true := fun i hi => by
    have := h i hi
    unfold notRise at this
    cases ho : l[i].ok with
    | true => rfl
    | false => rw [ho] at this; cases this
  have h2 : ∀ i (hi : i + 1 < l.length), l[i].id < l[i + 1].id := fun i hi => by
    have := h (i + 1) hi
    unfold notRise at this
    rw [h1 (i + 1) hi] at this
    have hg : l.getD (0 + (i + 1) - 1) default = l[i] := by simp [List.getD, show i < l.length by omega]
    rw [hg] at this
    simp at this
    omega
  refine ⟨fun t ht => ?_, ?_⟩
  · obtain ⟨i, hi, rfl⟩ := List.getElem_of_mem ht
    exact h1 i hi
  · unfold Rising
    rw [List.pairwise_iff_getElem]
    have key : ∀ d i (hi : i + d + 1 < l.length), l[i].id < l[i + d + 1].id := by
      intro d
      induction d with
      | zero => intro i hi; exact h2 i hi
      | succ d ih =>
        intro i hi
        have a := ih i (by omega)
        have b := h2 (i + d + 1) (by omega)
        have e : l[i + (d + 1) + 1] = l[i + d + 1 + 1] := by congr 1
        rw [e]
        omega
    intro i j hi hj hij
    have := key (j - i - 1) i (by omega)
    simpa [show i + (j - i - 1) + 1 = j by omega] using this

/-- The same rows are alike. -/
theorem v28_self (n m : Bool) (l : List Th) (hl : l.length ≤ 9223372036854775807) : v28 n (l.map Th.enc) m (l.map Th.enc) = some true := by
  have hw : w28_4 n (l.map Th.enc) m (l.map Th.enc) 0 = some (bif allFrom (fun _ (_ : Th) => false) l 0 then 1 else 0) := by
    refine scan (step := fun p : P28_4 => d28_4 n (l.map Th.enc) m (l.map Th.enc) p) l (fun _ _ => false) (fun k h => ?_) ?_
    · have h' : k < (l.map Th.enc).length := by simpa using h
      show (d28_4 n (l.map Th.enc) m (l.map Th.enc) (k : Int)).val = _
      unfold d28_4
      rw [Dt.val_yes (by simpa using h), Dt.val_yes (idx_ok h'), toNat_cast, getD_map _ _ _ h, Dt.val_yes (epOk_th _), Dt.val_yes (idx_ok h'), Dt.val_yes (epOk_th _), Dt.val_no (by simp), next_ok h hl]
      rfl
    · show (d28_4 n (l.map Th.enc) m (l.map Th.enc) (l.length : Int)).val = _
      unfold d28_4
      rw [Dt.val_no (by simp)]
      rfl
  have ha : allFrom (fun _ (_ : Th) => false) l 0 = true := by rw [allFrom_iff]; intros; rfl
  rw [ha] at hw
  unfold v28 d28
  rw [Dt.val_no (by simp), Dt.val_ob, hw, Dt.val_some]
  rfl
end Go.Ab
