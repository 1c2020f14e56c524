/- Things, events; what the small functions come to. -/
import Derived.Test.YtmekbgeknkknfaaL1
set_option linter.unusedVariables false
set_option linter.unusedSimpArgs false
namespace Go.Ab

@[simp] theorem Dt.val_some {α β : Type} [Inhabited β] (a : β) (k : β → Dt α) : (Dt.opt (some a) k).val = (k a).val := rfl
@[simp] theorem Dt.val_none {α β : Type} [Inhabited β] (k : β → Dt α) : (Dt.opt (none : Option β) k).val = none := rfl
theorem Dt.val_yes {α : Type} {b : Bool} {t e : Dt α} (h : b = true) : (Dt.br b t e).val = t.val := by subst h; rfl
theorem Dt.val_no {α : Type} {b : Bool} {t e : Dt α} (h : b = false) : (Dt.br b t e).val = e.val := by subst h; rfl

structure Fi where
  n : Int
  s : List UInt8
  deriving DecidableEq, Inhabited
structure Th where
  id : Int
  x : Int
  y : Int
  a : Fi
  b : Fi
  c : Fi
  d : Fi
  deriving DecidableEq, Inhabited
structure De where
  id : Int
  m : Int
  x : Int
  y : Int
  a : Fi
  b : Fi
  c : Fi
  d : Fi
  deriving DecidableEq, Inhabited
structure Ev where
  k : Int
  id : Int
  t : Th
  e : De
  deriving DecidableEq, Inhabited
abbrev I (n : Int) : AV := .int .i64 n
def Fi.enc (f : Fi) : List AV := [I f.n, .str f.s]
def Th.enc (t : Th) : List AV := [I t.id, I t.x, I t.y, I t.a.n, .str t.a.s, I t.b.n, .str t.b.s, I t.c.n, .str t.c.s, I t.d.n, .str t.d.s]
def De.enc (t : De) : List AV := [I t.id, .int .u8 t.m, I t.x, I t.y, I t.a.n, .str t.a.s, I t.b.n, .str t.b.s, I t.c.n, .str t.c.s, I t.d.n, .str t.d.s]
def Ev.enc (e : Ev) : List AV := I e.k :: I e.id :: (e.t.enc ++ e.e.enc)
def Fi.zero : Fi := ⟨0, []⟩
def Th.zero : Th := ⟨0, 0, 0, .zero, .zero, .zero, .zero⟩
def De.zero : De := ⟨0, 0, 0, 0, .zero, .zero, .zero, .zero⟩

theorem getD_map {α : Type} (f : α → List AV) (l : List α) (k : Nat) (h : k < l.length) : (l.map f).getD k [] = f l[k] := by
  simp [List.getD, h]

/-- The machine's numbers. -/
theorem wrap_i64 {n : Int} (h0 : -9223372036854775808 ≤ n) (h1 : n ≤ 9223372036854775807) : wrapF .i64 n = n := by
  cases n with
  | ofNat m =>
    have : m ≤ 9223372036854775807 := by
      have : (m : Int) ≤ 9223372036854775807 := h1
      omega
    show (bif Nat.ble m 9223372036854775807 then _ else _) = _
    rw [Nat.ble_eq_true_of_le this, cond_true]
  | negSucc m =>
    have : m ≤ 9223372036854775807 := by omega
    show (bif Nat.ble m 9223372036854775807 && IntKind.i64.signed then _ else _) = _
    rw [Nat.ble_eq_true_of_le this]
    rfl
theorem wrap_u64 {n : Int} (h0 : 0 ≤ n) (h1 : n ≤ 18446744073709551615) : wrapF .u64 n = n := by
  obtain ⟨m, rfl⟩ := Int.eq_ofNat_of_zero_le h0
  have : m ≤ 18446744073709551615 := by omega
  show (bif Nat.ble m 18446744073709551615 then _ else _) = _
  rw [Nat.ble_eq_true_of_le this, cond_true]
  rfl

/-- Rounds over a list. -/
def foldX {α σ X : Type} (f : σ → α → σ ⊕ X) (fin : σ → X) : List α → σ → X
  | [], s => fin s
  | a :: l, s => match f s a with | .inl s' => foldX f fin l s' | .inr x => x
theorem loop_fold {α σ P X : Type} {step : P → Dt (P ⊕ X)} (l : List α) (st : Nat → σ → P) (f : σ → α → σ ⊕ X) (fin : σ → X) (inv : Nat → σ → Prop)
    (hstep : ∀ k s (h : k < l.length), inv k s → (step (st k s)).val = some (match f s l[k] with | .inl s' => .inl (st (k + 1) s') | .inr x => .inr x) ∧ ∀ s', f s l[k] = .inl s' → inv (k + 1) s')
    (hend : ∀ s, inv l.length s → (step (st l.length s)).val = some (.inr (fin s))) (s : σ) (hi : inv 0 s) : loopV step (st 0 s) = some (foldX f fin l s) := by
  have key : ∀ (m : Nat) k s, l.length - k = m → k ≤ l.length → inv k s → loopV step (st k s) = some (foldX f fin (l.drop k) s) := by
    intro m
    induction m with
    | zero =>
      intro k s hm hk hi
      have : k = l.length := by omega
      subst this
      rw [List.drop_length]
      exact loopV_inr (hend s hi)
    | succ m ih =>
      intro k s hm hk hi
      have hlt : k < l.length := by omega
      obtain ⟨h1, h2⟩ := hstep k s hlt hi
      rw [List.drop_eq_getElem_cons hlt]
      cases hf : f s l[k] with
      | inl s' =>
        rw [hf] at h1
        rw [loopV_inl h1, ih (k + 1) s' (by omega) (by omega) (h2 s' hf)]
        simp only [foldX, hf]
      | inr x =>
        rw [hf] at h1
        rw [loopV_inr h1]
        simp only [foldX, hf]
  have := key l.length 0 s (by omega) (by omega) hi
  simpa using this

def inB (x0 y0 x1 y1 x y : Int) : Bool := decide (x0 ≤ x) && (decide (x < x1) && (decide (y0 ≤ y) && decide (y < y1)))
theorem v89_eq (x0 y0 x1 y1 x y : Int) : v89 x0 y0 x1 y1 x y = some (inB x0 y0 x1 y1 x y) := by
  simp only [v89, d89, Dt.val_br, Dt.val_ret, inB]
  cases decide (x0 ≤ x) <;> cases decide (x < x1) <;> cases decide (y0 ≤ y) <;> rfl
def onB (x y : Int) : Bool := decide (0 ≤ x) && (decide (x < 64) && (decide (0 ≤ y) && decide (y < 64)))
theorem v148_eq (x y : Int) : v148 x y = some (onB x y) := by
  simp only [v148, d148, Dt.val_br, Dt.val_ret, onB]
  cases decide (0 ≤ x) <;> cases decide (x < 64) <;> cases decide (0 ≤ y) <;> rfl
def Fi.ok (f : Fi) : Bool := (f.n == 0 || f.s == []) && decide ((f.s.length : Int) ≤ 12)
theorem v151_eq (f : Fi) : v151 f.n f.s = some f.ok := by
  simp only [v151, d151, Dt.val_br, Dt.val_ret, Fi.ok]
  cases f.n == 0 <;> cases f.s == [] <;> rfl
theorem v150_eq (f : Fi) : v150 f.n f.s = some (!f.ok) := by
  simp only [v150, d150, v151_eq, Dt.val_some, Dt.val_ret]

theorem epOk_fi (f : Fi) : epOk [(.i .i64), .s] f.enc 0 = true := rfl
theorem epOk_th (t : Th) : epOk [(.i .i64), (.i .i64), (.i .i64), (.i .i64), .s, (.i .i64), .s, (.i .i64), .s, (.i .i64), .s] t.enc 0 = true := rfl
theorem epOk_th0 (t : Th) : epOk [(.i .i64)] t.enc 0 = true := rfl
theorem epOk_ev (e : Ev) : epOk [(.i .i64), (.i .i64), (.i .i64), (.i .i64), (.i .i64), (.i .i64), .s, (.i .i64), .s, (.i .i64), .s, (.i .i64), .s, (.i .i64), (.i .u8), (.i .i64), (.i .i64), (.i .i64), .s, (.i .i64), .s, (.i .i64), .s, (.i .i64), .s] e.enc 0 = true := rfl
theorem epOk_ev1 (e : Ev) : epOk [(.i .i64)] e.enc 1 = true := rfl

/-- The first place of which something holds. -/
def firstP {α : Type} (p : α → Bool) : List α → Nat → Int
  | [], _ => -1
  | a :: l, k => bif p a then (k : Int) else firstP p l (k + 1)
theorem firstP_neg {α : Type} (p : α → Bool) : ∀ (l : List α) (k : Nat), (firstP p l k < 0 ∧ l.any p = false) ∨ (0 ≤ firstP p l k ∧ l.any p = true)
  | [], k => .inl ⟨by show (-1 : Int) < 0; decide, rfl⟩
  | a :: l, k => by
    simp only [firstP, List.any_cons]
    cases hp : p a with
    | true => exact .inr ⟨by simp, rfl⟩
    | false => rw [cond_false, Bool.false_or]; exact firstP_neg p l (k + 1)

theorem foldX_first {α : Type} (p : α → Bool) : ∀ (l : List α) (k : Nat), foldX (fun (k : Nat) a => bif p a then .inr ((0 : Nat), (k : Int)) else .inl (k + 1)) (fun _ => ((1 : Nat), (0 : Int))) l k = bif l.any p then (0, firstP p l k) else (1, 0)
  | [], k => rfl
  | a :: l, k => by
    simp only [foldX, List.any_cons, firstP]
    cases hp : p a with
    | true => rfl
    | false => simp only [cond_false, Bool.false_or]; exact foldX_first p l (k + 1)

theorem idx_ok {k n : Nat} (h : k < n) : (((decide (0 ≤ (k : Int))) && (decide ((k : Int) < (n : Int)))) && true) = true := by
  simp; omega

theorem v193_eq (n : Bool) (l : List Fi) (hl : l.length ≤ 268435456) : v193 n (l.map Fi.enc) = some (firstP (fun f => !f.ok) l 0) := by
  have hw : w193_2 n (l.map Fi.enc) ((l.map Fi.enc).length : Int) 0 = some (bif l.any (fun f => !f.ok) then (0, firstP (fun f => !f.ok) l 0) else (1, 0)) := by
    rw [← foldX_first (fun f => !f.ok) l 0]
    refine loop_fold (step := fun p : P193_2 => d193_2 n (l.map Fi.enc) ((l.map Fi.enc).length : Int) p) l (fun _ (k : Nat) => (k : Int)) _ _ (fun k s => s = k) (fun k s h hi => ?_) (fun s hi => ?_) 0 rfl
    · subst hi
      have h' : s < (l.map Fi.enc).length := by simpa using h
      refine ⟨?_, fun s' hs => ?_⟩
      · show (d193_2 n (l.map Fi.enc) ((l.map Fi.enc).length : Int) (s : Int)).val = _
        unfold d193_2
        rw [Dt.val_yes (by simpa using h), Dt.val_yes (idx_ok h'), show ((s : Int).toNat) = s from rfl, getD_map _ _ _ h, Dt.val_yes (epOk_fi _)]
        have hv : v150 (nth (l[s].enc) 0).intOf (nth (l[s].enc) 1).strOf = some (!l[s].ok) := v150_eq _
        rw [hv, Dt.val_some, Dt.val_br]
        cases l[s].ok with
        | true =>
          show some _ = some _
          rw [wrap_i64 (by omega) (by omega)]
          rfl
        | false => rfl
      · cases h0 : l[s].ok with
        | true => rw [h0] at hs; simp at hs; omega
        | false => rw [h0] at hs; simp at hs
    · subst hi
      show (d193_2 n (l.map Fi.enc) ((l.map Fi.enc).length : Int) (l.length : Int)).val = _
      unfold d193_2
      rw [Dt.val_no (by simp)]
      rfl
  unfold v193 d193
  rw [Dt.val_ob, hw, Dt.val_some]
  rcases firstP_neg (fun f : Fi => !f.ok) l 0 with ⟨h1, h2⟩ | ⟨h1, h2⟩
  · rw [h2]
    have : firstP (fun f : Fi => !f.ok) l 0 = -1 := by
      clear h1
      have key : ∀ (l : List Fi) k, l.any (fun f => !f.ok) = false → firstP (fun f : Fi => !f.ok) l k = -1 := by
        intro l
        induction l with
        | nil => intro k _; rfl
        | cons a l ih =>
          intro k h
          simp only [List.any_cons, Bool.or_eq_false_iff] at h
          simp only [firstP, h.1, cond_false]
          exact ih (k + 1) h.2
      exact key l 0 h2
    rw [this]
    rfl
  · rw [h2]
    rfl

theorem v149_eq (n : Bool) (l : List Fi) (hl : l.length ≤ 268435456) : v149 n (l.map Fi.enc) = some (l.any fun f => !f.ok) := by
  unfold v149 d149
  rw [v193_eq n l hl, Dt.val_some, Dt.val_ret]
  rcases firstP_neg (fun f : Fi => !f.ok) l 0 with ⟨h1, h2⟩ | ⟨h1, h2⟩
  · rw [h2]; simp; omega
  · rw [h2]; simp; omega

def Th.ok (t : Th) : Bool := decide (0 ≤ t.id) && (decide (t.id ≤ 1000000) && (onB t.x t.y && (t.a.ok && (t.b.ok && (t.c.ok && t.d.ok)))))
theorem v86_eq (t : Th) : v86 t.id t.x t.y t.a.n t.a.s t.b.n t.b.s t.c.n t.c.s t.d.n t.d.s = some t.ok := by
  have h := v149_eq false [t.a, t.b, t.c, t.d] (by simp)
  simp only [List.map_cons, List.map_nil, Fi.enc, List.any_cons, List.any_nil, Bool.or_false] at h
  simp only [v86, d86, Dt.val_br, v148_eq, Dt.val_some, h, Dt.val_ret, Th.ok]
  cases decide (0 ≤ t.id) <;> cases decide (t.id ≤ 1000000) <;> cases onB t.x t.y <;> cases t.a.ok <;> cases t.b.ok <;> cases t.c.ok <;> cases t.d.ok <;> rfl

theorem all_pure (l : List Th) : (l.map Th.enc).all (fun r => r.all AV.pure1 && r.length == 11) = true := by
  rw [List.all_map]
  exact List.all_eq_true.2 fun t _ => rfl
theorem all_noSl (l : List Th) : (l.map Th.enc).all (fun r => r.all noSl) = true := by
  rw [List.all_map]
  exact List.all_eq_true.2 fun t _ => rfl
theorem v88_eq {n : Bool} {l : List Th} (hn : n = true → l = []) (hl : l.length ≤ 268435456) : v88 n (l.map Th.enc) = some (n, l.map Th.enc) := by
  unfold v88 d88
  cases n with
  | true => rw [hn rfl]; rfl
  | false => rw [Dt.val_no rfl, Dt.val_yes (by simpa using hl), Dt.val_yes (all_pure l)]; rfl

/-- Those in a rectangle. -/
def seen (x0 y0 x1 y1 : Int) (l : List Th) : List Th := l.filter fun t => inB x0 y0 x1 y1 t.x t.y
theorem foldX_filter {α : Type} {X : Type} (p : α → Bool) (fin : List α → X) : ∀ (l out : List α), foldX (fun out a => .inl (bif p a then out ++ [a] else out)) fin l out = fin (out ++ l.filter p)
  | [], out => by simp [foldX]
  | a :: l, out => by
    simp only [foldX]
    rw [foldX_filter p fin l]
    cases hp : p a <;> simp [hp]
theorem v27_eq (n : Bool) (l : List Th) (x0 y0 x1 y1 : Int) (hl : l.length ≤ 268435455) : v27 n (l.map Th.enc) x0 y0 x1 y1 = some ((seen x0 y0 x1 y1 l).isEmpty, (seen x0 y0 x1 y1 l).map Th.enc) := by
  have hw : w27_3 true [] n (l.map Th.enc) ((l.map Th.enc).length : Int) 0 x0 y0 x1 y1 = some ((seen x0 y0 x1 y1 l).isEmpty, (seen x0 y0 x1 y1 l).map Th.enc) := by
    have h0 := foldX_filter (fun t : Th => inB x0 y0 x1 y1 t.x t.y) (fun out => ((out.isEmpty, out.map Th.enc) : Bool × List (List AV))) l []
    rw [List.nil_append] at h0
    unfold seen
    rw [← h0]
    refine loop_fold (step := fun p : P27_3 => d27_3 n (l.map Th.enc) ((l.map Th.enc).length : Int) x0 y0 x1 y1 p.1 p.2.1 p.2.2) l (fun k (out : List Th) => (out.isEmpty, out.map Th.enc, (k : Int))) _ _ (fun k out => out.length ≤ k) (fun k out h hi => ?_) (fun out hi => ?_) [] (Nat.le_refl _)
    · have h' : k < (l.map Th.enc).length := by simpa using h
      refine ⟨?_, fun s' hs => ?_⟩
      · show (d27_3 n (l.map Th.enc) ((l.map Th.enc).length : Int) x0 y0 x1 y1 out.isEmpty (out.map Th.enc) (k : Int)).val = _
        unfold d27_3
        rw [Dt.val_yes (by simpa using h), Dt.val_yes (idx_ok h'), show ((k : Int).toNat) = k from rfl, getD_map _ _ _ h, Dt.val_yes (epOk_th _)]
        have hv : v89 x0 y0 x1 y1 (nth (l[k].enc) 1).intOf (nth (l[k].enc) 2).intOf = some (inB x0 y0 x1 y1 l[k].x l[k].y) := v89_eq ..
        rw [hv, Dt.val_some]
        have hwr : wrapF .i64 ((k : Int) + 1) = ((k + 1 : Nat) : Int) := by rw [wrap_i64 (by omega) (by omega)]; rfl
        cases hb : inB x0 y0 x1 y1 l[k].x l[k].y with
        | true =>
          rw [Dt.val_yes rfl, Dt.val_yes (by simp; omega)]
          cases out with
          | nil => rw [Dt.val_yes (show ([] : List Th).isEmpty = true from rfl), hwr]; rfl
          | cons a out => rw [Dt.val_no (show (a :: out).isEmpty = false from rfl), hwr, cond_true]; show some (Sum.inl (false, _, _)) = some (Sum.inl ((a :: out ++ [l[k]]).isEmpty, (a :: out ++ [l[k]]).map Th.enc, _)); rw [List.map_append]; rfl
        | false => rw [Dt.val_no rfl, hwr]; rfl
      · simp only [Sum.inl.injEq] at hs
        subst hs
        cases inB x0 y0 x1 y1 l[k].x l[k].y <;> simp <;> omega
    · show (d27_3 n (l.map Th.enc) ((l.map Th.enc).length : Int) x0 y0 x1 y1 out.isEmpty (out.map Th.enc) (l.length : Int)).val = _
      unfold d27_3
      rw [Dt.val_no (by simp)]
      rfl
  unfold v27 d27
  rw [Dt.val_ob, hw]
  rfl
end Go.Ab
