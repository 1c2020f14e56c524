/- What an evaluation comes to, by branches, over what calls and loops come to. -/
import Derived.Test.YtmekbgeknkknfaaF1
namespace Go.Ab
noncomputable section

/-- Branches; 'ob': what must hold besides. -/
inductive Dt (α : Type) where
  | ret (a : α)
  | fail
  | br (b : Bool) (t e : Dt α)
  | ob (p : Prop) (t : Dt α)

section
variable {α : Type}
def Dt.wp (t : Dt α) (Q : α → Prop) : Prop :=
  Dt.rec (motive := fun _ => Prop) (fun a => Q a) False (fun b _ _ t e => cond b t e) (fun p _ t => p ∧ t) t
def Dt.val (t : Dt α) : Option α :=
  Dt.rec (motive := fun _ => Option α) (fun a => some a) none (fun b _ _ t e => cond b t e) (fun _ _ t => t) t
def Dt.obs (t : Dt α) : Prop :=
  Dt.rec (motive := fun _ => Prop) (fun _ => True) True (fun _ _ _ t e => t ∧ e) (fun p _ t => p ∧ t) t
/-- Something that is there. -/
def Dt.opt {β : Type} [Inhabited β] (o : Option β) (k : β → Dt α) : Dt α := .br o.isSome (k (o.getD default)) .fail

@[simp] theorem Dt.val_ret (a : α) : (Dt.ret a).val = some a := rfl
@[simp] theorem Dt.val_fail : (Dt.fail : Dt α).val = none := rfl
@[simp] theorem Dt.val_br (b : Bool) (t e : Dt α) : (Dt.br b t e).val = bif b then t.val else e.val := rfl
@[simp] theorem Dt.val_ob (p : Prop) (t : Dt α) : (Dt.ob p t).val = t.val := rfl

theorem Dt.wp_val {Q : α → Prop} : ∀ {t : Dt α}, t.wp Q → ∃ a, t.val = some a ∧ Q a := by
  intro t
  induction t with
  | ret a => exact fun h => ⟨a, rfl, h⟩
  | fail => exact fun h => h.elim
  | br b t e iht ihe =>
    intro h
    cases b with
    | true => exact iht h
    | false => exact ihe h
  | ob p t ih => exact fun h => ih h.2
theorem Dt.wp_of {Q : α → Prop} {a : α} (hq : Q a) : ∀ {t : Dt α}, t.obs → t.val = some a → t.wp Q := by
  intro t
  induction t with
  | ret b => intro _ h; cases h; exact hq
  | fail => intro _ h; cases h
  | br b t e iht ihe =>
    intro ho h
    cases b with
    | true => exact iht ho.1 h
    | false => exact ihe ho.2 h
  | ob p t ih => exact fun ho h => ⟨ho.1, ih ho.2 h⟩
end

abbrev CT := Nat → List AV → List GB → Dt (AV × List GB)
abbrev LT := Nat → St → Dt (Ex × St)

/-- What is said of calls is right. -/
def CRight (T : Tab) (C : CT) : Prop := ∀ f xs H r, (C f xs H).val = some r → Runs T f xs H r
/-- What is said of a loop is right. -/
def LoopOk (T : Tab) (fid rid : Nat) (c : Code) (st : St) (D : Dt (Ex × St)) : Prop := ∀ r, D.val = some r → Loops T fid rid c st r

/-- What is needed so that a tree comes to something with Q. -/
def wpR (T : Tab) (C : CT) (lt : LT) (un : Nat → Bool) (U : Nat → Nat → Code → St → (Ex × St → Prop) → Prop) {α : Type} (t : R α) : (α → Prop) → Prop :=
  R.rec (motive := fun _ => (α → Prop) → Prop) (fun a Q => Q a) (fun _ => False) (fun b _ _ t e Q => cond b (t Q) (e Q))
    (fun _ f xs H _ k Q => (C f xs H).wp (fun x => k x Q))
    (fun fid rid c st _ k Q => cond (un rid) (U fid rid c st (fun x => k x Q)) (LoopOk T fid rid c st (lt rid st) ∧ (lt rid st).wp (fun x => k x Q))) t
/-- Loops, round by round. -/
def unr (T : Tab) (C : CT) (lt : LT) (un : Nat → Bool) (n : Nat) : Nat → Nat → Code → St → (Ex × St → Prop) → Prop :=
  Nat.rec (fun _ _ _ _ _ => False) (fun _ ih fid rid c st Q => wpR T C lt un ih (evCode T fid c st) (fun x => match x with
    | (.normal, st') => ih fid rid c (norm (T.lv fid rid).1 st') Q
    | (e, st') => Q (e, norm (T.lv fid rid).2 st'))) n
def wpN (T : Tab) (C : CT) (lt : LT) (un : Nat → Bool) (n : Nat) {α : Type} (t : R α) (Q : α → Prop) : Prop := wpR T C lt un (unr T C lt un n) t Q
/-- One round. -/
def roundR (T : Tab) (fid rid : Nat) (c : Code) (st : St) : R (Ex × St) :=
  (evCode T fid c st).bind fun x => .ret (match x with | (.normal, st') => (.normal, norm (T.lv fid rid).1 st') | (e, st') => (e, norm (T.lv fid rid).2 st'))

section
variable {T : Tab} {C : CT} {lt : LT} {un : Nat → Bool} (hC : CRight T C)
include hC

theorem wpR_sound {U : Nat → Nat → Code → St → (Ex × St → Prop) → Prop} (hU : ∀ fid rid c st Q, U fid rid c st Q → ∃ r, Loops T fid rid c st r ∧ Q r) {α : Type} {Q : α → Prop} :
    ∀ t : R α, wpR T C lt un U t Q → ∃ a, Big T t a ∧ Q a := by
  intro t
  induction t with
  | ret a => exact fun h => ⟨a, Big.ret, h⟩
  | fail => exact fun h => h.elim
  | br b t e iht ihe =>
    intro h
    cases b with
    | true =>
      obtain ⟨a, h1, h2⟩ := iht h
      exact ⟨a, Big.yes rfl h1, h2⟩
    | false =>
      obtain ⟨a, h1, h2⟩ := ihe h
      exact ⟨a, Big.no rfl h1, h2⟩
  | call m f xs H k ih =>
    intro h
    obtain ⟨x, h1, h2⟩ := Dt.wp_val (show (C f xs H).wp (fun x => wpR T C lt un U (k x) Q) from h)
    obtain ⟨a, h3, h4⟩ := ih x h2
    exact ⟨a, Big.call (hC f xs H x h1) h3, h4⟩
  | loop fid rid c st k ih =>
    intro h
    have h' : cond (un rid) (U fid rid c st (fun x => wpR T C lt un U (k x) Q)) (LoopOk T fid rid c st (lt rid st) ∧ (lt rid st).wp (fun x => wpR T C lt un U (k x) Q)) := h
    cases hu : un rid with
    | true =>
      rw [hu] at h'
      obtain ⟨x, h1, h2⟩ := hU fid rid c st _ h'
      obtain ⟨a, h3, h4⟩ := ih x h2
      exact ⟨a, Big.loop h1 h3, h4⟩
    | false =>
      rw [hu] at h'
      obtain ⟨h0, h1⟩ := h'
      obtain ⟨x, h1, h2⟩ := Dt.wp_val h1
      obtain ⟨a, h3, h4⟩ := ih x h2
      exact ⟨a, Big.loop (h0 x h1) h3, h4⟩

theorem unr_sound (n : Nat) : ∀ fid rid c st Q, unr T C lt un n fid rid c st Q → ∃ r, Loops T fid rid c st r ∧ Q r := by
  induction n with
  | zero => exact fun _ _ _ _ _ h => h.elim
  | succ n ih =>
    intro fid rid c st Q h
    obtain ⟨x, h1, h2⟩ := wpR_sound hC ih _ h
    obtain ⟨e, st1⟩ := x
    cases e with
    | normal =>
      obtain ⟨r, h3, h4⟩ := ih _ _ _ _ _ h2
      exact ⟨r, Loops.round h1 h3, h4⟩
    | exit i => exact ⟨_, Loops.leave h1 (by intro h; cases h), h2⟩
    | ret => exact ⟨_, Loops.leave h1 (by intro h; cases h), h2⟩

theorem wpN_sound {n : Nat} {α : Type} {t : R α} {Q : α → Prop} (h : wpN T C lt un n t Q) : ∃ a, Big T t a ∧ Q a := wpR_sound hC (unr_sound hC n) t h

theorem wpN_fun {n f : Nat} {xs : List AV} {H : List GB} {Q : AV × List GB → Prop} (h : wpN T C lt un n (evFunc T f xs H) Q) : ∃ r, Runs T f xs H r ∧ Q r := by
  obtain ⟨a, h1, h2⟩ := wpN_sound hC h
  exact ⟨a, Runs.of h1, h2⟩

/-- A function, from the branches that its evaluation is. -/
theorem fun_runs {n f : Nat} {xs : List AV} {H : List GB} {X : Type} {D : Dt X} {sh : X → AV × List GB} (h : ∀ Q : AV × List GB → Prop, wpN T C lt un n (evFunc T f xs H) Q = D.wp (fun x => Q (sh x))) (ho : D.obs) {x : X} (hx : D.val = some x) :
    Runs T f xs H (sh x) := by
  obtain ⟨r, h1, h2⟩ := wpN_fun (Q := fun r => r = sh x) hC (by rw [h]; exact Dt.wp_of (Q := fun y => sh y = sh x) rfl ho hx)
  rw [← h2]
  exact h1
end

/-- Rounds. -/
def itV {P X : Type} (step : P → Dt (P ⊕ X)) (n : Nat) : P → Option X :=
  Nat.rec (fun _ => none) (fun _ ih p => match (step p).val with | some (.inl p') => ih p' | some (.inr x) => some x | none => none) n
theorem itV_succ {P X : Type} (step : P → Dt (P ⊕ X)) (n : Nat) (p : P) : itV step (n + 1) p = match (step p).val with | some (.inl p') => itV step n p' | some (.inr x) => some x | none => none := rfl
theorem itV_step {P X : Type} {step : P → Dt (P ⊕ X)} {n : Nat} : ∀ {p : P} {x : X}, itV step n p = some x → itV step (n + 1) p = some x := by
  induction n with
  | zero => intro p x h; cases h
  | succ n ih =>
    intro p x h
    rw [itV_succ] at h ⊢
    cases hs : (step p).val with
    | none => rw [hs] at h; cases h
    | some o =>
      rw [hs] at h
      cases o with
      | inl p' => exact ih h
      | inr y => exact h
theorem itV_mono {P X : Type} {step : P → Dt (P ⊕ X)} {n m : Nat} (h : n ≤ m) {p : P} {x : X} (hx : itV step n p = some x) : itV step m p = some x := by
  induction h with
  | refl => exact hx
  | step _ ih => exact itV_step ih

open Classical in
/-- What rounds come to, however many. -/
def loopV {P X : Type} (step : P → Dt (P ⊕ X)) (p : P) : Option X :=
  if h : ∃ n x, itV step n p = some x then some h.choose_spec.choose else none
theorem loopV_of {P X : Type} {step : P → Dt (P ⊕ X)} {n : Nat} {p : P} {x : X} (h : itV step n p = some x) : loopV step p = some x := by
  have hh : ∃ n x, itV step n p = some x := ⟨n, x, h⟩
  unfold loopV
  rw [dif_pos hh]
  have h1 := hh.choose_spec.choose_spec
  have h2 := itV_mono (Nat.le_max_left n hh.choose) h
  have h3 := itV_mono (Nat.le_max_right n hh.choose) h1
  rw [h2] at h3
  exact h3.symm
theorem loopV_some {P X : Type} {step : P → Dt (P ⊕ X)} {p : P} {x : X} (h : loopV step p = some x) : ∃ n, itV step n p = some x := by
  unfold loopV at h
  split at h
  · rename_i hh
    simp only [Option.some.injEq] at h
    exact ⟨hh.choose, by rw [← h]; exact hh.choose_spec.choose_spec⟩
  · cases h
theorem loopV_inl {P X : Type} {step : P → Dt (P ⊕ X)} {p p' : P} (h : (step p).val = some (.inl p')) : loopV step p = loopV step p' := by
  have key : ∀ x, loopV step p' = some x → loopV step p = some x := fun x hx => by
    obtain ⟨n, hn⟩ := loopV_some hx
    exact loopV_of (n := n + 1) (by rw [itV_succ, h]; exact hn)
  cases h2 : loopV step p' with
  | some x => exact key x h2
  | none =>
    cases h1 : loopV step p with
    | none => rfl
    | some x =>
      obtain ⟨n, hn⟩ := loopV_some h1
      cases n with
      | zero => cases hn
      | succ n =>
        rw [itV_succ, h] at hn
        rw [loopV_of hn] at h2
        cases h2
theorem loopV_inr {P X : Type} {step : P → Dt (P ⊕ X)} {p : P} {x : X} (h : (step p).val = some (.inr x)) : loopV step p = some x :=
  loopV_of (n := 1) (by rw [itV_succ, h])

section
variable {T : Tab} {C : CT} {lt : LT} {un : Nat → Bool} (hC : CRight T C)
include hC
/-- A loop, from the branches that its round is. -/
theorem loop_runs {n fid rid : Nat} {c : Code} {P X : Type} {step : P → Dt (P ⊕ X)} {head : P → St} {ex : X → Ex × St}
    (h : ∀ (p : P) (Q : Ex × St → Prop), wpN T C lt un n (roundR T fid rid c (head p)) Q = (step p).wp (fun o => Sum.rec (fun p' => Q (.normal, head p')) (fun x => Q (ex x)) o))
    (ho : ∀ p, (step p).obs) (hx : ∀ x, (ex x).1 ≠ .normal) {p : P} {x : X} (hl : loopV step p = some x) : Loops T fid rid c (head p) (ex x) := by
  obtain ⟨m, hm⟩ := loopV_some hl
  clear hl
  induction m generalizing p with
  | zero => cases hm
  | succ m ih =>
    rw [itV_succ] at hm
    cases hs : (step p).val with
    | none => rw [hs] at hm; cases hm
    | some o =>
      rw [hs] at hm
      have hw := Dt.wp_of (Q := fun o' => o' = o) rfl (ho p) hs
      have hw2 : (step p).wp (fun o' => Sum.rec (fun p' => ((Ex.normal, head p') : Ex × St) = Sum.rec (fun p' => (Ex.normal, head p')) (fun x => ex x) o) (fun x => ex x = Sum.rec (fun p' => (Ex.normal, head p')) (fun x => ex x) o) o') :=
        Dt.wp_of (by cases o <;> rfl) (ho p) hs
      rw [← h p (fun r => r = Sum.rec (fun p' => (Ex.normal, head p')) (fun x => ex x) o)] at hw2
      obtain ⟨r, h1, h2⟩ := wpN_sound hC hw2
      obtain ⟨n1, h1⟩ := h1
      obtain ⟨y, h3, h4⟩ := den_bind_some _ _ h1
      simp only [den_ret, Option.some.injEq] at h4
      obtain ⟨e, st1⟩ := y
      cases o with
      | inl p' =>
        have h5 : (match (e, st1) with | (.normal, st') => (Ex.normal, norm (T.lv fid rid).1 st') | (e, st') => (e, norm (T.lv fid rid).2 st')) = (Ex.normal, head p') := h4.trans h2
        cases e with
        | normal =>
          simp only [Prod.mk.injEq, true_and] at h5
          exact Loops.round ⟨n1, h3⟩ (by rw [h5]; exact ih hm)
        | exit i => simp at h5
        | ret => simp at h5
      | inr x' =>
        have hxx : x' = x := by simpa using hm
        subst hxx
        have h5 : (match (e, st1) with | (.normal, st') => (Ex.normal, norm (T.lv fid rid).1 st') | (e, st') => (e, norm (T.lv fid rid).2 st')) = ex x' := h4.trans h2
        cases e with
        | normal =>
          exact absurd (congrArg Prod.fst h5).symm (hx x')
        | exit i => rw [← h5]; exact Loops.leave ⟨n1, h3⟩ (by intro h; cases h)
        | ret => rw [← h5]; exact Loops.leave ⟨n1, h3⟩ (by intro h; cases h)

theorem loop_ok {n fid rid : Nat} {c : Code} {P X : Type} [Inhabited X] {step : P → Dt (P ⊕ X)} {head : P → St} {ex : X → Ex × St}
    (h : ∀ (p : P) (Q : Ex × St → Prop), wpN T C lt un n (roundR T fid rid c (head p)) Q = (step p).wp (fun o => Sum.rec (fun p' => Q (.normal, head p')) (fun x => Q (ex x)) o))
    (ho : ∀ p, (step p).obs) (hx : ∀ x, (ex x).1 ≠ .normal) (p : P) : LoopOk T fid rid c (head p) (Dt.opt (loopV step p) fun x => .ret (ex x)) := by
  intro r hr
  cases hl : loopV step p with
  | none => rw [hl] at hr; cases hr
  | some x =>
    rw [hl] at hr
    have hr' : some (ex x) = some r := hr
    cases hr'
    exact loop_runs hC h ho hx hl
end

/-- A state that holds these alone. -/
def lookA (l : List (Nat × AV)) (i : Nat) : AV := List.rec (motive := fun _ => AV) .junk (fun p _ ih => bif Nat.beq p.1 i then p.2 else ih) l
def lookL (l : List (Nat × List AV)) (i : Nat) : List AV := List.rec (motive := fun _ => List AV) [] (fun p _ ih => bif Nat.beq p.1 i then p.2 else ih) l
def upto (n : Nat) : List Nat := List.range n
def stAt (n : Nat) (ro : Bool) (tms : List (Nat × AV)) (bls : List (Nat × List AV)) (H : List GB) : St :=
  { tm := (List.range n).map (lookA tms), L := (List.range n).map (lookL bls), H, cons := [], conG := false, conL := false, ro }

/-- Shapes of arguments. -/
inductive Shp where
  | c (k : CK)
  | agg (ks : List CK)
  | ex (v : AV)
  deriving Inhabited
def cellOk (k : CK) (v : AV) : Bool :=
  match k with
  | .b => v.isBool
  | .i k => v.isInt k
  | .s => v.isStr
  | .l sz => (match v with | .sl z _ _ .no => Nat.beq z sz | _ => false)
  | .p => (match v with | .np => true | _ => false)
  | .m => (match v with | .nm => true | _ => false)
  | .f => (match v with | .nf => true | _ => false)
  | .n => (match v with | .ni => true | _ => false)
  | .x => false
def cellCan (k : CK) (v : AV) : AV :=
  match k with
  | .b => .bool v.boolOf
  | .i k => .int k v.intOf
  | .s => .str v.strOf
  | .l sz => .sl sz v.slNil v.slRows .no
  | .p => .np
  | .m => .nm
  | .f => .nf
  | .n => .ni
  | .x => .junk
theorem cellCan_eq {k : CK} {v : AV} (h : cellOk k v = true) : cellCan k v = v := by
  cases k with
  | l sz =>
    cases v with
    | sl z n rows o => cases o <;> simp_all [cellOk, cellCan, AV.slNil, AV.slRows]
    | _ => simp_all [cellOk]
  | _ => cases v <;> simp_all [cellOk, cellCan, AV.isBool, AV.isInt, AV.isStr, AV.boolOf, AV.intOf, AV.strOf]
def cellsOk (ks : List CK) : List AV → Bool :=
  List.rec (motive := fun _ => List AV → Bool) (fun vs => vs.isEmpty) (fun k _ ih vs => List.casesOn vs false fun v vs => cellOk k v && ih vs) ks
def cellsCan (ks : List CK) : Nat → List AV → List AV :=
  List.rec (motive := fun _ => Nat → List AV → List AV) (fun _ _ => []) (fun k _ ih i vs => cellCan k (nth vs i) :: ih (i + 1) vs) ks
theorem cellsCan_cons (ks : List CK) (i : Nat) (v : AV) (vs : List AV) : cellsCan ks (i + 1) (v :: vs) = cellsCan ks i vs := by
  induction ks generalizing i with
  | nil => rfl
  | cons k ks ih => exact congrArg (cellCan k (nth vs i) :: ·) (ih (i + 1))
theorem cellsCan_eq : ∀ {ks : List CK} {vs : List AV}, cellsOk ks vs = true → cellsCan ks 0 vs = vs
  | [], [], _ => rfl
  | [], _ :: _, h => by cases h
  | _ :: _, [], h => by cases h
  | k :: ks, v :: vs, h => by
    have h' : (cellOk k v && cellsOk ks vs) = true := h
    simp only [Bool.and_eq_true] at h'
    show cellCan k v :: cellsCan ks 1 (v :: vs) = v :: vs
    rw [cellsCan_cons, cellCan_eq h'.1, cellsCan_eq h'.2]
def Shp.can (s : Shp) (v : AV) : AV :=
  match s with
  | .c k => cellCan k v
  | .agg ks => .agg (cellsCan ks 0 v.cells)
  | .ex v => v
end
end Go.Ab
