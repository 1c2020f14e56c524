/- What a tree, a call, a loop comes to, however deep. -/
import Derived.Test.YtmekbgeknkknfaaD1
namespace Go.Ab

section
variable {T : Tab}

theorem den_mono {α : Type} {C C' : Nat → List AV → List GB → Option (AV × List GB)} {Lp Lp' : Nat → Nat → Code → St → Option (Ex × St)} (hC : ∀ f xs H r, C f xs H = some r → C' f xs H = some r)
    (hL : ∀ fid rid c st r, Lp fid rid c st = some r → Lp' fid rid c st = some r) {r : α} : ∀ t : R α, den C Lp t = some r → den C' Lp' t = some r := by
  intro t
  induction t with
  | ret a => exact id
  | fail => intro h; cases h
  | br b t e iht ihe =>
    intro h
    rw [den_br] at h ⊢
    cases b with
    | true => exact iht h
    | false => exact ihe h
  | call m f xs H k ih =>
    intro h
    rw [den_call] at h ⊢
    cases hc : C f xs H with
    | none => rw [hc] at h; cases h
    | some x =>
      rw [hc] at h
      rw [hC f xs H x hc]
      exact ih x h
  | loop fid rid c st k ih =>
    intro h
    rw [den_loop] at h ⊢
    cases hc : Lp fid rid c st with
    | none => rw [hc] at h; cases h
    | some x =>
      rw [hc] at h
      rw [hL fid rid c st x hc]
      exact ih x h

theorem sem_loop1 (n fid rid : Nat) (c : Code) (st : St) : (sem T (n + 1)).2 fid rid c st = Option.rec none (fun x => match x with
      | (.normal, st') => (sem T n).2 fid rid c (norm (T.lv fid rid).1 st')
      | (e, st') => some (e, norm (T.lv fid rid).2 st')) (den (sem T n).1 (sem T n).2 (evCode T fid c st)) := rfl

theorem sem_step (n : Nat) : (∀ f xs H r, (sem T n).1 f xs H = some r → (sem T (n + 1)).1 f xs H = some r) ∧ (∀ fid rid c st r, (sem T n).2 fid rid c st = some r → (sem T (n + 1)).2 fid rid c st = some r) := by
  induction n with
  | zero => exact ⟨fun _ _ _ _ h => (by cases h), fun _ _ _ _ _ h => (by cases h)⟩
  | succ n ih =>
    refine ⟨fun f xs H r h => ?_, fun fid rid c st r h => ?_⟩
    · rw [sem_fun] at h ⊢
      exact den_mono ih.1 ih.2 _ h
    · rw [sem_loop1] at h ⊢
      cases hd : den (sem T n).1 (sem T n).2 (evCode T fid c st) with
      | none => rw [hd] at h; cases h
      | some x =>
        rw [hd] at h
        rw [den_mono ih.1 ih.2 _ hd]
        obtain ⟨e, st'⟩ := x
        cases e with
        | normal => exact ih.2 _ _ _ _ _ h
        | exit i => exact h
        | ret => exact h

theorem sem_mono {n m : Nat} (h : n ≤ m) : (∀ f xs H r, (sem T n).1 f xs H = some r → (sem T m).1 f xs H = some r) ∧ (∀ fid rid c st r, (sem T n).2 fid rid c st = some r → (sem T m).2 fid rid c st = some r) := by
  induction h with
  | refl => exact ⟨fun _ _ _ _ h => h, fun _ _ _ _ _ h => h⟩
  | step _ ih =>
    have s := sem_step (T := T)
    exact ⟨fun f xs H r h => (s _).1 _ _ _ _ (ih.1 _ _ _ _ h), fun fid rid c st r h => (s _).2 _ _ _ _ _ (ih.2 _ _ _ _ _ h)⟩

/-- A tree comes to this. -/
def Big {α : Type} (T : Tab) (t : R α) (r : α) : Prop := ∃ n, den (sem T n).1 (sem T n).2 t = some r
/-- A call comes to this. -/
def Runs (T : Tab) (f : Nat) (xs : List AV) (H : List GB) (r : AV × List GB) : Prop := ∃ n, callN T n f xs H = some r
/-- A loop comes to this. -/
def Loops (T : Tab) (fid rid : Nat) (c : Code) (st : St) (r : Ex × St) : Prop := ∃ n, loopN T n fid rid c st = some r

theorem Big.ret {α : Type} {a : α} : Big T (.ret a) a := ⟨0, rfl⟩
theorem Big.br {α : Type} {b : Bool} {t e : R α} {r : α} (h : Big T (bif b then t else e) r) : Big T (.br b t e) r := by
  obtain ⟨n, h⟩ := h
  refine ⟨n, ?_⟩
  rw [den_br]
  cases b <;> exact h
theorem Big.yes {α : Type} {b : Bool} {t e : R α} {r : α} (hb : b = true) (h : Big T t r) : Big T (.br b t e) r := by
  subst hb; exact Big.br h
theorem Big.no {α : Type} {b : Bool} {t e : R α} {r : α} (hb : b = false) (h : Big T e r) : Big T (.br b t e) r := by
  subst hb; exact Big.br h
theorem Big.chk {α : Type} {b : Bool} {t : R α} {r : α} (hb : b = true) (h : Big T t r) : Big T (Go.Ab.chk b t) r := Big.yes hb h
theorem Big.eq {α : Type} {t t' : R α} {r : α} (he : t = t') (h : Big T t' r) : Big T t r := by subst he; exact h

theorem Big.bind {α β : Type} {t : R α} {f : α → R β} {x : α} {r : β} (h : Big T t x) (h2 : Big T (f x) r) : Big T (t.bind f) r := by
  obtain ⟨n, h⟩ := h
  obtain ⟨m, h2⟩ := h2
  have s1 := sem_mono (T := T) (Nat.le_max_left n m)
  have s2 := sem_mono (T := T) (Nat.le_max_right n m)
  refine ⟨max n m, ?_⟩
  rw [den_bind, den_mono s1.1 s1.2 _ h]
  exact den_mono s2.1 s2.2 _ h2

theorem Big.call {α : Type} {m f : Nat} {xs : List AV} {H : List GB} {k : AV × List GB → R α} {x : AV × List GB} {r : α} (h : Runs T f xs H x) (h2 : Big T (k x) r) : Big T (.call m f xs H k) r := by
  obtain ⟨n, h⟩ := h
  obtain ⟨p, h2⟩ := h2
  have s1 := sem_mono (T := T) (Nat.le_max_left n p)
  have s2 := sem_mono (T := T) (Nat.le_max_right n p)
  refine ⟨max n p, ?_⟩
  rw [den_call, s1.1 _ _ _ _ h]
  exact den_mono s2.1 s2.2 _ h2

theorem Big.loop {α : Type} {fid rid : Nat} {c : Code} {st : St} {k : Ex × St → R α} {x : Ex × St} {r : α} (h : Loops T fid rid c st x) (h2 : Big T (k x) r) : Big T (.loop fid rid c st k) r := by
  obtain ⟨n, h⟩ := h
  obtain ⟨p, h2⟩ := h2
  have s1 := sem_mono (T := T) (Nat.le_max_left n p)
  have s2 := sem_mono (T := T) (Nat.le_max_right n p)
  refine ⟨max n p, ?_⟩
  rw [den_loop, s1.2 _ _ _ _ _ h]
  exact den_mono s2.1 s2.2 _ h2

theorem Loops.round {fid rid : Nat} {c : Code} {st st1 : St} {r : Ex × St} (h : Big T (evCode T fid c st) (.normal, st1)) (h2 : Loops T fid rid c (norm (T.lv fid rid).1 st1) r) : Loops T fid rid c st r := by
  obtain ⟨n, h⟩ := h
  obtain ⟨p, h2⟩ := h2
  have s1 := sem_mono (T := T) (Nat.le_max_left n p)
  have s2 := sem_mono (T := T) (Nat.le_max_right n p)
  refine ⟨max n p + 1, ?_⟩
  show (sem T (max n p + 1)).2 fid rid c st = some r
  rw [sem_loop1, den_mono s1.1 s1.2 _ h]
  exact s2.2 _ _ _ _ _ h2

theorem Loops.leave {fid rid : Nat} {c : Code} {st st1 : St} {e : Ex} (h : Big T (evCode T fid c st) (e, st1)) (he : e ≠ .normal) : Loops T fid rid c st (e, norm (T.lv fid rid).2 st1) := by
  obtain ⟨n, h⟩ := h
  refine ⟨n + 1, ?_⟩
  show (sem T (n + 1)).2 fid rid c st = _
  rw [sem_loop1, h]
  cases e with
  | normal => exact absurd rfl he
  | exit i => rfl
  | ret => rfl

theorem Runs.of {f : Nat} {xs : List AV} {H : List GB} {r : AV × List GB} (h : Big T (evFunc T f xs H) r) : Runs T f xs H r := by
  obtain ⟨n, h⟩ := h
  exact ⟨n + 1, by show (sem T (n + 1)).1 f xs H = some r; rw [sem_fun]; exact h⟩

/-- What a function's code comes to, and what it hands back. -/
theorem Runs.code {f : Nat} {fn : Func} {c : Code} {xs : List AV} {H : List GB} {x : Ex × St} {r : AV × List GB} (hfn : T.fn f = some fn) (hb : fn.body = some c) (hro : Nat.ble 1000000 f = false) (hl : xs.length ≤ fn.ntmps)
    (h : Big T (evCode T f c (st0 fn xs H)) x) (h2 : Big T (finR T fn x) r) : Runs T f xs H r := by
  obtain ⟨n, h⟩ := h
  obtain ⟨p, h2⟩ := h2
  have s1 := sem_mono (T := T) (Nat.le_max_left n p)
  have s2 := sem_mono (T := T) (Nat.le_max_right n p)
  refine ⟨max n p + 1, ?_⟩
  rw [callN_eq hfn hb hro hl, den_mono s1.1 s1.2 _ h]
  exact den_mono s2.1 s2.2 _ h2

theorem Big.seq {fid : Nat} {x y : Code} {st st1 : St} {r : Ex × St} (h : Big T (evCode T fid x st) (.normal, st1)) (h2 : Big T (evCode T fid y st1) r) : Big T (evCode T fid (.seq x y) st) r := by
  rw [evCode_seq]
  exact Big.bind h h2
theorem Big.seqX {fid : Nat} {x y : Code} {st st1 : St} {e : Ex} (h : Big T (evCode T fid x st) (e, st1)) (he : e ≠ .normal) : Big T (evCode T fid (.seq x y) st) (e, st1) := by
  rw [evCode_seq]
  refine Big.bind h ?_
  cases e with
  | normal => exact absurd rfl he
  | exit i => exact Big.ret
  | ret => exact Big.ret
theorem Big.region {fid id : Nat} {ops : Array Oper} {dr : Bool} {st st1 : St} (h : Big T (evOps T fid dr (T.ck fid id) ops (List.range ops.size) st) st1) : Big T (evCode T fid (.region id ops dr) st) (.normal, st1) := by
  rw [evCode_region]
  exact Big.bind h Big.ret
theorem Big.condT {fid : Nat} {c : Operand} {x y : Code} {st : St} {b : Bool} {r : Ex × St} (hc : rho st c = .bool b) (hb : b = true) (h : Big T (evCode T fid x (litBool st c true)) r) : Big T (evCode T fid (.cond c x y) st) r := by
  rw [evCode_cond, hc]
  exact Big.yes hb h
theorem Big.condF {fid : Nat} {c : Operand} {x y : Code} {st : St} {b : Bool} {r : Ex × St} (hc : rho st c = .bool b) (hb : b = false) (h : Big T (evCode T fid y (litBool st c false)) r) : Big T (evCode T fid (.cond c x y) st) r := by
  rw [evCode_cond, hc]
  exact Big.no hb h
theorem Big.block {fid id : Nat} {c : Code} {st st1 : St} {e : Ex} (h : Big T (evCode T fid c st) (e, st1)) : Big T (evCode T fid (.block id c) st) ((match e with | .exit i => if i == id then .normal else .exit i | e => e), st1) := by
  rw [evCode_block]
  refine Big.bind h ?_
  cases e <;> exact Big.ret
theorem Big.loopC {fid : Nat} {c : Code} {st : St} {x : Ex × St} (h : Loops T fid (firstRegion c) c (norm (T.lv fid (firstRegion c)).1 st) x) : Big T (evCode T fid (.loop c) st) x := by
  rw [evCode_loop]
  exact Big.loop h Big.ret

/-- From an evaluation over any tables of calls and loops that are right. -/
theorem Big.of_den {α : Type} {C : Nat → List AV → List GB → Option (AV × List GB)} {Lp : Nat → Nat → Code → St → Option (Ex × St)} (hC : ∀ f xs H r, C f xs H = some r → Runs T f xs H r)
    (hL : ∀ fid rid c st r, Lp fid rid c st = some r → Loops T fid rid c st r) {r : α} : ∀ t : R α, den C Lp t = some r → Big T t r := by
  intro t
  induction t with
  | ret a => intro h; cases h; exact Big.ret
  | fail => intro h; cases h
  | br b t e iht ihe =>
    intro h
    rw [den_br] at h
    cases b with
    | true => exact Big.yes rfl (iht h)
    | false => exact Big.no rfl (ihe h)
  | call m f xs H k ih =>
    intro h
    rw [den_call] at h
    cases hc : C f xs H with
    | none => rw [hc] at h; cases h
    | some x =>
      rw [hc] at h
      exact Big.call (hC f xs H x hc) (ih x h)
  | loop fid rid c st k ih =>
    intro h
    rw [den_loop] at h
    cases hc : Lp fid rid c st with
    | none => rw [hc] at h; cases h
    | some x =>
      rw [hc] at h
      exact Big.loop (hL fid rid c st x hc) (ih x h)

theorem Runs.of_den {C : Nat → List AV → List GB → Option (AV × List GB)} {Lp : Nat → Nat → Code → St → Option (Ex × St)} (hC : ∀ f xs H r, C f xs H = some r → Runs T f xs H r)
    (hL : ∀ fid rid c st r, Lp fid rid c st = some r → Loops T fid rid c st r) {f : Nat} {xs : List AV} {H : List GB} {r : AV × List GB} (h : den C Lp (evFunc T f xs H) = some r) : Runs T f xs H r :=
  Runs.of (Big.of_den hC hL _ h)
end
end Go.Ab
