/- Changes of things, events: what their functions come to. -/
import Derived.Test.YtmekbgeknkknfaaQ1
set_option linter.unusedVariables false
set_option linter.unusedSimpArgs false
namespace Go.Ab

/-- A bit of a mask. -/
def hasB (m i : Int) : Bool := ((wrapF .u8 (((BitVec.ofInt 8 (m.fdiv ((2 ^ (min (wrapF .i64 (i + 1)).toNat 8) : Nat) : Int)) &&& BitVec.ofInt 8 1).toNat : Nat) : Int)) == 1)
def noPlace (m : Int) : Bool := ((wrapF .u8 (((BitVec.ofInt 8 m &&& BitVec.ofInt 8 1).toNat : Nat) : Int)) == 0)
theorem v152_0 (m : Int) : v152 m 0 = some (hasB m 0) := rfl
theorem v152_1 (m : Int) : v152 m 1 = some (hasB m 1) := rfl
theorem v152_2 (m : Int) : v152 m 2 = some (hasB m 2) := rfl
theorem v152_3 (m : Int) : v152 m 3 = some (hasB m 3) := rfl
def Fi.isZ (f : Fi) : Bool := (f.n == 0) && ((f.s == []) && true)

def De.ok (d : De) : Bool :=
  bif decide (d.id < 0) then false else bif decide (1000000 < d.id) then false else bif d.m == 0 then false else bif decide (31 < d.m) then false else
  bif (bif noPlace d.m then !((d.x == 0) && ((d.y == 0) && true)) else false) then false else
  bif onB d.x d.y then
    bif d.a.ok then bif (bif hasB d.m 0 then true else d.a.isZ) then
    bif d.b.ok then bif (bif hasB d.m 1 then true else d.b.isZ) then
    bif d.c.ok then bif (bif hasB d.m 2 then true else d.c.isZ) then
    bif d.d.ok then (bif hasB d.m 3 then true else d.d.isZ) else false else false else false else false else false else false else false
  else false

theorem v87_eq (d : De) : v87 d.id d.m d.x d.y d.a.n d.a.s d.b.n d.b.s d.c.n d.c.s d.d.n d.d.s = some d.ok := by
  simp only [v87, d87, Dt.val_br, Dt.val_ret, v148_eq, v151_eq, v152_0, v152_1, v152_2, v152_3, Dt.val_some, De.ok, Fi.isZ]
  show (bif decide (d.id < 0) then _ else bif decide (1000000 < d.id) then _ else bif d.m == 0 then _ else bif decide (31 < d.m) then _ else bif noPlace d.m then _ else _) = _
  generalize decide (d.id < 0) = b1
  generalize decide (1000000 < d.id) = b2
  generalize (d.m == 0) = b3
  generalize decide (31 < d.m) = b4
  generalize noPlace d.m = b5
  generalize ((d.x == 0) && ((d.y == 0) && true)) = b6
  generalize onB d.x d.y = b7
  generalize hasB d.m 0 = h0
  generalize hasB d.m 1 = h1
  generalize hasB d.m 2 = h2
  generalize hasB d.m 3 = h3
  generalize d.a.ok = f0
  generalize d.b.ok = f1
  generalize d.c.ok = f2
  generalize d.d.ok = f3
  generalize ((d.a.n == 0) && ((d.a.s == []) && true)) = z0
  generalize ((d.b.n == 0) && ((d.b.s == []) && true)) = z1
  generalize ((d.c.n == 0) && ((d.c.s == []) && true)) = z2
  generalize ((d.d.n == 0) && ((d.d.s == []) && true)) = z3
  cases b1 <;> try rfl
  cases b2 <;> try rfl
  cases b3 <;> try rfl
  cases b4 <;> try rfl
  cases b5 <;> cases b6 <;> try rfl
  all_goals cases b7 <;> try rfl
  all_goals cases f0 <;> try rfl
  all_goals cases h0 <;> cases z0 <;> try rfl
  all_goals cases f1 <;> try rfl
  all_goals cases h1 <;> cases z1 <;> try rfl
  all_goals cases f2 <;> try rfl
  all_goals cases h2 <;> cases z2 <;> try rfl
  all_goals cases f3 <;> try rfl
  all_goals cases h3 <;> cases z3 <;> rfl

/-- A thing changed. -/
def Th.app (t : Th) (d : De) : Th :=
  ⟨t.id, bif noPlace d.m then t.x else d.x, bif noPlace d.m then t.y else d.y, bif hasB d.m 0 then d.a else t.a, bif hasB d.m 1 then d.b else t.b, bif hasB d.m 2 then d.c else t.c, bif hasB d.m 3 then d.d else t.d⟩
def Th.rest (t : Th) : X113 := (t.x, t.y, t.a.n, t.a.s, t.b.n, t.b.s, t.c.n, t.c.s, t.d.n, t.d.s)
theorem v113_eq (t : Th) (d : De) : v113 t.id t.x t.y t.a.n t.a.s t.b.n t.b.s t.c.n t.c.s t.d.n t.d.s d.id d.m d.x d.y d.a.n d.a.s d.b.n d.b.s d.c.n d.c.s d.d.n d.d.s = some (t.app d).rest := by
  simp only [v113, d113, Dt.val_br, Dt.val_ret, v152_0, v152_1, v152_2, v152_3, Dt.val_some, Th.app, Th.rest]
  show (bif !noPlace d.m then _ else _) = _
  cases noPlace d.m <;> cases hasB d.m 0 <;> cases hasB d.m 1 <;> cases hasB d.m 2 <;> cases hasB d.m 3 <;> rfl

/-- What changed. -/
def mkM (p q0 q1 q2 q3 : Bool) : Int := (bif p then 1 else 0) + (bif q0 then 2 else 0) + (bif q1 then 4 else 0) + (bif q2 then 8 else 0) + (bif q3 then 16 else 0)
def dif (p q0 q1 q2 q3 : Bool) (b : Th) : De :=
  ⟨b.id, mkM p q0 q1 q2 q3, bif p then b.x else 0, bif p then b.y else 0, bif q0 then b.a else .zero, bif q1 then b.b else .zero, bif q2 then b.c else .zero, bif q3 then b.d else .zero⟩
def difP (a b : Th) : Bool := !((a.x == b.x) && ((a.y == b.y) && true))
def difF (a b : Fi) : Bool := !((a.n == b.n) && ((a.s == b.s) && true))
def diffT (a b : Th) : De := dif (difP a b) (difF a.a b.a) (difF a.b b.b) (difF a.c b.c) (difF a.d b.d) b
def diffB (a b : Th) : Bool := difP a b || difF a.a b.a || difF a.b b.b || difF a.c b.c || difF a.d b.d
theorem v85_eq (a b : Th) : v85 a.id a.x a.y a.a.n a.a.s a.b.n a.b.s a.c.n a.c.s a.d.n a.d.s b.id b.x b.y b.a.n b.a.s b.b.n b.b.s b.c.n b.c.s b.d.n b.d.s =
    some ((diffT a b).m, (diffT a b).x, (diffT a b).y, (diffT a b).a.n, (diffT a b).a.s, (diffT a b).b.n, (diffT a b).b.s, (diffT a b).c.n, (diffT a b).c.s, (diffT a b).d.n, (diffT a b).d.s, diffB a b) := by
  have hP : (!((a.x == b.x) && ((a.y == b.y) && true))) = difP a b := rfl
  have hF : ∀ a b : Fi, (!((a.n == b.n) && ((a.s == b.s) && true))) = difF a b := fun _ _ => rfl
  simp only [v85, d85, Dt.val_br, Dt.val_ret, hP, hF, diffT, dif, diffB]
  cases difP a b <;> cases difF a.a b.a <;> cases difF a.b b.b <;> cases difF a.c b.c <;> cases difF a.d b.d <;> rfl

theorem has_mk (p q0 q1 q2 q3 : Bool) : noPlace (mkM p q0 q1 q2 q3) = !p ∧ hasB (mkM p q0 q1 q2 q3) 0 = q0 ∧ hasB (mkM p q0 q1 q2 q3) 1 = q1 ∧ hasB (mkM p q0 q1 q2 q3) 2 = q2 ∧ hasB (mkM p q0 q1 q2 q3) 3 = q3 := by
  cases p <;> cases q0 <;> cases q1 <;> cases q2 <;> cases q3 <;> exact ⟨rfl, rfl, rfl, rfl, rfl⟩
theorem mk_ok (p q0 q1 q2 q3 : Bool) (h : (p || q0 || q1 || q2 || q3) = true) : (mkM p q0 q1 q2 q3 == 0) = false ∧ decide (31 < mkM p q0 q1 q2 q3) = false := by
  cases p <;> cases q0 <;> cases q1 <;> cases q2 <;> cases q3 <;> first | (cases h; done) | exact ⟨rfl, rfl⟩

theorem zero_ok : Fi.zero.ok = true := rfl
theorem diff_ok {a b : Th} (hb : b.ok = true) (h : diffB a b = true) : (diffT a b).ok = true := by
  unfold Th.ok at hb
  simp only [Bool.and_eq_true, decide_eq_true_eq] at hb
  obtain ⟨h1, h2, h3, h4, h5, h6, h7⟩ := hb
  unfold diffT
  unfold diffB at h
  generalize difP a b = p at h
  generalize difF a.a b.a = q0 at h
  generalize difF a.b b.b = q1 at h
  generalize difF a.c b.c = q2 at h
  generalize difF a.d b.d = q3 at h
  obtain ⟨m1, m2⟩ := mk_ok p q0 q1 q2 q3 h
  obtain ⟨k0, k1, k2, k3, k4⟩ := has_mk p q0 q1 q2 q3
  have e1 : decide (b.id < 0) = false := by simp; omega
  have e2 : decide (1000000 < b.id) = false := by simp; omega
  unfold De.ok dif
  simp only [e1, e2, m1, m2, k0, k1, k2, k3, k4, cond_false]
  have hz : Fi.zero.isZ = true := rfl
  have hon : onB 0 0 = true := rfl
  cases p <;> cases q0 <;> cases q1 <;> cases q2 <;> cases q3 <;> simp [h3, h4, h5, h6, h7, zero_ok, hz, hon]

theorem difF_eq {a b : Fi} (h : difF a b = false) : a = b := by
  unfold difF at h
  simp at h
  cases a; cases b; simp_all
theorem difP_eq {a b : Th} (h : difP a b = false) : a.x = b.x ∧ a.y = b.y := by
  unfold difP at h
  simpa using h
theorem app_diff {a b : Th} (hid : a.id = b.id) : a.app (diffT a b) = b := by
  obtain ⟨k0, k1, k2, k3, k4⟩ := has_mk (difP a b) (difF a.a b.a) (difF a.b b.b) (difF a.c b.c) (difF a.d b.d)
  unfold Th.app diffT dif
  simp only [k0, k1, k2, k3, k4]
  cases b with
  | mk id x y fa fb fc fd =>
    simp only at hid
    simp only [Th.mk.injEq]
    refine ⟨hid, ?_, ?_, ?_, ?_, ?_, ?_⟩
    · cases hp : difP a ⟨id, x, y, fa, fb, fc, fd⟩ with
      | true => rfl
      | false => exact (difP_eq hp).1
    · cases hp : difP a ⟨id, x, y, fa, fb, fc, fd⟩ with
      | true => rfl
      | false => exact (difP_eq hp).2
    · cases hp : difF a.a fa with
      | true => rfl
      | false => exact difF_eq hp
    · cases hp : difF a.b fb with
      | true => rfl
      | false => exact difF_eq hp
    · cases hp : difF a.c fc with
      | true => rfl
      | false => exact difF_eq hp
    · cases hp : difF a.d fd with
      | true => rfl
      | false => exact difF_eq hp
theorem diff_none {a b : Th} (hid : a.id = b.id) (h : diffB a b = false) : a = b := by
  unfold diffB at h
  simp only [Bool.or_eq_false_iff] at h
  obtain ⟨⟨⟨⟨h1, h2⟩, h3⟩, h4⟩, h5⟩ := h
  cases a; cases b
  simp only [Th.mk.injEq]
  exact ⟨hid, (difP_eq h1).1, (difP_eq h1).2, difF_eq h2, difF_eq h3, difF_eq h4, difF_eq h5⟩

/-- Events of the three kinds. -/
def evEnter (t : Th) : Ev := ⟨1, t.id, t, .zero⟩
def evUpdate (d : De) : Ev := ⟨2, d.id, .zero, d⟩
def evLeave (id : Int) : Ev := ⟨3, id, .zero, .zero⟩
def De.isZ (d : De) : Bool := ((d.id == 0) && ((d.m == 0) && ((d.x == 0) && ((d.y == 0) && ((d.a.n == 0) && ((d.a.s == []) && ((d.b.n == 0) && ((d.b.s == []) && ((d.c.n == 0) && ((d.c.s == []) && ((d.d.n == 0) && ((d.d.s == []) && true))))))))))))
def Th.isZ (d : Th) : Bool := ((d.id == 0) && ((d.x == 0) && ((d.y == 0) && ((d.a.n == 0) && ((d.a.s == []) && ((d.b.n == 0) && ((d.b.s == []) && ((d.c.n == 0) && ((d.c.s == []) && ((d.d.n == 0) && ((d.d.s == []) && true)))))))))))
def Ev.ok (e : Ev) : Bool :=
  bif e.k == 1 then (bif e.t.ok then (bif e.id == e.t.id then e.e.isZ else false) else false)
  else bif e.k == 2 then (bif e.e.ok then (bif e.id == e.e.id then e.t.isZ else false) else false)
  else bif e.k == 3 then (bif decide (0 ≤ e.id) then (bif decide (e.id ≤ 1000000) then (bif e.t.isZ then e.e.isZ else false) else false) else false)
  else false
theorem v25_eq (e : Ev) : v25 e.k e.id e.t.id e.t.x e.t.y e.t.a.n e.t.a.s e.t.b.n e.t.b.s e.t.c.n e.t.c.s e.t.d.n e.t.d.s e.e.id e.e.m e.e.x e.e.y e.e.a.n e.e.a.s e.e.b.n e.e.b.s e.e.c.n e.e.c.s e.e.d.n e.e.d.s = some e.ok := by
  simp only [v25, d25, Dt.val_br, Dt.val_ret, v86_eq, v87_eq, Dt.val_some]
  show (bif e.k == 1 then (bif e.t.ok then (bif e.id == e.t.id then some e.e.isZ else some false) else some false)
    else bif e.k == 2 then (bif e.e.ok then (bif e.id == e.e.id then some e.t.isZ else some false) else some false)
    else bif e.k == 3 then (bif decide (0 ≤ e.id) then (bif decide (e.id ≤ 1000000) then (bif e.t.isZ then some e.e.isZ else some false) else some false) else some false) else some false) = _
  unfold Ev.ok
  cases e.k == 1 <;> cases e.k == 2 <;> cases e.k == 3 <;> cases e.t.ok <;> cases e.e.ok <;> cases e.id == e.t.id <;> cases e.id == e.e.id <;> cases decide (0 ≤ e.id) <;> cases decide (e.id ≤ 1000000) <;> cases e.t.isZ <;> rfl
theorem ok_enter {t : Th} (h : t.ok = true) : (evEnter t).ok = true := by
  unfold Ev.ok evEnter
  simp [h]
  rfl
theorem ok_update {d : De} (h : d.ok = true) : (evUpdate d).ok = true := by
  unfold Ev.ok evUpdate
  simp [h]
  rfl
theorem ok_leave {id : Int} (h0 : 0 ≤ id) (h1 : id ≤ 1000000) : (evLeave id).ok = true := by
  unfold Ev.ok evLeave
  simp [h0, h1]
  exact ⟨rfl, rfl⟩
end Go.Ab
