/- What changed for whom: merging. -/
import Derived.Test.YtmekbgeknkknfaaQ4
set_option linter.unusedVariables false
set_option linter.unusedSimpArgs false
set_option linter.unusedSectionVars false
namespace Go.Ab

section
variable (r : List AV) (rs : List (List AV)) (n : Bool)
theorem cz0 : ((([] : List (List AV)).length : Int) == 0) = true := rfl
theorem cz1 : (((r :: rs).length : Int) == 0) = false := by
  rw [beq_eq_false_iff_ne, List.length_cons]
  omega
theorem cp1 : decide (0 < ((r :: rs).length : Int)) = true := by
  rw [decide_eq_true_eq, List.length_cons]
  omega
theorem cp0 : decide (0 < (([] : List (List AV)).length : Int)) = false := rfl
theorem cp2 : decide (1 ≤ ((r :: rs).length : Int)) = true := by
  rw [decide_eq_true_eq, List.length_cons]
  omega
theorem cp3 : (decide (0 ≤ (rs.length : Int)) && decide ((rs.length : Int) ≤ (rs.length : Int))) = true := by simp
theorem cp4 : ((r :: rs).take ((r :: rs).length : Int).toNat).drop 1 = rs := by
  rw [show (((r :: rs).length : Int).toNat) = (r :: rs).length from rfl, List.take_length]
  rfl
theorem cp5 : (r :: rs).getD 0 [] = r := rfl
end
section
variable (t : Th)
theorem n0 : (nth t.enc 0).intOf = t.id := rfl
theorem n1 : (nth t.enc 1).intOf = t.x := rfl
theorem n2 : (nth t.enc 2).intOf = t.y := rfl
theorem n3 : (nth t.enc 3).intOf = t.a.n := rfl
theorem n4 : (nth t.enc 4).strOf = t.a.s := rfl
theorem n5 : (nth t.enc 5).intOf = t.b.n := rfl
theorem n6 : (nth t.enc 6).strOf = t.b.s := rfl
theorem n7 : (nth t.enc 7).intOf = t.c.n := rfl
theorem n8 : (nth t.enc 8).strOf = t.c.s := rfl
theorem n9 : (nth t.enc 9).intOf = t.d.n := rfl
theorem n10 : (nth t.enc 10).strOf = t.d.s := rfl
theorem enc_enter : [(.int .i64 1), (.int .i64 t.id), (.int .i64 t.id), (.int .i64 t.x), (.int .i64 t.y), (.int .i64 t.a.n), (.str t.a.s), (.int .i64 t.b.n), (.str t.b.s), (.int .i64 t.c.n), (.str t.c.s), (.int .i64 t.d.n), (.str t.d.s), (.int .i64 0), (.int .u8 0), (.int .i64 0), (.int .i64 0), (.int .i64 0), (.str []), (.int .i64 0), (.str []), (.int .i64 0), (.str []), (.int .i64 0), (.str [])] = (evEnter t).enc := rfl
theorem enc_leave (id : Int) : [(.int .i64 3), (.int .i64 id), (.int .i64 0), (.int .i64 0), (.int .i64 0), (.int .i64 0), (.str []), (.int .i64 0), (.str []), (.int .i64 0), (.str []), (.int .i64 0), (.str []), (.int .i64 0), (.int .u8 0), (.int .i64 0), (.int .i64 0), (.int .i64 0), (.str []), (.int .i64 0), (.str []), (.int .i64 0), (.str []), (.int .i64 0), (.str [])] = (evLeave id).enc := rfl
theorem enc_update (d : De) : [(.int .i64 2), (.int .i64 d.id), (.int .i64 0), (.int .i64 0), (.int .i64 0), (.int .i64 0), (.str []), (.int .i64 0), (.str []), (.int .i64 0), (.str []), (.int .i64 0), (.str []), (.int .i64 d.id), (.int .u8 d.m), (.int .i64 d.x), (.int .i64 d.y), (.int .i64 d.a.n), (.str d.a.s), (.int .i64 d.b.n), (.str d.b.s), (.int .i64 d.c.n), (.str d.c.s), (.int .i64 d.d.n), (.str d.d.s)] = (evUpdate d).enc := rfl
end

/-- What changed, of two rows of things that rise. -/
def mrg : List Th → List Th → List Ev
  | [], [] => []
  | [], y :: ys => evEnter y :: mrg [] ys
  | x :: xs, [] => evLeave x.id :: mrg xs []
  | x :: xs, y :: ys => bif decide (y.id < x.id) then evEnter y :: mrg (x :: xs) ys else bif decide (x.id < y.id) then evLeave x.id :: mrg xs (y :: ys) else (bif diffB x y then [evUpdate (diffT x y)] else []) ++ mrg xs ys
termination_by xs ys => xs.length + ys.length
decreasing_by all_goals (simp only [List.length_cons]; omega)

noncomputable abbrev st24 (a b : Bool) (xs ys : List Th) (n : Bool) (out : List Ev) : Dt (P24_7 ⊕ Y24_7) := d24_7 a b (xs.map Th.enc) (ys.map Th.enc) n (out.map Ev.enc)
section
variable (a b n : Bool) (xs ys : List Th) (x y : Th) (out : List Ev) (hn : n = true → out = []) (hb : out.length ≤ 268435400)
theorem room {out : List Ev} (hb : out.length ≤ 268435400) : decide ((out.map Ev.enc).length + 1 ≤ 268435456) = true := by simp; omega
include hn hb
theorem m_end : (st24 a b [] [] n out).val = some (.inr (n, out.map Ev.enc)) := rfl
theorem m_enter0 : (st24 a b [] (y :: ys) n out).val = some (.inl ([].map Th.enc, ys.map Th.enc, false, (out ++ [evEnter y]).map Ev.enc)) := by
  simp only [st24, d24_7, List.map_cons, List.map_nil, Dt.val_br, cz0, cz1, cond_true, cond_false, cp1, cp2, cp3, cp4, cp5, Bool.and_true, Bool.or_true, epOk_th, epOk_th0, room hb, Dt.val_ret, n0, n1, n2, n3, n4, n5, n6, n7, n8, n9, n10, enc_enter, List.map_append]
  cases n with
  | true => rw [hn rfl]; rfl
  | false => rfl
theorem m_leave0 : (st24 a b (x :: xs) [] n out).val = some (.inl (xs.map Th.enc, [].map Th.enc, false, (out ++ [evLeave x.id]).map Ev.enc)) := by
  simp only [st24, d24_7, List.map_cons, List.map_nil, Dt.val_br, cz0, cz1, cond_true, cond_false, cp0, cp1, cp2, cp3, cp4, cp5, Bool.and_true, Bool.or_true, epOk_th, epOk_th0, room hb, Dt.val_ret, n0, n1, n2, n3, n4, n5, n6, n7, n8, n9, n10, enc_leave, List.map_append]
  cases n with
  | true => rw [hn rfl]; rfl
  | false => rfl
theorem m_enter (h : y.id < x.id) : (st24 a b (x :: xs) (y :: ys) n out).val = some (.inl ((x :: xs).map Th.enc, ys.map Th.enc, false, (out ++ [evEnter y]).map Ev.enc)) := by
  simp only [st24, d24_7, List.map_cons, List.map_nil, Dt.val_br, cz0, cz1, cond_true, cond_false, cp0, cp1, cp2, cp3, cp4, cp5, Bool.and_true, Bool.or_true, epOk_th, epOk_th0, room hb, Dt.val_ret, n0, n1, n2, n3, n4, n5, n6, n7, n8, n9, n10, enc_enter, List.map_append, decide_eq_true h]
  cases n with
  | true => rw [hn rfl]; rfl
  | false => rfl
theorem m_leave (h : x.id < y.id) : (st24 a b (x :: xs) (y :: ys) n out).val = some (.inl (xs.map Th.enc, (y :: ys).map Th.enc, false, (out ++ [evLeave x.id]).map Ev.enc)) := by
  have h' : decide (y.id < x.id) = false := decide_eq_false (by omega)
  simp only [st24, d24_7, List.map_cons, List.map_nil, Dt.val_br, cz0, cz1, cond_true, cond_false, cp0, cp1, cp2, cp3, cp4, cp5, Bool.and_true, Bool.or_true, epOk_th, epOk_th0, room hb, Dt.val_ret, n0, n1, n2, n3, n4, n5, n6, n7, n8, n9, n10, enc_leave, List.map_append, decide_eq_true h, h']
  cases n with
  | true => rw [hn rfl]; rfl
  | false => rfl
theorem m_both (h : x.id = y.id) : (st24 a b (x :: xs) (y :: ys) n out).val = some (.inl (xs.map Th.enc, ys.map Th.enc, bif diffB x y then false else n, (out ++ bif diffB x y then [evUpdate (diffT x y)] else []).map Ev.enc)) := by
  have h' : decide (y.id < x.id) = false := decide_eq_false (by omega)
  have h'' : decide (x.id < y.id) = false := decide_eq_false (by omega)
  simp only [st24, d24_7, List.map_cons, List.map_nil, Dt.val_br, cz0, cz1, cond_true, cond_false, cp0, cp1, cp2, cp3, cp4, cp5, Bool.and_true, Bool.or_true, epOk_th, epOk_th0, room hb, Dt.val_ret, n0, n1, n2, n3, n4, n5, n6, n7, n8, n9, n10, List.map_append, h', h'', v85_eq, Dt.val_some]
  cases diffB x y with
  | false => simp
  | true =>
    cases n with
    | true => rw [hn rfl]; rfl
    | false => rfl
end

theorem mrg_loop (a b : Bool) : ∀ (m : Nat) (xs ys : List Th) (n : Bool) (out : List Ev), xs.length + ys.length ≤ m → (n = true → out = []) → out.length + xs.length + ys.length ≤ 268435400 →
    ∃ n', loopV (fun p : P24_7 => d24_7 a b p.1 p.2.1 p.2.2.1 p.2.2.2) (xs.map Th.enc, ys.map Th.enc, n, out.map Ev.enc) = some (n', (out ++ mrg xs ys).map Ev.enc) ∧ (n' = true → out ++ mrg xs ys = []) := by
  intro m
  induction m with
  | zero =>
    intro xs ys n out hm hn hb
    cases xs with
    | cons _ _ => simp at hm
    | nil =>
      cases ys with
      | cons _ _ => simp at hm
      | nil =>
        refine ⟨n, ?_, ?_⟩
        · rw [mrg, List.append_nil]; exact loopV_inr (m_end a b n out hn (by simp at hb; omega))
        · rw [mrg, List.append_nil]; exact hn
  | succ m ih =>
    intro xs ys n out hm hn hb
    have hfin : ∀ (xs' ys' : List Th) (n' : Bool) (e : List Ev), (st24 a b xs ys n out).val = some (.inl (xs'.map Th.enc, ys'.map Th.enc, n', (out ++ e).map Ev.enc)) → (n' = true → out ++ e = []) → xs'.length + ys'.length ≤ m → e.length + xs'.length + ys'.length ≤ xs.length + ys.length → mrg xs ys = e ++ mrg xs' ys' →
        ∃ n', loopV (fun p : P24_7 => d24_7 a b p.1 p.2.1 p.2.2.1 p.2.2.2) (xs.map Th.enc, ys.map Th.enc, n, out.map Ev.enc) = some (n', (out ++ mrg xs ys).map Ev.enc) ∧ (n' = true → out ++ mrg xs ys = []) := by
      intro xs' ys' n' e h1 h2 h3 h4 h5
      rw [loopV_inl (step := fun p : P24_7 => d24_7 a b p.1 p.2.1 p.2.2.1 p.2.2.2) h1]
      have := ih xs' ys' n' (out ++ e) h3 h2 (by rw [List.length_append]; omega)
      rw [h5, ← List.append_assoc]
      exact this
    have hbo : out.length ≤ 268435400 := by omega
    cases xs with
    | nil =>
      cases ys with
      | nil =>
        refine ⟨n, ?_, ?_⟩
        · rw [mrg, List.append_nil]; exact loopV_inr (m_end a b n out hn hbo)
        · rw [mrg, List.append_nil]; exact hn
      | cons y ys => exact hfin [] ys false [evEnter y] (m_enter0 a b n ys y out hn hbo) (fun h => by cases h) (by simp at hm ⊢; omega) (by simp; omega) (by rw [mrg]; rfl)
    | cons x xs =>
      cases ys with
      | nil => exact hfin xs [] false [evLeave x.id] (m_leave0 a b n xs x out hn hbo) (fun h => by cases h) (by simp at hm ⊢; omega) (by simp; omega) (by rw [mrg]; rfl)
      | cons y ys =>
        by_cases h1 : y.id < x.id
        · exact hfin (x :: xs) ys false [evEnter y] (m_enter a b n xs ys x y out hn hbo h1) (fun h => by cases h) (by simp at hm ⊢; omega) (by simp; omega) (by rw [mrg, decide_eq_true h1]; rfl)
        · by_cases h2 : x.id < y.id
          · exact hfin xs (y :: ys) false [evLeave x.id] (m_leave a b n xs ys x y out hn hbo h2) (fun h => by cases h) (by simp at hm ⊢; omega) (by simp; omega) (by rw [mrg, decide_eq_false h1, decide_eq_true h2]; rfl)
          · refine hfin xs ys (bif diffB x y then false else n) (bif diffB x y then [evUpdate (diffT x y)] else []) (m_both a b n xs ys x y out hn hbo (by omega)) ?_ (by simp at hm ⊢; omega) (by cases diffB x y <;> simp <;> omega) (by rw [mrg, decide_eq_false h1, decide_eq_false h2]; rfl)
            cases diffB x y with
            | true => intro h; cases h
            | false => intro h; rw [hn h]; rfl

theorem seen_length (x0 y0 x1 y1 : Int) (l : List Th) : (seen x0 y0 x1 y1 l).length ≤ l.length := List.length_filter_le _ _
theorem v24_eq (n m : Bool) (a b : List Th) (p0 p1 p2 p3 q0 q1 q2 q3 : Int) (ha : a.length ≤ 1000) (hb : b.length ≤ 1000) :
    ∃ n', v24 n (a.map Th.enc) p0 p1 p2 p3 m (b.map Th.enc) q0 q1 q2 q3 = some (n', (mrg (seen p0 p1 p2 p3 a) (seen q0 q1 q2 q3 b)).map Ev.enc) ∧ (n' = true → mrg (seen p0 p1 p2 p3 a) (seen q0 q1 q2 q3 b) = []) := by
  have l1 := seen_length p0 p1 p2 p3 a
  have l2 := seen_length q0 q1 q2 q3 b
  obtain ⟨n', h1, h2⟩ := mrg_loop (seen p0 p1 p2 p3 a).isEmpty (seen q0 q1 q2 q3 b).isEmpty _ (seen p0 p1 p2 p3 a) (seen q0 q1 q2 q3 b) true [] (Nat.le_refl _) (fun _ => rfl) (by simp; omega)
  rw [List.nil_append] at h1 h2
  refine ⟨n', ?_, h2⟩
  unfold v24 d24
  rw [v27_eq n a _ _ _ _ (by omega), Dt.val_some, v27_eq m b _ _ _ _ (by omega), Dt.val_some, Dt.val_ob]
  have hw : w24_7 (seen p0 p1 p2 p3 a).isEmpty ((seen p0 p1 p2 p3 a).map Th.enc) (seen q0 q1 q2 q3 b).isEmpty ((seen q0 q1 q2 q3 b).map Th.enc) true [] = some (n', (mrg (seen p0 p1 p2 p3 a) (seen q0 q1 q2 q3 b)).map Ev.enc) := h1
  rw [hw]
  rfl
end Go.Ab
