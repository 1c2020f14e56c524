/- Folding what changed: DiffFolds is true. -/
import Derived.Test.YtmekbgeknkknfaaQ5
set_option linter.unusedVariables false
set_option linter.unusedSimpArgs false
set_option linter.unusedSectionVars false
namespace Go.Ab

/-- One event done. -/
noncomputable def ap (n : Bool) (l : List Th) (e : Ev) : Option X68 := v68 n (l.map Th.enc) e.k e.id e.t.id e.t.x e.t.y e.t.a.n e.t.a.s e.t.b.n e.t.b.s e.t.c.n e.t.c.s e.t.d.n e.t.d.s e.e.id e.e.m e.e.x e.e.y e.e.a.n e.e.a.s e.e.b.n e.e.b.s e.e.c.n e.e.c.s e.e.d.n e.e.d.s
/-- Events done, one behind the other. -/
def Chain : List Ev → Bool → List Th → Bool → List Th → Prop
  | [], n, l, n', l' => n' = n ∧ l' = l
  | e :: es, n, l, n', l' => ∃ n1 l1, ap n l e = some (n1, l1.map Th.enc, true) ∧ Chain es n1 l1 n' l'

theorem fold_loop (n0 : Bool) (r0 : List (List AV)) (m : Bool) (full : List Ev) (hf : full.length ≤ 9223372036854775807) (n' : Bool) (l' : List Th) :
    ∀ (es : List Ev) (pre : List Ev) (n : Bool) (l : List Th), pre ++ es = full → Chain es n l n' l' →
      loopV (fun p : P26_3 => d26_3 n0 r0 m (full.map Ev.enc) ((full.map Ev.enc).length : Int) p.1 p.2.1 p.2.2.1 p.2.2.2) (n, l.map Th.enc, true, (pre.length : Int)) = some (n', l'.map Th.enc, true) := by
  intro es
  induction es with
  | nil =>
    intro pre n l hp hc
    obtain ⟨rfl, rfl⟩ := hc
    refine loopV_inr ?_
    have : pre = full := by simpa using hp
    subst this
    show (d26_3 n0 r0 m (pre.map Ev.enc) ((pre.map Ev.enc).length : Int) n' (l'.map Th.enc) true (pre.length : Int)).val = _
    unfold d26_3
    rw [Dt.val_no (by simp)]
    rfl
  | cons e es ih =>
    intro pre n l hp hc
    obtain ⟨n1, l1, h1, h2⟩ := hc
    have hk : pre.length < full.length := by rw [← hp]; simp
    have hk' : pre.length < (full.map Ev.enc).length := by simpa using hk
    have hg : full[pre.length] = e := by
      have : (pre ++ e :: es)[pre.length]'(by simp) = e := by simp
      simpa [hp] using this
    have hs : (d26_3 n0 r0 m (full.map Ev.enc) ((full.map Ev.enc).length : Int) n (l.map Th.enc) true (pre.length : Int)).val = some (.inl (n1, l1.map Th.enc, true, ((pre.length + 1 : Nat) : Int))) := by
      unfold d26_3
      rw [Dt.val_yes (by simpa using hk), Dt.val_yes (idx_ok hk'), toNat_cast, getD_map _ _ _ hk, hg, Dt.val_yes (epOk_ev _)]
      have hv : v68 n (l.map Th.enc) (nth e.enc 0).intOf (nth e.enc 1).intOf (nth e.enc 2).intOf (nth e.enc 3).intOf (nth e.enc 4).intOf (nth e.enc 5).intOf (nth e.enc 6).strOf (nth e.enc 7).intOf (nth e.enc 8).strOf (nth e.enc 9).intOf (nth e.enc 10).strOf (nth e.enc 11).intOf (nth e.enc 12).strOf (nth e.enc 13).intOf (nth e.enc 14).intOf (nth e.enc 15).intOf (nth e.enc 16).intOf (nth e.enc 17).intOf (nth e.enc 18).strOf (nth e.enc 19).intOf (nth e.enc 20).strOf (nth e.enc 21).intOf (nth e.enc 22).strOf (nth e.enc 23).intOf (nth e.enc 24).strOf = some (n1, l1.map Th.enc, true) := h1
      rw [hv, Dt.val_some, next_ok hk hf]
      rfl
    rw [loopV_inl (step := fun p : P26_3 => d26_3 n0 r0 m (full.map Ev.enc) ((full.map Ev.enc).length : Int) p.1 p.2.1 p.2.2.1 p.2.2.2) hs]
    have := ih (pre ++ [e]) n1 l1 (by simpa using hp) h2
    simpa using this

theorem v26_eq {n m n' : Bool} {l l' : List Th} {es : List Ev} (hn : n = true → l = []) (hl : l.length ≤ 268435456) (hes : es.length ≤ 9223372036854775807) (hc : Chain es n l n' l') :
    v26 n (l.map Th.enc) m (es.map Ev.enc) = some (n', l'.map Th.enc, true) := by
  have hw : w26_3 n (l.map Th.enc) n (l.map Th.enc) true m (es.map Ev.enc) ((es.map Ev.enc).length : Int) 0 = some (n', l'.map Th.enc, true) :=
    fold_loop n (l.map Th.enc) m es hes n' l' es [] n l rfl hc
  unfold v26 d26
  rw [v88_eq hn hl, Dt.val_some, Dt.val_ob, hw]
  rfl

theorem Rising.tail {t : Th} {l : List Th} (h : Rising (t :: l)) : Rising l ∧ ∀ s ∈ l, t.id < s.id := ⟨(List.pairwise_cons.1 h).2, (List.pairwise_cons.1 h).1⟩
theorem ok_ids {t : Th} (h : t.ok = true) : 0 ≤ t.id ∧ t.id ≤ 1000000 := by
  unfold Th.ok at h
  simp only [Bool.and_eq_true, decide_eq_true_eq] at h
  exact ⟨h.1, h.2.1⟩

theorem chain_mrg : ∀ (m : Nat) (xs ys pre : List Th) (n : Bool), xs.length + ys.length ≤ m → Rising xs → Rising ys → (∀ p ∈ pre, (∀ x ∈ xs, p.id < x.id) ∧ ∀ y ∈ ys, p.id < y.id) → (∀ x ∈ xs, x.ok = true) → (∀ y ∈ ys, y.ok = true) →
    (n = true → pre ++ xs = []) → pre.length + xs.length + ys.length ≤ 1000 → ∃ n', Chain (mrg xs ys) n (pre ++ xs) n' (pre ++ ys) ∧ (n' = true → pre ++ ys = []) := by
  intro m
  induction m with
  | zero =>
    intro xs ys pre n hm _ _ _ _ _ hn _
    cases xs with
    | cons _ _ => simp at hm
    | nil =>
      cases ys with
      | cons _ _ => simp at hm
      | nil => exact ⟨n, by rw [mrg]; exact ⟨rfl, rfl⟩, hn⟩
  | succ m ih =>
    intro xs ys pre n hm hx hy hp hox hoy hn hl
    cases xs with
    | nil =>
      cases ys with
      | nil => exact ⟨n, by rw [mrg]; exact ⟨rfl, rfl⟩, hn⟩
      | cons y ys =>
        obtain ⟨hy1, hy2⟩ := hy.tail
        obtain ⟨n', h1, h2⟩ := ih [] ys (pre ++ [y]) false (by simp at hm ⊢; omega) hx hy1 (fun p hpm => ⟨fun _ h => (by cases h), fun s hs => by
          rcases List.mem_append.1 hpm with h | h
          · exact (hp p h).2 s (by simp [hs])
          · simp at h; subst h; exact hy2 s hs⟩) hox (fun s hs => hoy s (by simp [hs])) (fun h => by cases h) (by simp at hl ⊢; omega)
        refine ⟨n', ?_, by simpa using h2⟩
        rw [mrg]
        refine ⟨false, pre ++ [y], ?_, by simpa using h1⟩
        have := v68_enter (n := n) (pre := pre) (post := []) (t := y) hn (by simp at hl ⊢; omega) (fun s hs => (hp s hs).2 y (by simp)) (fun _ h => by cases h) (hoy y (by simp))
        exact this
    | cons x xs =>
      obtain ⟨hx1, hx2⟩ := hx.tail
      have hnf : n = false := by
        cases n with
        | false => rfl
        | true => have := hn rfl; simp at this
      subst hnf
      have hpx : ∀ s ∈ pre, s.id < x.id := fun s hs => (hp s hs).1 x (by simp)
      have hxo := ok_ids (hox x (by simp))
      cases ys with
      | nil =>
        obtain ⟨n', h1, h2⟩ := ih xs [] pre false (by simp at hm ⊢; omega) hx1 hy (fun p hpm => ⟨fun s hs => (hp p hpm).1 s (by simp [hs]), fun _ h => by cases h⟩) (fun s hs => hox s (by simp [hs])) hoy (fun h => by cases h) (by simp at hl ⊢; omega)
        refine ⟨n', ?_, h2⟩
        rw [mrg]
        refine ⟨false, pre ++ xs, ?_, h1⟩
        exact v68_leave (n := false) (pre := pre) (post := xs) (x := x) (fun h => by cases h) (by simp at hl ⊢; omega) hpx (fun s hs => Int.le_of_lt (hx2 s hs)) hxo.1 hxo.2
      | cons y ys =>
        obtain ⟨hy1, hy2⟩ := hy.tail
        by_cases c1 : y.id < x.id
        · obtain ⟨n', h1, h2⟩ := ih (x :: xs) ys (pre ++ [y]) false (by simp at hm ⊢; omega) hx hy1 (fun p hpm => by
            rcases List.mem_append.1 hpm with h | h
            · exact ⟨(hp p h).1, fun s hs => (hp p h).2 s (by simp [hs])⟩
            · simp at h
              subst h
              exact ⟨fun s hs => (by
                rcases List.mem_cons.1 hs with rfl | hs
                · exact c1
                · have := hx2 s hs; omega), hy2⟩) hox (fun s hs => hoy s (by simp [hs])) (fun h => by cases h) (by simp at hl ⊢; omega)
          refine ⟨n', ?_, by simpa using h2⟩
          rw [mrg, decide_eq_true c1, cond_true]
          refine ⟨false, pre ++ y :: x :: xs, ?_, by simpa using h1⟩
          exact v68_enter (n := false) (pre := pre) (post := x :: xs) (t := y) (fun h => by cases h) (by simp at hl ⊢; omega) (fun s hs => (hp s hs).2 y (by simp)) (fun s hs => by
            rcases List.mem_cons.1 hs with rfl | hs
            · exact c1
            · have := hx2 s hs; omega) (hoy y (by simp))
        · by_cases c2 : x.id < y.id
          · obtain ⟨n', h1, h2⟩ := ih xs (y :: ys) pre false (by simp at hm ⊢; omega) hx1 hy (fun p hpm => ⟨fun s hs => (hp p hpm).1 s (by simp [hs]), (hp p hpm).2⟩) (fun s hs => hox s (by simp [hs])) hoy (fun h => by cases h) (by simp at hl ⊢; omega)
            refine ⟨n', ?_, h2⟩
            rw [mrg, decide_eq_false c1, cond_false, decide_eq_true c2, cond_true]
            refine ⟨false, pre ++ xs, ?_, h1⟩
            exact v68_leave (n := false) (pre := pre) (post := xs) (x := x) (fun h => by cases h) (by simp at hl ⊢; omega) hpx (fun s hs => Int.le_of_lt (hx2 s hs)) hxo.1 hxo.2
          · have hid : x.id = y.id := by omega
            obtain ⟨n', h1, h2⟩ := ih xs ys (pre ++ [y]) false (by simp at hm ⊢; omega) hx1 hy1 (fun p hpm => by
              rcases List.mem_append.1 hpm with h | h
              · exact ⟨fun s hs => (hp p h).1 s (by simp [hs]), fun s hs => (hp p h).2 s (by simp [hs])⟩
              · simp at h
                subst h
                exact ⟨fun s hs => (by have := hx2 s hs; omega), hy2⟩) (fun s hs => hox s (by simp [hs])) (fun s hs => hoy s (by simp [hs])) (fun h => by cases h) (by simp at hl ⊢; omega)
            refine ⟨n', ?_, by simpa using h2⟩
            rw [mrg, decide_eq_false c1, cond_false, decide_eq_false c2, cond_false]
            cases hd : diffB x y with
            | false =>
              have := diff_none hid hd
              subst this
              simpa using h1
            | true =>
              refine ⟨false, pre ++ y :: xs, ?_, by simpa using h1⟩
              have := v68_update (n := false) (pre := pre) (post := xs) (x := x) (d := diffT x y) (fun h => by cases h) (by simp at hl ⊢; omega) hpx (fun s hs => Int.le_of_lt (hx2 s hs)) (diff_ok (hoy y (by simp)) hd) hid.symm
              rw [app_diff hid] at this
              exact this

/-- The events that tell what changed: whose they are, that they are any, that they rise. -/
theorem mrg_ids : ∀ (m : Nat) (xs ys : List Th), xs.length + ys.length ≤ m → ∀ e ∈ mrg xs ys, (∃ x ∈ xs, e.id = x.id) ∨ ∃ y ∈ ys, e.id = y.id := by
  intro m
  induction m with
  | zero =>
    intro xs ys hm e he
    cases xs with
    | cons _ _ => simp at hm
    | nil =>
      cases ys with
      | cons _ _ => simp at hm
      | nil => rw [mrg] at he; cases he
  | succ m ih =>
    intro xs ys hm e he
    cases xs with
    | nil =>
      cases ys with
      | nil => rw [mrg] at he; cases he
      | cons y ys =>
        rw [mrg] at he
        rcases List.mem_cons.1 he with rfl | he
        · exact .inr ⟨y, by simp, rfl⟩
        · rcases ih [] ys (by simp at hm ⊢; omega) e he with ⟨_, h, _⟩ | ⟨s, h, h'⟩
          · cases h
          · exact .inr ⟨s, by simp [h], h'⟩
    | cons x xs =>
      cases ys with
      | nil =>
        rw [mrg] at he
        rcases List.mem_cons.1 he with rfl | he
        · exact .inl ⟨x, by simp, rfl⟩
        · rcases ih xs [] (by simp at hm ⊢; omega) e he with ⟨s, h, h'⟩ | ⟨_, h, _⟩
          · exact .inl ⟨s, by simp [h], h'⟩
          · cases h
      | cons y ys =>
        rw [mrg] at he
        by_cases c1 : y.id < x.id
        · rw [decide_eq_true c1, cond_true] at he
          rcases List.mem_cons.1 he with rfl | he
          · exact .inr ⟨y, by simp, rfl⟩
          · rcases ih (x :: xs) ys (by simp at hm ⊢; omega) e he with h | ⟨s, h, h'⟩
            · exact .inl h
            · exact .inr ⟨s, by simp [h], h'⟩
        · rw [decide_eq_false c1, cond_false] at he
          by_cases c2 : x.id < y.id
          · rw [decide_eq_true c2, cond_true] at he
            rcases List.mem_cons.1 he with rfl | he
            · exact .inl ⟨x, by simp, rfl⟩
            · rcases ih xs (y :: ys) (by simp at hm ⊢; omega) e he with ⟨s, h, h'⟩ | h
              · exact .inl ⟨s, by simp [h], h'⟩
              · exact .inr h
          · rw [decide_eq_false c2, cond_false] at he
            rcases List.mem_append.1 he with he | he
            · cases hd : diffB x y with
              | false => rw [hd] at he; cases he
              | true =>
                rw [hd] at he
                simp at he
                subst he
                exact .inr ⟨y, by simp, rfl⟩
            · rcases ih xs ys (by simp at hm ⊢; omega) e he with ⟨s, h, h'⟩ | ⟨s, h, h'⟩
              · exact .inl ⟨s, by simp [h], h'⟩
              · exact .inr ⟨s, by simp [h], h'⟩

theorem mrg_fine : ∀ (m : Nat) (xs ys : List Th), xs.length + ys.length ≤ m → Rising xs → Rising ys → (∀ x ∈ xs, x.ok = true) → (∀ y ∈ ys, y.ok = true) → (∀ e ∈ mrg xs ys, e.ok = true) ∧ (mrg xs ys).Pairwise (fun a b => a.id < b.id) := by
  intro m
  induction m with
  | zero =>
    intro xs ys hm _ _ _ _
    cases xs with
    | cons _ _ => simp at hm
    | nil =>
      cases ys with
      | cons _ _ => simp at hm
      | nil => rw [mrg]; exact ⟨fun _ h => (by cases h), List.Pairwise.nil⟩
  | succ m ih =>
    intro xs ys hm hx hy hox hoy
    have hcons : ∀ (e : Ev) (xs' ys' : List Th), mrg xs ys = e :: mrg xs' ys' → xs'.length + ys'.length ≤ m → Rising xs' → Rising ys' → (∀ x ∈ xs', x.ok = true) → (∀ y ∈ ys', y.ok = true) → e.ok = true → (∀ x ∈ xs', e.id < x.id) → (∀ y ∈ ys', e.id < y.id) →
        (∀ e ∈ mrg xs ys, e.ok = true) ∧ (mrg xs ys).Pairwise (fun a b => a.id < b.id) := by
      intro e xs' ys' h1 h2 h3 h4 h5 h6 h7 h8 h9
      obtain ⟨i1, i2⟩ := ih xs' ys' h2 h3 h4 h5 h6
      rw [h1]
      refine ⟨fun e' he => ?_, List.pairwise_cons.2 ⟨fun e' he => ?_, i2⟩⟩
      · rcases List.mem_cons.1 he with rfl | he
        · exact h7
        · exact i1 e' he
      · rcases mrg_ids _ xs' ys' (Nat.le_refl _) e' he with ⟨s, hs, e1⟩ | ⟨s, hs, e1⟩
        · rw [e1]; exact h8 s hs
        · rw [e1]; exact h9 s hs
    cases xs with
    | nil =>
      cases ys with
      | nil => rw [mrg]; exact ⟨fun _ h => (by cases h), List.Pairwise.nil⟩
      | cons y ys =>
        obtain ⟨hy1, hy2⟩ := hy.tail
        exact hcons (evEnter y) [] ys (by rw [mrg]) (by simp at hm ⊢; omega) hx hy1 hox (fun s hs => hoy s (by simp [hs])) (ok_enter (hoy y (by simp))) (fun _ h => by cases h) hy2
    | cons x xs =>
      obtain ⟨hx1, hx2⟩ := hx.tail
      have hxo := ok_ids (hox x (by simp))
      cases ys with
      | nil => exact hcons (evLeave x.id) xs [] (by rw [mrg]) (by simp at hm ⊢; omega) hx1 hy (fun s hs => hox s (by simp [hs])) hoy (ok_leave hxo.1 hxo.2) hx2 (fun _ h => by cases h)
      | cons y ys =>
        obtain ⟨hy1, hy2⟩ := hy.tail
        by_cases c1 : y.id < x.id
        · exact hcons (evEnter y) (x :: xs) ys (by rw [mrg, decide_eq_true c1]; rfl) (by simp at hm ⊢; omega) hx hy1 hox (fun s hs => hoy s (by simp [hs])) (ok_enter (hoy y (by simp))) (fun s hs => by
            rcases List.mem_cons.1 hs with rfl | hs
            · exact c1
            · have := hx2 s hs; show y.id < s.id; omega) hy2
        · by_cases c2 : x.id < y.id
          · exact hcons (evLeave x.id) xs (y :: ys) (by rw [mrg, decide_eq_false c1, decide_eq_true c2]; rfl) (by simp at hm ⊢; omega) hx1 hy (fun s hs => hox s (by simp [hs])) hoy (ok_leave hxo.1 hxo.2) hx2 (fun s hs => by
              rcases List.mem_cons.1 hs with rfl | hs
              · exact c2
              · have := hy2 s hs; show x.id < s.id; omega)
          · have hid : x.id = y.id := by omega
            have h0 := ih xs ys (by simp at hm ⊢; omega) hx1 hy1 (fun s hs => hox s (by simp [hs])) (fun s hs => hoy s (by simp [hs]))
            cases hd : diffB x y with
            | false =>
              rw [mrg, decide_eq_false c1, decide_eq_false c2, hd]
              exact h0
            | true => exact hcons (evUpdate (diffT x y)) xs ys (by rw [mrg, decide_eq_false c1, decide_eq_false c2, hd]; rfl) (by simp at hm ⊢; omega) hx1 hy1 (fun s hs => hox s (by simp [hs])) (fun s hs => hoy s (by simp [hs])) (ok_update (diff_ok (hoy y (by simp)) hd)) (fun s hs => by have := hx2 s hs; show y.id < s.id; omega) hy2

theorem diff_self (x : Th) : diffB x x = false := by simp [diffB, difP, difF]
theorem mrg_self (l : List Th) : mrg l l = [] := by
  induction l with
  | nil => rw [mrg]
  | cons x l ih => rw [mrg]; simp [diff_self, ih]

/-- Events that are any, rising. -/
def notRiseE (l : List Ev) (k : Nat) (e : Ev) : Bool := bif !e.ok then true else bif decide (0 < k) then decide (e.id ≤ (l.getD (k - 1) default).id) else false
theorem scan3 (n0 : Bool) (r0 : List (List AV)) (n1 : Bool) (r1 : List (List AV)) (n9 : Bool) (l : List Ev) (hl : l.length ≤ 9223372036854775807) (x0 x1 x2 x3 y0 y1 y2 y3 : Int) (hok : ∀ e ∈ l, e.ok = true) (hr : l.Pairwise fun a b => a.id < b.id) :
    w3_7 n0 r0 n1 r1 n9 (l.map Ev.enc) 0 x0 x1 x2 x3 y0 y1 y2 y3 = some 1 := by
  have hw : w3_7 n0 r0 n1 r1 n9 (l.map Ev.enc) 0 x0 x1 x2 x3 y0 y1 y2 y3 = some (bif allFrom (notRiseE l) l 0 then 1 else 0) := by
    refine scan (step := fun p : P3_7 => d3_7 n0 r0 n1 r1 n9 (l.map Ev.enc) x0 x1 x2 x3 y0 y1 y2 y3 p) l (notRiseE l) (fun k h => ?_) ?_
    · have h' : k < (l.map Ev.enc).length := by simpa using h
      show (d3_7 n0 r0 n1 r1 n9 (l.map Ev.enc) x0 x1 x2 x3 y0 y1 y2 y3 (k : Int)).val = _
      unfold d3_7
      rw [Dt.val_yes (by simpa using h), Dt.val_yes (idx_ok h'), toNat_cast, getD_map _ _ _ h, Dt.val_yes (epOk_ev _)]
      have hv := v25_eq l[k]
      have hv' : v25 (nth l[k].enc 0).intOf (nth l[k].enc 1).intOf (nth l[k].enc 2).intOf (nth l[k].enc 3).intOf (nth l[k].enc 4).intOf (nth l[k].enc 5).intOf (nth l[k].enc 6).strOf (nth l[k].enc 7).intOf (nth l[k].enc 8).strOf (nth l[k].enc 9).intOf (nth l[k].enc 10).strOf (nth l[k].enc 11).intOf (nth l[k].enc 12).strOf (nth l[k].enc 13).intOf (nth l[k].enc 14).intOf (nth l[k].enc 15).intOf (nth l[k].enc 16).intOf (nth l[k].enc 17).intOf (nth l[k].enc 18).strOf (nth l[k].enc 19).intOf (nth l[k].enc 20).strOf (nth l[k].enc 21).intOf (nth l[k].enc 22).strOf (nth l[k].enc 23).intOf (nth l[k].enc 24).strOf = some l[k].ok := hv
      rw [hv', Dt.val_some, Dt.val_br, next_ok h hl]
      unfold notRiseE
      cases l[k].ok with
      | false => rfl
      | true =>
        rw [show (!true) = false from rfl, cond_false, cond_false]
        cases k with
        | zero => rfl
        | succ k =>
          have hk : k < l.length := by omega
          have hk' : k < (l.map Ev.enc).length := by simpa using hk
          rw [Dt.val_yes (by simp), Dt.val_yes (idx_ok h'), Dt.val_yes (epOk_ev1 _), prev_ok (by omega), Dt.val_yes (idx_ok hk'), toNat_cast, getD_map _ _ _ hk, Dt.val_yes (epOk_ev1 _), Dt.val_br]
          have hg : l.getD (k + 1 - 1) default = l[k] := by simp [List.getD, hk]
          rw [hg, show decide (0 < k + 1) = true by simp, cond_true]
          show (bif decide (l[k + 1].id ≤ l[k].id) then _ else _) = _
          cases decide (l[k + 1].id ≤ l[k].id) <;> rfl
    · show (d3_7 n0 r0 n1 r1 n9 (l.map Ev.enc) x0 x1 x2 x3 y0 y1 y2 y3 (l.length : Int)).val = _
      unfold d3_7
      rw [Dt.val_no (by simp)]
      rfl
  have ha : allFrom (notRiseE l) l 0 = true := by
    rw [allFrom_iff]
    intro i hi
    unfold notRiseE
    rw [hok _ (List.getElem_mem hi)]
    cases i with
    | zero => rfl
    | succ i =>
      have hi' : i < l.length := by omega
      have hg : l.getD (0 + (i + 1) - 1) default = l[i] := by simp [List.getD, hi']
      rw [hg]
      have := List.pairwise_iff_getElem.1 hr i (i + 1) hi' hi (by omega)
      simp
      omega
  rw [ha] at hw
  exact hw

theorem v3_true (n m : Bool) (a b : List Th) (x0 x1 x2 x3 y0 y1 y2 y3 : Int) (ha : a.length ≤ 9223372036854775807) (hb : b.length ≤ 9223372036854775807) :
    v3 n (a.map Th.enc) m (b.map Th.enc) x0 x1 x2 x3 y0 y1 y2 y3 = some true := by
  unfold v3 d3
  rw [show v21 = some () from rfl, Dt.val_some, v22_eq n a ha, Dt.val_some]
  cases fa : (bif allFrom (fun _ (t : Th) => !t.few) a 0 then decide ((a.length : Int) ≤ 30) else false) with
  | false => rfl
  | true =>
  have la : a.length ≤ 30 := by
    cases h : allFrom (fun _ (t : Th) => !t.few) a 0 with
    | false => rw [h] at fa; cases fa
    | true => rw [h] at fa; simp at fa; omega
  refine (Dt.val_no rfl).trans ?_
  rw [v22_eq m b hb, Dt.val_some]
  cases fb : (bif allFrom (fun _ (t : Th) => !t.few) b 0 then decide ((b.length : Int) ≤ 30) else false) with
  | false => rfl
  | true =>
  have lb : b.length ≤ 30 := by
    cases h : allFrom (fun _ (t : Th) => !t.few) b 0 with
    | false => rw [h] at fb; cases fb
    | true => rw [h] at fb; simp at fb; omega
  refine (Dt.val_no rfl).trans ?_
  rw [v23_eq n a ha, Dt.val_some]
  cases ra : allFrom (notRise a) a 0 with
  | false => rfl
  | true =>
  refine (Dt.val_no rfl).trans ?_
  rw [v23_eq m b hb, Dt.val_some]
  cases rb : allFrom (notRise b) b 0 with
  | false => rfl
  | true =>
  refine (Dt.val_no rfl).trans ?_
  obtain ⟨oka, ria⟩ := rising_of ra
  obtain ⟨okb, rib⟩ := rising_of rb
  have sa : Rising (seen x0 x1 x2 x3 a) := List.Pairwise.filter _ ria
  have sb : Rising (seen y0 y1 y2 y3 b) := List.Pairwise.filter _ rib
  have oa : ∀ t ∈ seen x0 x1 x2 x3 a, t.ok = true := fun t ht => oka t ((List.mem_filter.1 ht).1)
  have ob : ∀ t ∈ seen y0 y1 y2 y3 b, t.ok = true := fun t ht => okb t ((List.mem_filter.1 ht).1)
  have l1 := seen_length x0 x1 x2 x3 a
  have l2 := seen_length y0 y1 y2 y3 b
  obtain ⟨n', h24, hn'⟩ := v24_eq n m a b x0 x1 x2 x3 y0 y1 y2 y3 (by omega) (by omega)
  obtain ⟨mo, mr⟩ := mrg_fine _ _ _ (Nat.le_refl _) sa sb oa ob
  have hml : (mrg (seen x0 x1 x2 x3 a) (seen y0 y1 y2 y3 b)).length ≤ 1000000000 := by
    have key : ∀ (m : Nat) (xs ys : List Th), xs.length + ys.length ≤ m → (mrg xs ys).length ≤ xs.length + ys.length := by
      intro m
      induction m with
      | zero =>
        intro xs ys hm
        cases xs with
        | cons _ _ => simp at hm
        | nil =>
          cases ys with
          | cons _ _ => simp at hm
          | nil => rw [mrg]; simp
      | succ m ih =>
        intro xs ys hm
        cases xs with
        | nil =>
          cases ys with
          | nil => rw [mrg]; simp
          | cons y ys => rw [mrg]; have := ih [] ys (by simp at hm ⊢; omega); simp at this ⊢; omega
        | cons x xs =>
          cases ys with
          | nil => rw [mrg]; have := ih xs [] (by simp at hm ⊢; omega); simp at this ⊢; omega
          | cons y ys =>
            have i1 := ih (x :: xs) ys (by simp at hm ⊢; omega)
            have i2 := ih xs (y :: ys) (by simp at hm ⊢; omega)
            have i3 := ih xs ys (by simp at hm ⊢; omega)
            rw [mrg]
            cases decide (y.id < x.id) <;> cases decide (x.id < y.id) <;> cases diffB x y <;> simp at i1 i2 i3 ⊢ <;> omega
    have := key _ _ _ (Nat.le_refl ((seen x0 x1 x2 x3 a).length + (seen y0 y1 y2 y3 b).length))
    omega
  rw [h24, Dt.val_some, Dt.val_ob]
  have h3 := scan3 n (a.map Th.enc) m (b.map Th.enc) n' (mrg (seen x0 x1 x2 x3 a) (seen y0 y1 y2 y3 b)) (by omega) x0 x1 x2 x3 y0 y1 y2 y3 mo mr
  rw [h3, Dt.val_some]
  refine (Dt.val_no rfl).trans ?_
  rw [v27_eq n a _ _ _ _ (by omega), Dt.val_some]
  obtain ⟨n2, hc, hn2⟩ := chain_mrg _ (seen x0 x1 x2 x3 a) (seen y0 y1 y2 y3 b) [] (seen x0 x1 x2 x3 a).isEmpty (Nat.le_refl _) sa sb (fun _ h => by cases h) oa ob (by simp) (by simp; omega)
  simp only [List.nil_append] at hc
  dsimp only
  rw [v26_eq (by simp) (by omega) (by omega) hc, Dt.val_some]
  refine (Dt.val_yes rfl).trans ?_
  rw [v27_eq m b _ _ _ _ (by omega), Dt.val_some]
  have h28 := v28_self n2 (seen y0 y1 y2 y3 b).isEmpty (seen y0 y1 y2 y3 b) (by omega)
  dsimp only
  rw [h28, Dt.val_some]
  refine (Dt.val_yes rfl).trans ?_
  obtain ⟨n3, h24', _⟩ := v24_eq n n a a x0 x1 x2 x3 x0 x1 x2 x3 (by omega) (by omega)
  rw [mrg_self] at h24'
  rw [h24']
  rfl
end Go.Ab
