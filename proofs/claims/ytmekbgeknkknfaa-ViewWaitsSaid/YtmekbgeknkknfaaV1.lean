/- Events upon rows that rise: whatever they are. -/
import Derived.Test.YtmekbgeknkknfaaQ6
set_option linter.unusedVariables false
set_option linter.unusedSimpArgs false
set_option linter.unusedSectionVars false
namespace Go.Ab

def preOf (l : List Th) (x : Int) : List Th := l.takeWhile fun t => decide (t.id < x)
def postOf (l : List Th) (x : Int) : List Th := l.dropWhile fun t => decide (t.id < x)
theorem pre_post (l : List Th) (x : Int) : preOf l x ++ postOf l x = l := List.takeWhile_append_dropWhile
theorem pre_lt {l : List Th} {x : Int} : ∀ t ∈ preOf l x, t.id < x := by
  intro t ht
  have : ∀ (l : List Th), t ∈ preOf l x → t.id < x := by
    intro l
    induction l with
    | nil => intro h; cases h
    | cons a l ih =>
      intro h
      unfold preOf at h
      rw [List.takeWhile_cons] at h
      split at h
      · rename_i hc
        rcases List.mem_cons.1 h with rfl | h
        · simpa using hc
        · exact ih h
      · cases h
  exact this l ht
theorem post_ge {x : Int} : ∀ {l : List Th}, Rising l → ∀ t ∈ postOf l x, x ≤ t.id
  | [], _, t, ht => by cases ht
  | a :: l, hr, t, ht => by
    unfold postOf at ht
    rw [List.dropWhile_cons] at ht
    obtain ⟨h1, h2⟩ := hr.tail
    split at ht
    · exact post_ge h1 t ht
    · rename_i hc
      simp only [decide_eq_true_eq] at hc
      rcases List.mem_cons.1 ht with rfl | ht
      · omega
      · have := h2 t ht; omega
theorem post_gt {l : List Th} {x : Int} (hr : Rising l) (hh : headIs x (postOf l x) = false) : ∀ t ∈ postOf l x, x < t.id := by
  have hrp : Rising (postOf l x) := by
    have h0 := pre_post l x
    unfold Rising at hr ⊢
    rw [← h0] at hr
    exact (List.pairwise_append.1 hr).2.1
  have hge := post_ge (x := x) hr
  intro t ht
  cases hp : postOf l x with
  | nil => rw [hp] at ht; cases ht
  | cons a p =>
    rw [hp] at ht hh hrp hge
    have ha : a.id ≠ x := by
      have : (a.id == x) = false := hh
      simpa using this
    have hax := hge a (by simp)
    rcases List.mem_cons.1 ht with rfl | ht
    · omega
    · have := hrp.tail.2 t ht; omega

/-- An event upon things. -/
def applyS (l : List Th) (e : Ev) : List Th × Bool :=
  bif !e.ok then (l, false) else bif headIs e.id (postOf l e.id) == (e.k == 1) then (l, false)
  else bif e.k == 1 then (preOf l e.id ++ e.t :: postOf l e.id, true)
  else bif e.k == 2 then (match postOf l e.id with | [] => (l, false) | x :: p => (preOf l e.id ++ x.app e.e :: p, true))
  else (match postOf l e.id with | [] => (l, false) | x :: p => (preOf l e.id ++ p, true))

theorem isZ_de {d : De} (h : d.isZ = true) : d = .zero := by
  unfold De.isZ at h
  simp only [Bool.and_eq_true, beq_iff_eq, and_true] at h
  obtain ⟨h1, h2, h3, h4, h5, h6, h7, h8, h9, h10, h11, h12⟩ := h
  cases d with
  | mk id m x y a b c d =>
    cases a; cases b; cases c; cases d
    simp only at *
    subst h1 h2 h3 h4 h5 h6 h7 h8 h9 h10 h11 h12
    rfl
theorem isZ_th {d : Th} (h : d.isZ = true) : d = .zero := by
  unfold Th.isZ at h
  simp only [Bool.and_eq_true, beq_iff_eq, and_true] at h
  obtain ⟨h1, h2, h3, h4, h5, h6, h7, h8, h9, h10, h11⟩ := h
  cases d with
  | mk id x y a b c d =>
    cases a; cases b; cases c; cases d
    simp only at *
    subst h1 h2 h3 h4 h5 h6 h7 h8 h9 h10 h11
    rfl
/-- An event is one of the three kinds. -/
theorem ev_kinds {e : Ev} (h : e.ok = true) : (∃ t, e = evEnter t ∧ t.ok = true) ∨ (∃ d, e = evUpdate d ∧ d.ok = true) ∨ ∃ id, e = evLeave id ∧ 0 ≤ id ∧ id ≤ 1000000 := by
  unfold Ev.ok at h
  cases e with
  | mk k id t d =>
    simp only at h
    cases h1 : (k == 1) with
    | true =>
      rw [h1, cond_true] at h
      cases h2 : t.ok with
      | false => rw [h2] at h; cases h
      | true =>
        rw [h2, cond_true] at h
        cases h3 : (id == t.id) with
        | false => rw [h3] at h; cases h
        | true =>
          rw [h3, cond_true] at h
          refine .inl ⟨t, ?_, h2⟩
          rw [isZ_de h, beq_iff_eq.1 h1, beq_iff_eq.1 h3]
          rfl
    | false =>
      rw [h1, cond_false] at h
      cases h1' : (k == 2) with
      | true =>
        rw [h1', cond_true] at h
        cases h2 : d.ok with
        | false => rw [h2] at h; cases h
        | true =>
          rw [h2, cond_true] at h
          cases h3 : (id == d.id) with
          | false => rw [h3] at h; cases h
          | true =>
            rw [h3, cond_true] at h
            refine .inr (.inl ⟨d, ?_, h2⟩)
            rw [isZ_th h, beq_iff_eq.1 h1', beq_iff_eq.1 h3]
            rfl
      | false =>
        rw [h1', cond_false] at h
        cases h1'' : (k == 3) with
        | false => rw [h1''] at h; cases h
        | true =>
          rw [h1'', cond_true] at h
          cases h2 : decide (0 ≤ id) with
          | false => rw [h2] at h; cases h
          | true =>
            rw [h2, cond_true] at h
            cases h3 : decide (id ≤ 1000000) with
            | false => rw [h3] at h; cases h
            | true =>
              rw [h3, cond_true] at h
              cases h4 : t.isZ with
              | false => rw [h4] at h; cases h
              | true =>
                rw [h4, cond_true] at h
                refine .inr (.inr ⟨id, ?_, by simpa using h2, by simpa using h3⟩)
                rw [isZ_de h, isZ_th h4, beq_iff_eq.1 h1'']
                rfl

theorem v68_all {n : Bool} {l : List Th} (e : Ev) (hn : n = true → l = []) (hl : l.length ≤ 268435455) (hr : Rising l) :
    ap n l e = some (bif (applyS l e).2 then false else n, (applyS l e).1.map Th.enc, (applyS l e).2) := by
  have h0 := pre_post l e.id
  have h1 := pre_lt (l := l) (x := e.id)
  have h2 := post_ge (x := e.id) hr
  have hv : v109 n (l.map Th.enc) e.id = some (((preOf l e.id).length : Int), headIs e.id (postOf l e.id)) := by
    have := v109_eq n (preOf l e.id) (postOf l e.id) e.id (by rw [h0]; omega) h1 h2
    rwa [h0] at this
  have h88 := v88_eq (n := n) (l := l) hn (by omega)
  have h25 := v25_eq e
  unfold applyS
  cases ho : e.ok with
  | false =>
    unfold ap v68 d68
    rw [hv, Dt.val_some, h25, ho, Dt.val_some]
    refine (Dt.val_yes rfl).trans ?_
    rw [h88]
    rfl
  | true =>
    cases hf : (headIs e.id (postOf l e.id) == (e.k == 1)) with
    | true =>
      unfold ap v68 d68
      rw [hv, Dt.val_some, h25, ho, Dt.val_some]
      refine (Dt.val_no rfl).trans ?_
      refine (Dt.val_yes hf).trans ?_
      rw [h88]
      rfl
    | false =>
      rcases ev_kinds ho with ⟨t, rfl, ht⟩ | ⟨d, rfl, hd⟩ | ⟨id, rfl, hi0, hi1⟩
      · have hh : headIs t.id (postOf l t.id) = false := by
          have : (headIs t.id (postOf l t.id) == true) = false := hf
          simpa using this
        have := v68_enter (n := n) (pre := preOf l t.id) (post := postOf l t.id) (t := t) (by rw [pre_post]; exact hn) (by rw [pre_post]; exact hl) pre_lt (post_gt hr hh) ht
        rw [pre_post] at this
        exact this
      · have hh : headIs d.id (postOf l d.id) = true := by
          have : (headIs d.id (postOf l d.id) == false) = false := hf
          simpa using this
        have hr' : ∀ t ∈ postOf l d.id, d.id ≤ t.id := post_ge hr
        have hpp := pre_post l d.id
        have hlt : ∀ t ∈ preOf l d.id, t.id < d.id := pre_lt
        show ap n l (evUpdate d) = some (bif ((match postOf l d.id with | [] => (l, false) | x :: p => (preOf l d.id ++ x.app d :: p, true)) : List Th × Bool).2 then false else n, ((match postOf l d.id with | [] => (l, false) | x :: p => (preOf l d.id ++ x.app d :: p, true)) : List Th × Bool).1.map Th.enc, ((match postOf l d.id with | [] => (l, false) | x :: p => (preOf l d.id ++ x.app d :: p, true)) : List Th × Bool).2)
        cases hp : postOf l d.id with
        | nil => rw [hp] at hh; cases hh
        | cons x p =>
          rw [hp] at hh hr' hpp
          have hid : d.id = x.id := by
            have : (x.id == d.id) = true := hh
            exact (beq_iff_eq.1 this).symm
          have := v68_update (n := n) (pre := preOf l d.id) (post := p) (x := x) (d := d) (by rw [hpp]; exact hn) (by rw [hpp]; omega) (fun s hs => by rw [← hid]; exact hlt s hs) (fun s hs => by rw [← hid]; exact hr' s (by simp [hs])) hd hid
          rw [hpp] at this
          exact this
      · have hh : headIs id (postOf l id) = true := by
          have : (headIs id (postOf l id) == false) = false := hf
          simpa using this
        have hr' : ∀ t ∈ postOf l id, id ≤ t.id := post_ge hr
        have hpp := pre_post l id
        have hlt : ∀ t ∈ preOf l id, t.id < id := pre_lt
        show ap n l (evLeave id) = some (bif ((match postOf l id with | [] => (l, false) | x :: p => (preOf l id ++ p, true)) : List Th × Bool).2 then false else n, ((match postOf l id with | [] => (l, false) | x :: p => (preOf l id ++ p, true)) : List Th × Bool).1.map Th.enc, ((match postOf l id with | [] => (l, false) | x :: p => (preOf l id ++ p, true)) : List Th × Bool).2)
        cases hp : postOf l id with
        | nil => rw [hp] at hh; cases hh
        | cons x p =>
          rw [hp] at hh hr' hpp
          have hid : x.id = id := by
            have : (x.id == id) = true := hh
            exact beq_iff_eq.1 this
          have := v68_leave (n := n) (pre := preOf l id) (post := p) (x := x) (by rw [hpp]; exact hn) (by rw [hpp]; omega) (fun s hs => by rw [hid]; exact hlt s hs) (fun s hs => by rw [hid]; exact hr' s (by simp [hs])) (by omega) (by omega)
          rw [hpp, hid] at this
          exact this

theorem app_id (x : Th) (d : De) : (x.app d).id = x.id := rfl
/-- What rises goes on rising. -/
theorem applyS_rising {l : List Th} (e : Ev) (hr : Rising l) : Rising (applyS l e).1 ∧ (applyS l e).1.length ≤ l.length + 1 := by
  have hpp := pre_post l e.id
  have hlt : ∀ t ∈ preOf l e.id, t.id < e.id := pre_lt
  have hge : ∀ t ∈ postOf l e.id, e.id ≤ t.id := post_ge hr
  have hrr : Rising (preOf l e.id ++ postOf l e.id) := by rw [hpp]; exact hr
  have hlen : (preOf l e.id).length + (postOf l e.id).length = l.length := by rw [← List.length_append, hpp]
  unfold applyS
  cases ho : e.ok with
  | false => exact ⟨hr, Nat.le_succ _⟩
  | true =>
    cases hf : (headIs e.id (postOf l e.id) == (e.k == 1)) with
    | true => exact ⟨hr, Nat.le_succ _⟩
    | false =>
      simp only [Bool.not_true, cond_false]
      rcases ev_kinds ho with ⟨t, rfl, ht⟩ | ⟨d, rfl, hd⟩ | ⟨id, rfl, hi0, hi1⟩
      · have hh : headIs t.id (postOf l t.id) = false := by
          have : (headIs t.id (postOf l t.id) == true) = false := hf
          simpa using this
        have hgt := post_gt hr hh
        show Rising (preOf l t.id ++ t :: postOf l t.id) ∧ (preOf l t.id ++ t :: postOf l t.id).length ≤ _
        refine ⟨?_, by rw [List.length_append, List.length_cons]; show (preOf l t.id).length + ((postOf l t.id).length + 1) ≤ _; have := hlen; simp only [evEnter] at this; omega⟩
        unfold Rising at hrr ⊢
        rw [List.pairwise_append] at hrr ⊢
        refine ⟨hrr.1, List.pairwise_cons.2 ⟨fun s hs => hgt s hs, hrr.2.1⟩, fun a ha b hb => ?_⟩
        rcases List.mem_cons.1 hb with rfl | hb
        · exact hlt a ha
        · exact hrr.2.2 a ha b hb
      · show Rising ((match postOf l d.id with | [] => (l, false) | x :: p => (preOf l d.id ++ x.app d :: p, true)) : List Th × Bool).1 ∧ ((match postOf l d.id with | [] => (l, false) | x :: p => (preOf l d.id ++ x.app d :: p, true)) : List Th × Bool).1.length ≤ _
        simp only [evUpdate] at hpp hlt hge hrr hlen
        cases hp : postOf l d.id with
        | nil => exact ⟨hr, Nat.le_succ _⟩
        | cons x p =>
          rw [hp] at hrr hlen
          simp only [List.length_append, List.length_cons] at hlen ⊢
          refine ⟨?_, by omega⟩
          unfold Rising at hrr ⊢
          rw [List.pairwise_append, List.pairwise_cons] at hrr ⊢
          refine ⟨hrr.1, ⟨fun s hs => hrr.2.1.1 s hs, hrr.2.1.2⟩, fun a ha b hb => ?_⟩
          rcases List.mem_cons.1 hb with rfl | hb
          · exact hrr.2.2 a ha x (by simp)
          · exact hrr.2.2 a ha b (by simp [hb])
      · show Rising ((match postOf l id with | [] => (l, false) | x :: p => (preOf l id ++ p, true)) : List Th × Bool).1 ∧ ((match postOf l id with | [] => (l, false) | x :: p => (preOf l id ++ p, true)) : List Th × Bool).1.length ≤ _
        simp only [evLeave] at hpp hlt hge hrr hlen
        cases hp : postOf l id with
        | nil => exact ⟨hr, Nat.le_succ _⟩
        | cons x p =>
          rw [hp] at hrr hlen
          simp only [List.length_append, List.length_cons] at hlen ⊢
          refine ⟨?_, by omega⟩
          unfold Rising at hrr ⊢
          rw [List.pairwise_append] at hrr ⊢
          exact ⟨hrr.1, (List.pairwise_cons.1 hrr.2.1).2, fun a ha b hb => hrr.2.2 a ha b (by simp [hb])⟩

/-- Events upon things, one behind the other. -/
def foldS (l : List Th) : List Ev → List Th × Bool
  | [] => (l, true)
  | e :: es => bif (applyS l e).2 then foldS (applyS l e).1 es else ((applyS l e).1, false)

theorem foldS_rising : ∀ (es : List Ev) {l : List Th}, Rising l → Rising (foldS l es).1 ∧ (foldS l es).1.length ≤ l.length + es.length
  | [], l, hr => ⟨hr, Nat.le_refl _⟩
  | e :: es, l, hr => by
    obtain ⟨h1, h2⟩ := applyS_rising e hr
    simp only [foldS, List.length_cons]
    cases (applyS l e).2 with
    | true =>
      obtain ⟨h3, h4⟩ := foldS_rising es h1
      exact ⟨h3, by rw [cond_true]; omega⟩
    | false => exact ⟨h1, by rw [cond_false]; show (applyS l e).1.length ≤ _; omega⟩

theorem foldAll_loop (n0 : Bool) (r0 : List (List AV)) (m : Bool) (full : List Ev) (hf : full.length ≤ 268435000) :
    ∀ (es : List Ev) (pre : List Ev) (n : Bool) (l : List Th), pre ++ es = full → (n = true → l = []) → Rising l → l.length + es.length ≤ 268435455 →
      ∃ n', loopV (fun p : P26_3 => d26_3 n0 r0 m (full.map Ev.enc) ((full.map Ev.enc).length : Int) p.1 p.2.1 p.2.2.1 p.2.2.2) (n, l.map Th.enc, true, (pre.length : Int)) = some (n', (foldS l es).1.map Th.enc, (foldS l es).2) ∧
        ((foldS l es).2 = true → n' = bif es.isEmpty then n else false) := by
  intro es
  induction es with
  | nil =>
    intro pre n l hp hn hr hl
    refine ⟨n, ?_, fun _ => rfl⟩
    refine loopV_inr ?_
    have : pre = full := by simpa using hp
    subst this
    show (d26_3 n0 r0 m (pre.map Ev.enc) ((pre.map Ev.enc).length : Int) n (l.map Th.enc) true (pre.length : Int)).val = _
    unfold d26_3
    rw [Dt.val_no (by simp)]
    rfl
  | cons e es ih =>
    intro pre n l hp hn hr hl
    have hk : pre.length < full.length := by rw [← hp]; simp
    have hk' : pre.length < (full.map Ev.enc).length := by simpa using hk
    have hg : full[pre.length] = e := by
      have : (pre ++ e :: es)[pre.length]'(by simp) = e := by simp
      simpa [hp] using this
    simp only [List.length_cons] at hl
    have h1 := v68_all (n := n) (l := l) e hn (by omega) hr
    obtain ⟨hr1, hl1⟩ := applyS_rising e hr
    have hs : (d26_3 n0 r0 m (full.map Ev.enc) ((full.map Ev.enc).length : Int) n (l.map Th.enc) true (pre.length : Int)).val =
        bif !(applyS l e).2 then some (.inr (bif (applyS l e).2 then false else n, (applyS l e).1.map Th.enc, (applyS l e).2)) else some (.inl (bif (applyS l e).2 then false else n, (applyS l e).1.map Th.enc, (applyS l e).2, ((pre.length + 1 : Nat) : Int))) := by
      unfold d26_3
      rw [Dt.val_yes (by simpa using hk), Dt.val_yes (idx_ok hk'), toNat_cast, getD_map _ _ _ hk, hg, Dt.val_yes (epOk_ev _)]
      have hv : v68 n (l.map Th.enc) (nth e.enc 0).intOf (nth e.enc 1).intOf (nth e.enc 2).intOf (nth e.enc 3).intOf (nth e.enc 4).intOf (nth e.enc 5).intOf (nth e.enc 6).strOf (nth e.enc 7).intOf (nth e.enc 8).strOf (nth e.enc 9).intOf (nth e.enc 10).strOf (nth e.enc 11).intOf (nth e.enc 12).strOf (nth e.enc 13).intOf (nth e.enc 14).intOf (nth e.enc 15).intOf (nth e.enc 16).intOf (nth e.enc 17).intOf (nth e.enc 18).strOf (nth e.enc 19).intOf (nth e.enc 20).strOf (nth e.enc 21).intOf (nth e.enc 22).strOf (nth e.enc 23).intOf (nth e.enc 24).strOf = some (bif (applyS l e).2 then false else n, (applyS l e).1.map Th.enc, (applyS l e).2) := h1
      rw [hv, Dt.val_some, next_ok hk (by omega)]
      rfl
    cases ha : (applyS l e).2 with
    | false =>
      rw [ha] at hs
      refine ⟨n, ?_, fun h => ?_⟩
      · rw [loopV_inr (step := fun p : P26_3 => d26_3 n0 r0 m (full.map Ev.enc) ((full.map Ev.enc).length : Int) p.1 p.2.1 p.2.2.1 p.2.2.2) hs]
        simp only [foldS, ha, cond_false]
      · simp only [foldS, ha, cond_false] at h
        cases h
    | true =>
      rw [ha] at hs
      rw [loopV_inl (step := fun p : P26_3 => d26_3 n0 r0 m (full.map Ev.enc) ((full.map Ev.enc).length : Int) p.1 p.2.1 p.2.2.1 p.2.2.2) hs]
      obtain ⟨n', i1, i2⟩ := ih (pre ++ [e]) false (applyS l e).1 (by simpa using hp) (fun h => by cases h) hr1 (by omega)
      refine ⟨n', ?_, fun h => ?_⟩
      · simp only [foldS, ha, cond_true]
        rw [← i1]
        simp
      · simp only [foldS, ha, cond_true] at h
        rw [i2 h]
        cases es <;> rfl

theorem v26_all {n m : Bool} {l : List Th} {es : List Ev} (hn : n = true → l = []) (hr : Rising l) (hl : l.length + es.length ≤ 268435000) :
    v26 n (l.map Th.enc) m (es.map Ev.enc) = some (bif (foldS l es).2 then (bif es.isEmpty then n else false) else n, (bif (foldS l es).2 then (foldS l es).1 else l).map Th.enc, (foldS l es).2) := by
  obtain ⟨n', h1, h2⟩ := foldAll_loop n (l.map Th.enc) m es (by omega) es [] n l rfl hn hr (by omega)
  have hw : w26_3 n (l.map Th.enc) n (l.map Th.enc) true m (es.map Ev.enc) ((es.map Ev.enc).length : Int) 0 = some (n', (foldS l es).1.map Th.enc, (foldS l es).2) := h1
  unfold v26 d26
  rw [v88_eq hn (by omega), Dt.val_some, Dt.val_ob, hw, Dt.val_some]
  cases hb : (foldS l es).2 with
  | true =>
    rw [h2 hb]
    rfl
  | false => rfl
end Go.Ab
