/- ViewWaits is true: the code's loop. -/
import Derived.Test.YtmekbgeknkknfaaV4
set_option linter.unusedVariables false
set_option linter.unusedSimpArgs false
set_option linter.unusedSectionVars false
namespace Go.Ab
open Go.Proofs

theorem tmod_nat (a b : Nat) : ((a : Int).tmod (b : Int)) = ((a % b : Nat) : Int) := rfl
theorem tdiv_nat (a b : Nat) : ((a : Int).tdiv (b : Int)) = ((a / b : Nat) : Int) := rfl
theorem wrap_nat {a : Nat} (h : a ≤ 9223372036854775807) : wrapF .i64 (a : Int) = (a : Int) := wrap_i64 (by omega) (by omega)
theorem nat_ne0 {k : Nat} (h : 0 < k) : (!((k : Int) == 0)) = true := by
  have : ((k : Int) == 0) = false := by rw [beq_eq_false_iff_ne]; omega
  rw [this]
  rfl

theorem dec_ok {g : Nat} (h : g ≤ 1000) : wrapF .i64 ((g : Int) - 1) = (g : Int) - 1 := wrap_i64 (by omega) (by omega)
theorem sub_ok {a b : Nat} (h : a ≤ 1000) (h' : b ≤ 1000) : wrapF .i64 ((a : Int) - 1 - (b : Int)) = (a : Int) - 1 - (b : Int) := wrap_i64 (by omega) (by omega)
theorem wait_cnt {w kb g : Nat} (h : w + 1 + g = kb) : ((w : Int) == (kb : Int) - 1 - (g : Int)) = true := by rw [beq_iff_eq]; omega

theorem waits_loop (k b t : Nat) (hk0 : 0 < k) (hk : k ≤ 4) (hb : b ≤ 8) : ∀ (m i : Nat) (s s' : Wv), k * b - i = m → i ≤ k * b → VsOk s.v → mT s.v ≤ i → mL s.v ≤ i → runW k t (List.range' i (k * b - i)) s = some s' →
    (loopV (fun p : P6_7 => d6_7 (k : Int) (b : Int) (t : Int) 0 1 (k : Int) p.1 p.2.1 p.2.2.1 p.2.2.2.1 p.2.2.2.2.1 p.2.2.2.2.2.1 p.2.2.2.2.2.2.1 p.2.2.2.2.2.2.2) ((i : Int), encW s.v.w, s.b, s.s, s.v.tn, s.v.th.map Th.enc, s.v.ln, s.v.log.map Ev.enc) =
      some ((1, default, default, default, default, default, default, default, encW s'.v.w, s'.b, s'.s, s'.v.tn, s'.v.th.map Th.enc, s'.v.ln, s'.v.log.map Ev.enc) : Y6_7)) ∧ VsOk s'.v ∧ mT s'.v ≤ k * b ∧ mL s'.v ≤ k * b := by
  have hkb : k * b ≤ 32 := by
    have := Nat.mul_le_mul hk hb
    omega
  intro m
  induction m with
  | zero =>
    intro i s s' hm hi hs h1 h2 hr
    have hie : i = k * b := by omega
    subst hie
    rw [Nat.sub_self] at hr
    simp only [List.range'_zero, runW, Option.some.injEq] at hr
    subst hr
    refine ⟨?_, hs, h1, h2⟩
    refine loopV_inr ?_
    show (d6_7 (k : Int) (b : Int) (t : Int) 0 1 (k : Int) ((k * b : Nat) : Int) (encW s.v.w) s.b s.s s.v.tn (s.v.th.map Th.enc) s.v.ln (s.v.log.map Ev.enc)).val = _
    unfold d6_7
    rw [show ((k : Int) * (b : Int)) = ((k * b : Nat) : Int) from rfl, wrap_nat (by omega), Dt.val_no (by simp)]
    rfl
  | succ m ih =>
    intro i s s' hm hi hs h1 h2 hr
    have hlt : i < k * b := by omega
    rw [show k * b - i = (k * b - (i + 1)) + 1 by omega, List.range'_succ] at hr
    simp only [runW] at hr
    have hnext : wrapF .i64 ((i : Int) + 1) = ((i + 1 : Nat) : Int) := next_ok hlt (by omega)
    by_cases hit : i = t
    · subst hit
      rw [show Nat.beq i i = true from Nat.beq_refl i, cond_true] at hr
      have hstep : (d6_7 (k : Int) (b : Int) (i : Int) 0 1 (k : Int) (i : Int) (encW s.v.w) s.b s.s s.v.tn (s.v.th.map Th.enc) s.v.ln (s.v.log.map Ev.enc)).val = some (.inl (((i + 1 : Nat) : Int), encW s.v.w, s.b, s.s, s.v.tn, s.v.th.map Th.enc, s.v.ln, s.v.log.map Ev.enc)) := by
        unfold d6_7
        rw [show ((k : Int) * (b : Int)) = ((k * b : Nat) : Int) from rfl, wrap_nat (by omega), Dt.val_yes (decide_eq_true (by omega)), Dt.val_no (by simp), hnext]
        rfl
      obtain ⟨q1, q2⟩ := ih (i + 1) s s' (by omega) (by omega) hs (by omega) (by omega) hr
      refine ⟨?_, q2⟩
      refine (loopV_inl (step := fun p : P6_7 => d6_7 (k : Int) (b : Int) (i : Int) 0 1 (k : Int) p.1 p.2.1 p.2.2.1 p.2.2.2.1 p.2.2.2.2.1 p.2.2.2.2.2.1 p.2.2.2.2.2.2.1 p.2.2.2.2.2.2.2) (p := ((i : Int), encW s.v.w, s.b, s.s, s.v.tn, s.v.th.map Th.enc, s.v.ln, s.v.log.map Ev.enc)) hstep).trans ?_
      exact q1
    · have hne : Nat.beq i t = false := by
        cases h : Nat.beq i t with
        | false => rfl
        | true => exact absurd (Nat.eq_of_beq_eq_true h) hit
      rw [hne, cond_false] at hr
      cases htk : (takeW k s i).1 with
      | false => rw [htk] at hr; cases hr
      | true =>
        rw [htk, cond_true] at hr
        have h33 := v33_eq 0 1 k hk0 (by omega) s.b s.s s.v hs ((i % k : Nat) : Int) 0 1 0 ((i / k : Nat) : Int) false [evEnter (thX (i : Int))] (fun h => by cases h) (by show mT s.v + 1 ≤ _; omega) (by show mL s.v + 1 ≤ _; omega)
        obtain ⟨o1, o2, o3⟩ := take_m 0 1 k s.b s.s hs ((i % k : Nat) : Int) 0 1 0 ((i / k : Nat) : Int) false [evEnter (thX (i : Int))] (by show mT s.v + 1 ≤ _; omega) (by show mL s.v + 1 ≤ _; omega)
        have htk' : (takeV 0 1 k s.b s.s s.v ((i % k : Nat) : Int) 0 1 0 ((i / k : Nat) : Int) false [evEnter (thX (i : Int))]).1 = true := htk
        rw [htk'] at h33
        have hdiv : i / k ≤ 32 := Nat.le_trans (Nat.div_le_self i k) (by omega)
        have hstep : (d6_7 (k : Int) (b : Int) (t : Int) 0 1 (k : Int) (i : Int) (encW s.v.w) s.b s.s s.v.tn (s.v.th.map Th.enc) s.v.ln (s.v.log.map Ev.enc)).val =
            some (.inl (((i + 1 : Nat) : Int), encW (takeW k s i).2.v.w, (takeW k s i).2.b, (takeW k s i).2.s, (takeW k s i).2.v.tn, (takeW k s i).2.v.th.map Th.enc, (takeW k s i).2.v.ln, (takeW k s i).2.v.log.map Ev.enc)) := by
          unfold d6_7
          rw [show ((k : Int) * (b : Int)) = ((k * b : Nat) : Int) from rfl, wrap_nat (by omega), Dt.val_yes (decide_eq_true (by omega)), Dt.val_yes (by rw [show ((i : Int) == (t : Int)) = false by rw [beq_eq_false_iff_ne]; omega]; rfl), Dt.val_yes (nat_ne0 hk0), Dt.val_yes (nat_ne0 hk0), v41_eq, Dt.val_some, tmod_nat, tdiv_nat, wrap_nat (by omega), h33, Dt.val_some, hnext]
          rfl
        obtain ⟨q1, q2⟩ := ih (i + 1) (takeW k s i).2 s' (by omega) (by omega) o1 (by show mT (takeV 0 1 k s.b s.s s.v ((i % k : Nat) : Int) 0 1 0 ((i / k : Nat) : Int) false [evEnter (thX (i : Int))]).2.2.2 ≤ _; simp only [List.length_singleton] at o2; omega) (by show mL (takeV 0 1 k s.b s.s s.v ((i % k : Nat) : Int) 0 1 0 ((i / k : Nat) : Int) false [evEnter (thX (i : Int))]).2.2.2 ≤ _; simp only [List.length_singleton] at o3; omega) hr
        refine ⟨?_, q2⟩
        refine (loopV_inl (step := fun p : P6_7 => d6_7 (k : Int) (b : Int) (t : Int) 0 1 (k : Int) p.1 p.2.1 p.2.2.1 p.2.2.2.1 p.2.2.2.2.1 p.2.2.2.2.2.1 p.2.2.2.2.2.2.1 p.2.2.2.2.2.2.2) (p := ((i : Int), encW s.v.w, s.b, s.s, s.v.tn, s.v.th.map Th.enc, s.v.ln, s.v.log.map Ev.enc)) hstep).trans ?_
        exact q1

theorem v37_eq (m : List (List AV × AV)) (c0 c1 c2 c3 c4 : Int) (v : Vs) (hv : VsOk v) (ln : Bool) (lg : List (List AV)) : v37 m c0 c1 c2 c3 c4 v.tn (v.th.map Th.enc) ln lg = some (v.tn, v.th.map Th.enc) := by
  have := hv.t
  unfold v37 d37
  rw [Dt.val_yes (by simp), v88_eq hv.tn (by omega), Dt.val_some]
  rfl

theorem v6_true {x0 x1 x2 : Int} (h0 : 0 ≤ x0) (h0' : x0 ≤ 255) (h1 : 0 ≤ x1) (h1' : x1 ≤ 255) (h2 : 0 ≤ x2) (h2' : x2 ≤ 255) : ∃ r, v6 x0 x1 x2 = some (true, r) := by
  obtain ⟨X0, rfl⟩ := Int.eq_ofNat_of_zero_le h0
  obtain ⟨X1, rfl⟩ := Int.eq_ofNat_of_zero_le h1
  obtain ⟨X2, rfl⟩ := Int.eq_ofNat_of_zero_le h2
  have ha : X0 % 3 < 3 := Nat.mod_lt _ (by decide)
  have hb : X1 % 8 < 8 := Nat.mod_lt _ (by decide)
  generalize hk : X0 % 3 + 2 = k
  generalize hbb : X1 % 8 + 1 = b
  have hk0 : 0 < k := by omega
  have hb0 : 0 < b := by omega
  have hk4 : k ≤ 4 := by omega
  have hb8 : b ≤ 8 := by omega
  have hkb : k * b ≤ 32 := by
    have := Nat.mul_le_mul hk4 hb8
    omega
  have hkb0 : 0 < k * b := Nat.mul_pos hk0 hb0
  generalize ht : X2 % (k * b) = t
  have htl : t < k * b := by rw [← ht]; exact Nat.mod_lt _ hkb0
  have hc : checkW k b t = true := by
    have := List.all_eq_true.1 all_check (X0 % 3) (List.mem_range.2 ha)
    have := List.all_eq_true.1 this (X1 % 8) (List.mem_range.2 hb)
    rw [hk, hbb] at this
    exact List.all_eq_true.1 this t (List.mem_range.2 htl)
  have ek : wrapF .i64 (wrapF .i64 ((X0 : Int).tmod 3) + 2) = (k : Int) := by
    rw [show ((X0 : Int).tmod 3) = ((X0 % 3 : Nat) : Int) from rfl, wrap_nat (a := X0 % 3) (by omega), show (((X0 % 3 : Nat) : Int) + 2) = ((X0 % 3 + 2 : Nat) : Int) from rfl, hk, wrap_nat (by omega)]
  have eb : wrapF .i64 (wrapF .i64 ((X1 : Int).tmod 8) + 1) = (b : Int) := by
    rw [show ((X1 : Int).tmod 8) = ((X1 % 8 : Nat) : Int) from rfl, wrap_nat (a := X1 % 8) (by omega), show (((X1 % 8 : Nat) : Int) + 1) = ((X1 % 8 + 1 : Nat) : Int) from rfl, hbb, wrap_nat (by omega)]
  have ekb : wrapF .i64 ((k : Int) * (b : Int)) = ((k * b : Nat) : Int) := by
    rw [show ((k : Int) * (b : Int)) = ((k * b : Nat) : Int) from rfl, wrap_nat (by omega)]
  have et : (wrapF .i64 (X2 : Int)).tmod ((k * b : Nat) : Int) = (t : Int) := by
    rw [wrap_nat (by omega), tmod_nat, ht]
  have htk : t / k ≤ 32 := Nat.le_trans (Nat.div_le_self t k) (by omega)
  have htkk : t / k * k ≤ t := Nat.div_mul_le_self t k
  have eg : wrapF .i64 ((t : Int).tdiv (k : Int)) = ((t / k : Nat) : Int) := by
    rw [tdiv_nat]
    exact wrap_nat (by omega)
  have eg1 : wrapF .i64 (((t / k : Nat) : Int) - 1) = ((t / k : Nat) : Int) - 1 := dec_ok (by omega)
  have egk : wrapF .i64 (((t / k : Nat) : Int) * (k : Int)) = ((t / k * k : Nat) : Int) := by
    rw [show (((t / k : Nat) : Int) * (k : Int)) = ((t / k * k : Nat) : Int) from rfl, wrap_nat (by omega)]
  have ew1 : wrapF .i64 (((k * b : Nat) : Int) - 1) = ((k * b : Nat) : Int) - 1 := wrap_i64 (by omega) (by omega)
  have ew2 : wrapF .i64 (((k * b : Nat) : Int) - 1 - ((t / k * k : Nat) : Int)) = ((k * b : Nat) : Int) - 1 - ((t / k * k : Nat) : Int) := sub_ok (by omega) (by omega)
  have eb1 : wrapF .i64 ((b : Int) - 1) = (b : Int) - 1 := wrap_i64 (by omega) (by omega)
  have etm : ((t : Int).tmod (k : Int)) = ((t % k : Nat) : Int) := tmod_nat t k
  have e31 : v31 0 1 (k : Int) = some (k : Int) := by
    show some (if (4 : Int) < (if (1 : Int) > (k : Int) then 1 else (k : Int)) then (4 : Int) else (if (1 : Int) > (k : Int) then 1 else (k : Int))) = _
    rw [if_neg (by omega : ¬ (1 : Int) > (k : Int)), if_neg (by omega : ¬ (4 : Int) < (k : Int))]
  -- the frames but one
  unfold checkW at hc
  cases hr : runW k t (List.range (k * b)) wv0 with
  | none => rw [hr] at hc; cases hc
  | some s =>
    rw [hr] at hc
    simp only [Bool.and_eq_true, decide_eq_true_eq] at hc
    obtain ⟨c1, c2, c3, c4, c5, c6, c7⟩ := hc
    replace c2 := Nat.eq_of_beq_eq_true c2
    replace c3 := Nat.eq_of_beq_eq_true c3
    replace c6 := Nat.eq_of_beq_eq_true c6
    replace c7 := Nat.eq_of_beq_eq_true c7
    rw [List.range_eq_range'] at hr
    obtain ⟨q1, q2, q3, q4⟩ := waits_loop k b t hk0 hk4 hb8 (k * b) 0 wv0 s (by omega) (by omega) ok0 (Nat.le_refl _) (Nat.le_refl _) (by rw [Nat.sub_zero]; exact hr)
    have hw : w6_7 (k : Int) (b : Int) (t : Int) 0 [] 0 1 (k : Int) (-1) (-1) true [] true [] = some ((1, default, default, default, default, default, default, default, encW s.v.w, s.b, s.s, s.v.tn, s.v.th.map Th.enc, s.v.ln, s.v.log.map Ev.enc) : Y6_7) := q1
    -- the one that lacked
    have h33 := v33_eq 0 1 k hk0 (by omega) s.b s.s s.v q2 ((t % k : Nat) : Int) 0 1 0 ((t / k : Nat) : Int) false [evEnter (thX (t : Int))] (fun h => by cases h) (by show mT s.v + 1 ≤ _; omega) (by show mL s.v + 1 ≤ _; omega)
    obtain ⟨o1, o2, o3⟩ := take_m 0 1 k s.b s.s q2 ((t % k : Nat) : Int) 0 1 0 ((t / k : Nat) : Int) false [evEnter (thX (t : Int))] (by show mT s.v + 1 ≤ _; omega) (by show mL s.v + 1 ≤ _; omega)
    have h33' : v33 ((t % k : Nat) : Int) 0 1 0 ((t / k : Nat) : Int) false ([evEnter (thX (t : Int))].map Ev.enc) (encW s.v.w) 0 1 (k : Int) s.b s.s s.v.tn (s.v.th.map Th.enc) s.v.ln (s.v.log.map Ev.enc) =
        some ((takeW k s t).1, encW (takeW k s t).2.v.w, (takeW k s t).2.b, (takeW k s t).2.s, (takeW k s t).2.v.tn, (takeW k s t).2.v.th.map Th.enc, (takeW k s t).2.v.ln, (takeW k s t).2.v.log.map Ev.enc) := h33
    rw [c4] at h33'
    have o1' : VsOk (takeW k s t).2.v := o1
    refine ⟨(encW (takeW k s t).2.v.w, (k : Int), (takeW k s t).2.b, (takeW k s t).2.s, (takeW k s t).2.v.tn, (takeW k s t).2.v.th.map Th.enc, (takeW k s t).2.v.ln, (takeW k s t).2.v.log.map Ev.enc), ?_⟩
    unfold v6 d6
    simp only [ek, eb, ekb, et, eg, eg1, egk, ew1, ew2, eb1, etm]
    rw [show v29 = some () from rfl, Dt.val_some, Dt.val_yes (nat_ne0 hkb0), e31, Dt.val_some, Dt.val_ob, hw, Dt.val_some]
    refine (Dt.val_no rfl).trans ?_
    refine (Dt.val_yes (nat_ne0 hk0)).trans ?_
    rw [show ∀ m c0 c1 c2 c3 c4 a b c d, v35 m c0 c1 c2 c3 c4 a b c d = some () from fun _ _ _ _ _ _ _ _ _ _ => rfl, Dt.val_some]
    refine (Dt.val_no (by rw [c1]; simp)).trans ?_
    dsimp only
    rw [v37_eq _ _ _ _ _ _ s.v q2, Dt.val_some]
    refine (Dt.val_no (by rw [List.length_map, c2]; simp)).trans ?_
    rw [show ∀ m c0 c1 c2 c3 c4 a b c d, v36 m c0 c1 c2 c3 c4 a b c d = some (m.length : Int) from fun _ _ _ _ _ _ _ _ _ _ => rfl, Dt.val_some]
    have hwl : (encW s.v.w).length = s.v.w.length := by unfold encW; simp
    refine (Dt.val_no (by rw [hwl, show ((s.v.w.length : Int) == ((k * b : Nat) : Int) - 1 - ((t / k * k : Nat) : Int)) = true from wait_cnt c3]; rfl)).trans ?_
    refine (Dt.val_yes (nat_ne0 hk0)).trans ?_
    refine (Dt.val_yes (nat_ne0 hk0)).trans ?_
    rw [v41_eq, Dt.val_some, h33', Dt.val_some]
    refine (Dt.val_yes rfl).trans ?_
    rw [show ∀ m c0 c1 c2 c3 c4 a b c d, v35 m c0 c1 c2 c3 c4 a b c d = some () from fun _ _ _ _ _ _ _ _ _ _ => rfl, Dt.val_some]
    refine (Dt.val_yes (by rw [c5]; simp)).trans ?_
    dsimp only
    rw [v37_eq _ _ _ _ _ _ (takeW k s t).2.v o1', Dt.val_some]
    refine (Dt.val_yes (by rw [List.length_map, c6]; simp)).trans ?_
    rw [show ∀ m c0 c1 c2 c3 c4 a b c d, v36 m c0 c1 c2 c3 c4 a b c d = some (m.length : Int) from fun _ _ _ _ _ _ _ _ _ _ => rfl, Dt.val_some]
    have hwl2 : (encW (takeW k s t).2.v.w).length = 0 := by unfold encW; simpa using c7
    rw [Dt.val_ret, hwl2]
    rfl
end Go.Ab
