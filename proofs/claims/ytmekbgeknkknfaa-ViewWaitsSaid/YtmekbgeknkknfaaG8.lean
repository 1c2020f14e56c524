/- Regions whose order is drawn. -/
import Derived.Test.YtmekbgeknkknfaaG7
set_option linter.unusedVariables false
set_option linter.unusedSimpArgs false
set_option linter.unusedSectionVars false
set_option linter.constructorNameAsVariable false
namespace Go.Ab

/-- A row of the operations in which every edge that binds goes back. -/
def topoFrom (md : Region.Mode) (ops : Array Oper) : List Nat → List Nat → Bool
  | seen, [] => (List.range ops.size).all fun x => seen.contains x
  | seen, x :: xs => Nat.blt x ops.size && (match ops[x]? with | some o => o.after.all fun e => !Region.binds md e || seen.contains e.on | none => true) && topoFrom md ops (x :: seen) xs

theorem topo_next {md : Region.Mode} {ops : Array Oper} {acc : List Nat} (hx : ∃ x, x < ops.size ∧ x ∉ acc) : ∀ (wl seen : List Nat), topoFrom md ops seen wl = true → (∀ y ∈ seen, y ∈ acc) →
    ∃ x, x < ops.size ∧ x ∉ acc ∧ ∀ o, ops[x]? = some o → ∀ e ∈ o.after, Region.binds md e = true → e.on ∈ acc
  | [], seen, h, hs => by
    obtain ⟨x, h1, h2⟩ := hx
    simp only [topoFrom, List.all_eq_true, List.mem_range] at h
    exact absurd (hs x (by simpa using h x h1)) h2
  | x :: wl, seen, h, hs => by
    simp only [topoFrom, Bool.and_eq_true] at h
    obtain ⟨⟨h1, h2⟩, h3⟩ := h
    by_cases hm : x ∈ acc
    · exact topo_next hx wl (x :: seen) h3 fun y hy => by
        rcases List.mem_cons.1 hy with rfl | hy
        · exact hm
        · exact hs y hy
    · refine ⟨x, Nat.le_of_ble_eq_true h1, hm, fun o ho e he hb => hs e.on ?_⟩
      rw [ho] at h2
      simp only [Array.all_eq_true_iff_forall_mem] at h2
      have := h2 e he
      rw [hb] at this
      simpa using this

/-- Every operation's edges that bind everywhere lie ahead of it. -/
def PP (ops : Array Oper) (l : List Nat) : Prop :=
  ∀ p x q, l = p ++ x :: q → ∀ o, ops[x]? = some o → ∀ e ∈ o.after, Region.binds .any e = true → e.on ∈ p

theorem pigeon_ge : ∀ (n : Nat) (l : List Nat), (∀ x, x < n → x ∈ l) → n ≤ l.length
  | 0, _, _ => Nat.zero_le _
  | n + 1, l, h => by
    have hn := h n (Nat.lt_succ_self n)
    have h1 := pigeon_ge n (l.erase n) fun x hx => (List.mem_erase_of_ne (by omega)).2 (h x (by omega))
    rw [List.length_erase_of_mem hn] at h1
    have := List.length_pos_of_mem hn
    omega

theorem pigeon_le : ∀ (n : Nat) (l : List Nat), l.Nodup → (∀ x ∈ l, x < n) → l.length ≤ n
  | 0, l, _, h => by
    cases l with
    | nil => simp
    | cons x l => exact absurd (h x (by simp)) (by omega)
  | n + 1, l, hd, h => by
    have h1 := pigeon_le n (l.erase n) (hd.erase n) fun x hx => by
      have h2 := h x (List.mem_of_mem_erase hx)
      have h3 : x ≠ n := fun e => by
        subst e
        exact absurd hx (hd.not_mem_erase)
      omega
    by_cases hn : n ∈ l
    · rw [List.length_erase_of_mem hn] at h1
      have := List.length_pos_of_mem hn
      omega
    · rw [List.erase_of_not_mem hn] at h1
      omega

theorem pigeon_all {n : Nat} {l : List Nat} (hd : l.Nodup) (h : ∀ x ∈ l, x < n) (hl : l.length = n) : ∀ x, x < n → x ∈ l := by
  intro x hx
  by_cases hm : x ∈ l
  · exact hm
  · have := pigeon_le n (x :: l) (List.nodup_cons.2 ⟨hm, hd⟩) (fun y hy => by
      rcases List.mem_cons.1 hy with rfl | hy
      · exact hx
      · exact h y hy)
    simp only [List.length_cons] at this
    omega

theorem least_out (n : Nat) (l : List Nat) (h : l.length < n) : ∃ x, x < n ∧ x ∉ l ∧ ∀ y, y < x → y ∈ l := by
  have h1 : ¬ ∀ x, x < n → x ∈ l := fun h2 => by
    have := pigeon_ge n l h2
    omega
  have h2 : ∀ m, (∃ x, x < m ∧ x < n ∧ x ∉ l) → ∃ x, x < n ∧ x ∉ l ∧ ∀ y, y < x → y ∈ l := by
    intro m
    induction m with
    | zero => rintro ⟨x, hx, _⟩; omega
    | succ m ih =>
      rintro ⟨x, hx, hn, hl⟩
      by_cases hm : ∃ x, x < m ∧ x < n ∧ x ∉ l
      · exact ih hm
      · refine ⟨x, hn, hl, fun y hy => ?_⟩
        by_cases hyl : y ∈ l
        · exact hyl
        · exact absurd ⟨y, by omega, by omega, hyl⟩ hm
  by_cases h3 : ∃ x, x < n ∧ x < n ∧ x ∉ l
  · exact h2 n h3
  · exact absurd (fun x hx => by
      by_cases hxl : x ∈ l
      · exact hxl
      · exact absurd ⟨x, hx, hx, hxl⟩ h3) h1

theorem go_spec {md : Region.Mode} {ops : Array Oper} {wl : List Nat} (hb : topoFrom md ops [] wl = true) : ∀ (fuel t : Nat) (listed : Array Bool) (acc : List Nat),
    listed.size = ops.size → (∀ x, x < ops.size → (listed[x]? = some true ↔ x ∈ acc)) → (∀ x ∈ acc, x < ops.size) → acc.Nodup → PP ops acc.reverse → acc.length + fuel = ops.size →
    PP ops (Region.linearise.go md ops fuel t listed acc) ∧ (Region.linearise.go md ops fuel t listed acc).Nodup ∧ (Region.linearise.go md ops fuel t listed acc).length = ops.size ∧
      ∀ x ∈ Region.linearise.go md ops fuel t listed acc, x < ops.size := by
  intro fuel
  induction fuel with
  | zero =>
    intro t listed acc hs hl hlt hd hp hn
    simp only [Region.linearise.go]
    exact ⟨hp, by unfold List.Nodup; rw [List.pairwise_reverse]; exact hd.imp fun h => h.symm, by simp; omega, fun x hx => hlt x (by simpa using hx)⟩
  | succ fuel ih =>
    intro t listed acc hs hl hlt hd hp hn
    simp only [Region.linearise.go]
    change (PP ops (match (Region.ready md ops listed)[t % (Region.ready md ops listed).length]? with
      | some i => Region.linearise.go md ops fuel (t / (Region.ready md ops listed).length) (listed.setIfInBounds i true) (i :: acc)
      | none => acc.reverse)) ∧ (match (Region.ready md ops listed)[t % (Region.ready md ops listed).length]? with
      | some i => Region.linearise.go md ops fuel (t / (Region.ready md ops listed).length) (listed.setIfInBounds i true) (i :: acc)
      | none => acc.reverse).Nodup ∧ (match (Region.ready md ops listed)[t % (Region.ready md ops listed).length]? with
      | some i => Region.linearise.go md ops fuel (t / (Region.ready md ops listed).length) (listed.setIfInBounds i true) (i :: acc)
      | none => acc.reverse).length = ops.size ∧ ∀ x ∈ (match (Region.ready md ops listed)[t % (Region.ready md ops listed).length]? with
      | some i => Region.linearise.go md ops fuel (t / (Region.ready md ops listed).length) (listed.setIfInBounds i true) (i :: acc)
      | none => acc.reverse), x < ops.size
    have hgetD : ∀ x b, x < ops.size → listed.getD x b = decide (x ∈ acc) := fun x b hx => by
      have hx' : x < listed.size := by omega
      have h1 := hl x hx
      rw [Array.getElem?_eq_getElem hx'] at h1
      simp only [Option.some.injEq] at h1
      simp only [Array.getD, hx', dite_true]
      show listed[x] = _
      cases h2 : listed[x] with
      | true => rw [h2] at h1; simp [h1.1 rfl]
      | false => rw [h2] at h1; simp at h1; simp [h1]
    have hready : ∀ x, x ∈ Region.ready md ops listed → x < ops.size ∧ x ∉ acc ∧ ∃ o, ops[x]? = some o ∧ ∀ e ∈ o.after, Region.binds md e = true → e.on ∈ acc := fun x hx => by
      simp only [Region.ready, List.mem_filter, List.mem_range, Bool.and_eq_true, Bool.not_eq_true'] at hx
      obtain ⟨h1, h2, h3⟩ := hx
      rw [hgetD x true h1] at h2
      refine ⟨h1, by simpa using h2, ?_⟩
      cases ho : ops[x]? with
      | none => rw [ho] at h3; simp at h3
      | some o =>
        rw [ho] at h3
        refine ⟨o, rfl, fun e he hbd => ?_⟩
        simp only [Option.map_some, Option.getD_some, Array.all_eq_true_iff_forall_mem] at h3
        have h4 := h3 e he
        rw [hbd] at h4
        simp only [Bool.not_true, Bool.false_or] at h4
        have hlt' : e.on < ops.size := by
          by_cases hlt' : e.on < ops.size
          · exact hlt'
          · have : listed.getD e.on false = false := by
              have hx' : ¬ e.on < listed.size := by omega
              simp [Array.getD, hx']
            rw [this] at h4
            simp at h4
        rw [hgetD e.on false hlt'] at h4
        simpa using h4
    have hne : Region.ready md ops listed ≠ [] := by
      obtain ⟨x, hx, hxa, hmin⟩ := topo_next (acc := acc) (by
        obtain ⟨x, h1, h2, _⟩ := least_out ops.size acc (by omega)
        exact ⟨x, h1, h2⟩) wl [] hb (by simp)
      have : x ∈ Region.ready md ops listed := by
        simp only [Region.ready, List.mem_filter, List.mem_range, Bool.and_eq_true, Bool.not_eq_true']
        refine ⟨hx, by rw [hgetD x true hx]; simpa using hxa, ?_⟩
        have ho : ops[x]? = some ops[x] := Array.getElem?_eq_getElem hx
        rw [ho]
        simp only [Option.map_some, Option.getD_some, Array.all_eq_true_iff_forall_mem]
        intro e he
        cases hbd : Region.binds md e with
        | false => rfl
        | true =>
          have h5 := hmin _ ho e he hbd
          rw [hgetD e.on false (hlt e.on h5)]
          simp [h5]
      intro h
      rw [h] at this
      simp at this
    cases hi : (Region.ready md ops listed)[t % (Region.ready md ops listed).length]? with
    | none =>
      have hlt : t % (Region.ready md ops listed).length < (Region.ready md ops listed).length := Nat.mod_lt _ (List.length_pos_iff.2 hne)
      rw [List.getElem?_eq_getElem hlt] at hi
      simp at hi
    | some i =>
      obtain ⟨h1, h2, o, h3, h4⟩ := hready i (List.mem_of_getElem? hi)
      refine ih _ _ (i :: acc) (by simpa using hs) (fun x hx => ?_) (fun x hx => ?_) (List.nodup_cons.2 ⟨h2, hd⟩) ?_ (by simp only [List.length_cons]; omega)
      · rw [Array.getElem?_setIfInBounds]
        by_cases hix : i = x
        · subst hix
          simp [hs, h1]
        · rw [if_neg hix, List.mem_cons, hl x hx]
          constructor
          · exact .inr
          · rintro (rfl | h)
            · exact absurd rfl hix
            · exact h
      · rcases List.mem_cons.1 hx with rfl | hx
        · exact h1
        · exact hlt x hx
      · intro p x q hpq o' ho' e he hbd
        rw [List.reverse_cons] at hpq
        rcases List.eq_nil_or_concat q with rfl | ⟨q', y, rfl⟩
        · have h5 := List.append_inj' hpq rfl
          simp only [List.cons.injEq, and_true] at h5
          obtain ⟨rfl, rfl⟩ := h5
          rw [h3] at ho'
          simp only [Option.some.injEq] at ho'
          subst ho'
          have hbd' : Region.binds md e = true := by
            revert hbd
            unfold Region.binds
            cases e.ground <;> simp
          exact List.mem_reverse.2 (h4 e he hbd')
        · have h5 : acc.reverse ++ [i] = (p ++ x :: q') ++ [y] := by rw [hpq]; simp
          have h6 := List.append_inj' h5 rfl
          exact hp p x q' h6.1 o' ho' e he hbd

theorem linearise_spec {md : Region.Mode} {ops : Array Oper} {wl : List Nat} (hb : topoFrom md ops [] wl = true) (t : Nat) :
    PP ops (Region.linearise md ops t) ∧ (Region.linearise md ops t).Nodup ∧ (Region.linearise md ops t).length = ops.size ∧ ∀ x ∈ Region.linearise md ops t, x < ops.size := by
  refine go_spec hb ops.size t _ [] (by simp) (fun x hx => ?_) (by simp) (by simp) ?_ (by simp)
  · simp [hx]
  · intro p x q h
    simp at h

/-- Every mode has a row. -/
def topoOk (ops : Array Oper) : Bool :=
  topoFrom .any ops [] (List.range ops.size) && (!Region.departs ops || (topoFrom .text ops [] (List.range ops.size) && topoFrom .gc ops [] (Region.linearise .gc ops 0)))

theorem schedule_spec {mixed : Bool} {ops : Array Oper} (hb : topoOk ops = true) (t : Nat) :
    PP ops (Region.schedule mixed ops t) ∧ (Region.schedule mixed ops t).Nodup ∧ (Region.schedule mixed ops t).length = ops.size ∧ ∀ x ∈ Region.schedule mixed ops t, x < ops.size := by
  simp only [topoOk, Bool.and_eq_true, Bool.or_eq_true, Bool.not_eq_true'] at hb
  unfold Region.schedule
  split
  · exact linearise_spec hb.1 _
  · rename_i h
    rcases hb.2 with h1 | h1
    · rw [h1] at h; simp at h
    · split
      · exact linearise_spec h1.1 _
      · exact linearise_spec h1.2 _

/-- Whom an operation comes behind, as bits. -/
def maskOf (acc : List Nat) (o : Oper) : Nat := o.after.toList.foldl (fun s e => if Region.binds .any e then s ||| 2 ^ e.on ||| acc.getD e.on 0 else s) 0
def masks : List Oper → List Nat → List Nat
  | [], acc => acc
  | o :: os, acc => masks os (acc ++ [maskOf acc o])

theorem maskOf_spec (acc : List Nat) (i : Nat) : ∀ (l : List Edge) (s : Nat), (l.foldl (fun s e => if Region.binds .any e then s ||| 2 ^ e.on ||| acc.getD e.on 0 else s) s).testBit i = true →
    s.testBit i = true ∨ ∃ e ∈ l, Region.binds .any e = true ∧ (e.on = i ∨ (acc.getD e.on 0).testBit i = true)
  | [], s, h => .inl h
  | e :: l, s, h => by
    simp only [List.foldl_cons] at h
    rcases maskOf_spec acc i l _ h with h1 | ⟨e', h1, h2⟩
    · by_cases hb : Region.binds .any e = true
      · rw [if_pos hb] at h1
        simp only [Nat.testBit_or, Bool.or_eq_true] at h1
        rcases h1 with (h1 | h1) | h1
        · exact .inl h1
        · rw [Nat.testBit_two_pow] at h1
          exact .inr ⟨e, by simp, hb, .inl (by simpa using h1)⟩
        · exact .inr ⟨e, by simp, hb, .inr h1⟩
      · rw [if_neg hb] at h1
        exact .inl h1
    · exact .inr ⟨e', by simp [h1], h2⟩

theorem masks_prefix : ∀ (os : List Oper) (acc : List Nat) (x : Nat), x < acc.length → (masks os acc).getD x 0 = acc.getD x 0
  | [], _, _, _ => rfl
  | o :: os, acc, x, hx => by
    simp only [masks]
    rw [masks_prefix os _ x (by simp; omega)]
    simp [List.getD, List.getElem?_append_left hx]

theorem masks_length : ∀ (os : List Oper) (acc : List Nat), (masks os acc).length = acc.length + os.length
  | [], _ => rfl
  | o :: os, acc => by simp only [masks]; rw [masks_length os]; simp; omega

theorem masks_spec : ∀ (os : List Oper) (acc : List Nat) (x i : Nat) (o : Oper), os[x]? = some o → ((masks os acc).getD (acc.length + x) 0).testBit i = true →
    ∃ e ∈ o.after, Region.binds .any e = true ∧ (e.on = i ∨ ((masks os acc).getD e.on 0).testBit i = true)
  | [], _, _, _, _, h, _ => by simp at h
  | o' :: os, acc, 0, i, o, h, hb => by
    simp only [List.getElem?_cons_zero, Option.some.injEq] at h
    subst h
    simp only [masks] at hb ⊢
    rw [masks_prefix os _ _ (by simp)] at hb
    simp only [Nat.add_zero, List.getD, List.getElem?_append_right (Nat.le_refl acc.length), Nat.sub_self, List.getElem?_cons_zero, Option.getD_some] at hb
    rcases maskOf_spec acc i _ 0 hb with h1 | ⟨e, h1, h2, h3⟩
    · simp at h1
    · refine ⟨e, by simpa using h1, h2, ?_⟩
      rcases h3 with h3 | h3
      · exact .inl h3
      · refine .inr ?_
        by_cases hlt : e.on < acc.length
        · have h4 := masks_prefix os (acc ++ [maskOf acc o']) e.on (by simp; omega)
          rw [h4]
          have h5 : (acc ++ [maskOf acc o']).getD e.on 0 = acc.getD e.on 0 := by simp [List.getD, List.getElem?_append_left hlt]
          rw [h5]
          exact h3
        · have : acc.getD e.on 0 = 0 := by simp [List.getD, List.getElem?_eq_none (Nat.le_of_not_lt hlt)]
          rw [this] at h3
          simp at h3
  | o' :: os, acc, x + 1, i, o, h, hb => by
    simp only [masks] at hb ⊢
    have h1 : acc.length + (x + 1) = (acc ++ [maskOf acc o']).length + x := by simp; omega
    rw [h1] at hb
    exact masks_spec os _ x i o (by simpa using h) hb

/-- Whether x comes behind y in every order. -/
def behind (ms : List Nat) (x y : Nat) : Bool := (ms.getD x 0).testBit y

theorem PP_behind {ops : Array Oper} {l : List Nat} (hp : PP ops l) (y : Nat) : ∀ (n : Nat) (p : List Nat), p.length = n → ∀ x q, l = p ++ x :: q → behind (masks ops.toList []) x y = true → y ∈ p := by
  intro n
  induction n using Nat.strongRecOn with
  | _ n ih =>
    intro p hn x q hl hb
    unfold behind at hb
    cases ho : ops.toList[x]? with
    | none =>
      have : ops.toList.length ≤ x := List.getElem?_eq_none_iff.1 ho
      have hz : (masks ops.toList []).getD x 0 = 0 := by
        have := masks_length ops.toList []
        simp only [List.length_nil, Nat.zero_add] at this
        simp [List.getD, List.getElem?_eq_none (show (masks ops.toList []).length ≤ x by omega)]
      rw [hz] at hb
      simp at hb
    | some o =>
      obtain ⟨e, h1, h2, h3⟩ := masks_spec ops.toList [] x y o ho (by simpa using hb)
      have h4 := hp p x q hl o (by simpa using ho) e h1 h2
      rcases h3 with rfl | h3
      · exact h4
      · obtain ⟨p', q', hpq⟩ := List.append_of_mem h4
        have h5 := ih p'.length (by rw [← hn, hpq]; simp) p' rfl e.on (q' ++ x :: q) (by rw [hl, hpq]; simp) h3
        rw [hpq]
        exact List.mem_append_left _ h5

theorem pairwise_of_PP {ops : Array Oper} {l : List Nat} (hp : PP ops l) (hd : l.Nodup) : l.Pairwise fun x y => behind (masks ops.toList []) x y = false := by
  have : ∀ q p, l = p ++ q → q.Pairwise fun x y => behind (masks ops.toList []) x y = false := by
    intro q
    induction q with
    | nil => intro _ _; exact .nil
    | cons x q ih =>
      intro p hl
      refine List.pairwise_cons.2 ⟨fun y hy => ?_, ih (p ++ [x]) (by rw [hl]; simp)⟩
      cases hb : behind (masks ops.toList []) x y with
      | false => rfl
      | true =>
        have h1 := PP_behind hp y p.length p rfl x q hl hb
        rw [hl] at hd
        have h2 := List.nodup_append.1 hd
        exact absurd rfl (h2.2.2 y h1 y (List.mem_cons_of_mem _ hy))
  exact this l [] rfl

/-- Steps one behind another. -/
def runL {σ : Type} (step : Nat → σ → Option σ) : List Nat → σ → Option σ
  | [], s => some s
  | i :: l, s => (step i s).bind (runL step l)

theorem runL_front {σ : Type} {step : Nat → σ → Option σ} {i : Nat} {q : List Nat} {r : σ} : ∀ (p : List Nat) (s : σ),
    (∀ x ∈ p, ∀ s s2, ((step i s).bind (step x)) = some s2 → ((step x s).bind (step i)) = some s2) → runL step (i :: (p ++ q)) s = some r → runL step (p ++ i :: q) s = some r
  | [], _, _, h => h
  | x :: p, s, hc, h => by
    simp only [List.cons_append, runL] at h ⊢
    cases h1 : step i s with
    | none => rw [h1] at h; simp at h
    | some s1 =>
      rw [h1] at h
      simp only [Option.bind_some] at h
      cases h2 : step x s1 with
      | none => rw [h2] at h; simp at h
      | some s2 =>
        rw [h2] at h
        simp only [Option.bind_some] at h
        have h3 := hc x (by simp) s s2 (by rw [h1]; exact h2)
        cases h4 : step x s with
        | none => rw [h4] at h3; simp at h3
        | some s3 =>
          rw [h4] at h3
          simp only [Option.bind_some] at h3 ⊢
          exact runL_front p s3 (fun y hy => hc y (by simp [hy])) (by simp only [runL, h3, Option.bind_some]; exact h)

theorem runL_sort {σ : Type} {step : Nat → σ → Option σ} {bh : Nat → Nat → Bool}
    (hc : ∀ i j, i < j → bh j i = false → ∀ s s2, ((step i s).bind (step j)) = some s2 → ((step j s).bind (step i)) = some s2) {r : σ} :
    ∀ (s l : List Nat) (st : σ), s.Pairwise (· < ·) → l.Nodup → (∀ x, x ∈ l ↔ x ∈ s) → l.Pairwise (fun x y => bh x y = false) → runL step s st = some r → runL step l st = some r
  | [], l, st, _, _, hm, _, h => by
    cases l with
    | nil => exact h
    | cons x l => exact absurd ((hm x).1 (by simp)) (by simp)
  | i :: s, l, st, hs, hd, hm, hp, h => by
    obtain ⟨p, q, rfl⟩ := List.append_of_mem ((hm i).2 (by simp))
    obtain ⟨hs1, hs2⟩ := List.pairwise_cons.1 hs
    obtain ⟨hd1, hd2, hd3⟩ := List.nodup_append.1 hd
    obtain ⟨hd4, hd5⟩ := List.nodup_cons.1 hd2
    have hip : i ∉ p := fun hi => hd3 i hi i (by simp) rfl
    have his : i ∉ s := fun hi => absurd (hs1 i hi) (by omega)
    refine runL_front p st (fun x hx u u2 => ?_) ?_
    · have hxs : x ∈ s := by
        have := (hm x).1 (by simp [hx])
        rcases List.mem_cons.1 this with rfl | h
        · exact absurd hx hip
        · exact h
      refine hc i x (hs1 x hxs) ?_ u u2
      exact (List.pairwise_append.1 hp).2.2 x hx i (by simp)
    · simp only [runL] at h ⊢
      cases h1 : step i st with
      | none => rw [h1] at h; simp at h
      | some st1 =>
        rw [h1] at h
        simp only [Option.bind_some] at h ⊢
        refine runL_sort hc s (p ++ q) st1 hs2 (List.nodup_append.2 ⟨hd1, hd5, fun a ha b hb => hd3 a ha b (by simp [hb])⟩) (fun x => ?_) ?_ h
        · constructor
          · intro hx
            have := (hm x).1 (by rcases List.mem_append.1 hx with h | h <;> simp [h])
            rcases List.mem_cons.1 this with rfl | h
            · rcases List.mem_append.1 hx with h | h
              · exact absurd h hip
              · exact absurd h hd4
            · exact h
          · intro hx
            have := (hm x).2 (by simp [hx])
            rcases List.mem_append.1 this with h | h
            · simp [h]
            · rcases List.mem_cons.1 h with rfl | h
              · exact absurd hx his
              · simp [h]
        · exact hp.sublist (List.Sublist.append_left (List.sublist_cons_self i q) p)
end Go.Ab
namespace Go.Ab

noncomputable section
variable (T : Tab) (fid : Nat)

/-- The value of a call that only yields one. -/
def callVal (st : St) (dst : Option Nat) (f : Nat) (args : List AV) : R AV :=
  match T.known f with
  | 1 => (match args.map AV.stripAll with | [v] => .ret v | _ => .fail)
  | _ =>
  chk (args.all (snapOk st) && Nat.blt f 1000000) (
  let snaps := args.any isVs
  let as := args.map fun v => (snapOf st v).stripAll
  if as.all AV.noRef && !T.hm f then
    .call 0 f as [] fun (v, _) => chk (v.noRef && (!snaps || noSl v)) (match dst, v with
      | some d, .sl sz n rows o => (match o with | .no | .self => .ret (.sl sz n rows .no) | _ => .ret (.sl sz n rows (.tc d)))
      | _, v => .ret v)
  else chk (as.all AV.noLp && !snaps) (.call 2 (f + 1000000) as (st.H.map stripGB) fun (v, _) => chk v.noLp (.ret v.stripAll)))

/-- The value that an operation names. -/
def vop (ng : Bool) (o : Oper) (ρ : Operand → AV) (st : St) : R AV :=
  match o.op with
  | .move x => .ret (ρ x)
  | .assign x => .ret (ρ x)
  | .pick c a b => (match ρ c with
    | .bool t => .br t (.ret (ρ a)) (.ret (ρ b))
    | _ => .fail)
  | .build t parts => buildOp T t (parts.toList.map fun (i, x) => (i, ρ x))
  | .buildSlice t len parts => buildSliceOp T o.dst t len (parts.toList.map fun (i, x) => (i, ρ x))
  | .load t a => chk (!(ng && (ρ a).isGp)) (loadOp T st t (ρ a))
  | .nilCheck x => (match ρ x with
    | .lp k o' => .ret (.lp k o')
    | .gp k o' => .ret (.gp k o')
    | .ep r o' => .ret (.ep r o')
    | _ => .fail)
  | .binOp op t x y _ => binOpR T op t (ρ x) (ρ y)
  | .unOp op _ x => unOpR op (ρ x)
  | .convert s d x => (convertOp T st s d (ρ x)).bind fun y => (match o.dst, y with
    | some t, .sl sz n rows _ => .ret (.sl sz n rows (.tc t))
    | none, .sl _ _ _ _ => .fail
    | _, y => .ret y)
  | .makeFunc (.func f) fs caps => chk (fs.isEmpty && (caps.toList.map fun x => (ρ x).strip).all AV.capOk) (.ret (.fn f (caps.toList.map fun x => (ρ x).strip)))
  | .slice t x lo hi mx => sliceOp T st t (ρ x) (lo.map ρ) (hi.map ρ) (mx.map ρ)
  | .fieldAddr t x f => fieldAddrOp T t (ρ x) f
  | .indexAddr t x i => indexAddrOp T t (ρ x) (ρ i)
  | .index t x i => (indexOp T t (ρ x) (ρ i)).bind fun y => .ret y.strip
  | .lookup t m k ok => lookupOp T st t (ρ m) (ρ k) ok
  | .extract x i => (match ρ x with | .tup vs => (match vs[i]? with | some y => .ret y.strip | none => .fail) | _ => .fail)
  | .call c =>
    (match c.callee with
    | .builtin b =>
      (match b, c.args.toList, c.argTypes.toList with
      | .len, [x], [t] => lenOp T st t (ρ x)
      | .min, x :: y :: xs, _ => mm (fun x y => if y < x then y else x) (ρ x) ((y :: xs).map ρ)
      | .max, x :: y :: xs, _ => mm (fun x y => if y > x then y else x) (ρ x) ((y :: xs).map ρ)
      | _, _, _ => .fail)
    | .value g => (match ρ g with
      | .fn f cap => callVal T st o.dst f (c.args.toList.map ρ ++ cap.map AV.strip)
      | _ => .fail)
    | _ => .fail)
  | _ => .fail

/-- Operations that only name a value. -/
def isV (o : Oper) : Bool :=
  match o.op with
  | .move _ | .assign _ | .pick _ _ _ | .build _ _ | .buildSlice _ _ _ | .load _ _ | .nilCheck _ | .binOp _ _ _ _ _ | .unOp _ _ _
  | .slice _ _ _ _ _ | .fieldAddr _ _ _ | .indexAddr _ _ _ | .index _ _ _ | .lookup _ _ _ _ | .extract _ _ => true
  | .makeFunc (.func _) _ _ => true
  | .convert _ _ _ => (match o.dst with | some d => !T.thaw fid d | none => true)
  | .call c => (match c.callee with
    | .builtin b => (match b with | .len | .min | .max => true | _ => false)
    | .value (.func f) => T.known f == 1 || (T.known f == 0 && !T.wr f && (match o.dst with | some d => !T.thaw fid d | none => true))
    | _ => false)
  | _ => false

/-- Of these, such as read no memory. -/
def isP (o : Oper) : Bool :=
  isV T fid o && match o.op with
  | .load _ _ | .lookup _ _ _ _ => false
  | .slice t _ _ _ _ => (match T.sh t with | .arr _ _ => false | _ => true)
  | .convert s _ _ => (match T.sh s with | .slice _ => false | _ => true)
  | .call c => (match c.callee with
    | .builtin .len => (match c.argTypes.toList with | [t] => (match T.sh t with | .map _ _ => false | _ => true) | _ => true)
    | .builtin _ => true
    | .value (.func f) => T.known f == 1
    | _ => false)
  | _ => true
end

section
variable {T : Tab} {C : Nat → List AV → List GB → Option (AV × List GB)} {Lp : Nat → Nat → Code → St → Option (Ex × St)} {fid : Nat} {ng : Bool} {st st' : St} {o : Oper}

theorem den_v (r : R AV) (d : Option Nat) : den C Lp (r.bind fun x => .ret (st.put d x)) = (den C Lp r).map (st.put d) := by
  rw [den_bind]
  cases den C Lp r <;> rfl

theorem thawed_not {d : Nat} (h : T.thaw fid d = false) (st : St) (v : AV) : thawed T fid d st v = .ret (st.set d v) := by
  unfold thawed
  rw [h]
  rfl

theorem callOp_val {dst : Option Nat} {f : Nat} (args : List AV) (h : (T.known f == 1 || (T.known f == 0 && !T.wr f && (match dst with | some d => !T.thaw fid d | none => true))) = true) :
    den C Lp (callOp T fid st dst true f args) = (den C Lp (callVal T st dst f args)).map (st.put dst) := by
  unfold callOp callVal
  by_cases h1 : T.known f = 1
  · rw [h1]
    simp only
    cases args.map AV.stripAll with
    | nil => rfl
    | cons v vs => cases vs <;> rfl
  · simp only [beq_iff_eq, Bool.or_eq_true, h1, false_or, Bool.and_eq_true, Bool.not_eq_true'] at h
    obtain ⟨⟨h0, hw⟩, hd⟩ := h
    rw [h0]
    simp only
    rw [den_chk, den_chk]
    cases args.all (snapOk st) && Nat.blt f 1000000 with
    | false => rfl
    | true =>
      simp only [cond_true]
      split
      · rw [den_call, den_call]
        cases C f (args.map fun v => (snapOf st v).stripAll) [] with
        | none => rfl
        | some vH =>
          obtain ⟨v, H'⟩ := vH
          simp only [Option.bind_some]
          rw [den_chk, den_chk]
          cases v.noRef && (!args.any isVs || noSl v) with
          | false => rfl
          | true =>
            simp only [cond_true]
            cases dst with
            | none => cases v <;> rfl
            | some d =>
              simp only [Bool.not_eq_true'] at hd
              cases v with
              | sl sz n rows own =>
                simp only
                cases own <;> first | rfl | (simp only [hd, Bool.not_false, Bool.true_or, den_chk, cond_true, thawed_not hd]; rfl)
              | _ => rfl
      · rw [den_chk, den_chk]
        cases (args.map fun v => (snapOf st v).stripAll).all AV.noLp && !args.any isVs with
        | false => rfl
        | true =>
          simp only [cond_true, hw, Bool.not_false, Bool.and_self, Bool.or_true, if_true]
          rw [den_call, den_call]
          cases C (f + 1000000) (args.map fun v => (snapOf st v).stripAll) (st.H.map stripGB) with
          | none => rfl
          | some vH =>
            obtain ⟨v, H'⟩ := vH
            simp only [Option.bind_some]
            rw [den_chk, den_chk]
            cases v.noLp <;> rfl

/-- All but the temporaries. -/
def St.noTm (st : St) : St := { st with tm := [] }

theorem evOp_vop (h : isV T fid o = true) : den C Lp (evOp T fid true ng o st) = (den C Lp (vop T ng o (rho st) st.noTm)).map (st.put o.dst) := by
  obtain ⟨dst, op, ty, pos, after, guard⟩ := o
  cases op with
  | move x => rfl
  | assign x => rfl
  | pick c a b =>
    simp only [evOp, vop]
    cases hc : rho st c with
    | bool t =>
      simp only [den_br, den_ret]
      cases t with
      | true => rw [litBool_id hc]; rfl
      | false => rw [litBool_id hc]; rfl
    | _ => rfl
  | build t ps => exact den_v _ _
  | buildSlice t n ps => exact den_v _ _
  | load t a =>
    simp only [evOp, vop]
    rw [den_chk, den_chk, den_v]
    cases !(ng && (rho st a).isGp) <;> rfl
  | nilCheck x =>
    simp only [evOp, vop]
    cases rho st x <;> rfl
  | binOp op t x y t2 => exact den_v _ _
  | unOp op t x => exact den_v _ _
  | slice t x lo hi mx => exact den_v _ _
  | fieldAddr t x f => exact den_v _ _
  | indexAddr t x i => exact den_v _ _
  | index t x i => exact den_v _ _
  | lookup t m k ok => exact den_v _ _
  | extract x i => exact den_v _ _
  | makeFunc fn fs caps =>
    cases fn with
    | func f =>
      simp only [evOp, vop]
      rw [den_chk, den_chk, den_v]
      cases fs.isEmpty && (caps.toList.map fun x => (rho st x).strip).all AV.capOk <;> rfl
    | _ => simp [isV] at h
  | convert s d x =>
    simp only [evOp, vop]
    have hcv : convertOp T st.noTm s d (rho st x) = convertOp T st s d (rho st x) := rfl
    rw [den_bind, den_bind, hcv]
    cases den C Lp (convertOp T st s d (rho st x)) with
    | none => rfl
    | some y =>
      simp only [Option.bind_some]
      cases dst with
      | none => cases y <;> rfl
      | some t =>
        simp only [isV, Bool.not_eq_true'] at h
        cases y with
        | sl sz n rows own =>
          simp only
          rw [thawed_not h]
          rfl
        | _ => rfl
  | call c =>
    simp only [isV] at h
    simp only [evOp, vop]
    cases hc : c.callee with
    | builtin b =>
      rw [hc] at h
      simp only
      cases b <;> simp only [Bool.false_eq_true] at h
      case len => rcases c.args.toList with _ | ⟨x, _ | ⟨y, xs⟩⟩ <;> rcases c.argTypes.toList with _ | ⟨t, _ | ⟨t2, ts⟩⟩ <;> first | exact den_v _ _ | rfl
      case min => rcases c.args.toList with _ | ⟨x, _ | ⟨y, xs⟩⟩ <;> first | exact den_v _ _ | rfl
      case max => rcases c.args.toList with _ | ⟨x, _ | ⟨y, xs⟩⟩ <;> first | exact den_v _ _ | rfl
    | value g =>
      rw [hc] at h
      cases g with
      | func f =>
        simp only at h
        exact callOp_val _ h
      | _ => simp at h
    | invoke r m => rw [hc] at h; simp at h
  | _ => simp [isV] at h


/-- Two readings that agree on what an operation names. -/
theorem vop_rho {ρ ρ' : Operand → AV} (hr : ∀ x ∈ o.op.operands, ρ x = ρ' x) : vop T ng o ρ st = vop T ng o ρ' st := by
  obtain ⟨dst, op, ty, pos, after, guard⟩ := o
  simp only [Op.operands] at hr
  have pairs : ∀ ps : Array (Nat × Operand), (∀ x ∈ (ps.toList.map (·.2)).toArray, ρ x = ρ' x) →
      (ps.toList.map fun (i, x) => (i, ρ x)) = (ps.toList.map fun (i, x) => (i, ρ' x)) := fun ps hp =>
    List.map_congr_left fun p hm => by
      obtain ⟨i, x⟩ := p
      simp only [hp x (by simpa using ⟨i, by simpa using hm⟩)]
  have args : ∀ c : Call, (∀ x ∈ c.operands, ρ x = ρ' x) → c.args.toList.map ρ = c.args.toList.map ρ' := fun c hc => List.map_congr_left fun x hx => hc x (by simp [Call.operands]; exact .inr (by simpa using hx))
  cases op with
  | build t ps => simp only [vop]; rw [pairs ps hr]
  | buildSlice t n ps => simp only [vop]; rw [pairs ps hr]
  | slice t x lo hi mx =>
    have h1 : lo.map ρ = lo.map ρ' := by cases lo <;> simp_all
    have h2 : hi.map ρ = hi.map ρ' := by cases hi <;> simp_all
    have h3 : mx.map ρ = mx.map ρ' := by cases mx <;> simp_all
    simp only [vop, hr x (by simp), h1, h2, h3]
  | makeFunc fn fs caps =>
    cases fn with
    | func f =>
      simp only [vop]
      have : (caps.toList.map fun x => (ρ x).strip) = (caps.toList.map fun x => (ρ' x).strip) := List.map_congr_left fun x hx => by rw [hr x (by simp_all)]
      rw [this]
    | _ => rfl
  | call c =>
    have hm := args c hr
    simp only [Call.operands] at hr
    simp only [vop]
    cases hcc : c.callee with
    | builtin b =>
      simp only
      split
      · rename_i x t hx ht
        rw [hx] at hm
        simp only [List.map_cons, List.map_nil, List.cons.injEq, and_true] at hm
        rw [hm]
      · rename_i x y xs hx
        rw [hx] at hm
        simp only [List.map_cons, List.cons.injEq] at hm
        simp only [List.map_cons, hm.1, hm.2.1, hm.2.2]
      · rename_i x y xs hx
        rw [hx] at hm
        simp only [List.map_cons, List.cons.injEq] at hm
        simp only [List.map_cons, hm.1, hm.2.1, hm.2.2]
      · rfl
    | value g =>
      rw [hcc] at hr
      simp only
      rw [hr g (by simp), hm]
    | invoke r m => rfl
  | _ => first | rfl | (simp only [vop]; simp_all; done)

/-- Such as read no memory. -/
theorem vop_pure {s s' : St} {ρ : Operand → AV} (hf : ∀ f, ρ (.func f) = .fn f []) (hp : isP T fid o = true) : vop T ng o ρ s = vop T ng o ρ s' := by
  obtain ⟨dst, op, ty, pos, after, guard⟩ := o
  simp only [isP, Bool.and_eq_true] at hp
  obtain ⟨hv, hp⟩ := hp
  cases op with
  | load t a => simp at hp
  | lookup t m k ok => simp at hp
  | slice t x lo hi mx =>
    simp only [vop]
    unfold sliceOp
    cases mx.map ρ with
    | some _ => rfl
    | none =>
      simp only at hp ⊢
      cases hs : T.sh t with
      | arr n e => rw [hs] at hp; simp at hp
      | _ => cases ρ x <;> rfl
  | convert s d x =>
    simp only [vop]
    unfold convertOp
    cases hs : T.sh s with
    | slice e => simp only at hp; rw [hs] at hp; simp at hp
    | _ => cases T.sh d <;> cases ρ x <;> rfl
  | call c =>
    simp only at hp
    simp only [vop]
    cases hcc : c.callee with
    | builtin b =>
      rw [hcc] at hp
      simp only
      split
      · rename_i x t hx ht
        simp only at hp
        rw [ht] at hp
        unfold lenOp
        cases hs : T.sh t with
        | map k e => simp only at hp; rw [hs] at hp; simp at hp
        | _ => cases ρ x <;> rfl
      · rfl
      · rfl
      · rfl
    | value g =>
      rw [hcc] at hp
      cases g with
      | func f =>
        simp only [beq_iff_eq] at hp
        simp only [hf]
        unfold callVal
        rw [hp]
        rfl
      | _ => simp at hp
    | invoke r m => rfl
  | makeFunc fn fs caps => cases fn <;> rfl
  | _ => rfl
end
end Go.Ab
namespace Go.Ab

noncomputable section
variable (T : Tab) (fid : Nat)

/-- append, without its temporary. -/
def appendW (st : St) (dst : Option Nat) (t : Nat) (base src : AV) : R (St × AV) :=
  match T.sh t, base, dst with
  | .slice e, .sl sz isnil rows own, some d =>
    match moreOf T st e src with
    | none => .fail
    | some r2 =>
      chk (decide (rows.length + r2.length ≤ 268435456)) (chk (decide (T.bytes e ≤ 4096)) (
        chk (r2.all (fun r => r.all AV.pure1 && r.length == size T e))
        (.br isnil
          (.ret (st, .sl (size T e) r2.isEmpty r2 (.tc d)))
          (chk (usable st own && decide (sz = size T e))
            (let st1 := match own with
              | .gc k o => (match st.H.getD k (.map []) with | .cells cs => { st with H := st.H.set k (.cells (stripOwnAt cs o)) } | _ => st)
              | .lc k o => { st with L := upd st.L k (stripOwnAt (nthL st.L k) o) }
              | _ => st
             .ret (useUp st1 own, .sl sz false (rows ++ r2) (nextCls d own)))))))
  | _, _, _ => .fail

def callW (st : St) (dst : Option Nat) (f : Nat) (args : List AV) : R (St × AV) :=
  chk (args.all (snapOk st) && Nat.blt f 1000000) (
  let snaps := args.any isVs
  let as := args.map fun v => (snapOf st v).stripAll
  if as.all AV.noRef && !T.hm f then
    .call 0 f as [] fun (v, _) => chk (v.noRef && (!snaps || noSl v)) (match dst, v with
      | some d, .sl sz n rows o => (match o with | .no | .self => .ret (st, .sl sz n rows .no) | _ => .ret (st, .sl sz n rows (.tc d)))
      | _, v => .ret (st, v))
  else chk (as.all AV.noLp && !snaps) (
    if st.ro || !T.wr f then
      .call 2 (f + 1000000) as (st.H.map stripGB) fun (v, _) => chk v.noLp (.ret (st, v.stripAll))
    else .call 1 f as st.H fun (v, H) => chk v.noLp (.ret ({ st with H, conG := true }, v.stripAll))))

def wop (fid : Nat) (o : Oper) (ρ : Operand → AV) (st : St) : R (St × AV) :=
  match o.op with
  | .store t a x => (storeOp T st t (ρ a) (ρ x)).bind fun s => .ret (s, .und)
  | .mapUpdate t m k x => (mapUpdateOp T st t (ρ m) (ρ k) (ρ x)).bind fun s => .ret (s, .und)
  | .makeMap _ none => chk (!st.ro) (.ret ({ st with H := st.H ++ [GB.map []] }, .mp st.H.length))
  | .alloc e => chk (decide (T.sh e ≠ .other)) (chk ((zeros T e).all AV.noLp1 && !st.ro) (.ret ({ st with H := st.H ++ [GB.cells (selfAt (T.slf fid (o.dst.getD 0)) (zeros T e))] }, .gp st.H.length 0)))
  | .box e x => chk (decide (T.sh e ≠ .other) && decide ((ρ x).cells.length = size T e) && (ρ x).cells.all AV.solid) (chk (((ρ x).cells.map AV.strip).all AV.noLp1 && !st.ro) (.ret ({ st with H := st.H ++ [GB.cells (selfAt (T.slf fid (o.dst.getD 0)) ((ρ x).cells.map AV.strip))] }, .gp st.H.length 0)))
  | .call c =>
    (match c.callee with
    | .builtin b =>
      (match b, c.args.toList, c.argTypes.toList with
      | .append, [x, y], [t, t2] => (match T.sh t2 with
        | .slice _ | .str => appendW T st o.dst t (ρ x) (ρ y)
        | _ => .fail)
      | .delete, [m, k], [t, _] => (deleteOp T st t (ρ m) (ρ k)).bind fun s => .ret (s, .junk)
      | _, _, _ => .fail)
    | .value g => (match ρ g with
      | .fn f cap => callW T st o.dst f (c.args.toList.map ρ ++ cap.map AV.strip)
      | _ => .fail)
    | _ => .fail)
  | _ => .fail

/-- Operations that write. -/
def isW (o : Oper) : Bool :=
  match o.op with
  | .store _ _ _ | .mapUpdate _ _ _ _ => true
  | .makeMap _ none => o.dst.isSome
  | .alloc _ | .box _ _ => (match o.dst with | some d => T.esc fid d | none => false)
  | .call c => (match c.callee with
    | .builtin b => (match b with | .append => (match o.dst with | some d => !T.thaw fid d | none => true) | .delete => true | _ => false)
    | .value (.func f) => T.known f == 0 && (match o.dst with | some d => !T.thaw fid d | none => true)
    | _ => false)
  | _ => false
end

section
variable {T : Tab} {C : Nat → List AV → List GB → Option (AV × List GB)} {Lp : Nat → Nat → Code → St → Option (Ex × St)} {fid : Nat} {ng : Bool} {st st' : St} {o : Oper}

/-- A state with these temporaries. -/
def St.wt (s : St) (tm : List AV) : St := { s with tm }

theorem storeOp_wt (t : Nat) (a x : AV) : den C Lp (storeOp T st t a x) = (den C Lp (storeOp T st.noTm t a x)).map (·.wt st.tm) := by
  have hf : fresh st.noTm x = fresh st x := rfl
  unfold storeOp
  rw [hf]
  simp only
  rw [den_chk, den_chk]
  cases decide (T.sh t ≠ .other) && decide ((toCells (fresh st x)).length = size T t) && (toCells (fresh st x)).all AV.solid && decide (0 < (toCells (fresh st x)).length) with
  | false => rfl
  | true =>
    simp only [cond_true]
    have hu : ∀ s : St, useUp s (tcOf (fresh st x)) = (useUp s.noTm (tcOf (fresh st x))).wt s.tm := fun s => by
      cases tcOf (fresh st x) <;> rfl
    cases a with
    | lp k o =>
      simp only
      rw [den_chk, den_chk]
      show (bif decide (o + (toCells (fresh st x)).length ≤ (nthL st.L k).length) then _ else _) = Option.map _ (bif decide (o + (toCells (fresh st x)).length ≤ (nthL st.L k).length) then _ else _)
      cases decide (o + (toCells (fresh st x)).length ≤ (nthL st.L k).length) with
      | false => rfl
      | true =>
        simp only [cond_true, den_ret, Option.map_some]
        rw [hu]
        rfl
    | gp k o =>
      simp only
      rw [den_chk, den_chk]
      show (bif ((toCells (fresh st x)).all AV.noLp1 && !st.ro) then _ else _) = Option.map _ (bif ((toCells (fresh st x)).all AV.noLp1 && !st.ro) then _ else _)
      cases (toCells (fresh st x)).all AV.noLp1 && !st.ro with
      | false => rfl
      | true =>
        simp only [cond_true]
        show den C Lp (match st.H.getD k (.map []) with | .cells b => _ | .map _ => _) = Option.map _ (den C Lp (match st.H.getD k (.map []) with | .cells b => _ | .map _ => _))
        cases st.H.getD k (.map []) with
        | map es => rfl
        | cells b =>
          simp only
          rw [den_chk, den_chk]
          cases decide (o + (toCells (fresh st x)).length ≤ b.length) with
          | false => rfl
          | true =>
            simp only [cond_true, den_ret, Option.map_some]
            rw [hu]
            rfl
    | _ => rfl

theorem mapUpdateOp_wt (t : Nat) (m k x : AV) : den C Lp (mapUpdateOp T st t m k x) = (den C Lp (mapUpdateOp T st.noTm t m k x)).map (·.wt st.tm) := by
  unfold mapUpdateOp
  cases T.sh t with
  | map kt e =>
    simp only
    rw [den_bind, den_bind]
    show (den C Lp (mapAt st m)).bind _ = Option.map _ ((den C Lp (mapAt st m)).bind _)
    cases den C Lp (mapAt st m) with
    | none => rfl
    | some p =>
      obtain ⟨b, es⟩ := p
      simp only [Option.bind_some]
      rw [den_chk, den_chk]
      show (bif isKey T kt k es && !st.ro && x.pure1 && canonOk (match T.ks e with | [c] => c | _ => .x) x then _ else _) = Option.map _ (bif isKey T kt k es && !st.ro && x.pure1 && canonOk (match T.ks e with | [c] => c | _ => .x) x then _ else _)
      cases isKey T kt k es && !st.ro && x.pure1 && canonOk (match T.ks e with | [c] => c | _ => .x) x <;> rfl
  | _ => rfl

theorem deleteOp_wt (t : Nat) (m k : AV) : den C Lp (deleteOp T st t m k) = (den C Lp (deleteOp T st.noTm t m k)).map (·.wt st.tm) := by
  unfold deleteOp
  cases T.sh t with
  | map kt e =>
    simp only
    rw [den_bind, den_bind]
    show (den C Lp (mapAt st m)).bind _ = Option.map _ ((den C Lp (mapAt st m)).bind _)
    cases den C Lp (mapAt st m) with
    | none => rfl
    | some p =>
      obtain ⟨b, es⟩ := p
      simp only [Option.bind_some]
      rw [den_chk, den_chk]
      show (bif isKey T kt k es && !st.ro then _ else _) = Option.map _ (bif isKey T kt k es && !st.ro then _ else _)
      cases isKey T kt k es && !st.ro <;> rfl
  | _ => rfl

/-- What comes of a writing operation. -/
noncomputable def outOf (st : St) (dst : Option Nat) (p : St × AV) : St := (p.1.wt st.tm).put dst p.2

theorem appendOp_w {dst : Option Nat} {t : Nat} {x y : AV} (hd : (match dst with | some d => !T.thaw fid d | none => true) = true) :
    den C Lp (appendOp T fid st dst t x y) = (den C Lp (appendW T st.noTm dst t x y)).map (outOf st dst) := by
  unfold appendOp appendW
  cases T.sh t with
  | slice e =>
    cases x with
    | sl sz isnil rows own =>
      cases dst with
      | none => rfl
      | some d =>
        simp only [Bool.not_eq_true'] at hd
        simp only
        have hm : moreOf T st.noTm e y = moreOf T st e y := rfl
        rw [hm]
        cases moreOf T st e y with
        | none => rfl
        | some r2 =>
          simp only
          rw [den_chk, den_chk]
          cases decide (rows.length + r2.length ≤ 268435456) with
          | false => rfl
          | true =>
            simp only [cond_true]
            rw [den_chk, den_chk]
            cases decide (T.bytes e ≤ 4096) with
            | false => rfl
            | true =>
              simp only [cond_true]
              rw [den_chk, den_chk]
              cases r2.all (fun r => r.all AV.pure1 && r.length == size T e) with
              | false => rfl
              | true =>
                simp only [cond_true]
                rw [den_br, den_br]
                cases isnil with
                | true =>
                  simp only [cond_true]
                  rw [thawed_not hd]
                  rfl
                | false =>
                  simp only [cond_false]
                  rw [den_chk, den_chk]
                  show (bif usable st own && decide (sz = size T e) then _ else _) = Option.map _ (bif usable st own && decide (sz = size T e) then _ else _)
                  cases usable st own && decide (sz = size T e) with
                  | false => rfl
                  | true =>
                    simp only [cond_true, den_ret, Option.map_some]
                    cases own with
                    | gc k o =>
                      simp only
                      show some (St.set (useUp (match st.H.getD k (.map []) with | .cells cs => _ | _ => _) _) _ _) = some (outOf st _ (useUp (match st.H.getD k (.map []) with | .cells cs => _ | _ => _) _, _))
                      cases st.H.getD k (.map []) <;> rfl
                    | _ => rfl
    | _ => rfl
  | _ => rfl

theorem callOp_w {dst : Option Nat} {f : Nat} (args : List AV) (h : (T.known f == 0 && (match dst with | some d => !T.thaw fid d | none => true)) = true) :
    den C Lp (callOp T fid st dst true f args) = (den C Lp (callW T st.noTm dst f args)).map (outOf st dst) := by
  unfold callOp callW
  simp only [beq_iff_eq, Bool.and_eq_true] at h
  obtain ⟨h0, hd⟩ := h
  rw [h0]
  simp only
  rw [den_chk, den_chk]
  show (bif args.all (snapOk st) && Nat.blt f 1000000 then _ else _) = Option.map _ (bif args.all (snapOk st) && Nat.blt f 1000000 then _ else _)
  have hsn : ∀ v, snapOf st.noTm v = snapOf st v := fun v => by cases v <;> rfl
  simp only [hsn]
  cases args.all (snapOk st) && Nat.blt f 1000000 with
  | false => rfl
  | true =>
    simp only [cond_true]
    split
    · rw [den_call, den_call]
      cases C f (args.map fun v => (snapOf st v).stripAll) [] with
      | none => rfl
      | some vH =>
        obtain ⟨v, H'⟩ := vH
        simp only [Option.bind_some]
        rw [den_chk, den_chk]
        cases v.noRef && (!args.any isVs || noSl v) with
        | false => rfl
        | true =>
          simp only [cond_true]
          cases dst with
          | none => cases v <;> rfl
          | some d =>
            simp only [Bool.not_eq_true'] at hd
            cases v with
            | sl sz n rows own =>
              simp only
              cases own <;> first | rfl | (simp only [hd, Bool.not_false, Bool.true_or, den_chk, cond_true, thawed_not hd]; rfl)
            | _ => rfl
    · rw [den_chk, den_chk]
      cases (args.map fun v => (snapOf st v).stripAll).all AV.noLp && !args.any isVs with
      | false => rfl
      | true =>
        simp only [cond_true, Bool.true_and]
        show den C Lp (if (st.ro || !T.wr f) = true then _ else _) = Option.map _ (den C Lp (if (st.ro || !T.wr f) = true then _ else _))
        split
        · rw [den_call, den_call]
          show (C (f + 1000000) (args.map fun v => (snapOf st v).stripAll) (st.H.map stripGB)).bind _ = Option.map _ ((C (f + 1000000) (args.map fun v => (snapOf st v).stripAll) (st.H.map stripGB)).bind _)
          cases C (f + 1000000) (args.map fun v => (snapOf st v).stripAll) (st.H.map stripGB) with
          | none => rfl
          | some vH =>
            obtain ⟨v, H'⟩ := vH
            simp only [Option.bind_some]
            rw [den_chk, den_chk]
            cases v.noLp <;> rfl
        · rw [den_call, den_call]
          show (C f (args.map fun v => (snapOf st v).stripAll) st.H).bind _ = Option.map _ ((C f (args.map fun v => (snapOf st v).stripAll) st.H).bind _)
          cases C f (args.map fun v => (snapOf st v).stripAll) st.H with
          | none => rfl
          | some vH =>
            obtain ⟨v, H'⟩ := vH
            simp only [Option.bind_some]
            rw [den_chk, den_chk]
            cases v.noLp <;> rfl

theorem evOp_wop (h : isW T fid o = true) : den C Lp (evOp T fid true ng o st) = (den C Lp (wop T fid o (rho st) st.noTm)).map (outOf st o.dst) := by
  obtain ⟨dst, op, ty, pos, aft, guard⟩ := o
  cases op with
  | store t a x =>
    simp only [evOp, wop]
    rw [den_bind, den_bind, storeOp_wt]
    cases den C Lp (storeOp T st.noTm t (rho st a) (rho st x)) <;> rfl
  | mapUpdate t m k x =>
    simp only [evOp, wop]
    rw [den_bind, den_bind, mapUpdateOp_wt]
    cases den C Lp (mapUpdateOp T st.noTm t (rho st m) (rho st k) (rho st x)) <;> rfl
  | makeMap t r =>
    cases r with
    | some r => simp [isW] at h
    | none =>
      simp only [isW] at h
      simp only [evOp, wop]
      cases dst with
      | none => simp at h
      | some d =>
        simp only
        rw [den_chk, den_chk]
        show (bif !st.ro then _ else _) = Option.map _ (bif !st.ro then _ else _)
        generalize (!st.ro) = b
        cases b <;> rfl
  | alloc e =>
    simp only [isW] at h
    simp only [evOp, wop]
    rw [den_chk, den_chk]
    cases decide (T.sh e ≠ .other) with
    | false => rfl
    | true =>
      simp only [cond_true]
      unfold allocOp
      cases dst with
      | none => simp at h
      | some d =>
        simp only at h ⊢
        rw [if_pos h, den_chk, den_chk]
        show (bif (zeros T e).all AV.noLp1 && !st.ro then _ else _) = Option.map _ (bif (zeros T e).all AV.noLp1 && !st.ro then _ else _)
        cases (zeros T e).all AV.noLp1 && !st.ro <;> rfl
  | box e x =>
    simp only [isW] at h
    simp only [evOp, wop]
    rw [den_chk, den_chk]
    cases decide (T.sh e ≠ .other) && decide ((rho st x).cells.length = size T e) && (rho st x).cells.all AV.solid with
    | false => rfl
    | true =>
      simp only [cond_true]
      unfold allocOp
      cases dst with
      | none => simp at h
      | some d =>
        simp only at h ⊢
        rw [if_pos h, den_chk, den_chk]
        show (bif ((rho st x).cells.map AV.strip).all AV.noLp1 && !st.ro then _ else _) = Option.map _ (bif ((rho st x).cells.map AV.strip).all AV.noLp1 && !st.ro then _ else _)
        cases ((rho st x).cells.map AV.strip).all AV.noLp1 && !st.ro <;> rfl
  | call c =>
    simp only [isW] at h
    simp only [evOp, wop]
    cases hc : c.callee with
    | builtin b =>
      rw [hc] at h
      simp only
      cases b <;> simp only [Bool.false_eq_true] at h
      case append =>
        rcases c.args.toList with _ | ⟨x, _ | ⟨y, _ | ⟨z, xs⟩⟩⟩ <;> rcases c.argTypes.toList with _ | ⟨t, _ | ⟨t2, _ | ⟨t3, ts⟩⟩⟩ <;> try rfl
        simp only
        cases T.sh t2 <;> first | exact appendOp_w h | rfl
      case delete =>
        rcases c.args.toList with _ | ⟨x, _ | ⟨y, _ | ⟨z, xs⟩⟩⟩ <;> rcases c.argTypes.toList with _ | ⟨t, _ | ⟨t2, _ | ⟨t3, ts⟩⟩⟩ <;> try rfl
        simp only
        rw [den_bind, den_bind, deleteOp_wt]
        cases den C Lp (deleteOp T st.noTm t (rho st x) (rho st y)) <;> rfl
    | value g =>
      rw [hc] at h
      cases g with
      | func f =>
        simp only at h
        exact callOp_w _ h
      | _ => simp at h
    | invoke r m => rw [hc] at h; simp at h
  | _ => simp [isW] at h

theorem wop_rho {ρ ρ' : Operand → AV} (hr : ∀ x ∈ o.op.operands, ρ x = ρ' x) : wop T fid o ρ st = wop T fid o ρ' st := by
  obtain ⟨dst, op, ty, pos, aft, guard⟩ := o
  simp only [Op.operands] at hr
  cases op with
  | call c =>
    have hm : c.args.toList.map ρ = c.args.toList.map ρ' := List.map_congr_left fun x hx => hr x (by simp [Call.operands]; exact .inr (by simpa using hx))
    simp only [Call.operands] at hr
    simp only [wop]
    cases hcc : c.callee with
    | builtin b =>
      simp only
      split
      · rename_i x y t t2 hx ht
        rw [hx] at hm
        simp only [List.map_cons, List.map_nil, List.cons.injEq, and_true] at hm
        rw [hm.1, hm.2]
      · rename_i m k t _ hx ht
        rw [hx] at hm
        simp only [List.map_cons, List.map_nil, List.cons.injEq, and_true] at hm
        rw [hm.1, hm.2]
      · rfl
    | value g =>
      rw [hcc] at hr
      simp only
      rw [hr g (by simp), hm]
    | invoke r m => rfl
  | makeMap t r => cases r <;> rfl
  | _ => first | rfl | (simp only [wop]; simp_all; done)
end
end Go.Ab
namespace Go.Ab

noncomputable section
variable (T : Tab) (C : Nat → List AV → List GB → Option (AV × List GB)) (Lp : Nat → Nat → Code → St → Option (Ex × St)) (fid : Nat)

/-- What a guard says, by a reading. -/
def guardV (ops : Array Oper) (ρ : Operand → AV) (o : Oper) : Option Bool :=
  match o.guard with
  | none => some true
  | some (j, want) =>
    match (ops[j]?).bind (·.dst) with
    | none => none
    | some d => match ρ (.tmp d) with
      | .bool b => some (b == want)
      | .und => some false
      | _ => none

/-- One step. -/
def stepO (cks : Nat → Ck) (ops : Array Oper) (i : Nat) (st : St) : Option St :=
  den C Lp (match ops[i]? with
    | none => .fail
    | some o => wantedR ops st o (fun st => withCk (cks i) o st (evOp T fid true (ngOf true ops i) o st)) (fun st => .ret (st.put o.dst .und)))

/-- What is asked ahead of it, by a reading. -/
def preR (ck : Ck) (o : Oper) (ρ : Operand → AV) : Bool :=
  (ck.forb.all fun d => o.op.operands.toList.all fun x => (ρ x).depOk (fun k => !(k == d)) && notJunk (ρ x)) &&
  !ck.alone &&
  (match ck.root with
    | some r => (match o.op with
      | .load _ a => sameBlk (ρ a) (ρ (.tmp r))
      | .store _ a _ => sameBlk (ρ a) (ρ (.tmp r))
      | _ => false)
    | none => true) &&
  ck.apart.all fun p => diffBlk (ρ (.tmp p.1)) (ρ (.tmp p.2))
/-- .. and behind it. -/
def postV (ck : Ck) (dst : Option Nat) (len : Nat) (x : AV) : Bool :=
  match dst with
  | some t => !(Nat.blt t len) || ck.forb.all fun d => x.depOk (fun k => !(k == d))
  | none => true

def baseO (ng : Bool) (o : Oper) (ρ : Operand → AV) (s : St) : Option (St × AV) :=
  bif isV T fid o then (den C Lp (vop T ng o ρ s)).map (fun x => (s, x)) else den C Lp (wop T fid o ρ s)

def actC (ops : Array Oper) (ng : Bool) (ck : Ck) (o : Oper) (ρ : Operand → AV) (s : St) (len : Nat) : Option (St × AV) :=
  (guardV ops ρ o).bind fun b => bif b then (bif ck.plain then baseO T C Lp fid ng o ρ s else bif preR ck o ρ then (baseO T C Lp fid ng o ρ s).bind (fun p => bif postV ck o.dst len p.2 then some p else none) else none) else some (s, .und)

def ckLooks (ck : Ck) : List Nat := ck.root.toList ++ ck.apart.flatMap fun p => [p.1, p.2]

def goodO (o : Oper) : Bool := isV T fid o || isW T fid o
end

section
variable {T : Tab} {C : Nat → List AV → List GB → Option (AV × List GB)} {Lp : Nat → Nat → Code → St → Option (Ex × St)} {fid : Nat} {ng : Bool} {st st' : St} {o : Oper} {ops : Array Oper} {cks : Nat → Ck}

theorem den_wanted (yes no : St → R St) : den C Lp (wantedR ops st o yes no) = (guardV ops (rho st) o).bind fun b => bif b then den C Lp (yes st) else den C Lp (no st) := by
  unfold wantedR guardV
  cases o.guard with
  | none => rfl
  | some jw =>
    obtain ⟨j, want⟩ := jw
    simp only
    cases (ops[j]?).bind (·.dst) with
    | none => rfl
    | some d =>
      simp only [rho]
      cases hv : st.get d with
      | bool b =>
        have hset : st.set d (.bool b) = st := litBool_id (c := .tmp d) hv
        simp only [den_br]
        cases b <;> cases want <;> simp [hset]
      | _ => rfl

theorem base_den (hg : goodO T fid o = true) : den C Lp (evOp T fid true ng o st) = (baseO T C Lp fid ng o (rho st) st.noTm).map (outOf st o.dst) := by
  unfold baseO
  cases hv : isV T fid o with
  | true =>
    simp only [cond_true]
    rw [evOp_vop hv, Option.map_map]
    rfl
  | false =>
    simp only [cond_false]
    rw [goodO, hv, Bool.false_or] at hg
    exact evOp_wop hg

theorem post_out (ck : Ck) (o : Oper) (p : St × AV) : postOk ck o (outOf st o.dst p) = postV ck o.dst st.tm.length p.2 := by
  unfold postOk postV
  cases o.dst with
  | none => rfl
  | some t =>
    simp only
    have hget : (outOf st (some t) p).get t = if t < st.tm.length then p.2 else .junk := by
      show nth (upd st.tm t p.2) t = _
      rw [upd_eq_set, nth_eq_getD]
      split
      · rename_i h; simp [List.getD, List.getElem?_set, h]
      · rename_i h; simp [List.getD, List.getElem?_set, h]
    rw [hget]
    split
    · rename_i h
      have : Nat.blt t st.tm.length = true := Nat.ble_eq_true_of_le h
      rw [this]; rfl
    · rename_i h
      have : Nat.blt t st.tm.length = false := by
        cases hb : Nat.blt t st.tm.length with
        | false => rfl
        | true => exact absurd (Nat.le_of_ble_eq_true hb) h
      rw [this]
      simp [AV.depOk, AV.cellDep]

theorem pre_rho (ck : Ck) (o : Oper) (h : ck.alone = false) : preOk ck o st = preR ck o (rho st) := by
  unfold preOk preR
  rw [h]
  cases o.dst <;> rfl

theorem step_act {i : Nat} (ho : ops[i]? = some o) (hg : goodO T fid o = true) (hpl : (cks i).plain = true ∨ (cks i).alone = false) :
    stepO T C Lp fid cks ops i st = (actC T C Lp fid ops (ngOf true ops i) (cks i) o (rho st) st.noTm st.tm.length).map (outOf st o.dst) := by
  unfold stepO actC
  rw [ho]
  simp only
  rw [den_wanted]
  cases guardV ops (rho st) o with
  | none => rfl
  | some b =>
    simp only [Option.bind_some]
    cases b with
    | false => rfl
    | true =>
      simp only [cond_true, withCk]
      cases hp : (cks i).plain with
      | true =>
        simp only [cond_true]
        exact base_den hg
      | false =>
        simp only [cond_false]
        have hal : (cks i).alone = false := hpl.resolve_left (by rw [hp]; simp)
        rw [den_chk, pre_rho _ _ hal]
        cases preR (cks i) o (rho st) with
        | false => rfl
        | true =>
          simp only [cond_true]
          rw [den_bind, base_den hg]
          cases baseO T C Lp fid (ngOf true ops i) o (rho st) st.noTm with
          | none => rfl
          | some p =>
            simp only [Option.map_some, Option.bind_some]
            rw [den_chk, post_out]
            cases postV (cks i) o.dst st.tm.length p.2 <;> rfl

theorem guardV_rho {ρ ρ' : Operand → AV} (h : ∀ d ∈ o.looksAt ops, ρ (.tmp d) = ρ' (.tmp d)) : guardV ops ρ o = guardV ops ρ' o := by
  unfold guardV
  cases hg : o.guard with
  | none => rfl
  | some jw =>
    obtain ⟨j, want⟩ := jw
    simp only
    cases hd : (ops[j]?).bind (·.dst) with
    | none => rfl
    | some d =>
      simp only
      rw [h d (by simp [Oper.looksAt, hg, hd])]

theorem baseO_rho {ρ ρ' : Operand → AV} {s : St} (h : ∀ d ∈ o.looksAt ops, ρ (.tmp d) = ρ' (.tmp d)) (hc : ∀ x, (∀ d, x ≠ .tmp d) → ρ x = ρ' x) :
    (∀ x ∈ o.op.operands, ρ x = ρ' x) ∧ baseO T C Lp fid ng o ρ s = baseO T C Lp fid ng o ρ' s := by
  have hr : ∀ x ∈ o.op.operands, ρ x = ρ' x := fun x hx => by
    cases x with
    | tmp d => exact h d (List.mem_append_left _ (List.mem_filterMap.2 ⟨.tmp d, by simpa using hx, rfl⟩))
    | _ => exact hc _ (fun d hd => by cases hd)
  refine ⟨hr, ?_⟩
  unfold baseO
  rw [vop_rho hr, wop_rho hr]

theorem preR_rho {ck : Ck} {ρ ρ' : Operand → AV} (hr : ∀ x ∈ o.op.operands, ρ x = ρ' x) (hk : ∀ d ∈ ckLooks ck, ρ (.tmp d) = ρ' (.tmp d)) : preR ck o ρ = preR ck o ρ' := by
  unfold preR
  have h1 : (ck.forb.all fun d => o.op.operands.toList.all fun x => (ρ x).depOk (fun k => !(k == d)) && notJunk (ρ x)) = (ck.forb.all fun d => o.op.operands.toList.all fun x => (ρ' x).depOk (fun k => !(k == d)) && notJunk (ρ' x)) := by
    congr 1
    funext d
    rw [Bool.eq_iff_iff]
    simp only [List.all_eq_true]
    constructor
    · intro hh x hx; rw [← hr x (by simpa using hx)]; exact hh x hx
    · intro hh x hx; rw [hr x (by simpa using hx)]; exact hh x hx
  have h2 : (ck.apart.all fun p => diffBlk (ρ (.tmp p.1)) (ρ (.tmp p.2))) = (ck.apart.all fun p => diffBlk (ρ' (.tmp p.1)) (ρ' (.tmp p.2))) := by
    rw [Bool.eq_iff_iff]
    simp only [List.all_eq_true]
    have hm : ∀ p ∈ ck.apart, ρ (.tmp p.1) = ρ' (.tmp p.1) ∧ ρ (.tmp p.2) = ρ' (.tmp p.2) := fun p hp =>
      ⟨hk _ (List.mem_append_right _ (List.mem_flatMap.2 ⟨p, hp, by simp⟩)), hk _ (List.mem_append_right _ (List.mem_flatMap.2 ⟨p, hp, by simp⟩))⟩
    constructor
    · intro hh p hp; rw [← (hm p hp).1, ← (hm p hp).2]; exact hh p hp
    · intro hh p hp; rw [(hm p hp).1, (hm p hp).2]; exact hh p hp
  have h3 : (match ck.root with
    | some r => (match o.op with
      | .load _ a => sameBlk (ρ a) (ρ (.tmp r))
      | .store _ a _ => sameBlk (ρ a) (ρ (.tmp r))
      | _ => false)
    | none => true) = (match ck.root with
    | some r => (match o.op with
      | .load _ a => sameBlk (ρ' a) (ρ' (.tmp r))
      | .store _ a _ => sameBlk (ρ' a) (ρ' (.tmp r))
      | _ => false)
    | none => true) := by
    cases hro : ck.root with
    | none => rfl
    | some r =>
      have hrr := hk r (List.mem_append_left _ (by rw [hro]; simp))
      simp only
      cases hop : o.op <;> simp only [hop, Op.operands] at hr ⊢
      case load t a => rw [hr a (by simp), hrr]
      case store t a x => rw [hr a (by simp), hrr]
  rw [h1, h2, h3]

theorem actC_rho {ck : Ck} {ρ ρ' : Operand → AV} {s : St} {len : Nat} (h : ∀ d ∈ o.looksAt ops, ρ (.tmp d) = ρ' (.tmp d)) (hk : ∀ d ∈ ckLooks ck, ρ (.tmp d) = ρ' (.tmp d)) (hc : ∀ x, (∀ d, x ≠ .tmp d) → ρ x = ρ' x) :
    actC T C Lp fid ops ng ck o ρ s len = actC T C Lp fid ops ng ck o ρ' s len := by
  obtain ⟨hr, hb⟩ := baseO_rho (T := T) (C := C) (Lp := Lp) (fid := fid) (ng := ng) (s := s) h hc
  unfold actC
  rw [guardV_rho h, hb, preR_rho hr hk]

theorem base_P {ρ : Operand → AV} {s s1 : St} {x : AV} (hf : ∀ f, ρ (.func f) = .fn f []) (hp : isP T fid o = true) (h : baseO T C Lp fid ng o ρ s = some (s1, x)) :
    s1 = s ∧ ∀ s', baseO T C Lp fid ng o ρ s' = some (s', x) := by
  have hv : isV T fid o = true := by
    simp only [isP, Bool.and_eq_true] at hp
    exact hp.1
  unfold baseO at h ⊢
  simp only [hv, cond_true] at h ⊢
  cases hd : den C Lp (vop T ng o ρ s) with
  | none => rw [hd] at h; simp at h
  | some y =>
    rw [hd] at h
    simp only [Option.map_some, Option.some.injEq, Prod.mk.injEq] at h
    refine ⟨h.1.symm, fun s' => ?_⟩
    rw [vop_pure hf hp (s := s') (s' := s), hd]
    simp [h.2]
theorem base_V {ρ : Operand → AV} {s s1 : St} {x : AV} (hv : isV T fid o = true) (h : baseO T C Lp fid ng o ρ s = some (s1, x)) : s1 = s := by
  unfold baseO at h
  simp only [hv, cond_true] at h
  cases hd : den C Lp (vop T ng o ρ s) with
  | none => rw [hd] at h; simp at h
  | some y =>
    rw [hd] at h
    simp only [Option.map_some, Option.some.injEq, Prod.mk.injEq] at h
    exact h.1.symm

/-- From what an operation does by itself to what it does with its checks. -/
theorem actC_base {ck : Ck} {ρ : Operand → AV} {s s1 : St} {x : AV} {len : Nat} (h : actC T C Lp fid ops ng ck o ρ s len = some (s1, x)) :
    (s1 = s ∧ ∀ s', actC T C Lp fid ops ng ck o ρ s' len = some (s', x)) ∨
    ((ck.plain = false → preR ck o ρ = true) ∧ baseO T C Lp fid ng o ρ s = some (s1, x) ∧ ∀ s' s1', baseO T C Lp fid ng o ρ s' = some (s1', x) → actC T C Lp fid ops ng ck o ρ s' len = some (s1', x)) := by
  unfold actC at h ⊢
  cases hg : guardV ops ρ o with
  | none => rw [hg] at h; simp at h
  | some b =>
    rw [hg] at h
    simp only [Option.bind_some] at h ⊢
    cases b with
    | false =>
      simp only [cond_false, Option.some.injEq, Prod.mk.injEq] at h ⊢
      exact .inl ⟨h.1.symm, fun s' => ⟨trivial, h.2⟩⟩
    | true =>
      simp only [cond_true] at h ⊢
      cases hp : ck.plain with
      | true =>
        rw [hp] at h
        simp only [cond_true] at h ⊢
        exact .inr ⟨fun hh => (by cases hh), h, fun s' s1' hh => hh⟩
      | false =>
        rw [hp] at h
        simp only [cond_false] at h ⊢
        cases hr : preR ck o ρ with
        | false => rw [hr] at h; simp at h
        | true =>
          rw [hr] at h
          simp only [cond_true] at h ⊢
          cases hb : baseO T C Lp fid ng o ρ s with
          | none => rw [hb] at h; simp at h
          | some p =>
            rw [hb] at h
            simp only [Option.bind_some] at h
            cases hq : postV ck o.dst len p.2 with
            | false => rw [hq] at h; simp at h
            | true =>
              rw [hq] at h
              simp only [cond_true, Option.some.injEq] at h
              subst h
              refine .inr ⟨by simp, by simp, fun s' s1' hh => ?_⟩
              rw [hh]
              simp only [Option.bind_some, hq, cond_true]

theorem actC_P {ck : Ck} {ρ : Operand → AV} {s s1 : St} {x : AV} {len : Nat} (hf : ∀ f, ρ (.func f) = .fn f []) (hp : isP T fid o = true) (h : actC T C Lp fid ops ng ck o ρ s len = some (s1, x)) :
    s1 = s ∧ ∀ s', actC T C Lp fid ops ng ck o ρ s' len = some (s', x) := by
  rcases actC_base h with h1 | ⟨_, h2, h3⟩
  · exact h1
  · obtain ⟨k1, k2⟩ := base_P hf hp h2
    exact ⟨k1, fun s' => h3 s' s' (k2 s')⟩
theorem actC_V {ck : Ck} {ρ : Operand → AV} {s s1 : St} {x : AV} {len : Nat} (hv : isV T fid o = true) (h : actC T C Lp fid ops ng ck o ρ s len = some (s1, x)) : s1 = s := by
  rcases actC_base h with h1 | ⟨_, h2, _⟩
  · exact h1.1
  · exact base_V hv h2

theorem upd_get {l : List AV} {d t : Nat} (v : AV) (h : d ≠ t) : nth (upd l d v) t = nth l t := by
  rw [upd_eq_set, nth_eq_getD, nth_eq_getD]
  simp [List.getD, List.getElem?_set, h]

theorem outOf_rho {p : St × AV} {dst : Option Nat} {d : Nat} (h : dst ≠ some d) : rho (outOf st dst p) (.tmp d) = rho st (.tmp d) := by
  cases dst with
  | none => rfl
  | some e => exact upd_get p.2 (fun he => h (by rw [he]))

theorem rho_const (x : Operand) (h : ∀ d, x ≠ .tmp d) : rho st x = rho st' x := by
  cases x with
  | tmp d => exact absurd rfl (h d)
  | _ => rfl

theorem outOf_noTm (p : St × AV) (dst : Option Nat) : (outOf st dst p).noTm = p.1.noTm := by
  cases dst <;> rfl

theorem eq_of_noTm {a b : St} (h : a.noTm = b.noTm) (ht : a.tm = b.tm) : a = b := by
  obtain ⟨a1, a2, a3, a4, a5, a6, a7⟩ := a
  obtain ⟨b1, b2, b3, b4, b5, b6, b7⟩ := b
  simp only [St.noTm, St.mk.injEq, true_and] at h
  obtain ⟨rfl, rfl, rfl, rfl, rfl, rfl⟩ := h
  simp only at ht
  rw [ht]

noncomputable def putL (l : List AV) (d : Option Nat) (v : AV) : List AV := match d with | some t => upd l t v | none => l
theorem outOf_tm (p : St × AV) (dst : Option Nat) : (outOf st dst p).tm = putL st.tm dst p.2 := by
  cases dst <;> rfl
theorem putL_comm {l : List AV} {d e : Option Nat} {x y : AV} (h : ∀ t, d = some t → e ≠ some t) : putL (putL l d x) e y = putL (putL l e y) d x := by
  cases d with
  | none => rfl
  | some d =>
    cases e with
    | none => rfl
    | some e =>
      have hne : d ≠ e := fun he => h d rfl (by rw [he])
      simp only [putL, upd_eq_set]
      rw [List.set_comm _ _ hne]

theorem outOf_len (p : St × AV) (dst : Option Nat) : (outOf st dst p).tm.length = st.tm.length := by
  rw [outOf_tm]
  cases dst with
  | none => rfl
  | some t => simp [putL, upd_eq_set]

theorem comm_act {i j : Nat} {oi oj : Oper} (hi : ops[i]? = some oi) (hj : ops[j]? = some oj) (gi : goodO T fid oi = true) (gj : goodO T fid oj = true) (pi : (cks i).plain = true ∨ (cks i).alone = false) (pj : (cks j).plain = true ∨ (cks j).alone = false) (hap : oi.apart ops oj = true)
    (ei : ∀ d, oi.dst = some d → d ∉ ckLooks (cks j)) (ej : ∀ d, oj.dst = some d → d ∉ ckLooks (cks i))
    (hc : ∀ (len : Nat) (ρ : Operand → AV) (s s1 : St) (x : AV) (s2 : St) (y : AV), (∀ f, ρ (.func f) = .fn f []) → s.noTm = s → actC T C Lp fid ops (ngOf true ops i) (cks i) oi ρ s len = some (s1, x) → actC T C Lp fid ops (ngOf true ops j) (cks j) oj ρ s1.noTm len = some (s2, y) →
      ∃ s1', actC T C Lp fid ops (ngOf true ops j) (cks j) oj ρ s len = some (s1', y) ∧ ∃ s2', actC T C Lp fid ops (ngOf true ops i) (cks i) oi ρ s1'.noTm len = some (s2', x) ∧ s2'.noTm = s2.noTm) :
    ∀ s s2, ((stepO T C Lp fid cks ops i s).bind (stepO T C Lp fid cks ops j)) = some s2 → ((stepO T C Lp fid cks ops j s).bind (stepO T C Lp fid cks ops i)) = some s2 := by
  intro st st2 h
  obtain ⟨k1, k2, k3⟩ := Oper.apart_spec hap
  rw [step_act hi gi pi] at h
  cases hA : actC T C Lp fid ops (ngOf true ops i) (cks i) oi (rho st) st.noTm st.tm.length with
  | none => rw [hA] at h; simp at h
  | some p =>
    obtain ⟨s1, x⟩ := p
    rw [hA] at h
    simp only [Option.map_some, Option.bind_some] at h
    rw [step_act hj gj pj, outOf_noTm, outOf_len, actC_rho (ρ' := rho st) (fun d hd => outOf_rho fun he => k1 d he hd) (fun d hd => outOf_rho fun he => ei d he hd) (fun x hx => rho_const x hx)] at h
    cases hB : actC T C Lp fid ops (ngOf true ops j) (cks j) oj (rho st) s1.noTm st.tm.length with
    | none => rw [hB] at h; simp at h
    | some q =>
      obtain ⟨s2, y⟩ := q
      rw [hB] at h
      simp only [Option.map_some, Option.some.injEq] at h
      obtain ⟨s1', h1, s2', h2, h3⟩ := hc st.tm.length (rho st) st.noTm s1 x s2 y (fun _ => rfl) rfl hA hB
      rw [step_act hj gj pj, h1]
      simp only [Option.map_some, Option.bind_some]
      rw [step_act hi gi pi, outOf_noTm, outOf_len, actC_rho (ρ' := rho st) (fun d hd => outOf_rho fun he => k3 d he hd) (fun d hd => outOf_rho fun he => ej d he hd) (fun x hx => rho_const x hx), h2]
      simp only [Option.map_some, Option.some.injEq]
      rw [← h]
      refine eq_of_noTm ?_ ?_
      · rw [outOf_noTm, outOf_noTm]; exact h3
      · rw [outOf_tm, outOf_tm, outOf_tm, outOf_tm]
        exact (putL_comm k2).symm

/-- Two addresses that lie apart, by their roots. -/
theorem blk_lp {k o : Nat} {u : AV} (h : sameBlk (.lp k o) u = true) : (∃ o', u = .lp k o') ∨ ∃ o' n z, u = .vs k o' n z := by
  cases u <;> simp_all [sameBlk]
theorem blk_gp {k o : Nat} {u : AV} (h : sameBlk (.gp k o) u = true) : ∃ o', u = .gp k o' := by
  cases u <;> simp_all [sameBlk]
theorem far_lp {a b r1 r2 : AV} (h1 : sameBlk a r1 = true) (h2 : sameBlk b r2 = true) (hd : diffBlk r1 r2 = true ∨ diffBlk r2 r1 = true) (k o o' : Nat) : ¬(a = .lp k o ∧ b = .lp k o') := by
  rintro ⟨rfl, rfl⟩
  rcases blk_lp h1 with ⟨x, rfl⟩ | ⟨x, n, z, rfl⟩ <;> rcases blk_lp h2 with ⟨y, rfl⟩ | ⟨y, m, q, rfl⟩ <;> simp [diffBlk] at hd
theorem far_gp {a b r1 r2 : AV} (h1 : sameBlk a r1 = true) (h2 : sameBlk b r2 = true) (hd : diffBlk r1 r2 = true ∨ diffBlk r2 r1 = true) (k o o' : Nat) : ¬(a = .gp k o ∧ b = .gp k o') := by
  rintro ⟨rfl, rfl⟩
  obtain ⟨x, rfl⟩ := blk_gp h1
  obtain ⟨y, rfl⟩ := blk_gp h2
  simp [diffBlk] at hd

theorem useUp_LH (s : St) (o : Own) : (useUp s o).L = s.L ∧ (useUp s o).H = s.H := by
  cases o <;> exact ⟨rfl, rfl⟩

theorem nthL_upd {l : List (List AV)} {k k' : Nat} (v : List AV) (h : k ≠ k') : nthL (upd l k v) k' = nthL l k' := by
  rw [upd_eq_set, nthL_eq_getD, nthL_eq_getD]
  simp [List.getD, List.getElem?_set, h]
theorem read_same {s s1 : St} {a : AV} {n : Nat} (hL : ∀ k o, a = .lp k o → nthL s1.L k = nthL s.L k) (hH : ∀ k o, a = .gp k o → s1.H.getD k (.map []) = s.H.getD k (.map [])) : readCells s1 a n = readCells s a n := by
  cases a with
  | lp k o => simp only [readCells, hL k o rfl]
  | gp k o => simp only [readCells, hH k o rfl]
  | _ => rfl

/-- A store leaves what lies elsewhere. -/
theorem load_same {T : Tab} {s s1 : St} {t : Nat} {a : AV} (hL : ∀ k o, a = .lp k o → nthL s1.L k = nthL s.L k) (hH : ∀ k o, a = .gp k o → s1.H.getD k (.map []) = s.H.getD k (.map [])) : loadOp T s1 t a = loadOp T s t a := by
  cases a with
  | lp k o => simp only [loadOp, loadBlk, readCells, hL k o rfl]
  | gp k o => simp only [loadOp, loadBlk, readCells, hH k o rfl]
  | _ => rfl

theorem store_far {s s1 : St} {t : Nat} {a b v : AV} (h : den C Lp (storeOp T s t b v) = some s1) (hl : ∀ k o o', ¬(a = .lp k o ∧ b = .lp k o')) (hg : ∀ k o o', ¬(a = .gp k o ∧ b = .gp k o')) : (∀ k o, a = .lp k o → nthL s1.noTm.L k = nthL s.L k) ∧ (∀ k o, a = .gp k o → s1.noTm.H.getD k (.map []) = s.H.getD k (.map [])) := by
  unfold storeOp at h
  simp only at h
  obtain ⟨_, h⟩ := den_chk_some C Lp h
  cases b with
  | lp k o =>
    simp only at h
    obtain ⟨_, h⟩ := den_chk_some C Lp h
    simp only [den_ret, Option.some.injEq] at h
    subst h
    refine ⟨fun k' o' ha => ?_, fun k' o' ha => ?_⟩
    · have hk : k ≠ k' := fun e => hl k' o' o ⟨ha, by rw [e]⟩
      show nthL (useUp _ _).L k' = _
      rw [(useUp_LH _ _).1]
      exact nthL_upd _ hk
    · show (useUp _ _).H.getD k' (.map []) = _
      rw [(useUp_LH _ _).2]
  | gp k o =>
    simp only at h
    obtain ⟨_, h⟩ := den_chk_some C Lp h
    split at h
    · obtain ⟨_, h⟩ := den_chk_some C Lp h
      simp only [den_ret, Option.some.injEq] at h
      subst h
      refine ⟨fun k' o' ha => ?_, fun k' o' ha => ?_⟩
      · show nthL (useUp _ _).L k' = _
        rw [(useUp_LH _ _).1]
      · have hk : k ≠ k' := fun e => hg k' o' o ⟨ha, by rw [e]⟩
        show (useUp _ _).H.getD k' (.map []) = _
        rw [(useUp_LH _ _).2]
        simp [List.getD, List.getElem?_set, hk]
    · simp at h
  | _ => simp at h
end

section
variable (T : Tab) (fid : Nat)
/-- A load and a store whose addresses have roots that lie apart. -/
def lsOk (a b : Oper) (ca cb : Ck) : Bool :=
  match a.op, b.op, ca.root, cb.root with
  | .load _ _, .store _ _ _, some r, some q => !ca.plain && !cb.plain && (ca.apart.contains (r, q) || ca.apart.contains (q, r) || cb.apart.contains (r, q) || cb.apart.contains (q, r))
  | _, _, _, _ => false
/-- Two operations that may change places. -/
noncomputable def pairOk (ops : Array Oper) (a b : Oper) (ca cb : Ck) : Bool :=
  (ca.plain || !ca.alone) && (cb.plain || !cb.alone) && a.apart ops b && (match a.dst with | some d => !(ckLooks cb).contains d | none => true) && (match b.dst with | some d => !(ckLooks ca).contains d | none => true) &&
  ((isP T fid a && goodO T fid b) || (isP T fid b && goodO T fid a) || (isV T fid a && isV T fid b) || lsOk a b ca cb || lsOk b a cb ca)
end

section
variable {T : Tab} {P : Program} {C : Nat → List AV → List GB → Option (AV × List GB)} {Lp : Nat → Nat → Code → St → Option (Ex × St)} {fid : Nat} {st st' : St} {ops : Array Oper} {cks : Nat → Ck} {g : Gh} {a : Act} {w : World}

theorem isP_isV {o : Oper} (h : isP T fid o = true) : isV T fid o = true := by
  simp only [isP, Bool.and_eq_true] at h
  exact h.1
theorem isV_good {o : Oper} (h : isV T fid o = true) : goodO T fid o = true := by
  rw [goodO, h]; rfl

theorem load_isV {o : Oper} {t : TypeId} {a : Operand} (h : o.op = .load t a) : isV T fid o = true := by unfold isV; rw [h]
theorem store_isW {o : Oper} {t : TypeId} {a v : Operand} (h : o.op = .store t a v) : isW T fid o = true := by unfold isW; rw [h]
theorem store_notV {o : Oper} {t : TypeId} {a v : Operand} (h : o.op = .store t a v) : isV T fid o = false := by unfold isV; rw [h]

/-- What a load yields, before and behind a store elsewhere. -/
theorem ls_same {oa ob : Oper} {ca cb : Ck} {ng ng' : Bool} {ρ : Operand → AV} {s s1 : St} {y : AV} (hls : lsOk oa ob ca cb = true) (hpa : preR ca oa ρ = true) (hpb : preR cb ob ρ = true) (hs : baseO T C Lp fid ng' ob ρ s = some (s1, y)) :
    (baseO T C Lp fid ng oa ρ s1.noTm).map Prod.snd = (baseO T C Lp fid ng oa ρ s).map Prod.snd := by
  unfold lsOk at hls
  split at hls
  · rename_i t a t2 b v r q ha hb hra hrb
    simp only [preR, Bool.and_eq_true, hra, hrb, ha, hb] at hpa hpb
    have hd : diffBlk (ρ (.tmp r)) (ρ (.tmp q)) = true ∨ diffBlk (ρ (.tmp q)) (ρ (.tmp r)) = true := by
      simp only [Bool.and_eq_true, Bool.or_eq_true, List.contains_iff_mem] at hls
      rcases hls.2 with ((h | h) | h) | h
      · exact .inl (List.all_eq_true.1 hpa.2 _ h)
      · exact .inr (List.all_eq_true.1 hpa.2 _ h)
      · exact .inl (List.all_eq_true.1 hpb.2 _ h)
      · exact .inr (List.all_eq_true.1 hpb.2 _ h)
    have hs' : den C Lp (storeOp T s t2 (ρ b) (ρ v)) = some s1 := by
      unfold baseO at hs
      rw [store_notV hb, cond_false] at hs
      simp only [wop, hb] at hs
      obtain ⟨x, h1, h2⟩ := den_bind_some C Lp hs
      simp only [den_ret, Option.some.injEq, Prod.mk.injEq] at h2
      rw [← h2.1]
      exact h1
    unfold baseO
    rw [load_isV ha]
    simp only [cond_true, Option.map_map]
    have hv : vop T ng oa ρ s1.noTm = vop T ng oa ρ s := by
      simp only [vop, ha]
      have hl : loadOp T s1.noTm t (ρ a) = loadOp T s t (ρ a) := by
        have hf := store_far (s1 := s1) hs' (far_lp hpa.1.2 hpb.1.2 hd) (far_gp hpa.1.2 hpb.1.2 hd)
        exact load_same hf.1 hf.2
      rw [hl]
    rw [hv]
    rfl
  · cases hls

theorem ls_plain {oa ob : Oper} {ca cb : Ck} (hls : lsOk oa ob ca cb = true) : ca.plain = false ∧ cb.plain = false ∧ isV T fid oa = true ∧ goodO T fid ob = true := by
  unfold lsOk at hls
  split at hls
  · rename_i ha hb _ _
    simp only [Bool.and_eq_true, Bool.not_eq_true'] at hls
    refine ⟨hls.1.1, hls.1.2, load_isV ha, ?_⟩
    rw [goodO, store_isW hb, Bool.or_true]
  · cases hls

theorem base_of_snd {o : Oper} {ng : Bool} {ρ : Operand → AV} {s : St} {x : AV} (hv : isV T fid o = true) (h : (baseO T C Lp fid ng o ρ s).map Prod.snd = some x) : baseO T C Lp fid ng o ρ s = some (s, x) := by
  cases hb : baseO T C Lp fid ng o ρ s with
  | none => rw [hb] at h; cases h
  | some p =>
    obtain ⟨s1, y⟩ := p
    rw [hb] at h
    simp only [Option.map_some, Option.some.injEq] at h
    rw [base_V hv hb, h]

theorem pair_comm {i j : Nat} {oi oj : Oper} (hi : ops[i]? = some oi) (hj : ops[j]? = some oj) (h : pairOk T fid ops oi oj (cks i) (cks j) = true) :
    ∀ s s2, ((stepO T C Lp fid cks ops i s).bind (stepO T C Lp fid cks ops j)) = some s2 → ((stepO T C Lp fid cks ops j s).bind (stepO T C Lp fid cks ops i)) = some s2 := by
  simp only [pairOk, Bool.and_eq_true, Bool.or_eq_true, Bool.not_eq_true'] at h
  obtain ⟨⟨⟨⟨⟨pi, pj⟩, hap⟩, hei⟩, hej⟩, h⟩ := h
  have ei : ∀ d, oi.dst = some d → d ∉ ckLooks (cks j) := fun d hd => by rw [hd] at hei; simpa using hei
  have ej : ∀ d, oj.dst = some d → d ∉ ckLooks (cks i) := fun d hd => by rw [hd] at hej; simpa using hej
  rcases h with (((⟨h1, h2⟩ | ⟨h1, h2⟩) | ⟨h1, h2⟩) | hls) | hls
  · refine comm_act hi hj (isV_good (isP_isV h1)) h2 pi pj hap ei ej fun len ρ s s1 x s2 y hf hs q1 q2 => ?_
    obtain ⟨rfl, q3⟩ := actC_P hf h1 q1
    rw [hs] at q2
    exact ⟨s2, q2, s2.noTm, q3 _, rfl⟩
  · refine comm_act hi hj h2 (isV_good (isP_isV h1)) pi pj hap ei ej fun len ρ s s1 x s2 y hf hs q1 q2 => ?_
    obtain ⟨rfl, q3⟩ := actC_P hf h1 q2
    exact ⟨s, q3 s, s1, by rw [hs]; exact q1, rfl⟩
  · refine comm_act hi hj (isV_good h1) (isV_good h2) pi pj hap ei ej fun len ρ s s1 x s2 y hf hs q1 q2 => ?_
    have e1 := actC_V h1 q1
    subst e1
    have e2 := actC_V h2 q2
    subst e2
    rw [hs] at q2
    exact ⟨s1, q2, s1, by rw [hs]; exact q1, rfl⟩
  · -- a load ahead of a store
    obtain ⟨ka, kb, hv, hgd⟩ := ls_plain (T := T) (fid := fid) hls
    refine comm_act hi hj (isV_good hv) hgd pi pj hap ei ej fun len ρ s s1 x s2 y hf hs q1 q2 => ?_
    have e1 := actC_V hv q1
    subst e1
    rw [hs] at q2
    rcases actC_base q1 with ⟨_, k1⟩ | ⟨k1, k2, k3⟩
    · exact ⟨s2, q2, s2.noTm, k1 _, rfl⟩
    · rcases actC_base q2 with ⟨rfl, m1⟩ | ⟨m1, m2, m3⟩
      · exact ⟨s2, q2, s2, by rw [hs]; exact q1, rfl⟩
      · have := ls_same (ng := ngOf true ops i) hls (k1 ka) (m1 kb) m2
        rw [k2, Option.map_some] at this
        exact ⟨s2, q2, s2.noTm, k3 _ _ (base_of_snd hv this), rfl⟩
  · -- a store ahead of a load
    obtain ⟨kb, ka, hv, hgd⟩ := ls_plain (T := T) (fid := fid) hls
    refine comm_act hi hj hgd (isV_good hv) pi pj hap ei ej fun len ρ s s1 x s2 y hf hs q1 q2 => ?_
    have e2 := actC_V hv q2
    subst e2
    rcases actC_base q2 with ⟨_, k1⟩ | ⟨k1, k2, k3⟩
    · exact ⟨s, k1 s, s1, by rw [hs]; exact q1, rfl⟩
    · rcases actC_base q1 with ⟨rfl, m1⟩ | ⟨m1, m2, m3⟩
      · rw [hs] at q2
        exact ⟨s1, q2, s1, by rw [hs]; exact q1, rfl⟩
      · have := ls_same (ng := ngOf true ops j) hls (k1 kb) (m1 ka) m2
        rw [k2, Option.map_some] at this
        exact ⟨s, k3 _ _ (base_of_snd hv this.symm), s1, by rw [hs]; exact q1, rfl⟩

end
end Go.Ab
namespace Go.Ab

section
variable {T : Tab} {C : Nat → List AV → List GB → Option (AV × List GB)} {Lp : Nat → Nat → Code → St → Option (Ex × St)} {fid : Nat} {ng : Bool} {st st' : St} {o : Oper} {ops : Array Oper} {cks : Nat → Ck}

theorem dep_lp {d k o : Nat} (h : (AV.lp k o).depOk (fun j => !(j == d)) = true) : d ≠ k := by
  simp only [AV.depOk, AV.cellDep, Bool.not_eq_true', beq_eq_false_iff_ne, ne_eq] at h
  exact fun e => h e.symm
theorem dep_vs {d k o n z : Nat} (h : (AV.vs k o n z).depOk (fun j => !(j == d)) = true) : d ≠ k := by
  simp only [AV.depOk, AV.cellDep, Bool.not_eq_true', beq_eq_false_iff_ne, ne_eq] at h
  exact fun e => h e.symm

theorem snap_L {s : St} {d : Nat} (cs : List AV) {v : AV} (h : v.depOk (fun j => !(j == d)) = true) : snapOf { s with L := upd s.L d cs } v = snapOf s v ∧ snapOk { s with L := upd s.L d cs } v = snapOk s v := by
  cases v with
  | vs k o n z =>
    have hk := dep_vs h
    simp only [snapOf, snapOk, nthL_upd cs hk, and_self]
  | _ => exact ⟨rfl, rfl⟩

theorem more_L {s : St} {d e : Nat} (cs : List AV) {v : AV} (h : v.depOk (fun j => !(j == d)) = true) : moreOf T { s with L := upd s.L d cs } e v = moreOf T s e v := by
  cases v with
  | vs k o n z =>
    have hk := dep_vs h
    simp only [moreOf, nthL_upd cs hk]
  | _ => rfl

theorem callVal_L {s : St} {d : Nat} (cs : List AV) {dst : Option Nat} {f : Nat} {args : List AV} (h : ∀ v ∈ args, v.depOk (fun j => !(j == d)) = true) : callVal T { s with L := upd s.L d cs } dst f args = callVal T s dst f args := by
  have h1 : args.all (snapOk { s with L := upd s.L d cs }) = args.all (snapOk s) := by
    rw [Bool.eq_iff_iff]
    simp only [List.all_eq_true]
    exact ⟨fun hh v hv => by rw [← (snap_L (s := s) cs (h v hv)).2]; exact hh v hv, fun hh v hv => by rw [(snap_L (s := s) cs (h v hv)).2]; exact hh v hv⟩
  have h2 : (args.map fun v => (snapOf { s with L := upd s.L d cs } v).stripAll) = (args.map fun v => (snapOf s v).stripAll) :=
    List.map_congr_left fun v hv => by rw [(snap_L (s := s) cs (h v hv)).1]
  unfold callVal
  rw [h1, h2]

theorem vop_L {s : St} {d : Nat} (cs : List AV) {ρ : Operand → AV} (hf : ∀ f, ρ (.func f) = .fn f []) (hv : isV T fid o = true) (h : ∀ x ∈ o.op.operands, (ρ x).depOk (fun j => !(j == d)) = true) :
    vop T ng o ρ { s with L := upd s.L d cs } = vop T ng o ρ s := by
  obtain ⟨dst, op, ty, pos, aft, guard⟩ := o
  simp only [Op.operands] at h
  cases op with
  | load t a =>
    have ha := h a (by simp)
    simp only [vop]
    have hl : loadOp T { s with L := upd s.L d cs } t (ρ a) = loadOp T s t (ρ a) := by
      exact load_same (fun k o he => nthL_upd cs (dep_lp (by rw [he] at ha; exact ha))) (fun _ _ _ => rfl)
    rw [hl]
  | slice t x lo hi mx =>
    have hx := h x (by simp)
    simp only [vop]
    unfold sliceOp
    cases mx.map ρ with
    | some _ => rfl
    | none =>
      simp only
      cases T.sh t with
      | arr n e =>
        cases hxx : ρ x with
        | lp k o =>
          simp only [nthL_upd cs (dep_lp (by rw [hxx] at hx; exact hx))]
        | _ => rfl
      | _ => cases ρ x <;> rfl
  | convert sr ds x =>
    have hx := h x (by simp)
    simp only [vop]
    unfold convertOp
    cases T.sh sr with
    | slice e =>
      cases hxx : ρ x with
      | vs k o n z =>
        have hm := more_L (T := T) (s := s) (e := e) cs (v := .vs k o n z) (by rw [hxx] at hx; exact hx)
        cases T.sh ds with
        | str =>
          simp only
          rw [hm]
        | _ => rfl
      | _ => cases T.sh ds <;> rfl
    | _ => cases T.sh ds <;> cases ρ x <;> rfl
  | call c =>
    simp only [vop]
    cases hc : c.callee with
    | builtin b => simp only; split <;> rfl
    | value g =>
      simp only [isV, hc] at hv
      cases g with
      | func f =>
        simp only [hf, List.map_nil, List.append_nil]
        refine callVal_L cs fun v hvm => ?_
        obtain ⟨x, hx, rfl⟩ := List.mem_map.1 hvm
        exact h x (by simp [Call.operands]; exact .inr (by simpa using hx))
      | _ => simp at hv
    | invoke r m => rfl
  | makeFunc fn fs caps => cases fn <;> rfl
  | _ => rfl

/-- The state with a new local block. -/
noncomputable def allocSt (st : St) (d : Nat) (cs : List AV) : St := St.set { killLp st d with L := upd (killLp st d).L d cs } d (.lp d 0)
noncomputable def aloneOk (spare : List Nat) (d : Nat) (st : St) : Bool :=
  (st.tm.zipIdx.all fun p => spare.contains p.2 || p.1.depOk (fun k => !(k == d))) && st.L.all fun b => b.all fun v => v.depOk (fun k => !(k == d))

theorem nth_map (f : AV → AV) (l : List AV) (u : Nat) : nth (l.map f) u = if u < l.length then f (nth l u) else .junk := by
  rw [nth_eq_getD, nth_eq_getD]
  split
  · rename_i h
    simp [List.getD, List.getElem?_map, List.getElem?_eq_getElem h]
  · rename_i h
    simp [List.getD, List.getElem?_eq_none (Nat.le_of_not_lt h)]

theorem alloc_get {d u : Nat} {cs : List AV} (hu : d ≠ u) : (allocSt st d cs).get u = if u < st.tm.length then (if (st.get u).depOk (fun k => !(k == d)) then st.get u else .junk) else .junk := by
  show nth (upd (st.tm.map fun v => if v.depOk (fun k => !(k == d)) then v else .junk) d (.lp d 0)) u = _
  rw [upd_get _ hu, nth_map]
  rfl

theorem get_out {u : Nat} (h : ¬ u < st.tm.length) : st.get u = .junk := by
  show nth st.tm u = _
  rw [nth_eq_getD]
  simp [List.getD, List.getElem?_eq_none (Nat.le_of_not_lt h)]

theorem alloc_keep {d u : Nat} {cs : List AV} (hu : d ≠ u) (h : (st.get u).depOk (fun k => !(k == d)) = true) : (allocSt st d cs).get u = st.get u := by
  rw [alloc_get hu, if_pos h]
  split
  · rfl
  · rename_i hlt; exact (get_out hlt).symm
theorem alloc_back {d u : Nat} {cs : List AV} (hu : d ≠ u) (h : notJunk ((allocSt st d cs).get u) = true) : (allocSt st d cs).get u = st.get u := by
  rw [alloc_get hu] at h ⊢
  split at h
  · rename_i hlt
    rw [if_pos hlt]
    split at h
    · rename_i hd; rw [if_pos hd]
    · simp [notJunk] at h
  · simp [notJunk] at h

theorem alloc_noTm {d : Nat} {cs : List AV} {spare : List Nat} (h : aloneOk spare d st = true) : (allocSt st d cs).noTm = { st.noTm with L := upd st.noTm.L d cs } := by
  simp only [aloneOk, Bool.and_eq_true] at h
  have hL : (killLp st d).L = st.L := by
    show st.L.map (fun b => b.map fun v => if v.depOk (fun k => !(k == d)) then v else .junk) = st.L
    have : ∀ b ∈ st.L, (b.map fun v => if v.depOk (fun k => !(k == d)) then v else .junk) = b := fun b hb => by
      have hb' := List.all_eq_true.1 h.2 b hb
      have : (b.map fun v => if v.depOk (fun k => !(k == d)) then v else .junk) = b.map id := List.map_congr_left fun v hv => by
        rw [if_pos (List.all_eq_true.1 hb' v hv)]; rfl
      rw [this, List.map_id]
    have h2 : st.L.map (fun b => b.map fun v => if v.depOk (fun k => !(k == d)) then v else .junk) = st.L.map id := List.map_congr_left this
    rw [h2, List.map_id]
  show ({ tm := [], L := upd (killLp st d).L d cs, H := st.H, cons := st.cons, conG := st.conG, conL := st.conL, ro := st.ro } : St) = _
  rw [hL]
  rfl

theorem alone_put {d t : Nat} {x : AV} {spare : List Nat} (ht : spare.contains t = true) : aloneOk spare d (st.put (some t) x) = aloneOk spare d st := by
  unfold aloneOk
  have h1 : ((st.put (some t) x).tm.zipIdx.all fun p => spare.contains p.2 || p.1.depOk (fun k => !(k == d))) = (st.tm.zipIdx.all fun p => spare.contains p.2 || p.1.depOk (fun k => !(k == d))) := by
    rw [Bool.eq_iff_iff]
    simp only [List.all_eq_true]
    constructor
    · intro hh p hp
      obtain ⟨v, i⟩ := p
      by_cases hi : t = i
      · subst hi
        rw [ht]; rfl
      · refine hh (v, i) ?_
        rw [List.mem_zipIdx_iff_getElem?] at hp ⊢
        show (upd st.tm t x)[i]? = some v
        rw [upd_eq_set, List.getElem?_set, if_neg hi]
        exact hp
    · intro hh p hp
      obtain ⟨v, i⟩ := p
      by_cases hi : t = i
      · subst hi
        rw [ht]; rfl
      · refine hh (v, i) ?_
        rw [List.mem_zipIdx_iff_getElem?] at hp ⊢
        have hp' : (upd st.tm t x)[i]? = some v := hp
        rw [upd_eq_set, List.getElem?_set, if_neg hi] at hp'
        exact hp'
  rw [h1]
  rfl

theorem alloc_put {d t : Nat} {x : AV} {cs : List AV} (ht : d ≠ t) (hx : t < st.tm.length → x.depOk (fun k => !(k == d)) = true) : (allocSt st d cs).put (some t) x = allocSt (st.put (some t) x) d cs := by
  refine eq_of_noTm rfl ?_
  show upd (upd (st.tm.map fun v => if v.depOk (fun k => !(k == d)) then v else .junk) d (.lp d 0)) t x = upd ((upd st.tm t x).map fun v => if v.depOk (fun k => !(k == d)) then v else .junk) d (.lp d 0)
  simp only [upd_eq_set, List.map_set]
  rw [List.set_comm _ _ ht]
  congr 1
  by_cases hlt : t < st.tm.length
  · rw [if_pos (hx hlt)]
  · rw [List.set_eq_of_length_le (by simpa using Nat.le_of_not_lt hlt), List.set_eq_of_length_le (by simpa using Nat.le_of_not_lt hlt)]

section
variable (T : Tab) (fid : Nat)
/-- A new local block, and an operation that only names a value and knows nothing of it. -/
noncomputable def avOk (ops : Array Oper) (a b : Oper) (ca cb : Ck) : Bool :=
  match a.op, a.dst, b.dst with
  | .alloc _, some d, some t => !(T.esc fid d) && !ca.plain && ca.alone && ca.forb.isEmpty && ca.root.isNone && ca.apart.isEmpty && a.guard.isNone && ca.spare.contains t &&
      isV T fid b && !cb.plain && !cb.alone && cb.forb.contains d && cb.root.isNone && cb.apart.isEmpty && b.guard.isNone && a.apart ops b
  | _, _, _ => false
end

theorem stepA {i : Nat} {e : TypeId} {d : Nat} {ty : TypeId} {pos : String} {aft : Array Edge} (ho : ops[i]? = some { dst := some d, op := .alloc e, type := ty, pos := pos, after := aft, guard := none }) (hesc : T.esc fid d = false)
    (hpl : (cks i).plain = false) (hal : (cks i).alone = true) (hfb : (cks i).forb = []) (hro : (cks i).root = none) (hap : (cks i).apart = []) :
    stepO T C Lp fid cks ops i st = bif aloneOk (cks i).spare d st && (decide (T.sh e ≠ .other) && (zeros T e).all fun v => v.depOk (fun k => !(k == d))) then some (allocSt st d (zeros T e)) else none := by
  unfold stepO
  rw [ho]
  simp only
  rw [den_wanted]
  simp only [guardV, Option.bind_some, cond_true, withCk, hpl, cond_false]
  rw [den_chk]
  have hp : preOk (cks i) { dst := some d, op := .alloc e, type := ty, pos := pos, after := aft, guard := none } st = aloneOk (cks i).spare d st := by
    simp only [preOk, hfb, hal, hro, hap, List.all_nil, Bool.true_and, Bool.not_true, Bool.false_or, Bool.and_true]
    rfl
  rw [hp]
  cases aloneOk (cks i).spare d st with
  | false => rfl
  | true =>
    simp only [cond_true, Bool.true_and, evOp]
    rw [den_bind, den_chk]
    cases decide (T.sh e ≠ .other) with
    | false => rfl
    | true =>
      simp only [cond_true, Bool.true_and, allocOp, hesc, Bool.false_eq_true, if_false]
      rw [den_chk]
      cases (zeros T e).all fun v => v.depOk (fun k => !(k == d)) with
      | false => rfl
      | true =>
        simp only [cond_true, den_ret, Option.bind_some]
        rw [den_chk]
        have hq : ∀ s, postOk (cks i) { dst := some d, op := .alloc e, type := ty, pos := pos, after := aft, guard := none } s = true := fun s => by simp [postOk, hfb]
        rw [hq]
        rfl

theorem stepV {j t : Nat} (ho : ops[j]? = some o) (hv : isV T fid o = true) (hg : o.guard = none) (hd : o.dst = some t) (hpl : (cks j).plain = false) (hal : (cks j).alone = false) :
    stepO T C Lp fid cks ops j st = bif preR (cks j) o (rho st) then ((den C Lp (vop T (ngOf true ops j) o (rho st) st.noTm)).bind fun x => bif postV (cks j) (some t) st.tm.length x then some (st.put (some t) x) else none) else none := by
  rw [step_act ho (by rw [goodO, hv]; rfl) (.inr hal)]
  unfold actC
  simp only [guardV, hg, Option.bind_some, cond_true, hpl, cond_false]
  cases preR (cks j) o (rho st) with
  | false => rfl
  | true =>
    simp only [cond_true, baseO, hv]
    cases den C Lp (vop T (ngOf true ops j) o (rho st) st.noTm) with
    | none => rfl
    | some x =>
      simp only [Option.map_some, Option.bind_some, hd]
      cases postV (cks j) (some t) st.tm.length x <;> rfl

theorem alloc_len {d : Nat} {cs : List AV} : (allocSt st d cs).tm.length = st.tm.length := by
  show (upd (st.tm.map fun v => if v.depOk (fun k => !(k == d)) then v else .junk) d (.lp d 0)).length = _
  rw [upd_eq_set]
  simp

theorem preR_dep {ck : Ck} {ρ : Operand → AV} {d : Nat} (h : preR ck o ρ = true) (hd : d ∈ ck.forb) : ∀ x ∈ o.op.operands, (ρ x).depOk (fun k => !(k == d)) = true ∧ notJunk (ρ x) = true := by
  simp only [preR, Bool.and_eq_true, List.all_eq_true] at h
  intro x hx
  exact h.1.1.1 d hd x (by simpa using hx)

/-- What an operation names, ahead of the new block and behind it. -/
theorem av_value {ng : Bool} {ck : Ck} {d t : Nat} {cs : List AV} {spare : List Nat} (hv : isV T fid o = true) (hd : d ∈ ck.forb) (hro : ck.root = none) (hap : ck.apart = []) (hl : d ∉ o.looksAt ops) (hX : aloneOk spare d st = true)
    (hp : preR ck o (rho st) = true ∨ preR ck o (rho (allocSt st d cs)) = true) :
    preR ck o (rho (allocSt st d cs)) = preR ck o (rho st) ∧ vop T ng o (rho (allocSt st d cs)) (allocSt st d cs).noTm = vop T ng o (rho st) st.noTm := by
  have hne : ∀ u, Operand.tmp u ∈ o.op.operands → d ≠ u := fun u hu e => hl (by
    subst e
    exact List.mem_append_left _ (List.mem_filterMap.2 ⟨.tmp d, by simpa using hu, rfl⟩))
  have hr : ∀ x ∈ o.op.operands, rho (allocSt st d cs) x = rho st x := fun x hx => by
    cases x with
    | tmp u =>
      rcases hp with hp | hp
      · exact alloc_keep (hne u hx) (preR_dep hp hd _ hx).1
      · exact alloc_back (hne u hx) (preR_dep hp hd _ hx).2
    | _ => rfl
  have hpr : preR ck o (rho (allocSt st d cs)) = preR ck o (rho st) := preR_rho hr (fun u hu => by simp [ckLooks, hro, hap] at hu)
  refine ⟨hpr, ?_⟩
  have hp' : preR ck o (rho st) = true := by
    rcases hp with hp | hp
    · exact hp
    · rw [← hpr]; exact hp
  rw [vop_rho hr, alloc_noTm hX]
  exact vop_L cs (fun _ => rfl) hv (fun x hx => (preR_dep hp' hd x hx).1)

theorem av_comm {i j : Nat} {oa ob : Oper} (hi : ops[i]? = some oa) (hj : ops[j]? = some ob) (h : avOk T fid ops oa ob (cks i) (cks j) = true) :
    (∀ s s2, ((stepO T C Lp fid cks ops i s).bind (stepO T C Lp fid cks ops j)) = some s2 → ((stepO T C Lp fid cks ops j s).bind (stepO T C Lp fid cks ops i)) = some s2) ∧
    (∀ s s2, ((stepO T C Lp fid cks ops j s).bind (stepO T C Lp fid cks ops i)) = some s2 → ((stepO T C Lp fid cks ops i s).bind (stepO T C Lp fid cks ops j)) = some s2) := by
  obtain ⟨dst, op, ty, pos, aft, guard⟩ := oa
  unfold avOk at h
  simp only at h
  split at h
  · rename_i e d t hbd
    simp only [Bool.and_eq_true, Bool.not_eq_true', List.isEmpty_iff, Option.isNone_iff_eq_none, List.contains_iff_mem] at h
    obtain ⟨⟨⟨⟨⟨⟨⟨⟨⟨⟨⟨⟨⟨⟨⟨h1, h2⟩, h3⟩, h4⟩, h5⟩, h6⟩, h7⟩, h8⟩, h9⟩, h10⟩, h11⟩, h12⟩, h13⟩, h14⟩, h15⟩, h16⟩ := h
    subst h7
    obtain ⟨k1, k2, k3⟩ := Oper.apart_spec h16
    have hl : d ∉ ob.looksAt ops := k1 d rfl
    have hdt : d ≠ t := fun he => k2 d rfl (by rw [hbd, he])
    have hsp : (cks i).spare.contains t = true := by simpa using h8
    have hA := fun st => stepA (C := C) (Lp := Lp) (st := st) hi h1 h2 h3 h4 h5 h6
    have hV := fun st => stepV (C := C) (Lp := Lp) (st := st) hj h9 h15 hbd h10 h11
    have hpost : ∀ {len : Nat} {x : AV}, postV (cks j) (some t) len x = true → t < len → x.depOk (fun k => !(k == d)) = true := fun {len x} hq hlt => by
      have hb : Nat.blt t len = true := Nat.ble_eq_true_of_le hlt
      simp only [postV, hb, Bool.not_true, Bool.false_or] at hq
      exact List.all_eq_true.1 hq d h12
    refine ⟨fun s s2 h => ?_, fun s s2 h => ?_⟩
    · rw [hA] at h
      cases hX : aloneOk (cks i).spare d s with
      | false => rw [hX] at h; simp at h
      | true =>
        rw [hX, Bool.true_and] at h
        cases hc : decide (T.sh e ≠ .other) && (zeros T e).all fun v => v.depOk (fun k => !(k == d)) with
        | false => rw [hc] at h; simp at h
        | true =>
          rw [hc] at h
          simp only [cond_true, Option.bind_some] at h
          rw [hV] at h
          cases hp : preR (cks j) ob (rho (allocSt s d (zeros T e))) with
          | false => rw [hp] at h; simp at h
          | true =>
            obtain ⟨e1, e2⟩ := av_value (ng := ngOf true ops j) (t := t) h9 h12 h13 h14 hl hX (.inr hp)
            rw [hp, e2, alloc_len] at h
            simp only [cond_true] at h
            rw [hV, ← e1, hp]
            simp only [cond_true]
            cases hd : den C Lp (vop T (ngOf true ops j) ob (rho s) s.noTm) with
            | none => rw [hd] at h; simp at h
            | some x =>
              rw [hd] at h
              simp only [Option.bind_some] at h ⊢
              cases hq : postV (cks j) (some t) s.tm.length x with
              | false => rw [hq] at h; simp at h
              | true =>
                rw [hq] at h
                simp only [cond_true, Option.some.injEq, Option.bind_some] at h ⊢
                rw [hA, alone_put hsp, hX, hc]
                simp only [Bool.and_self, cond_true, Option.some.injEq]
                rw [← h, alloc_put hdt (hpost hq)]
    · rw [hV] at h
      cases hp : preR (cks j) ob (rho s) with
      | false => rw [hp] at h; simp at h
      | true =>
        rw [hp] at h
        simp only [cond_true] at h
        cases hd : den C Lp (vop T (ngOf true ops j) ob (rho s) s.noTm) with
        | none => rw [hd] at h; simp at h
        | some x =>
          rw [hd] at h
          simp only [Option.bind_some] at h
          cases hq : postV (cks j) (some t) s.tm.length x with
          | false => rw [hq] at h; simp at h
          | true =>
            rw [hq] at h
            simp only [cond_true, Option.bind_some] at h
            rw [hA, alone_put hsp] at h
            cases hX : aloneOk (cks i).spare d s with
            | false => rw [hX] at h; simp at h
            | true =>
              rw [hX, Bool.true_and] at h
              cases hc : decide (T.sh e ≠ .other) && (zeros T e).all fun v => v.depOk (fun k => !(k == d)) with
              | false => rw [hc] at h; simp at h
              | true =>
                rw [hc] at h
                simp only [cond_true, Option.some.injEq] at h
                rw [hA, hX, hc]
                simp only [Bool.and_self, cond_true, Option.bind_some]
                obtain ⟨e1, e2⟩ := av_value (ng := ngOf true ops j) (t := t) (cs := zeros T e) h9 h12 h13 h14 hl hX (.inl hp)
                rw [hV, e1, hp, e2, alloc_len, hd]
                simp only [cond_true, Option.bind_some, hq]
                rw [← h, alloc_put hdt (hpost hq)]
  · cases h
end
end Go.Ab
namespace Go.Ab

section
variable (T : Tab) (fid : Nat)
/-- A region that stands every order. -/
noncomputable def okRegion (id : Nat) (ops : Array Oper) : Bool :=
  topoOk ops && (List.range ops.size).all fun j => (List.range j).all fun i => behind (masks ops.toList []) j i ||
    (match ops[i]?, ops[j]? with | some a, some b => pairOk T fid ops a b (T.ck fid id i) (T.ck fid id j) || avOk T fid ops a b (T.ck fid id i) (T.ck fid id j) || avOk T fid ops b a (T.ck fid id j) (T.ck fid id i) | _, _ => false)
end

section
variable {T : Tab} {P : Program} {C : Nat → List AV → List GB → Option (AV × List GB)} {Lp : Nat → Nat → Code → St → Option (Ex × St)} {fid : Nat} {st st' : St} {ops : Array Oper} {cks : Nat → Ck} {g : Gh} {a : Act} {w : World}

theorem evOps_run (l : List Nat) : ∀ st, den C Lp (evOps T fid true cks ops l st) = (runL (stepO T C Lp fid cks ops) l st).map settle := by
  induction l with
  | nil => intro st; rfl
  | cons i l ih =>
    intro st
    rw [evOps_cons]
    simp only [runL, stepO]
    cases ops[i]? with
    | none => rfl
    | some o =>
      simp only
      rw [den_bind]
      cases den C Lp (wantedR ops st o (fun st => withCk (cks i) o st (evOp T fid true (ngOf true ops i) o st)) (fun st => .ret (st.put o.dst .und))) with
      | none => rfl
      | some st1 => exact ih st1

theorem runL_any {id : Nat} (hok : okRegion T fid id ops = true) {st' : St} (mixed : Bool) (t : Nat) (h : runL (stepO T C Lp fid (T.ck fid id) ops) (List.range ops.size) st = some st') :
    runL (stepO T C Lp fid (T.ck fid id) ops) (Region.schedule mixed ops t) st = some st' := by
  simp only [okRegion, Bool.and_eq_true] at hok
  obtain ⟨h1, h2⟩ := hok
  obtain ⟨p1, p2, p3, p4⟩ := schedule_spec (mixed := mixed) h1 t
  refine runL_sort (bh := fun x y => behind (masks ops.toList []) x y || !(Nat.blt x ops.size) || !(Nat.blt y ops.size)) (fun i j hij hb => ?_) (List.range ops.size) _ st (List.pairwise_lt_range) p2 (fun x => ?_) ?_ h
  · simp only [Bool.or_eq_false_iff, Bool.not_eq_false'] at hb
    obtain ⟨⟨hb1, hb2⟩, hb3⟩ := hb
    have hjl : j < ops.size := Nat.le_of_ble_eq_true hb2
    have h3 := List.all_eq_true.1 (List.all_eq_true.1 h2 j (List.mem_range.2 hjl)) i (List.mem_range.2 hij)
    rw [hb1, Bool.false_or] at h3
    cases hi : ops[i]? with
    | none => rw [hi] at h3; simp at h3
    | some oi =>
      cases hj : ops[j]? with
      | none => rw [hi, hj] at h3; simp at h3
      | some oj =>
        rw [hi, hj] at h3
        simp only [Bool.or_eq_true] at h3
        rcases h3 with (h3 | h3) | h3
        · exact pair_comm hi hj h3
        · exact (av_comm hi hj h3).1
        · exact (av_comm hj hi h3).2
  · rw [List.mem_range]
    exact ⟨p4 x, pigeon_all p2 p4 p3 x⟩
  · refine (pairwise_of_PP p1 p2).imp_of_mem fun {x y} hx hy hxy => ?_
    simp only [hxy, Bool.false_or, Bool.or_eq_false_iff, Bool.not_eq_false']
    exact ⟨Nat.ble_eq_true_of_le (p4 x hx), Nat.ble_eq_true_of_le (p4 y hy)⟩

theorem ext_drawn (n : Nat) : Ext g w g { w with drawn := n } where
  size := Nat.le_refl _
  gb := fun _ _ h => h
  mrk := fun _ => Nat.le_refl _
  cell := fun _ _ _ => rfl
  shp := fun b arr e fr h => ⟨arr, h, rfl⟩
  keep := fun _ _ _ _ h => ⟨rfl, rfl, h⟩
  nlb := fun k b h => .inl ⟨k, h⟩
  ngb := fun _ h => .inl h
  os := rfl
  out := rfl
  tape := rfl
  roe := rfl
  rog := fun _ => ⟨rfl, fun _ _ => rfl⟩

theorem rel_drawn (n : Nat) (hR : Rel g st a w) : Rel g st a { w with drawn := n } := by
  have hE : VExt (fun _ => true) g w g { w with drawn := n } := (ext_drawn n).vext fun _ _ _ h => h
  refine ⟨hR.df, hR.sz, fun i x hx => ?_, fun k cs hk hne => ?_, HRel_t hE rfl (fun _ _ => rfl) (fun k j b hb => ⟨hb, rfl, rfl⟩) hR.hr,
    ⟨hR.wf.inj, hR.wf.lbgb, hR.wf.nd, hR.wf.ltl, hR.wf.ltg, hR.wf.mrl, hR.wf.mrg, hR.wf.mrb, hR.wf.owlt⟩, hR.ro⟩
  · obtain ⟨v, q1, q2, q3⟩ := hR.tr i x hx
    exact ⟨v, q1, q2.mono hE (VR_dep q2), FL_t (fun _ b hb => ⟨hb, rfl, rfl⟩) q3⟩
  · obtain ⟨b, h1, h2⟩ := hR.lr k cs hk hne
    refine ⟨b, h1, BR_t hE rfl (fun x hx => ?_) (fun j _ b hb => ⟨hb, rfl, rfl⟩) h2⟩
    obtain ⟨j, hj⟩ := List.mem_iff_getElem?.1 hx
    obtain ⟨arr, e, fr, _, _, _, h4⟩ := h2
    obtain ⟨v, _, q2, _⟩ := h4 j x hj
    exact VR_dep q2

theorem draw_sound (hT : TabOK T P) (hcall : CallLaw T P C Lp fid) : DrawLaw T P C Lp fid (okRegion T fid) := by
  intro id ops g st a w st' Q hok hR h hQ
  refine wp_region_draw fun t => ?_
  rw [evOps_run] at h
  cases hr : runL (stepO T C Lp fid (T.ck fid id) ops) (List.range ops.size) st with
  | none => rw [hr] at h; simp at h
  | some st1 =>
    rw [hr] at h
    simp only [Option.map_some, Option.some.injEq] at h
    have h2 : den C Lp (evOps T fid true (T.ck fid id) ops (Region.schedule (P.follows .mixedOrders) ops t) st) = some st' := by
      rw [evOps_run, runL_any hok _ t hr, Option.map_some, h]
    exact evOps_sound hT hcall (rel_drawn _ hR) h2 fun a' w' hn => hQ a' w' (Nx_trans (ext_drawn _) hn)
end
end Go.Ab
