/- Arguments: what reads as data reads as the evaluator's values. -/
import Derived.Test.YtmekbgeknkknfaaK3
import Derived.ChangeArms
import Derived.OpenShut
import Derived.Carry
set_option linter.unusedVariables false
set_option linter.unusedSimpArgs false
set_option linter.unusedSectionVars false
namespace Go.Ab
open Go.Proofs Go.ChangeShapes Go.WideShapes

/-- A cell of a kind, within the machine's bounds. -/
def Cty (k : CK) (a : AV) : Prop :=
  match k with
  | .b => ∃ b, a = .bool b
  | .i k => ∃ n, a = .int k n ∧ (Lit.int k n).wf = true
  | .s => ∃ s, a = .str s ∧ s.length ≤ maxLen
  | _ => False
/-- Cells of kinds. -/
def Ctys (ks : List CK) (r : List AV) : Prop := r.length = ks.length ∧ ∀ (j : Nat) k a, ks[j]? = some k → r[j]? = some a → Cty k a

theorem flatten_get {α : Type} : ∀ (l : List (List α)) (j : Nat) (k : α), l.flatten[j]? = some k → ∃ i jj li, l[i]? = some li ∧ li[jj]? = some k ∧ j = ((l.take i).map List.length).sum + jj
  | [], j, k, h => by simp at h
  | a :: l, j, k, h => by
    rw [List.flatten_cons] at h
    rcases Nat.lt_or_ge j a.length with hlt | hge
    · rw [List.getElem?_append_left hlt] at h
      exact ⟨0, j, a, rfl, h, by simp⟩
    · rw [List.getElem?_append_right hge] at h
      obtain ⟨i, jj, li, h1, h2, h3⟩ := flatten_get l (j - a.length) k h
      refine ⟨i + 1, jj, li, by simpa using h1, h2, ?_⟩
      simp only [List.take_succ_cons, List.map_cons, List.sum_cons]
      omega

theorem scalB_iff {ks : List CK} : scalB ks = true ↔ ∀ k ∈ ks, scalK k = true := by
  induction ks with
  | nil => simp [scalB]
  | cons k ks ih =>
    have : scalB (k :: ks) = bif scalK k then scalB ks else false := rfl
    rw [this]
    cases hk : scalK k with
    | true => simp [hk, ih]
    | false => simp [hk]

theorem add_off (b o n : Nat) : (⟨b, o, none⟩ : Addr).add n = ⟨b, o + n, none⟩ := add_none b o n
theorem spot_of {w : World} {a : Addr} {v : Value} (h : w.cell? a = some v) : a.spot = none := by
  unfold World.cell? at h
  split at h
  · split at h
    · cases h
    · rename_i hs
      cases hsp : a.spot with
      | none => rfl
      | some x => rw [hsp] at hs; simp at hs
  · cases h

section
variable {H : Type} {enc : TypeId × Value → H} {T : Tab} {P : Program} {w : World} {sp : Nat → Bool} {hd : Bool}

theorem cellsOf_eq (hT : TabOK T P) {t : Nat} (h : T.sh t ≠ .other) : P.cellsOf t = (T.ks t).length := by
  obtain ⟨i, h1, h2, _⟩ := hT.info t h
  simp [Program.cellsOf, h1, h2]

/-- Cells without slices read as they are. -/
theorem scal_cells (hT : TabOK T P) (g : Gh) : ∀ (fuel : Nat) (t : Nat) (cs : List Value) (x : DataW H × List MemPlace), DataW.trod enc P w 0 sp hd fuel t cs = some x → scalB (T.ks t) = true →
    cs.length = (T.ks t).length ∧ ∀ (j : Nat) k v, (T.ks t)[j]? = some k → cs[j]? = some v → ∃ a, Cty k a ∧ VR g w a v ∧ a.pure1 = true := by
  intro fuel
  induction fuel with
  | zero => intro t cs x h _; simp [DataW.trod] at h
  | succ fuel ih =>
    intro t cs x h hs
    have hsh := hT.sh t
    have hks := hT.ks t
    unfold ksOk at hks
    cases ht : T.sh t with
    | bool =>
      rw [ht] at hsh hks
      obtain ⟨b, rfl, _⟩ := DataW.trod_bool hsh h
      rw [hks]
      refine ⟨rfl, fun j k v hk hv => ?_⟩
      cases j with
      | succ j => simp at hk
      | zero => simp at hk hv; subst hk hv; exact ⟨.bool b, ⟨b, rfl⟩, .bool b, rfl⟩
    | int ik =>
      rw [ht] at hsh hks
      obtain ⟨n, rfl, _, hw⟩ := DataW.trod_int hsh h
      rw [hks]
      refine ⟨rfl, fun j k v hk hv => ?_⟩
      cases j with
      | succ j => simp at hk
      | zero => simp at hk hv; subst hk hv; exact ⟨.int ik n, ⟨n, rfl, hw⟩, .int ik n, rfl⟩
    | str =>
      rw [ht] at hsh hks
      obtain ⟨s, rfl, _, hw⟩ := DataW.trod_string hsh h
      rw [hks]
      refine ⟨rfl, fun j k v hk hv => ?_⟩
      cases j with
      | succ j => simp at hk
      | zero => simp at hk hv; subst hk hv; exact ⟨.str s.data.toList, ⟨_, rfl, by rw [Array.length_toList]; exact hw⟩, .str _ s rfl, rfl⟩
    | struct fs =>
      rw [ht] at hsh hks
      obtain ⟨F, hu, hF, _⟩ := hsh
      obtain ⟨xs, n, hn, _, hlen, hxl, hfld⟩ := DataW.trod_struct hu h
      simp only [Nat.add_right_cancel_iff] at hn
      subst hn
      rw [cellsOf_eq hT (by rw [ht]; intro hh; cases hh)] at hlen
      refine ⟨hlen, fun j k v hk hv => ?_⟩
      have hk' := hk
      rw [hks.1] at hk'
      obtain ⟨i, jj, li, h1, h2, h3⟩ := flatten_get _ j k hk'
      rw [List.getElem?_map] at h1
      cases hfi : fs[i]? with
      | none => rw [hfi] at h1; cases h1
      | some q =>
        obtain ⟨o, e⟩ := q
        rw [hfi] at h1
        simp only [Option.map_some, Option.some.injEq] at h1
        subst h1
        obtain ⟨ho, he⟩ := hks.2 i o e hfi
        have hj : j = o + jj := by
          rw [h3, ho]
          congr 1
          rw [← List.map_take, List.map_map]
          rfl
        have hFi : ∃ f, F[i]? = some f ∧ f.offset = o ∧ f.type = e := by
          rw [← hF, List.getElem?_map] at hfi
          cases hq : F.toList[i]? with
          | none => rw [hq] at hfi; cases hfi
          | some f =>
            rw [hq] at hfi
            simp only [Option.map_some, Option.some.injEq, Prod.mk.injEq] at hfi
            exact ⟨f, by simpa using hq, hfi.1, hfi.2⟩
        obtain ⟨f, hf, rfl, rfl⟩ := hFi
        have hsub : scalB (T.ks f.type) = true := by
          rw [scalB_iff] at hs ⊢
          intro k' hk'
          refine hs k' ?_
          rw [hks.1]
          refine List.mem_flatten.2 ⟨T.ks f.type, List.mem_map.2 ⟨_, List.mem_of_getElem? hfi, rfl⟩, hk'⟩
        have hxi : i < xs.length := by
          rw [hxl]
          by_cases hh : i < F.size
          · exact hh
          · rw [Array.getElem?_eq_none (by omega)] at hf; cases hf
        have htr := hfld i f hf
        rw [List.getElem?_eq_getElem hxi] at htr
        obtain ⟨i1, i2⟩ := ih f.type _ _ htr hsub
        refine i2 jj k v h2 ?_
        rw [cellsOf_eq hT he.1, List.getElem?_take, if_pos (lt_of_getElem? h2), List.getElem?_drop, ← hj]
        exact hv
    | arr m e =>
      rw [ht] at hsh hks
      obtain ⟨xs, n, hn, _, hlen, hxl, hfld⟩ := DataW.trod_array hsh h
      simp only [Nat.add_right_cancel_iff] at hn
      subst hn
      rw [cellsOf_eq hT (by rw [ht]; intro hh; cases hh)] at hlen
      refine ⟨hlen, fun j k v hk hv => ?_⟩
      have hk' := hk
      rw [hks.1] at hk'
      obtain ⟨i, jj, li, h1, h2, h3⟩ := flatten_get _ j k hk'
      rw [List.getElem?_replicate] at h1
      split at h1
      · rename_i him
        simp only [Option.some.injEq] at h1
        subst h1
        have hj : j = i * (T.ks e).length + jj := by
          rw [h3, List.take_replicate, List.map_replicate, List.sum_replicate_nat, Nat.min_eq_left (by omega)]
        have hsub : scalB (T.ks e) = true := by
          rw [scalB_iff] at hs ⊢
          intro k' hk'
          refine hs k' ?_
          rw [hks.1]
          exact List.mem_flatten.2 ⟨T.ks e, List.mem_replicate.2 ⟨by omega, rfl⟩, hk'⟩
        have htr := hfld i him
        rw [List.getElem?_eq_getElem (by omega)] at htr
        obtain ⟨i1, i2⟩ := ih e _ _ htr hsub
        refine i2 jj k v h2 ?_
        rw [cellsOf_eq hT hks.2.1, List.getElem?_take, if_pos (lt_of_getElem? h2), List.getElem?_drop, ← hj]
        exact hv
      · cases h1
    | slice e => rw [ht] at hks; rw [hks.1] at hs; cases hs
    | uptr => rw [ht] at hks; rw [hks] at hs; cases hs
    | ptr e => rw [ht] at hks; rw [hks] at hs; cases hs
    | map a b => rw [ht] at hks; rw [hks.1] at hs; cases hs
    | fn => rw [ht] at hks; rw [hks] at hs; cases hs
    | iface => rw [ht] at hks; rw [hks] at hs; cases hs
    | other => rw [ht] at hks; rw [hks] at hs; cases hs

/-- From 'for each place there is one' to a row. -/
theorem row_of {n : Nat} {p : Nat → AV → Prop} (h : ∀ j, j < n → ∃ a, p j a) : ∃ r : List AV, r.length = n ∧ ∀ (j : Nat) a, r[j]? = some a → p j a := by
  classical
  refine ⟨(List.range n).map fun j => if hj : j < n then Classical.choose (h j hj) else .junk, by simp, fun j a ha => ?_⟩
  rw [List.getElem?_map] at ha
  rcases Nat.lt_or_ge j n with hj | hj
  · rw [List.getElem?_range hj] at ha
    simp only [Option.map_some, Option.some.injEq] at ha
    rw [dif_pos hj] at ha
    rw [← ha]
    exact Classical.choose_spec (h j hj)
  · rw [List.getElem?_eq_none (by simpa using hj)] at ha
    cases ha
theorem rows_of {n : Nat} {p : Nat → List AV → Prop} (h : ∀ j, j < n → ∃ a, p j a) : ∃ r : List (List AV), r.length = n ∧ ∀ (j : Nat) a, r[j]? = some a → p j a := by
  classical
  refine ⟨(List.range n).map fun j => if hj : j < n then Classical.choose (h j hj) else [], by simp, fun j a ha => ?_⟩
  rw [List.getElem?_map] at ha
  rcases Nat.lt_or_ge j n with hj | hj
  · rw [List.getElem?_range hj] at ha
    simp only [Option.map_some, Option.some.injEq] at ha
    rw [dif_pos hj] at ha
    rw [← ha]
    exact Classical.choose_spec (h j hj)
  · rw [List.getElem?_eq_none (by simpa using hj)] at ha
    cases ha

theorem scal_row (hT : TabOK T P) (g : Gh) {fuel t : Nat} {cs : List Value} {x : DataW H × List MemPlace} (h : DataW.trod enc P w 0 sp hd fuel t cs = some x) (hs : scalB (T.ks t) = true) :
    ∃ r : List AV, Ctys (T.ks t) r ∧ r.length = cs.length ∧ ∀ (j : Nat) a, r[j]? = some a → ∃ v, cs[j]? = some v ∧ VR g w a v ∧ a.pure1 = true := by
  obtain ⟨h1, h2⟩ := scal_cells hT g fuel t cs x h hs
  have h3 : ∀ j, j < cs.length → ∃ a, ∃ k v, (T.ks t)[j]? = some k ∧ cs[j]? = some v ∧ Cty k a ∧ VR g w a v ∧ a.pure1 = true := fun j hj => by
    have e1 : (T.ks t)[j]? = some ((T.ks t)[j]'(by omega)) := List.getElem?_eq_getElem _
    have e2 : cs[j]? = some (cs[j]'hj) := List.getElem?_eq_getElem _
    obtain ⟨a, q1, q2, q3⟩ := h2 j _ _ e1 e2
    exact ⟨a, _, _, e1, e2, q1, q2, q3⟩
  obtain ⟨r, r1, r2⟩ := row_of h3
  refine ⟨r, ⟨by omega, fun j k a hk ha => ?_⟩, r1, fun j a ha => ?_⟩
  · obtain ⟨k', v, q1, q2, q3, _⟩ := r2 j a ha
    rw [hk] at q1
    cases q1
    exact q3
  · obtain ⟨k', v, q1, q2, q3, q4, q5⟩ := r2 j a ha
    exact ⟨v, q2, q4, q5⟩

/-- How far blocks go. -/
def sizes (w : World) (b : Nat) : Nat := match w.heap[b]? with | some (.cells arr _ _) => arr.size | _ => 0
theorem sizes_ok (w : World) : ∀ b, sizes w b ≠ 0 → ∃ arr e fr, w.heap[b]? = some (.cells arr e fr) ∧ sizes w b ≤ arr.size := by
  intro b hb
  unfold sizes at hb ⊢
  split at hb
  · rename_i arr e fr hh
    exact ⟨arr, e, fr, hh, Nat.le_refl _⟩
  · exact absurd rfl hb
theorem cell_sizes {b o : Nat} {v : Value} (h : w.cell? ⟨b, o, none⟩ = some v) : o < sizes w b := by
  unfold World.cell? at h
  unfold sizes
  split at h
  · rename_i c t fr hh
    rw [hh]
    simp only [Option.isSome_none, Bool.false_eq_true, if_false] at h
    exact (Array.getElem?_eq_some_iff.1 h).1
  · cases h

theorem rowAt_le {p : Program} {fits : TypeId → Bool} {d e count off n : Nat} (h : rowAt p fits d e count off n = true) : off ≤ count * p.cellsOf e := by
  cases d with
  | zero => simp [rowAt] at h
  | succ d =>
    unfold rowAt at h
    simp only at h
    split at h
    · cases h
    · rename_i hs
      have hp : 0 < p.cellsOf e := Nat.pos_of_ne_zero hs
      have hdm := Nat.div_add_mod off (p.cellsOf e)
      have hml := Nat.mod_lt off hp
      have hlt : off / p.cellsOf e < count ∨ (off % p.cellsOf e = 0 ∧ off / p.cellsOf e ≤ count) := by
        rcases Bool.or_eq_true _ _ ▸ h with h | h
        · simp only [Bool.and_eq_true, beq_iff_eq, decide_eq_true_eq] at h
          exact .inr ⟨h.1.1, by omega⟩
        · simp only [Bool.and_eq_true, decide_eq_true_eq] at h
          exact .inl h.1
      rcases hlt with h1 | ⟨h1, h2⟩
      · have : (off / p.cellsOf e + 1) * p.cellsOf e ≤ count * p.cellsOf e := Nat.mul_le_mul_right _ h1
        rw [Nat.add_mul, Nat.mul_comm] at this
        omega
      · have : (off / p.cellsOf e) * p.cellsOf e ≤ count * p.cellsOf e := Nat.mul_le_mul_right _ h2
        rw [Nat.mul_comm] at this
        omega
theorem liesAt_le {p : Program} : ∀ {d e count off u n : Nat}, liesAt p d e count off u n = true → off ≤ count * p.cellsOf e := by
  intro d
  induction d with
  | zero => intro e count off u n h; simp [liesAt] at h
  | succ d ih =>
    intro e count off u n h
    unfold liesAt at h
    simp only [Bool.or_eq_true] at h
    rcases h with h | h
    · exact rowAt_le h
    · split at h
      · exact ih h
      · cases h
theorem has_le {r : Reach} {base : Nat} {a : Addr} {e : TypeId} {n : Nat} (h : w.has P r base a e n) : a.spot = none ∧ a.off ≤ sizes w a.block := by
  obtain ⟨_, h1, row, cells, h2, h3⟩ := h
  refine ⟨h1, ?_⟩
  have h4 := liesAt_le h3
  unfold World.shape? at h2
  split at h2
  · rename_i c t fr hh
    simp only [Option.some.injEq, Prod.mk.injEq] at h2
    obtain ⟨rfl, rfl⟩ := h2
    unfold sizes
    rw [hh]
    have := Nat.div_mul_le_self c.size (P.cellsOf t)
    simp only
    omega
  · cases h2

/-- A slice of rows without slices. -/
theorem slice_arg (hT : TabOK T P) {r : Reach} {b0 t e : Nat} {v : Value} {d : DataW H} {ps : List MemPlace} (ht : T.sh t = .slice e) (hs : scalB (T.ks e) = true) (hval : Value.okWide P w r b0 t v) (hv : DataW.Trod enc P w 0 sp hd t v d ps) :
    ∃ n rows, VR (startG (sizes w)) w (.sl (T.ks e).length n rows .no) v ∧ (n = true → rows = []) ∧ rows.length ≤ maxLen ∧ ∀ q ∈ rows, Ctys (T.ks e) q := by
  have hsh := hT.sh t
  have hks := hT.ks t
  unfold ksOk at hks
  rw [ht] at hsh hks
  have hu : P.underlying t = some (.slice e) := hsh
  have hce := cellsOf_eq hT hks.2
  obtain ⟨fuel, hv⟩ := hv
  have hok : Cell.ok P w r b0 t v := by
    unfold Value.okWide at hval
    rw [hu] at hval
    simp only at hval
    unfold Cell.okWide at hval
    rw [hu] at hval
    cases v <;> simpa using hval
  have hcs : v.cells.toList = [v] := by
    unfold Cell.ok at hok
    rw [hu] at hok
    cases v <;> first | rfl | (simp at hok; done)
  rw [hcs] at hv
  rcases DataW.trod_slice hu hv with ⟨h1, _⟩ | ⟨a, len, cap, elems, rest, n, _, h1, _, _, hlc, hcm, hel, hget, _, _⟩
  · simp only [List.cons.injEq, and_true] at h1
    subst h1
    exact ⟨true, [], .slnil _ _, fun _ => rfl, by simp [maxLen], fun q hq => by cases hq⟩
  · simp only [List.cons.injEq, and_true] at h1
    subst h1
    have hhas : w.has P r b0 a e cap := by
      unfold Cell.ok at hok
      rw [hu] at hok
      exact hok.2.2
    obtain ⟨hsp, hoff⟩ := has_le hhas
    obtain ⟨b, o, s⟩ := a
    simp only at hsp hoff
    subst hsp
    have hrow : ∀ i, i < len → ∃ q : List AV, Ctys (T.ks e) q ∧ ∀ (j : Nat) x, q[j]? = some x → ∃ u, w.cell? ⟨b, o + i * (T.ks e).length + j, none⟩ = some u ∧ VR (startG (sizes w)) w x u ∧ x.pure1 = true := fun i hi => by
      have h2 := hget i hi
      rw [List.getElem?_eq_getElem (by omega)] at h2
      obtain ⟨cs', h3, h4⟩ := Option.bind_eq_some_iff.1 h2
      obtain ⟨_, h5, h6⟩ := World.cells?_some h3
      obtain ⟨q, q1, q2, q3⟩ := scal_row hT (startG (sizes w)) h4 hs
      refine ⟨q, q1, fun j x hx => ?_⟩
      obtain ⟨u, u1, u2, u3⟩ := q3 j x hx
      have hj := lt_of_getElem? u1
      have := h6 j (by omega)
      rw [add_off, add_off, hce] at this
      exact ⟨u, by rw [this]; exact u1, u2, u3⟩
    obtain ⟨rows, r1, r2⟩ := rows_of hrow
    have hval2 : ∀ i r j x, rows[i]? = some r → r[j]? = some x → ∃ u, w.cell? ⟨b, o + i * (T.ks e).length + j, none⟩ = some u ∧ VR (startG (sizes w)) w x u ∧ x.pure1 = true := fun i r j x hi hx => (r2 i r hi).2 j x hx
    refine ⟨false, rows, ?_, fun h => (by cases h), by omega, fun q hq => ?_⟩
    · rw [← r1]
      refine .sl _ rows .no b o cap (fun i j => (w.cell? ⟨b, o + i * (T.ks e).length + j, none⟩).getD undef) (by omega) (fun r hr => ?_) (fun i r j x hi hx => ?_) (fun i r j x hi hx => ?_) (fun r hr x hx => ?_) ?_
      · obtain ⟨i, hi⟩ := List.mem_iff_getElem?.1 hr
        exact (r2 i r hi).1.1
      · obtain ⟨u, u1, _⟩ := hval2 i r j x hi hx
        rw [u1]; rfl
      · obtain ⟨u, u1, u2, _⟩ := hval2 i r j x hi hx
        rw [u1]; exact u2
      · obtain ⟨i, hi⟩ := List.mem_iff_getElem?.1 hr
        obtain ⟨j, hj⟩ := List.mem_iff_getElem?.1 hx
        obtain ⟨u, _, _, u3⟩ := hval2 i r j x hi hj
        exact u3
      · show o + rows.length * (T.ks e).length ≤ sizes w b
        rcases Nat.eq_zero_or_pos (rows.length * (T.ks e).length) with h0 | h0
        · rw [h0]; exact hoff
        · have hp1 : 0 < rows.length := Nat.pos_of_mul_pos_right h0
          have hp2 : 0 < (T.ks e).length := Nat.pos_of_mul_pos_left h0
          have hi : rows[rows.length - 1]? = some (rows[rows.length - 1]'(by omega)) := List.getElem?_eq_getElem _
          obtain ⟨⟨q1, _⟩, _⟩ := r2 _ _ hi
          have hj : (rows[rows.length - 1]'(by omega))[(T.ks e).length - 1]? = some ((rows[rows.length - 1]'(by omega))[(T.ks e).length - 1]'(by omega)) := List.getElem?_eq_getElem _
          obtain ⟨u, u1, _⟩ := hval2 _ _ _ _ hi hj
          have := cell_sizes u1
          have e1 : (rows.length - 1) * (T.ks e).length + (T.ks e).length = rows.length * (T.ks e).length := by
            rw [← Nat.succ_mul]
            congr 1
            omega
          omega
    · obtain ⟨i, hi⟩ := List.mem_iff_getElem?.1 hq
      exact (r2 i q hi).1

/-- A struct without slices. -/
theorem agg_arg (hT : TabOK T P) {r : Reach} {b0 t : Nat} {v : Value} {d : DataW H} {ps : List MemPlace} (g : Gh) (hA : Ab.isAgg T t = true) (hs : scalB (T.ks t) = true) (hval : Value.okWide P w r b0 t v) (hv : DataW.Trod enc P w 0 sp hd t v d ps) :
    ∃ cs, VR g w (.agg cs) v ∧ Ctys (T.ks t) cs := by
  have hsh := hT.sh t
  obtain ⟨fuel, hv⟩ := hv
  have hagg : ∃ vs, v = .agg vs := by
    unfold Ab.isAgg at hA
    unfold Value.okWide at hval
    cases ht : T.sh t with
    | struct fs =>
      rw [ht] at hsh
      obtain ⟨F, hu, _⟩ := hsh
      rw [hu] at hval
      obtain ⟨cs, h, _⟩ := hval
      exact ⟨cs, h⟩
    | arr n e =>
      rw [ht] at hsh
      have hu : P.underlying t = some (.array n e) := hsh
      rw [hu] at hval
      obtain ⟨cs, h, _⟩ := hval
      exact ⟨cs, h⟩
    | _ => rw [ht] at hA; cases hA
  obtain ⟨vs, rfl⟩ := hagg
  obtain ⟨q, q1, q2, q3⟩ := scal_row hT g hv hs
  have hc : (Value.agg vs).cells.toList = vs.toList := rfl
  rw [hc] at q2 q3
  refine ⟨q, .agg q vs (fun j => (vs[j]?).getD undef) (by simp [q2]) (fun j x hx => ?_) (fun j x hx => ?_) (fun x hx => ?_), q1⟩
  · obtain ⟨u, u1, _⟩ := q3 j x hx
    have : vs[j]? = some u := by simpa using u1
    rw [this]; rfl
  · obtain ⟨u, u1, u2, _⟩ := q3 j x hx
    have : vs[j]? = some u := by simpa using u1
    rw [this]; exact u2
  · obtain ⟨j, hj⟩ := List.mem_iff_getElem?.1 hx
    obtain ⟨u, _, _, u3⟩ := q3 j x hj
    exact noLp1_isCell (pure1_noLp1 u3)
end
end Go.Ab
