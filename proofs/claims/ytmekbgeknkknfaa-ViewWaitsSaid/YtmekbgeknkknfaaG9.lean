/- The law of Insert and Delete. -/
import Derived.Test.YtmekbgeknkknfaaG8
import Derived.Test.YtmekbgeknkknfaaW4
set_option linter.unusedVariables false
set_option linter.unusedSimpArgs false
set_option linter.unusedSectionVars false
set_option linter.constructorNameAsVariable false
namespace Go.Ab
open Go.Proofs

section
variable {T : Tab} {P : Program} {g g' : Gh} {w w' : World} {st st' : St} {a : Act}

/-- One local block less. -/
def unlbG (g : Gh) (k : Nat) : Gh := ⟨fun j => if j = k then none else g.lb j, g.gb, g.mrk, g.ow, g.ro⟩

theorem unlb_vext (k : Nat) : VExt (fun j => !(j == k)) g w (unlbG g k) w where
  lb := fun j b' hk h => by
    simp only [Bool.not_eq_true', beq_eq_false_iff_ne, ne_eq] at hk
    simp only [unlbG, if_neg hk]
    exact h
  gb := fun _ _ h => h
  mrk := fun _ => Nat.le_refl _
  cell := fun _ _ _ => rfl
  shp := fun b arr e fr _ h => ⟨arr, e, h, rfl⟩

theorem rel_forget (hR : Rel g st a w) (k : Nat) : Rel (unlbG g k) { killLp st k with L := upd (killLp st k).L k [] } a w := by
  have hw := hR.wf
  have hE := unlb_vext (g := g) (w := w) k
  refine ⟨hR.df, by simp [killLp, hR.sz], fun i x hx => ?_, fun j L hk hne => ?_, HRel_t hE rfl (fun _ _ => rfl) (fun k j b' hb' => ⟨hb', rfl, rfl⟩) hR.hr, ?_, hR.ro⟩
  · simp only [killLp, List.getElem?_map] at hx
    cases hti : st.tm[i]? with
    | none => rw [hti] at hx; simp at hx
    | some y =>
      rw [hti] at hx
      simp only [Option.map_some, Option.some.injEq] at hx
      obtain ⟨v, h1, h2, h3⟩ := hR.tr i y hti
      refine ⟨v, h1, ?_⟩
      subst hx
      split
      · rename_i hok
        exact TR_t hE (fun x => freshU _ _ ⟨rfl, rfl, rfl⟩ x) (fun o _ b' hb' => ⟨hb', rfl, rfl⟩) ⟨h2, h3⟩ hok
      · exact ⟨.junk _, trivial⟩
  · simp only [killLp, upd_eq_set] at hk
    rw [List.getElem?_set] at hk
    by_cases hkj : k = j
    · rw [if_pos hkj] at hk
      split at hk
      · simp only [Option.some.injEq] at hk
        exact absurd hk.symm hne
      · simp at hk
    · rw [if_neg hkj, List.getElem?_map] at hk
      cases hLk : st.L[j]? with
      | none => rw [hLk] at hk; simp at hk
      | some L0 =>
        rw [hLk] at hk
        simp only [Option.map_some, Option.some.injEq] at hk
        subst hk
        have hne0 : L0 ≠ [] := by rintro rfl; simp at hne
        obtain ⟨b0, h1, arr0, e0, fr0, q1, q2, q3, q4⟩ := hR.lr j L0 hLk hne0
        refine ⟨b0, by simp only [unlbG]; rw [if_neg (fun h => hkj h.symm)]; exact h1, arr0, e0, fr0, q1, by simpa using q2, q3, fun i x hx => ?_⟩
        rw [List.getElem?_map] at hx
        cases hj : L0[i]? with
        | none => rw [hj] at hx; simp at hx
        | some y =>
          rw [hj] at hx
          simp only [Option.map_some, Option.some.injEq] at hx
          obtain ⟨v, r1, r2, r3, r4, r5⟩ := q4 i y hj
          refine ⟨v, r1, ?_⟩
          subst hx
          split
          · rename_i hok
            exact ⟨r2.mono hE hok, FL_t (fun hc b' hb' => ⟨hb', rfl, rfl⟩) r3, r4, r5⟩
          · exact ⟨.junk _, trivial, rfl, rfl⟩
  · refine ⟨fun j j' b' h1 h2 => ?_, fun j b' h1 => ?_, hw.nd, fun j b' h1 => ?_, hw.ltg, fun j b' h1 => ?_, hw.mrg, hw.mrb, hw.owlt⟩
    · simp only [unlbG] at h1 h2
      split at h1
      · cases h1
      · split at h2
        · cases h2
        · exact hw.inj j j' b' h1 h2
    · simp only [unlbG] at h1
      split at h1
      · cases h1
      · exact hw.lbgb j b' h1
    · simp only [unlbG] at h1
      split at h1
      · cases h1
      · exact hw.ltl j b' h1
    · simp only [unlbG] at h1
      split at h1
      · cases h1
      · exact hw.mrl j b' h1

/-- Blocks of which the run knows are as they were. -/
theorem rel_other (hR : Rel g st a w) (hs : w.heap.size ≤ w'.heap.size) (hb : ∀ b, b < w.heap.size → (∃ k, g.lb k = some b) ∨ b ∈ g.gb ∨ g.ow b ≠ .no ∨ g.mrk b ≠ 0 → w'.heap[b]? = w.heap[b]?) : Rel g st a w' := by
  have hw := hR.wf
  have hm : ∀ b, g.mrk b ≠ 0 → w'.heap[b]? = w.heap[b]? := fun b h => by
    obtain ⟨arr, e, fr, h1, _⟩ := hw.mrb b h
    exact hb b (lt_of_heap h1) (.inr (.inr (.inr h)))
  have hl : ∀ k b, g.lb k = some b → w'.heap[b]? = w.heap[b]? := fun k b h => hb b (hw.ltl k b h) (.inl ⟨k, h⟩)
  have hg : ∀ b ∈ g.gb, w'.heap[b]? = w.heap[b]? := fun b h => hb b (hw.ltg b h) (.inr (.inl h))
  have hE : VExt (fun _ => true) g w g w' := {
    lb := fun _ _ _ h => h
    gb := fun _ _ h => h
    mrk := fun _ => Nat.le_refl _
    cell := fun b j hj => by simp only [World.cell?, hm b (by omega)]
    shp := fun b arr e fr ⟨k, hk⟩ h => ⟨arr, e, by rw [hl k b hk]; exact h, rfl⟩ }
  have hF : ∀ o, cls o = true → ∀ b, g.ow b = o → g.ow b = o ∧ g.mrk b = g.mrk b ∧ w'.heap[b]? = w.heap[b]? := fun o hc b hbo =>
    ⟨hbo, rfl, hb b (hw.owlt b (by rintro h; rw [h] at hbo; subst hbo; simp [cls] at hc)) (.inr (.inr (.inl (by rintro h; rw [h] at hbo; subst hbo; simp [cls] at hc))))⟩
  refine ⟨hR.df, hR.sz, fun i x hx => ?_, fun k cs hk hne => ?_, HRel_t hE rfl hg (fun k j b hbo => hF _ rfl b hbo) hR.hr, ?_, hR.ro⟩
  · obtain ⟨v, q1, q2, q3⟩ := hR.tr i x hx
    exact ⟨v, q1, q2.mono hE (VR_dep q2), FL_t (fun hc b hbo => hF _ hc b hbo) q3⟩
  · obtain ⟨b, h1, h2⟩ := hR.lr k cs hk hne
    refine ⟨b, h1, BR_t hE (hl k b h1) (fun x hx => ?_) (fun j hc b hbo => hF _ hc b hbo) h2⟩
    obtain ⟨j, hj⟩ := List.mem_iff_getElem?.1 hx
    obtain ⟨arr, e, fr, _, _, _, h4⟩ := h2
    obtain ⟨v, _, q2, _⟩ := h4 j x hj
    exact VR_dep q2
  · refine ⟨hw.inj, hw.lbgb, hw.nd, fun k b h => Nat.lt_of_lt_of_le (hw.ltl k b h) hs, fun b h => Nat.lt_of_lt_of_le (hw.ltg b h) hs, hw.mrl, hw.mrg, fun b h => ?_, fun b h => Nat.lt_of_lt_of_le (hw.owlt b h) hs⟩
    obtain ⟨arr, e, fr, h1, h2⟩ := hw.mrb b h
    exact ⟨arr, e, fr, by rw [hm b h]; exact h1, h2⟩

/-- What comes of a row that was taken apart or grown: the block b' holds these values; besides it at most the old block b was written. -/
structure Got (w w' : World) (b : Option Nat) (b' : Nat) (nv : List Value) (n cap : Nat) : Prop where
  blk : ∃ arr e fr, w'.heap[b']? = some (.cells arr e fr) ∧ cap * 11 ≤ arr.size ∧ (∀ j, j < arr.size → ¬(fr.1 ≤ j ∧ j < fr.2)) ∧ ∀ (j : Nat) v, nv[j]? = some v → arr[j]? = some v
  at_ : some b' = b ∨ w.heap.size ≤ b'
  old : ∀ b2, b2 < w.heap.size → some b2 ≠ b → w'.heap[b2]? = w.heap[b2]?
  shp : ∀ b2 arr e fr, some b2 = b → w.heap[b2]? = some (.cells arr e fr) → ∃ arr', w'.heap[b2]? = some (.cells arr' e fr) ∧ arr'.size = arr.size
  size : w.heap.size ≤ w'.heap.size
  os : w'.os = w.os
  out : w'.output = w.output
  tape : w'.tape = w.tape
  len : nv.length = n * 11
  cap : n ≤ cap

/-- No row of the run's is old at this block. -/
def Mine (g : Gh) (k : Option Nat) (b : Option Nat) : Prop := match k with | some k => ∃ b0, b = some b0 ∧ g.lb k = some b0 | none => b = none

theorem noSl_all {cs : List AV} (h : cs.all noSl = true) {x : AV} (hx : x ∈ cs) : x.pure1 = true ∧ x.slOwn = .no ∧ x.isCell = true := by
  have := List.all_eq_true.1 h x hx
  cases x <;> simp_all [noSl, AV.pure1, AV.slOwn, AV.isCell]

theorem got_adopt {k : Option Nat} {b : Option Nat} {b' d n cap : Nat} {nv : List Value} {cs : List AV} (hR : Rel g st a w) (hG : Got w w' b b' nv n cap) (hm : Mine g k b) (hcs : ArgsR g w cs nv) (hn : cs.all noSl = true)
    (hst : st' = St.set (match k with
      | some k => { killLp (killLp st k) d with L := upd (upd (killLp (killLp st k) d).L k []) d cs }
      | none => { killLp st d with L := upd (killLp st d).L d cs }) d (.vs d 0 n 11)) :
    Nx g w st' (a.put (some d) (.slice (some ⟨b', 0, none⟩) n cap)) w' := by
  have hw := hR.wf
  obtain ⟨arr, e, fr, k1, k2, k3, k4⟩ := hG.blk
  have hncap : n * 11 ≤ cap * 11 := Nat.mul_le_mul_right _ hG.cap
  have hlen : cs.length = n * 11 := by rw [← hcs.1]; exact hG.len
  -- the state without the old block
  have hst1 : ∃ g1 st1, Rel g1 st1 a w ∧ st' = St.set { killLp st1 d with L := upd (killLp st1 d).L d cs } d (.vs d 0 n 11) ∧ (∀ j b2, g1.lb j = some b2 → g.lb j = some b2 ∧ some b2 ≠ b) ∧
      g1.gb = g.gb ∧ g1.mrk = g.mrk ∧ g1.ow = g.ow ∧ g1.ro = g.ro := by
    cases k with
    | none =>
      refine ⟨g, st, hR, hst, fun j b2 h => ⟨h, ?_⟩, rfl, rfl, rfl, rfl⟩
      simp only [Mine] at hm
      rw [hm]
      simp
    | some k =>
      refine ⟨unlbG g k, _, rel_forget hR k, ?_, fun j b2 h => ?_, rfl, rfl, rfl, rfl⟩
      · rw [hst]
        simp only [killLp, upd_eq_set, List.map_set, List.map_map, List.map_nil]
      · simp only [unlbG] at h
        split at h
        · cases h
        · rename_i hjk
          obtain ⟨b0, rfl, hb0⟩ := hm
          refine ⟨h, fun hb => ?_⟩
          simp only [Option.some.injEq] at hb
          subst hb
          exact hjk (hw.inj _ _ _ h hb0)
  obtain ⟨g1, st1, hR1, hst', hl1, hg1, hm1, ho1, hr1⟩ := hst1
  -- whom the old block belongs to
  have hbk : ∀ b0, b = some b0 → ∃ k, g.lb k = some b0 := fun b0 hb => by
    cases k with
    | none => simp only [Mine] at hm; rw [hm] at hb; cases hb
    | some k =>
      obtain ⟨b1, h1, h2⟩ := hm
      rw [hb] at h1
      simp only [Option.some.injEq] at h1
      subst h1
      exact ⟨k, h2⟩
  have hnob : ∀ b0, b = some b0 → b0 ∉ g.gb ∧ g.mrk b0 = 0 ∧ g.ow b0 = .no := fun b0 hb => by
    obtain ⟨k, hk⟩ := hbk b0 hb
    exact ⟨hw.lbgb k b0 hk, (hw.mrl k b0 hk).1, (hw.mrl k b0 hk).2⟩
  have hR2 : Rel g1 st1 a w' := rel_other hR1 hG.size fun b2 hlt h => by
    refine hG.old b2 hlt fun hb => ?_
    obtain ⟨n1, n2, n3⟩ := hnob b2 hb.symm
    rcases h with ⟨j, hj⟩ | h | h | h
    · exact (hl1 j b2 hj).2 hb
    · rw [hg1] at h; exact n1 h
    · rw [ho1] at h; exact h n3
    · rw [hm1] at h; exact h n2
  have hnew : b' ∉ g.gb ∧ g.mrk b' = 0 ∧ g.ow b' = .no := by
    rcases hG.at_ with h | h
    · exact hnob b' h.symm
    · refine ⟨fun hb => ?_, ?_, ?_⟩
      · have := hw.ltg b' hb; omega
      · rcases Nat.eq_zero_or_pos (g.mrk b') with h0 | h0
        · exact h0
        · obtain ⟨arr, e, fr, h1, _⟩ := hw.mrb b' (Nat.pos_iff_ne_zero.1 h0)
          have := lt_of_heap h1
          omega
      · cases ho : g.ow b' with
        | no => rfl
        | _ => have := hw.owlt b' (by rw [ho]; simp); omega
  have hnl : ∀ j, g1.lb j ≠ some b' := fun j hj => by
    obtain ⟨h1, h2⟩ := hl1 j b' hj
    rcases hG.at_ with h | h
    · exact h2 h
    · have := hw.ltl j b' h1; omega
  have hE : VExt (fun _ => false) g w g1 w' := {
    lb := fun _ _ h => by cases h
    gb := fun k b h => by rw [hg1]; exact h
    mrk := fun b => by rw [hm1]; exact Nat.le_refl _
    cell := fun b2 j hj => by
      have hne : g.mrk b2 ≠ 0 := by omega
      obtain ⟨arr, e, fr, h1, _⟩ := hw.mrb b2 hne
      simp only [World.cell?]
      rw [hG.old b2 (lt_of_heap h1) (fun hb => hne (hnob b2 hb.symm).2.1)]
    shp := fun b2 arr e fr _ h => by
      by_cases hb : some b2 = b
      · obtain ⟨arr', h1, h2⟩ := hG.shp b2 arr e fr hb h
        exact ⟨arr', e, h1, h2⟩
      · exact ⟨arr, e, by rw [hG.old b2 (lt_of_heap h) hb]; exact h, rfl⟩ }
  rw [hst']
  refine ⟨lbG g1 d b', ?_, rel_adopt hR2 k1 k3 (by omega) (fun j x hx => ?_) (fun x hx => pure1_cellDep _ (noSl_all hn hx).1) hnl (by rw [hg1]; exact hnew.1) (by rw [hm1]; exact hnew.2.1) (by rw [ho1]; exact hnew.2.2)
    (fun g' hg' => .vs d 0 n 11 b' cap arr e fr hg' hG.cap k1 (by omega) k3) rfl⟩
  · refine { size := hG.size, gb := fun k b h => by show g1.gb[k]? = _; rw [hg1]; exact h, mrk := fun b => by show _ ≤ g1.mrk b; rw [hm1]; exact Nat.le_refl _, cell := hE.cell, shp := fun b2 arr e fr h => ?_, keep := fun b2 hb hnlb hngb ho => ?_,
             nlb := fun j b2 h => ?_, ngb := fun b2 h => ?_, os := hG.os, out := hG.out, tape := hG.tape, roe := hr1, rog := fun h => ?_ }
    · by_cases hb : some b2 = b
      · exact hG.shp b2 arr e fr hb h
      · exact ⟨arr, by rw [hG.old b2 (lt_of_heap h) hb]; exact h, rfl⟩
    · refine ⟨hG.old b2 hb fun h => ?_, by show g1.mrk b2 = _; rw [hm1], by show g1.ow b2 = _; rw [ho1]; exact ho⟩
      obtain ⟨k, hk⟩ := hbk b2 h.symm
      exact hnlb k hk
    · simp only [lbG] at h
      split at h
      · simp only [Option.some.injEq] at h
        subst h
        rcases hG.at_ with h | h
        · exact .inl (hbk _ h.symm)
        · exact .inr h
      · exact .inl ⟨j, (hl1 j b2 h).1⟩
    · have : b2 ∈ g1.gb := h
      rw [hg1] at this
      exact .inl this
    · refine ⟨hg1, fun b2 hb => hG.old b2 (hw.ltg b2 hb) fun h => (hnob b2 h.symm).1 hb⟩
  · obtain ⟨v, q1, q2⟩ := hcs.2 j x hx
    obtain ⟨n1, n2, n3⟩ := noSl_all hn (mem_of_getElem? hx)
    exact ⟨v, k4 j v q1, q2.mono hE (pure1_cellDep _ n1), n3, n2⟩
end
end Go.Ab
namespace Go.Ab
open Go.Proofs

section
variable {g g' : Gh} {w w' : World} {st st' : St} {a : Act}

theorem noSl_one {x : AV} {v : Value} (hx : VR g w x v) (h : noSl x = true) : v.oneCell' = true := by
  cases hx <;> first
    | rfl
    | simp [noSl] at h

theorem args_one {cs : List AV} {vs : List Value} (h : ArgsR g w cs vs) (hn : cs.all noSl = true) : ∀ v ∈ vs, v.oneCell' = true := by
  intro v hv
  obtain ⟨j, hj⟩ := List.mem_iff_getElem?.1 hv
  have hlt := lt_of_getElem? hj
  have hlt' : j < cs.length := by rw [← h.1]; exact hlt
  have hc : cs[j]? = some cs[j] := List.getElem?_eq_getElem hlt'
  obtain ⟨u, q1, q2⟩ := h.2 j _ hc
  rw [hj] at q1
  simp only [Option.some.injEq] at q1
  subst q1
  exact noSl_one q2 (List.all_eq_true.1 hn _ (mem_of_getElem? hc))

theorem ArgsR_append {xs ys : List AV} {us vs : List Value} (h1 : ArgsR g w xs us) (h2 : ArgsR g w ys vs) : ArgsR g w (xs ++ ys) (us ++ vs) := by
  refine ⟨by simp [h1.1, h2.1], fun i x hx => ?_⟩
  rcases Nat.lt_or_ge i xs.length with hlt | hge
  · rw [List.getElem?_append_left hlt] at hx
    obtain ⟨v, q1, q2⟩ := h1.2 i x hx
    exact ⟨v, by rw [List.getElem?_append_left (by rw [h1.1]; exact hlt)]; exact q1, q2⟩
  · rw [List.getElem?_append_right hge] at hx
    obtain ⟨v, q1, q2⟩ := h2.2 _ x hx
    exact ⟨v, by rw [List.getElem?_append_right (by rw [h1.1]; exact hge), h1.1]; exact q1, q2⟩
theorem ArgsR_take {xs : List AV} {us : List Value} (n : Nat) (h : ArgsR g w xs us) : ArgsR g w (xs.take n) (us.take n) := by
  refine ⟨by simp [h.1], fun i x hx => ?_⟩
  rw [List.getElem?_take] at hx ⊢
  split at hx
  · rename_i hi
    rw [if_pos hi]
    exact h.2 i x hx
  · cases hx
theorem ArgsR_drop {xs : List AV} {us : List Value} (n : Nat) (h : ArgsR g w xs us) : ArgsR g w (xs.drop n) (us.drop n) := by
  refine ⟨by simp [h.1], fun i x hx => ?_⟩
  rw [List.getElem?_drop] at hx ⊢
  exact h.2 _ x hx

theorem ins_nv {cs xs : List Value} {i j : Nat} {v : Value} (hi : i * 11 ≤ cs.length) (hx : xs.length = 11) (h : (cs.take (i * 11) ++ xs ++ cs.drop (i * 11))[j]? = some v) :
    (j < i * 11 ∧ cs[j]? = some v) ∨ (i * 11 ≤ j ∧ j < i * 11 + 11 ∧ xs[j - i * 11]? = some v) ∨ (i * 11 + 11 ≤ j ∧ cs[j - 11]? = some v) := by
  have hl : (cs.take (i * 11)).length = i * 11 := by rw [List.length_take]; omega
  rcases Nat.lt_or_ge j (i * 11) with h1 | h1
  · rw [List.append_assoc, List.getElem?_append_left (by omega), List.getElem?_take, if_pos h1] at h
    exact .inl ⟨h1, h⟩
  · rw [List.append_assoc, List.getElem?_append_right (by omega), hl] at h
    rcases Nat.lt_or_ge j (i * 11 + 11) with h2 | h2
    · rw [List.getElem?_append_left (by omega)] at h
      exact .inr (.inl ⟨h1, h2, h⟩)
    · rw [List.getElem?_append_right (by omega), List.getElem?_drop, hx] at h
      exact .inr (.inr ⟨h2, by rw [show j - 11 = i * 11 + (j - i * 11 - 11) by omega]; exact h⟩)

theorem ins_len {cs xs : List Value} {i n : Nat} (hi : i ≤ n) (hc : cs.length = n * 11) (hx : xs.length = 11) : (cs.take (i * 11) ++ xs ++ cs.drop (i * 11)).length = (n + 1) * 11 := by
  simp only [List.length_append, List.length_take, List.length_drop, hx, hc]
  have : i * 11 ≤ n * 11 := Nat.mul_le_mul_right _ hi
  omega

section
variable {b n i c vo vc : Nat} {vb : Nat} {cs xs : List Value} {arr : Array Value} {e : TypeId} {fr : Nat × Nat}


theorem ins_got (hb : w.heap[b]? = some (.cells arr e fr)) (hc : c * 11 ≤ arr.size) (hfr : ∀ j, j < arr.size → ¬(fr.1 ≤ j ∧ j < fr.2)) (hn : n ≤ c) (hi : i ≤ n) (hbig : n ≤ 268435456) (hvb : vb ≠ b)
    (hcl : cs.length = n * 11) (hxl : xs.length = 11) (hcs : ∀ (j : Nat) v, cs[j]? = some v → arr[j]? = some v) (hxs : ∀ (j : Nat) v, xs[j]? = some v → w.cell? ⟨vb, vo + j, none⟩ = some v) (h1c : ∀ v ∈ cs, v.oneCell' = true) (h1x : ∀ v ∈ xs, v.oneCell' = true)
    {va : Array Value} {ve : TypeId} {vf : Nat × Nat} (hva : w.heap[vb]? = some (.cells va ve vf)) (hfa : w.frozen? ⟨vb, vo, none⟩ = false) (hfe : w.frozen? ⟨vb, va.size, none⟩ = false) :
    Calls Try.prog 112 #[.slice (some ⟨b, 0, none⟩) n c, .int .i64 i, .slice (some ⟨vb, vo, none⟩) 1 vc] w fun r w' => ∃ b' cap', r = .returned (.slice (some ⟨b', 0, none⟩) (n + 1) cap') ∧ Got w w' (some b) b' (cs.take (i * 11) ++ xs ++ cs.drop (i * 11)) (n + 1) cap' := by
  have hcell : ∀ (j : Nat) v, cs[j]? = some v → w.cell? ⟨b, j, none⟩ = some v := fun j v h => by rw [cell?_of_block hb]; exact hcs j v h
  have hsome : ∀ j, j < arr.size → (w.cell? ⟨b, j, none⟩).isSome = true := fun j hj => by
    rw [cell?_of_block hb, Array.getElem?_eq_getElem hj]; rfl
  have hfz : ∀ j, j < arr.size → w.frozen? ⟨b, j, none⟩ = false := fun j hj => by
    simp only [World.frozen?, hb]
    have := hfr j hj
    simpa using this
  have hil : i * 11 ≤ cs.length := by rw [hcl]; exact Nat.mul_le_mul_right _ hi
  have hnc : n * 11 ≤ c * 11 := Nat.mul_le_mul_right _ hn
  have hblt : b < w.heap.size := lt_of_heap hb
  rcases Nat.lt_or_ge n c with hroom | hfull
  · have hnc1 : (n + 1) * 11 ≤ c * 11 := Nat.mul_le_mul_right _ hroom
    rcases Nat.lt_or_ge i n with hin | hin
    · -- in place, among the others
      have hine : i * 11 + 11 ≤ n * 11 := by
        have := Nat.mul_le_mul_right 11 (show i + 1 ≤ n from hin)
        omega
      refine (ins_shift b n c i vb vo 1 vc cs xs w hin (by omega) hroom (by omega) hvb hcl (by omega) hcell (fun j hj => hsome j (by omega)) (fun j hj => hfz j (by omega)) hxs h1c h1x ve e va.size arr.size
        (by simp only [World.shape?, hva]) (by simp only [World.shape?, hb]) (by omega) hfa hfe).mono ?_
      rintro r w' ⟨rfl, rfl⟩
      obtain ⟨arr1, p1, p2, p3⟩ := setCells_block b e fr (cs.drop (i * 11)) ((i + 1) * 11) w.drew arr hb (by rw [List.length_drop, hcl]; omega)
      obtain ⟨arr2, q1, q2, q3⟩ := setCells_block b e fr xs (i * 11) (w.drew.setCells b ((i + 1) * 11) (cs.drop (i * 11))) arr1 p1 (by omega)
      have r1 := setCells_rest b (cs.drop (i * 11)) ((i + 1) * 11) w.drew
      have r2 := setCells_rest b xs (i * 11) (w.drew.setCells b ((i + 1) * 11) (cs.drop (i * 11)))
      have hoth : ∀ b2, b2 ≠ b → ((w.drew.setCells b ((i + 1) * 11) (cs.drop (i * 11))).setCells b (i * 11) xs).heap[b2]? = w.heap[b2]? := fun b2 h => by
        rw [setCells_other b _ _ _ h, setCells_other b _ _ _ h]; rfl
      refine ⟨b, c, rfl, ⟨arr2, e, fr, q1, by omega, fun j hj => hfr j (by omega), fun j v hv => ?_⟩, .inl rfl, fun b2 _ h => hoth b2 (fun hh => h (by rw [hh])), fun b2 arr0 e0 fr0 hb2 h0 => ?_, by rw [r2.2.2.2, r1.2.2.2]; exact Nat.le_refl _,
        by rw [r2.1, r1.1]; rfl, by rw [r2.2.1, r1.2.1]; rfl, by rw [r2.2.2.1, r1.2.2.1]; rfl, ins_len hi hcl hxl, hroom⟩
      · rw [q3]
        rcases ins_nv hil hxl hv with ⟨h1, h2⟩ | ⟨h1, h2, h3⟩ | ⟨h1, h2⟩
        · rw [if_neg (by omega), p3, if_neg (by omega)]
          exact hcs j v h2
        · rw [if_pos (by omega)]
          exact h3
        · have := lt_of_getElem? h2
          rw [if_neg (by omega), p3, if_pos (by rw [List.length_drop, hcl]; omega), List.getElem?_drop, show i * 11 + (j - (i + 1) * 11) = j - 11 by omega]
          exact h2
      · simp only [Option.some.injEq] at hb2
        subst hb2
        rw [hb] at h0
        cases h0
        exact ⟨arr2, q1, by omega⟩
    · -- in place, at the end
      obtain rfl : i = n := by omega
      refine (ins_end_room b i c vb vo 1 vc xs w (by omega) hroom (by omega) (by omega) (fun j hj => hsome _ (by omega)) (fun j hj => hfz _ (by omega)) hxs h1x).mono ?_
      rintro r w' ⟨rfl, rfl⟩
      obtain ⟨arr2, q1, q2, q3⟩ := setCells_block b e fr xs (i * 11) w arr hb (by omega)
      have r2 := setCells_rest b xs (i * 11) w
      refine ⟨b, c, rfl, ⟨arr2, e, fr, q1, by omega, fun j hj => hfr j (by omega), fun j v hv => ?_⟩, .inl rfl, fun b2 _ h => setCells_other b _ _ _ (fun hh => h (by rw [hh])), fun b2 arr0 e0 fr0 hb2 h0 => ?_, by rw [r2.2.2.2]; exact Nat.le_refl _,
        by rw [r2.1], by rw [r2.2.1], by rw [r2.2.2.1], ins_len hi hcl hxl, hroom⟩
      · rw [q3]
        rcases ins_nv hil hxl hv with ⟨h1, h2⟩ | ⟨h1, h2, h3⟩ | ⟨h1, h2⟩
        · rw [if_neg (by omega)]
          exact hcs j v h2
        · rw [if_pos (by omega)]
          exact h3
        · have := lt_of_getElem? h2
          omega
      · simp only [Option.some.injEq] at hb2
        subst hb2
        rw [hb] at h0
        cases h0
        exact ⟨arr2, q1, by omega⟩
  · obtain rfl : n = c := by omega
    have hge := grownCap_ge w (n + 1) n 36
    have hmul : (n + 1) * 11 ≤ grownCap w (n + 1) n 36 * 11 := Nat.mul_le_mul_right _ hge
    rcases Nat.lt_or_ge i n with hin | hin
    · -- a new row, among the others
      have hine : i * 11 + 11 ≤ n * 11 := by
        have := Nat.mul_le_mul_right 11 (show i + 1 ≤ n from hin)
        omega
      refine (ins_grow b n n i vb vo 1 vc cs xs w hin (by omega) (Nat.le_refl _) (by omega) (by omega) hcl (by omega) hcell hxs h1c h1x).mono ?_
      rintro r w' ⟨rfl, rfl⟩
      generalize hR : (cs.take (i * 11)).toArray ++ Builtin.zeroCells insV.cells (n + 1 - i) ++ Builtin.zeroCells insV.cells (grownCap w (n + 1) n 36 - (n + 1)) = R
      have hRs : R.size = grownCap w (n + 1) n 36 * 11 := by
        rw [← hR]
        simp only [Array.size_append, Builtin.zeroCells, Array.size_map, Array.size_range, List.size_toArray, List.length_take, insV_cells, hcl]
        omega
      have hR0 : ∀ (j : Nat) v, j < i * 11 → cs[j]? = some v → R[j]? = some v := fun j v hj hv => by
        rw [← hR, Array.append_assoc, Array.getElem?_append_left (by simp only [List.size_toArray, List.length_take]; omega)]
        simp [List.getElem?_take, hj, hv]
      have hN : ((w.alloc (.cells R 36)).drew).heap[w.heap.size]? = some (.cells R 36 (0, 0)) := heap_alloc_new w _
      obtain ⟨arr1, p1, p2, p3⟩ := setCells_block w.heap.size 36 (0, 0) xs (i * 11) (w.alloc (.cells R 36)).drew R hN (by omega)
      obtain ⟨arr2, q1, q2, q3⟩ := setCells_block w.heap.size 36 (0, 0) (cs.drop (i * 11)) ((i + 1) * 11) (((w.alloc (.cells R 36)).drew.setCells w.heap.size (i * 11) xs).drew) arr1 p1 (by rw [List.length_drop, hcl]; omega)
      have r1 := setCells_rest w.heap.size xs (i * 11) (w.alloc (.cells R 36)).drew
      have r2 := setCells_rest w.heap.size (cs.drop (i * 11)) ((i + 1) * 11) (((w.alloc (.cells R 36)).drew.setCells w.heap.size (i * 11) xs).drew)
      have hoth : ∀ b2, b2 < w.heap.size → ((((w.alloc (.cells R 36)).drew.setCells w.heap.size (i * 11) xs).drew).setCells w.heap.size ((i + 1) * 11) (cs.drop (i * 11))).heap[b2]? = w.heap[b2]? := fun b2 h => by
        rw [setCells_other _ _ _ _ (by omega)]
        show ((w.alloc (.cells R 36)).drew.setCells w.heap.size (i * 11) xs).heap[b2]? = _
        rw [setCells_other _ _ _ _ (by omega)]
        exact heap_alloc_old h
      refine ⟨w.heap.size, _, rfl, ⟨arr2, 36, (0, 0), q1, by omega, fun j _ h => by simp at h, fun j v hv => ?_⟩, .inr (Nat.le_refl _), fun b2 h _ => hoth b2 h, fun b2 arr0 e0 fr0 hb2 h0 => ⟨arr0, by rw [hoth b2 (lt_of_heap h0)]; exact h0, rfl⟩,
        by rw [r2.2.2.2]; show _ ≤ ((w.alloc (.cells R 36)).drew.setCells w.heap.size (i * 11) xs).heap.size; rw [r1.2.2.2]; show _ ≤ (w.alloc (.cells R 36)).heap.size; simp,
        by rw [r2.1]; show ((w.alloc (.cells R 36)).drew.setCells w.heap.size (i * 11) xs).os = _; rw [r1.1]; rfl,
        by rw [r2.2.1]; show ((w.alloc (.cells R 36)).drew.setCells w.heap.size (i * 11) xs).output = _; rw [r1.2.1]; rfl,
        by rw [r2.2.2.1]; show ((w.alloc (.cells R 36)).drew.setCells w.heap.size (i * 11) xs).tape = _; rw [r1.2.2.1]; rfl, ins_len hi hcl hxl, hge⟩
      rw [q3]
      rcases ins_nv hil hxl hv with ⟨h1, h2⟩ | ⟨h1, h2, h3⟩ | ⟨h1, h2⟩
      · rw [if_neg (by omega), p3, if_neg (by omega)]
        exact hR0 j v h1 h2
      · rw [if_neg (by omega), p3, if_pos (by omega)]
        exact h3
      · have := lt_of_getElem? h2
        rw [if_pos (by rw [List.length_drop, hcl]; omega), List.getElem?_drop, show i * 11 + (j - (i + 1) * 11) = j - 11 by omega]
        exact h2
    · -- a new row, at the end
      obtain rfl : i = n := by omega
      refine (ins_end_grow (some ⟨b, 0, none⟩) i i vb vo 1 vc cs xs w (by omega) (Nat.le_refl _) (by omega) (by omega) hcl (by omega) (fun h => by cases h) (fun a ha j v hv => by
        simp only [Option.some.injEq] at ha
        subst ha
        rw [Addr.add_lit, Nat.zero_add]
        exact hcell j v hv) hxs h1x).mono ?_
      rintro r w' ⟨rfl, rfl⟩
      generalize hR : (cs ++ xs).toArray ++ Builtin.zeroCells insV.cells (grownCap w (i + 1) i 36 - (i + 1)) = R
      have hRs : R.size = grownCap w (i + 1) i 36 * 11 := by
        rw [← hR]
        simp only [Array.size_append, Builtin.zeroCells, Array.size_map, Array.size_range, List.size_toArray, List.length_append, insV_cells, hcl, hxl]
        omega
      refine ⟨w.heap.size, _, rfl, ⟨R, 36, (0, 0), heap_alloc_new w.drew _, by omega, fun j _ h => by simp at h, fun j v hv => ?_⟩, .inr (Nat.le_refl _), fun b2 h _ => heap_alloc_old (w := w.drew) h, fun b2 arr0 e0 fr0 hb2 h0 => ⟨arr0, by rw [heap_alloc_old (w := w.drew) (lt_of_heap h0)]; exact h0, rfl⟩,
        by show _ ≤ (w.drew.alloc (.cells R 36)).heap.size; simp, rfl, rfl, rfl, ins_len hi hcl hxl, hge⟩
      have e1 : cs.take (i * 11) = cs := List.take_of_length_le (by omega)
      have e2 : cs.drop (i * 11) = [] := List.drop_eq_nil_of_le (by omega)
      rw [e1, e2, List.append_nil] at hv
      rw [← hR, Array.getElem?_append_left (by simpa using lt_of_getElem? hv)]
      simpa using hv

theorem ins_nil (hxl : xs.length = 11) (hxs : ∀ (j : Nat) v, xs[j]? = some v → w.cell? ⟨vb, vo + j, none⟩ = some v) (h1x : ∀ v ∈ xs, v.oneCell' = true) :
    Calls Try.prog 112 #[.slice none 0 0, .int .i64 0, .slice (some ⟨vb, vo, none⟩) 1 vc] w fun r w' => ∃ b' cap', r = .returned (.slice (some ⟨b', 0, none⟩) 1 cap') ∧ Got w w' none b' xs 1 cap' := by
  have hge := grownCap_ge w (0 + 1) 0 36
  refine (ins_end_grow none 0 0 vb vo 1 vc [] xs w (by omega) (Nat.le_refl _) (by omega) (by omega) rfl (by omega) (fun _ => rfl) (fun a ha => by cases ha) hxs h1x).mono ?_
  rintro r w' ⟨rfl, rfl⟩
  generalize hR : ([] ++ xs).toArray ++ Builtin.zeroCells insV.cells (grownCap w (0 + 1) 0 36 - (0 + 1)) = R
  have hRs : R.size = grownCap w (0 + 1) 0 36 * 11 := by
    rw [← hR]
    simp only [Array.size_append, Builtin.zeroCells, Array.size_map, Array.size_range, List.size_toArray, List.length_append, insV_cells, hxl, List.length_nil]
    omega
  refine ⟨w.heap.size, _, rfl, ⟨R, 36, (0, 0), heap_alloc_new w.drew _, by omega, fun j _ h => by simp at h, fun j v hv => ?_⟩, .inr (Nat.le_refl _), fun b2 h _ => heap_alloc_old (w := w.drew) h, fun b2 arr0 e0 fr0 hb2 h0 => (by cases hb2),
    by show _ ≤ (w.drew.alloc (.cells R 36)).heap.size; simp, rfl, rfl, rfl, by omega, by omega⟩
  rw [← hR, Array.getElem?_append_left (by simpa using lt_of_getElem? hv)]
  simpa using hv

theorem del_got (hb : w.heap[b]? = some (.cells arr e fr)) (hc : c * 11 ≤ arr.size) (hfr : ∀ j, j < arr.size → ¬(fr.1 ≤ j ∧ j < fr.2)) (hn : n ≤ c) (hi : i < n) (hbig : n ≤ 268435456)
    (hcl : cs.length = n * 11) (hcs : ∀ (j : Nat) v, cs[j]? = some v → arr[j]? = some v) (h1c : ∀ v ∈ cs, v.oneCell' = true) :
    Calls Try.prog 114 #[.slice (some ⟨b, 0, none⟩) n c, .int .i64 i, .int .i64 ((i : Int) + 1)] w fun r w' => ∃ b' cap', r = .returned (.slice (some ⟨b', 0, none⟩) (n - 1) cap') ∧ Got w w' (some b) b' (cs.take (i * 11) ++ cs.drop ((i + 1) * 11)) (n - 1) cap' := by
  have hnc : n * 11 ≤ c * 11 := Nat.mul_le_mul_right _ hn
  have hin : (i + 1) * 11 ≤ n * 11 := Nat.mul_le_mul_right _ hi
  have hz : insZ.length = 11 := rfl
  refine (del_walk b n i c cs w hi hn hbig hcl (fun j v h => by rw [cell?_of_block hb]; exact hcs j v h) (fun j hj => by
    simp only [World.frozen?, hb]
    have := hfr j (by omega)
    simpa using this) h1c).mono ?_
  rintro r w' ⟨rfl, rfl⟩
  obtain ⟨arr1, p1, p2, p3⟩ := setCells_block b e fr (cs.drop ((i + 1) * 11)) (i * 11) w.drew arr hb (by rw [List.length_drop, hcl]; omega)
  obtain ⟨arr2, q1, q2, q3⟩ := setCells_block b e fr insZ ((n - 1) * 11) (w.drew.setCells b (i * 11) (cs.drop ((i + 1) * 11))) arr1 p1 (by omega)
  have r1 := setCells_rest b (cs.drop ((i + 1) * 11)) (i * 11) w.drew
  have r2 := setCells_rest b insZ ((n - 1) * 11) (w.drew.setCells b (i * 11) (cs.drop ((i + 1) * 11)))
  refine ⟨b, c, rfl, ⟨arr2, e, fr, q1, by omega, fun j hj => hfr j (by omega), fun j v hv => ?_⟩, .inl rfl, fun b2 _ h => ?_, fun b2 arr0 e0 fr0 hb2 h0 => ?_, by rw [r2.2.2.2, r1.2.2.2]; exact Nat.le_refl _,
    by rw [r2.1, r1.1]; rfl, by rw [r2.2.1, r1.2.1]; rfl, by rw [r2.2.2.1, r1.2.2.1]; rfl, by simp only [List.length_append, List.length_take, List.length_drop, hcl]; omega, by omega⟩
  · have hjl := lt_of_getElem? hv
    simp only [List.length_append, List.length_take, List.length_drop, hcl] at hjl
    rw [q3, if_neg (by omega), p3]
    have hl : (cs.take (i * 11)).length = i * 11 := by rw [List.length_take]; omega
    rcases Nat.lt_or_ge j (i * 11) with h1 | h1
    · rw [if_neg (by omega)]
      rw [List.getElem?_append_left (by omega), List.getElem?_take, if_pos h1] at hv
      exact hcs j v hv
    · rw [if_pos (by rw [List.length_drop, hcl]; omega)]
      rw [List.getElem?_append_right (by omega), hl] at hv
      exact hv
  · have hh : b2 ≠ b := fun hh => h (by rw [hh])
    rw [setCells_other b _ _ _ hh, setCells_other b _ _ _ hh]; rfl
  · simp only [Option.some.injEq] at hb2
    subst hb2
    rw [hb] at h0
    cases h0
    exact ⟨arr2, q1, by omega⟩
end
end
end Go.Ab
namespace Go.Ab
open Go.Proofs

section
variable {T : Tab} {C : Nat → List AV → List GB → Option (AV × List GB)} {Lp : Nat → Nat → Code → St → Option (Ex × St)}
  {g g' : Gh} {w w' : World} {st st' : St} {a : Act}

theorem upon_calls {P : Program} {o : Oper} {f : Nat} {vals : List Value} {next : Act → World → Prop} {Q : Exit → Act → World → Prop} {R : Value → World → Prop}
    (h1 : ∃ fn, P.funcs[f]? = some fn ∧ fn.body.isNone = false ∧ (fn.name == "runtime.NumGoroutine") = false)
    (h2 : Calls P f vals.toArray w fun e w' => ∃ r, e = .returned r ∧ R r w') (hn : ∀ r w', R r w' → next (a.put o.dst r) w') :
    o.upon P a next Q ((callFunc f vals.toArray).run P w) := by
  rw [run_callFunc h1]
  simp only [Oper.upon_enter]
  refine h2.mono fun e w' he => ?_
  obtain ⟨r, rfl, hr⟩ := he
  exact hn r w' hr

theorem ins_fn : ∃ fn, Try.prog.funcs[112]? = some fn ∧ fn.body.isNone = false ∧ (fn.name == "runtime.NumGoroutine") = false := ⟨_, Try.func112, by kernel_rfl, by kernel_rfl⟩
theorem del_fn : ∃ fn, Try.prog.funcs[114]? = some fn ∧ fn.body.isNone = false ∧ (fn.name == "runtime.NumGoroutine") = false := ⟨_, Try.func114, by kernel_rfl, by kernel_rfl⟩

/-- A row of one element, as the values of its cells. -/
theorem one_row {sz c : Nat} {x : List AV} {v : Value} {nl : Bool} (hv : VR g w (.sl sz nl [x] (.tc c)) v) (hf : FL g w (.sl sz nl [x] (.tc c)) v) (hx : x.length = 11) (hsz : sz = 11) :
    ∃ b cap arr e fr xs, v = .slice (some ⟨b, 0, none⟩) 1 cap ∧ w.heap[b]? = some (.cells arr e fr) ∧ xs.length = 11 ∧ ArgsR g w x xs ∧ (∀ (j : Nat) u, xs[j]? = some u → w.cell? ⟨b, 0 + j, none⟩ = some u) ∧ w.frozen? ⟨b, 0, none⟩ = false ∧ w.frozen? ⟨b, arr.size, none⟩ = false ∧ g.mrk b ≠ 0 := by
  subst hsz
  rcases hf with h | h | h | ⟨b, off, cap, arr, e, fr, rfl, h2, h3, h4, h5, h6, rfl, h7⟩
  · cases h
  · cases h
  · subst h; cases hv
  · cases hv with
    | sl _ _ _ _ _ _ val hcap hz hc hvv hp hm =>
      have hcap' : 1 ≤ cap := hcap
      have hmul : 1 * 11 ≤ cap * 11 := Nat.mul_le_mul_right _ hcap'
      refine ⟨b, cap, arr, e, fr, (List.range 11).map (val 0), rfl, h4, by simp, ⟨by simp [hx], fun i y hy => ?_⟩, fun j u hu => ?_, ?_, ?_, ?_⟩
      · have hi := lt_of_getElem? hy
        refine ⟨val 0 i, by simp [List.getElem?_map, List.getElem?_range, show i < 11 by omega], hvv 0 x i y rfl hy⟩
      · rw [List.getElem?_map] at hu
        cases hr : (List.range 11)[j]? with
        | none => rw [hr] at hu; simp at hu
        | some t =>
          rw [hr] at hu
          simp only [Option.map_some, Option.some.injEq] at hu
          have hj := lt_of_getElem? hr
          simp only [List.length_range] at hj
          rw [List.getElem?_range hj] at hr
          simp only [Option.some.injEq] at hr
          subst hr
          subst hu
          have := hc 0 x j x[j] rfl (List.getElem?_eq_getElem (by omega))
          simpa using this
      · simp only [World.frozen?, h4]
        have := h6 0 (by omega)
        simpa using this
      · simp only [World.frozen?, h4]
        have := h7 (by decide)
        simpa using this
      · have : 0 + 1 * 11 ≤ g.mrk b := hm
        omega

/-- A local block that is whole, as the values of its cells. -/
theorem whole_cells {k n : Nat} (hR : Rel g st a w) {b cap : Nat} {arr : Array Value} {e : TypeId} {fr : Nat × Nat} (hlb : g.lb k = some b) (hb : w.heap[b]? = some (.cells arr e fr)) (hn : n ≤ cap) (hc : cap * 11 ≤ arr.size) (hl : (nthL st.L k).length = n * 11) :
    ∃ cs : List Value, cs.length = n * 11 ∧ ArgsR g w (nthL st.L k) cs ∧ ∀ (j : Nat) v, cs[j]? = some v → arr[j]? = some v := by
  have hmul : n * 11 ≤ cap * 11 := Nat.mul_le_mul_right _ hn
  refine ⟨arr.toList.take (n * 11), by rw [List.length_take, Array.length_toList]; omega, ⟨by rw [List.length_take, Array.length_toList]; omega, fun j x hx => ?_⟩, fun j v hv => ?_⟩
  · rw [nthL_eq_getD] at hx hl
    cases hk : st.L[k]? with
    | none => simp [List.getD, hk] at hx
    | some cs =>
      have e1 : st.L.getD k [] = cs := by simp [List.getD, hk]
      rw [e1] at hx hl
      have hj := lt_of_getElem? hx
      obtain ⟨b', h1, arr', e', fr', q1, q2, q3, q4⟩ := hR.lr k cs hk (by rintro rfl; simp at hx)
      rw [hlb] at h1
      simp only [Option.some.injEq] at h1
      subst h1
      rw [hb] at q1
      cases q1
      obtain ⟨v, r1, r2, _⟩ := q4 j x hx
      exact ⟨v, by rw [List.getElem?_take, if_pos (by omega)]; simpa using r1, r2⟩
  · rw [List.getElem?_take] at hv
    split at hv
    · simpa using hv
    · cases hv

theorem noEscape_run (v : Value) (w : World) : (callFunc 194 #[v]).run Try.prog w = .ok (.value v) w := by
  rw [run_callFunc_extern Try.func194 (by kernel_rfl) (by kernel_rfl) (by kernel_rfl) (e := Extern.AbiNoEscape.same) (by kernel_rfl)]
  rfl

theorem knownLaw {P : Program} (hP : Try.prog = P) (hk1 : ∀ f, T.known f = 1 → f = 194) (hk2 : ∀ f, T.known f = 2 → f = 112) (hk3 : ∀ f, T.known f = 3 → f = 114) (fid : Nat) : KnownLaw T P C Lp fid := by
  intro g st a w o drawn f args vals st' Q hk hR h hargs hfl
  unfold callOp at h
  rcases hk with hk | hk | hk
  · have hf := hk1 f hk
    rw [hk] at h
    clear hk
    subst hf
    simp only at h
    rcases args with _ | ⟨x, _ | ⟨y, ys⟩⟩
    · simp at h
    · rcases vals with _ | ⟨v, _ | ⟨u, us⟩⟩
      · simp [ArgsR] at hargs
      · simp only [List.map_cons, List.map_nil, den_ret, Option.some.injEq] at h
        subst h
        obtain ⟨v', q1, q2⟩ := hargs.2 0 x rfl
        simp only [List.getElem?_cons_zero, Option.some.injEq] at q1
        subst q1
        have hne := noEscape_run v w
        rw [hP] at hne
        rw [show [v].toArray = #[v] from rfl, hne]
        exact nx_put hR o.dst (VR_stripAll q2) (FL_no (fresh_no _ (stripAll_own _)))
      · simp [ArgsR] at hargs
    · simp at h
  · have hf := hk2 f hk
    rw [hk] at h
    clear hk
    subst hf
    simp only at h
    unfold insertOp at h
    split at h
    · rename_i d k o1 n sz i z2 nl x c hdst
      obtain ⟨h1, hz1⟩ := den_chk_some C Lp h
      obtain ⟨h2, hz⟩ := den_chk_some C Lp hz1
      simp only [Bool.and_eq_true, beq_iff_eq, decide_eq_true_eq, wholeVs] at h1 h2
      obtain ⟨⟨⟨⟨⟨⟨⟨⟨rfl, hl⟩, _⟩, rfl⟩, hxl⟩, hxn⟩, hbn⟩, rfl⟩, hus⟩ := h1
      obtain ⟨⟨hi0, hin⟩, hbig⟩ := h2
      simp only [den_ret, Option.some.injEq] at hz
      rcases vals with _ | ⟨v0, _ | ⟨v1, _ | ⟨v2, _ | ⟨v3, vs⟩⟩⟩⟩ <;> try (simp [ArgsR] at hargs; done)
      obtain ⟨u0, e0, r0⟩ := hargs.2 0 _ rfl
      obtain ⟨u1, e1, r1⟩ := hargs.2 1 _ rfl
      obtain ⟨u2, e2, r2⟩ := hargs.2 2 _ rfl
      simp only [List.getElem?_cons_zero, List.getElem?_cons_succ, Option.some.injEq] at e0 e1 e2
      subst e0 e1 e2
      have hf2 := hfl 2 _ v2 rfl rfl
      simp only [fresh, if_pos hus] at hf2
      obtain ⟨vb, vc, va, ve, vf, xs, rfl, x1, x2, x3, x4, x5, x6, x7⟩ := one_row r2 hf2 hxl rfl
      cases r1
      cases r0 with
      | vs _ _ _ _ b cap arr e fr hlb hcap hb hsz hfr =>
        obtain ⟨cs, c1, c2, c3⟩ := whole_cells hR hlb hb hcap (by omega) hl
        obtain ⟨i', rfl⟩ := Int.eq_ofNat_of_zero_le hi0
        have hin' : i' ≤ n := by omega
        have hvb : vb ≠ b := fun hh => by
          subst hh
          exact x7 (hR.wf.mrl _ _ hlb).1
        have hC := ins_got (vc := vc) hb (by omega) hfr hcap hin' hbig hvb c1 x2 c3 x4 (args_one c2 hbn) (args_one x3 hxn) x1 x5 x6
        have hF := ins_fn
        rw [hP] at hC hF
        refine upon_calls hF (hC.mono ?_) (R := fun r w' => ∃ b' cap', r = .slice (some ⟨b', 0, none⟩) (n + 1) cap' ∧ Got w w' (some b) b' (cs.take (i' * 11) ++ xs ++ cs.drop (i' * 11)) (n + 1) cap') ?_
        · rintro r w' ⟨b', cap', rfl, hG⟩
          exact ⟨_, rfl, b', cap', rfl, hG⟩
        · rintro r w' ⟨b', cap', rfl, hG⟩
          rw [hdst]
          refine got_adopt (k := some k) hR hG ⟨b, rfl, hlb⟩ (ArgsR_append (ArgsR_append (ArgsR_take _ c2) x3) (ArgsR_drop _ c2)) ?_ hz.symm
          simp only [List.all_append, Bool.and_eq_true]
          exact ⟨⟨List.all_eq_true.2 fun y hy => List.all_eq_true.1 hbn y (List.mem_of_mem_take hy), hxn⟩, List.all_eq_true.2 fun y hy => List.all_eq_true.1 hbn y (List.mem_of_mem_drop hy)⟩
    · rename_i d z0 ow i sz nl x c hdst
      obtain ⟨h1, hz⟩ := den_chk_some C Lp h
      simp only [Bool.and_eq_true, beq_iff_eq] at h1
      obtain ⟨⟨⟨⟨rfl, hxl⟩, rfl⟩, hxn⟩, hus⟩ := h1
      simp only [den_ret, Option.some.injEq] at hz
      rcases vals with _ | ⟨v0, _ | ⟨v1, _ | ⟨v2, _ | ⟨v3, vs⟩⟩⟩⟩ <;> try (simp [ArgsR] at hargs; done)
      obtain ⟨u0, e0, r0⟩ := hargs.2 0 _ rfl
      obtain ⟨u1, e1, r1⟩ := hargs.2 1 _ rfl
      obtain ⟨u2, e2, r2⟩ := hargs.2 2 _ rfl
      simp only [List.getElem?_cons_zero, List.getElem?_cons_succ, Option.some.injEq] at e0 e1 e2
      subst e0 e1 e2
      have hf2 := hfl 2 _ v2 rfl rfl
      simp only [fresh, if_pos hus] at hf2
      obtain ⟨vb, vc, va, ve, vf, xs, rfl, x1, x2, x3, x4, x5, x6, x7⟩ := one_row r2 hf2 hxl rfl
      cases r1
      cases r0
      have hC := ins_nil (vc := vc) x2 x4 (args_one x3 hxn)
      have hF := ins_fn
      rw [hP] at hC hF
      refine upon_calls hF (hC.mono ?_) (R := fun r w' => ∃ b' cap', r = .slice (some ⟨b', 0, none⟩) 1 cap' ∧ Got w w' none b' xs 1 cap') ?_
      · rintro r w' ⟨b', cap', rfl, hG⟩
        exact ⟨_, rfl, b', cap', rfl, hG⟩
      · rintro r w' ⟨b', cap', rfl, hG⟩
        rw [hdst]
        exact got_adopt (k := none) hR hG rfl x3 hxn hz.symm
    · simp at h
  · have hf := hk3 f hk
    rw [hk] at h
    clear hk
    subst hf
    simp only at h
    unfold deleteAtOp at h
    split at h
    · rename_i d k o1 n sz i j hdst
      obtain ⟨h1, hz1⟩ := den_chk_some C Lp h
      obtain ⟨h2, hz⟩ := den_chk_some C Lp hz1
      simp only [Bool.and_eq_true, beq_iff_eq, decide_eq_true_eq, wholeVs] at h1 h2
      obtain ⟨⟨⟨⟨⟨rfl, hl⟩, _⟩, rfl⟩, hbn⟩, rfl⟩ := h1
      obtain ⟨⟨hi0, hin⟩, hbig⟩ := h2
      simp only [den_ret, Option.some.injEq] at hz
      rcases vals with _ | ⟨v0, _ | ⟨v1, _ | ⟨v2, _ | ⟨v3, vs⟩⟩⟩⟩ <;> try (simp [ArgsR] at hargs; done)
      obtain ⟨u0, e0, r0⟩ := hargs.2 0 _ rfl
      obtain ⟨u1, e1, r1⟩ := hargs.2 1 _ rfl
      obtain ⟨u2, e2, r2⟩ := hargs.2 2 _ rfl
      simp only [List.getElem?_cons_zero, List.getElem?_cons_succ, Option.some.injEq] at e0 e1 e2
      subst e0 e1 e2
      cases r1
      cases r2
      cases r0 with
      | vs _ _ _ _ b cap arr e fr hlb hcap hb hsz hfr =>
        obtain ⟨cs, c1, c2, c3⟩ := whole_cells hR hlb hb hcap (by omega) hl
        obtain ⟨i', rfl⟩ := Int.eq_ofNat_of_zero_le hi0
        have hin' : i' < n := by omega
        have hC := del_got hb (by omega) hfr hcap hin' hbig c1 c3 (args_one c2 hbn)
        have hF := del_fn
        rw [hP] at hC hF
        refine upon_calls hF (hC.mono ?_) (R := fun r w' => ∃ b' cap', r = .slice (some ⟨b', 0, none⟩) (n - 1) cap' ∧ Got w w' (some b) b' (cs.take (i' * 11) ++ cs.drop ((i' + 1) * 11)) (n - 1) cap') ?_
        · rintro r w' ⟨b', cap', rfl, hG⟩
          exact ⟨_, rfl, b', cap', rfl, hG⟩
        · rintro r w' ⟨b', cap', rfl, hG⟩
          rw [hdst]
          refine got_adopt (k := some k) hR hG ⟨b, rfl, hlb⟩ (ArgsR_append (ArgsR_take _ c2) (ArgsR_drop _ c2)) ?_ hz.symm
          simp only [List.all_append, Bool.and_eq_true]
          exact ⟨List.all_eq_true.2 fun y hy => List.all_eq_true.1 hbn y (List.mem_of_mem_take hy), List.all_eq_true.2 fun y hy => List.all_eq_true.1 hbn y (List.mem_of_mem_drop hy)⟩
    · simp at h
end
end Go.Ab
