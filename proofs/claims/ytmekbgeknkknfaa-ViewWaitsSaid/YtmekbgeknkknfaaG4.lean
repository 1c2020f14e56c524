/- Small operations, global memory, structs. -/
import Derived.Test.YtmekbgeknkknfaaG3
import Derived.MapKept
import Derived.Deep.AppendSrc
import Derived.Laws.Append
set_option linter.unusedVariables false
set_option linter.unusedSimpArgs false
set_option linter.unusedSectionVars false
set_option linter.constructorNameAsVariable false
namespace Go.Ab

section
variable {T : Tab} {P : Program} {C : Nat → List AV → List GB → Option (AV × List GB)} {Lp : Nat → Nat → Code → St → Option (Ex × St)}
  {g : Gh} {w : World}

theorem unOp_sound {op : UnOp} {x y : AV} {v : Value} (h : den C Lp (unOpR op x) = some y) (hx : VR g w x v) :
    ∃ u, (Op.unary op v).run P w = .ok u w ∧ VR g w y u ∧ y.slOwn = .no := by
  unfold unOpR at h
  cases op with
  | not =>
    cases hx with
    | bool b =>
      simp only [den_ret, Option.some.injEq] at h
      subst h
      exact ⟨.bool (!b), by simp [Op.unary], .bool _, rfl⟩
    | _ => simp at h
  | neg =>
    cases hx with
    | int k n =>
      simp only [den_ret, Option.some.injEq] at h
      subst h
      refine ⟨.int k (k.wrap (0 - n)), by simp [Op.unary, Op.intArith], ?_, rfl⟩
      rw [wrapF_eq]
      exact .int _ _
    | _ => simp at h
  | _ => simp at h

theorem extract_sound {x y : AV} {i : Nat} {v : Value} (h : den C Lp (match x with | .tup vs => (match vs[i]? with | some y => (.ret y.strip : R AV) | none => .fail) | _ => .fail) = some y) (hx : VR g w x v) :
    ∃ u, (Instr.extract v i).run P w = .ok u w ∧ VR g w y u ∧ y.slOwn = .no := by
  cases hx with
  | tup cs vals val hs hc hv hp =>
    simp only at h
    cases hi : cs[i]? with
    | none => rw [hi] at h; simp at h
    | some z =>
      rw [hi] at h
      simp only [den_ret, Option.some.injEq] at h
      subst h
      have h1 := hc i z hi
      exact ⟨val i, by simp [Instr.extract, h1], VR_strip (hv i z hi), strip_own z⟩
  | _ => simp at h

theorem makeFunc_sound {f : Nat} {vs : List AV} {us : List Value} (hl : us.length = vs.length) (h : ∀ (j : Nat) x, vs[j]? = some x → ∃ u, us[j]? = some u ∧ VR g w x u) (hc : vs.all AV.capOk = true) :
    VR g w (.fn f vs) (.func (.func f) #[] us.toArray) := by
  refine .fn f vs us.toArray (fun j => us.getD j undef) (by simpa using hl) (fun j x hx => ?_) (fun j x hx => ?_) (fun x hx => List.all_eq_true.1 hc x hx)
  · obtain ⟨u, h1, _⟩ := h j x hx
    simp [h1]
  · obtain ⟨u, h1, h2⟩ := h j x hx
    simpa [h1] using h2

theorem mm_sound {f : Int → Int → Int} {op : Value → Value → Sem Value} (hop : ∀ k x k' y w, (op (.int k x) (.int k' y)).run P w = .ok (.int k (f x y)) w) :
    ∀ {xs : List AV} {vs : List Value} {x y : AV} {v : Value}, den C Lp (mm f x xs) = some y → (∃ k n, x = .int k n) → VR g w x v → vs.length = xs.length → (∀ (j : Nat) z, xs[j]? = some z → ∃ u, vs[j]? = some u ∧ VR g w z u) →
      ∃ u, (vs.foldlM op v).run P w = .ok u w ∧ VR g w y u ∧ y.slOwn = .no
  | [], vs, x, y, v, h, hint, hx, hl, _ => by
    obtain ⟨k, n, rfl⟩ := hint
    have : vs = [] := by simpa using hl
    subst this
    simp only [mm, den_ret, Option.some.injEq] at h
    subst h
    exact ⟨v, rfl, hx, rfl⟩
  | z :: xs, [], x, y, v, h, hint, hx, hl, _ => by simp at hl
  | z :: xs, u :: vs, x, y, v, h, hint, hx, hl, hz => by
    obtain ⟨k, n, rfl⟩ := hint
    obtain ⟨u', hu, hr⟩ := hz 0 z rfl
    simp only [List.getElem?_cons_zero, Option.some.injEq] at hu
    subst hu
    cases hr with
    | int k' n' =>
      simp only [mm] at h
      cases hx
      obtain ⟨r, h1, h2⟩ := mm_sound hop (vs := vs) h ⟨_, _, rfl⟩ (.int k (f n n')) (by simpa using hl) (fun j a ha => hz (j + 1) a (by simpa using ha))
      refine ⟨r, ?_, h2⟩
      rw [List.foldlM_cons, Sem.run_bind, hop]
      exact h1
    | _ => simp [mm] at h

theorem map_get {st : St} {k : Nat} {es : List (List AV × AV)} (hH : st.H.getD k (.cells []) = .map es) : st.H[k]? = some (.map es) := by
  cases hk : st.H[k]? with
  | none => simp [List.getD, hk] at hH
  | some B => simp [List.getD, hk] at hH; rw [hH]

variable (hT : TabOK T P)
include hT

theorem len_sound {st : St} {t ty : Nat} {x y : AV} {v : Value} (h : den C Lp (lenOp T st t x) = some y) (hx : VR g w x v) (hH : HRel g w st.H) :
    ∃ u, (Builtin.len_ #[t] ty #[v]).run P w = .ok u w ∧ VR g w y u ∧ y.slOwn = .no := by
  have hs := hT.sh t
  unfold lenOp at h
  cases hsh : T.sh t with
  | slice e =>
    rw [hsh] at h hs
    have hsl : ∀ a n c, (Builtin.len_ #[t] ty #[.slice a n c]).run P w = .ok (.int .i64 n) w := fun a n c => by
      simp [Builtin.len_, underlying, show P.underlying t = some (.slice e) from hs, goInt]
    cases hx with
    | vs k off n sz b cap =>
      simp only [den_ret, Option.some.injEq] at h
      subst h
      exact ⟨_, hsl _ _ _, .int _ _, rfl⟩
    | slnil sz own =>
      simp only [den_ret, Option.some.injEq] at h
      subst h
      exact ⟨_, hsl _ _ _, .int _ _, rfl⟩
    | sl sz rows own b o cap =>
      simp only [den_ret, Option.some.injEq] at h
      subst h
      exact ⟨_, hsl _ _ _, .int _ _, rfl⟩
    | psl sz rows b o cap =>
      simp only [den_ret, Option.some.injEq] at h
      subst h
      exact ⟨_, hsl _ _ _, .int _ _, rfl⟩
    | _ => simp at h
  | str =>
    rw [hsh] at h hs
    cases hx with
    | str l s hl =>
      simp only [den_ret, Option.some.injEq] at h
      subst h
      subst hl
      refine ⟨.int .i64 s.size, by simp [Builtin.len_, underlying, show P.underlying t = some .string from hs, goInt], ?_, rfl⟩
      simp only [Array.length_toList]
      exact .int _ _
    | _ => simp at h
  | map k e =>
    rw [hsh] at h hs
    cases hx with
    | nm =>
      simp only [den_ret, Option.some.injEq] at h
      subst h
      exact ⟨.int .i64 0, by simp [Builtin.len_, underlying, show P.underlying t = some (.map k e) from hs, goInt], .int _ _, rfl⟩
    | mp k' b hb =>
      simp only at h
      cases hHk : st.H.getD k' (.cells []) with
      | cells cs => rw [hHk] at h; simp at h
      | map es =>
        rw [hHk] at h
        simp only [den_ret, Option.some.injEq] at h
        subst h
        obtain ⟨b', ents, clk, q1, q2, q3⟩ := hH.maps k' es (map_get hHk)
        rw [hb] at q1
        obtain rfl : b = b' := by simpa using q1
        refine ⟨.int .i64 ents.size, by simp [Builtin.len_, underlying, show P.underlying t = some (.map k e) from hs, goInt, MapKept.run_getObj_map q2], ?_, rfl⟩
        rw [q3.1]
        exact .int _ _
    | _ => simp at h
  | _ => rw [hsh] at h; simp at h

end
end Go.Ab
namespace Go.Ab

/-- What stays in a world that has grown. -/
structure Grow (g : Gh) (w : World) (g' : Gh) (w' : World) : Prop where
  ext : Ext g w g' w'
  lb : g'.lb = g.lb
  old : ∀ b, b < w.heap.size → w'.heap[b]? = w.heap[b]? ∧ g'.mrk b = g.mrk b ∧ g'.ow b = g.ow b

theorem Grow.vext {g g' : Gh} {w w' : World} (h : Grow g w g' w') : VExt (fun _ => true) g w g' w' := h.ext.vext fun k b _ hb => by rw [h.lb]; exact hb

theorem Grow.hF {g g' : Gh} {w w' : World} (hw : WF g w) (h : Grow g w g' w') : ∀ o, cls o = true → ∀ b, g.ow b = o → g'.ow b = o ∧ g'.mrk b = g.mrk b ∧ w'.heap[b]? = w.heap[b]? := by
  intro o ho b hb
  have hlt := hw.owlt b (by rw [hb]; rintro rfl; simp [cls] at ho)
  obtain ⟨h1, h2, h3⟩ := h.old b hlt
  exact ⟨h3.trans hb, h2, h1⟩

section
variable {g g' : Gh} {w w' : World} {st : St} {a : Act}

theorem Grow.tr (hG : Grow g w g' w') (hR : Rel g st a w) (i : Nat) (x : AV) (hx : st.tm[i]? = some x) : ∃ v, a.tmps[i]? = some v ∧ VR g' w' x v ∧ FL g' w' (fresh st x) v := by
  obtain ⟨v, h1, h2, h3⟩ := hR.tr i x hx
  exact ⟨v, h1, TR_t hG.vext (fun _ => rfl) (hG.hF hR.wf) ⟨h2, h3⟩ (VR_dep h2)⟩

theorem Grow.lr (hG : Grow g w g' w') (hR : Rel g st a w) : LRel g' w' st.L :=
  LRel_t hG.vext hG.lb (fun k b hb _ => (hG.old b (hR.wf.ltl k b hb)).1) (fun _ _ b hb => hG.hF hR.wf _ rfl b hb) hR.lr

theorem Grow.hc (hG : Grow g w g' w') (hR : Rel g st a w) (k : Nat) (cs : List AV) (hk : st.H[k]? = some (.cells cs)) :
    ∃ b, g'.gb[k]? = some b ∧ BR g' w' b (fun j => .gc k j) cs ∧ ∀ x ∈ cs, x.noLp1 = true := by
  obtain ⟨b, h1, h2, h3⟩ := hR.hr.cells k cs hk
  exact ⟨b, hG.ext.gb k b h1, BR_t hG.vext (hG.old b (hR.wf.ltg b (mem_of_getElem? h1))).1 (fun x hx => noLp1_cellDep _ (h3 x hx)) (fun j hj b hb => hG.hF hR.wf _ hj b hb) h2, h3⟩

theorem Grow.hm (hG : Grow g w g' w') (hR : Rel g st a w) (k : Nat) (es : List (List AV × AV)) (hk : st.H[k]? = some (.map es)) :
    ∃ b ents clk, g'.gb[k]? = some b ∧ w'.heap[b]? = some (.map ents clk) ∧ MR g' w' es ents := by
  obtain ⟨b, ents, clk, h1, h2, h3⟩ := hR.hr.maps k es hk
  exact ⟨b, ents, clk, hG.ext.gb k b h1, by rw [(hG.old b (hR.wf.ltg b (mem_of_getElem? h1))).1]; exact h2, MR_t hG.vext h3⟩

theorem Grow.hr (hG : Grow g w g' w') (hR : Rel g st a w) (hgb : g'.gb = g.gb) : HRel g' w' st.H :=
  ⟨by rw [hgb]; exact hR.hr.len, hG.hc hR, hG.hm hR⟩

/-- The same blocks, no others. -/
theorem Grow.heap (hw : w'.heap = w.heap) (h1 : w'.os = w.os) (h2 : w'.output = w.output) (h3 : w'.tape = w.tape) : Grow g w g w' where
  ext := ⟨by rw [hw]; exact Nat.le_refl _, fun _ _ h => h, fun _ => Nat.le_refl _, fun b j _ => by simp only [World.cell?, hw], fun b arr e fr h => ⟨arr, by rw [hw]; exact h, rfl⟩,
    fun b _ _ _ ho => ⟨by rw [hw], rfl, ho⟩, fun k b h => .inl ⟨k, h⟩, fun _ h => .inl h, h1, h2, h3, rfl, fun _ => ⟨rfl, fun b _ => by rw [hw]⟩⟩
  lb := rfl
  old := fun b _ => ⟨by rw [hw], rfl, rfl⟩

theorem WF.heap (hw : w'.heap = w.heap) (h : WF g w) : WF g w' where
  inj := h.inj
  lbgb := h.lbgb
  nd := h.nd
  ltl := fun k b hb => by rw [hw]; exact h.ltl k b hb
  ltg := fun b hb => by rw [hw]; exact h.ltg b hb
  mrl := h.mrl
  mrg := h.mrg
  mrb := fun b hb => by rw [hw]; exact h.mrb b hb
  owlt := fun b hb => by rw [hw]; exact h.owlt b hb

theorem Rel.heap (hw : w'.heap = w.heap) (h1 : w'.os = w.os) (h2 : w'.output = w.output) (h3 : w'.tape = w.tape) (hR : Rel g st a w) : Rel g st a w' :=
  have hG : Grow g w g w' := Grow.heap hw h1 h2 h3
  ⟨hR.df, hR.sz, hG.tr hR, hG.lr hR, hG.hr hR rfl, hR.wf.heap hw, hR.ro⟩

theorem grow_alloc {o : Obj} (hw : WF g w) (gb' : List Nat) (mrk' : Nat → Nat) (ow' : Nat → Own) (hg : ∀ k b : Nat, g.gb[k]? = some b → gb'[k]? = some b) (hg' : ∀ b ∈ gb', b ∈ g.gb ∨ b = w.heap.size)
    (hm : ∀ b, b < w.heap.size → mrk' b = g.mrk b ∧ ow' b = g.ow b) (hro : g.ro = true → gb' = g.gb) : Grow g w ⟨g.lb, gb', mrk', ow', g.ro⟩ (w.alloc o) where
  ext := Ext_alloc hw _ _ _ _ (fun k b h => .inl ⟨k, h⟩) hg hg' hm hro
  lb := rfl
  old := fun b hb => ⟨heap_alloc_old hb, hm b hb⟩

theorem WF.noMrk (hw : WF g w) {b : Nat} (hb : w.heap.size ≤ b) : g.mrk b = 0 ∧ g.ow b = .no := by
  refine ⟨?_, ?_⟩
  · rcases Nat.eq_zero_or_pos (g.mrk b) with h0 | h0
    · exact h0
    · obtain ⟨arr, e, fr, h1, _⟩ := hw.mrb _ (Nat.pos_iff_ne_zero.1 h0)
      have := lt_of_heap h1
      omega
  · by_cases h0 : g.ow b = .no
    · exact h0
    · have := hw.owlt _ h0
      omega

/-- A new global block. -/
theorem WF_allocG {o : Obj} (hw : WF g w) : WF ⟨g.lb, g.gb ++ [w.heap.size], g.mrk, g.ow, g.ro⟩ (w.alloc o) where
  inj := hw.inj
  lbgb := fun k b hb h => by
    simp only [List.mem_append, List.mem_singleton] at h
    rcases h with h | h
    · exact hw.lbgb k b hb h
    · have := hw.ltl k b hb
      omega
  nd := by
    rw [List.nodup_append]
    refine ⟨hw.nd, by simp, fun x hx y hy => ?_⟩
    simp only [List.mem_singleton] at hy
    have := hw.ltg x hx
    omega
  ltl := fun k b hb => by have := hw.ltl k b hb; simp; omega
  ltg := fun b hb => by
    simp only [List.mem_append, List.mem_singleton] at hb
    rcases hb with hb | hb
    · have := hw.ltg b hb; simp; omega
    · simp; omega
  mrl := hw.mrl
  mrg := fun b hb => by
    simp only [List.mem_append, List.mem_singleton] at hb
    rcases hb with hb | hb
    · exact hw.mrg b hb
    · subst hb; exact hw.noMrk (Nat.le_refl _)
  mrb := fun b hb => by
    obtain ⟨arr0, e0, fr0, q1, q2⟩ := hw.mrb b hb
    exact ⟨arr0, e0, fr0, by rw [heap_alloc_old (lt_of_heap q1)]; exact q1, q2⟩
  owlt := fun b hb => by have := hw.owlt b hb; simp; omega

theorem put_set (st : St) (d : Nat) (x : AV) : st.put (some d) x = st.set d x := rfl

theorem rel_allocG (hR : Rel g st a w) (hro : st.ro = false) (d : Nat) {o : Obj} {B : GB} {x : AV} {v : Value} (hx : ∀ g', g'.gb[st.H.length]? = some w.heap.size → VR g' (w.alloc o) x v) (hown : x.slOwn = .no)
    (hB : (∃ cs arr e, B = .cells cs ∧ o = .cells arr e ∧ cs.length ≤ arr.size ∧ (∀ y ∈ cs, y.noLp1 = true) ∧ ∀ (j : Nat) y, cs[j]? = some y → ∃ u, arr[j]? = some u ∧ VR g w y u ∧ y.slOwn = .no) ∨ (B = .map [] ∧ ∃ clk, o = .map #[] clk)) :
    Nx g w (St.set { st with H := st.H ++ [B] } d x) (a.put (some d) v) (w.alloc o) := by
  have hw := hR.wf
  have hG : Grow g w ⟨g.lb, g.gb ++ [w.heap.size], g.mrk, g.ow, g.ro⟩ (w.alloc o) := by
    refine grow_alloc hw _ _ _ (fun k b h => ?_) (fun b h => ?_) (fun _ _ => ⟨rfl, rfl⟩) (fun h => ?_)
    · rw [List.getElem?_append_left (lt_of_getElem? h)]; exact h
    · simpa using h
    · rw [← hR.ro, hro] at h; cases h
  have hlast : (⟨g.lb, g.gb ++ [w.heap.size], g.mrk, g.ow, g.ro⟩ : Gh).gb[st.H.length]? = some w.heap.size := by
    simp only
    rw [hR.hr.len, List.getElem?_append_right (Nat.le_refl _)]
    simp
  have hR' : Rel ⟨g.lb, g.gb ++ [w.heap.size], g.mrk, g.ow, g.ro⟩ { st with H := st.H ++ [B] } a (w.alloc o) := by
    refine ⟨hR.df, hR.sz, fun i x hx => hG.tr (st := st) hR i x hx, hG.lr (st := st) hR, ⟨by simp [hR.hr.len], fun k cs hk => ?_, fun k es hk => ?_⟩, WF_allocG hw, hR.ro⟩
    · rcases Nat.lt_or_ge k st.H.length with hlt | hge
      · rw [List.getElem?_append_left hlt] at hk
        exact hG.hc hR k cs hk
      · rw [List.getElem?_append_right hge] at hk
        have hk0 : k = st.H.length := by
          have := lt_of_getElem? hk
          simp at this
          omega
        subst hk0
        simp only [Nat.sub_self, List.getElem?_cons_zero, Option.some.injEq] at hk
        rcases hB with ⟨cs', arr, e, rfl, rfl, h1, h2, h3⟩ | ⟨rfl, _⟩
        · cases hk
          refine ⟨w.heap.size, hlast, ⟨arr, e, (0, 0), heap_alloc_new w _, h1, fun j _ h => by simp at h, fun j y hy => ?_⟩, h2⟩
          obtain ⟨u, q1, q2, q3⟩ := h3 j y hy
          have hy' := noLp1_isCell (h2 y (mem_of_getElem? hy))
          refine ⟨u, q1, q2.mono hG.vext (VR_dep q2), ?_, hy', ?_⟩
          · cases y <;> first
              | trivial
              | (simp only [AV.slOwn] at q3; subst q3; exact .inl rfl)
          · cases y <;> first
              | rfl
              | (simp only [AV.slOwn] at q3; subst q3; rfl)
        · cases hk
    · rcases Nat.lt_or_ge k st.H.length with hlt | hge
      · rw [List.getElem?_append_left hlt] at hk
        exact hG.hm hR k es hk
      · rw [List.getElem?_append_right hge] at hk
        have hk0 : k = st.H.length := by
          have := lt_of_getElem? hk
          simp at this
          omega
        subst hk0
        simp only [Nat.sub_self, List.getElem?_cons_zero, Option.some.injEq] at hk
        rcases hB with ⟨cs', arr, e, rfl, rfl, h1, h2, h3⟩ | ⟨rfl, clk, rfl⟩
        · cases hk
        · cases hk
          exact ⟨w.heap.size, #[], clk, hlast, heap_alloc_new w _, rfl, fun i k x h => by simp at h⟩
  refine ⟨_, hG.ext, ?_⟩
  have := rel_put hR' (some d) (x := x) (v := v) (hx _ hlast) (FL_no (fresh_no _ hown))
  exact this

theorem zero_VR (g : Gh) (w : World) (k : CK) : VR g w (zeroCell k) (zeroV k) := by
  cases k <;> first
    | exact .bool _
    | exact .int _ _
    | exact .str _ _ rfl
    | exact .np
    | exact .slnil _ _
    | exact .nm
    | exact .nf
    | exact .ni
    | exact .junk _
theorem zero_own (k : CK) : (zeroCell k).slOwn = .no := by cases k <;> rfl
theorem zero_cell (k : CK) : (zeroCell k).isCell = true := by cases k <;> rfl
end

section
variable {T : Tab} {P : Program} (hT : TabOK T P) {C : Nat → List AV → List GB → Option (AV × List GB)} {Lp : Nat → Nat → Code → St → Option (Ex × St)}
  {g : Gh} {w : World} {st st' : St} {a : Act}
include hT

theorem info_zero {t : Nat} (h : T.sh t ≠ .other) : ∃ z, (∀ w, (zeroValue t).run P w = .ok z w) ∧ z.cells = ((T.ks t).map zeroV).toArray ∧
    z = (if isAgg T t then .agg ((T.ks t).map zeroV).toArray else (((T.ks t).map zeroV).headD undef)) := by
  obtain ⟨i, h1, _, _, h4⟩ := hT.info t h
  refine ⟨_, fun w => by simp [zeroValue, typeInfo, h1, h4], ?_, rfl⟩
  rcases ks_one hT h with hag | hone
  · rw [if_pos hag]; rfl
  · split
    · rfl
    · cases hk : T.ks t with
      | nil => rw [hk] at hone; simp at hone
      | cons k ks =>
        rw [hk] at hone
        have : ks = [] := by simpa using hone
        subst this
        cases k <;> rfl

omit hT in
theorem zeros_get {g : Gh} {w : World} {t j : Nat} {x : AV} (h : (zeros T t)[j]? = some x) : ∃ v, (((T.ks t).map zeroV).toArray)[j]? = some v ∧ VR g w x v ∧ x.isCell = true ∧ x.slOwn = .no := by
  unfold zeros at h
  rw [List.getElem?_map] at h
  cases hk : (T.ks t)[j]? with
  | none => rw [hk] at h; simp at h
  | some k =>
    rw [hk] at h
    simp only [Option.map_some, Option.some.injEq] at h
    subst h
    exact ⟨zeroV k, by simp [hk], zero_VR g w k, zero_cell k, zero_own k⟩

omit hT in
theorem BR_self {b : Nat} {loc : Nat → Own} (l : List Nat) {cs : List AV} (h : BR g w b loc cs) (hn : ∀ x ∈ cs, x.noLp1 = true) : BR g w b loc (selfAt l cs) ∧ ∀ x ∈ selfAt l cs, x.noLp1 = true := by
  induction l with
  | nil => exact ⟨h, hn⟩
  | cons i l ih =>
    obtain ⟨⟨arr, e, fr, h1, h2, h3, h4⟩, h5⟩ := ih
    show BR g w b loc (upd (selfAt l cs) i (nilSelf (nth (selfAt l cs) i))) ∧ _
    have hs : ∀ x : AV, x.noLp1 = true → (nilSelf x).noLp1 = true := fun x hx => by cases x <;> first | exact hx | rfl
    refine ⟨⟨arr, e, fr, h1, by rw [upd_eq_set, List.length_set]; exact h2, h3, fun j x hx => ?_⟩, fun x hx => ?_⟩
    · rw [upd_eq_set, List.getElem?_set] at hx
      by_cases hij : i = j
      · subst hij
        rw [if_pos rfl] at hx
        split at hx
        · rename_i hlt
          simp only [Option.some.injEq] at hx
          have hy : (selfAt l cs)[i]? = some (nth (selfAt l cs) i) := by rw [nth_eq_getD]; simp [List.getD, hlt]
          generalize nth (selfAt l cs) i = y at hx hy
          obtain ⟨v, q1, q2, q3, q4, q5⟩ := h4 i y hy
          subst hx
          refine ⟨v, q1, ?_⟩
          cases y with
          | sl sz n rows o =>
            cases n with
            | true =>
              cases q2
              exact ⟨.slnil _ _, .inr (.inr (.inl rfl)), rfl, rfl⟩
            | false => exact ⟨q2, q3, q4, q5⟩
          | _ => exact ⟨q2, q3, q4, q5⟩
        · cases hx
      · rw [if_neg hij] at hx
        exact h4 j x hx
    · have hx' : x ∈ upd (selfAt l cs) i (nilSelf (nth (selfAt l cs) i)) := hx
      rw [upd_eq_set] at hx'
      rcases List.mem_or_eq_of_mem_set hx' with h | h
      · exact h5 x h
      · subst h
        rcases Nat.lt_or_ge i (selfAt l cs).length with hlt | hge
        · refine hs _ (h5 _ ?_)
          rw [nth_eq_getD]
          simp [List.getD, hlt]
        · rw [List.set_eq_of_length_le hge] at hx'
          exact h5 _ hx'

omit hT in
theorem HRel_self (l : List Nat) {H : List GB} {cs : List AV} (h : HRel g w (H ++ [.cells cs])) : HRel g w (H ++ [.cells (selfAt l cs)]) where
  len := by rw [← h.len]; simp
  cells := fun k xs hk => by
    rcases Nat.lt_or_ge k H.length with hlt | hge
    · exact h.cells k xs (by rw [List.getElem?_append_left hlt] at hk ⊢; exact hk)
    · rw [List.getElem?_append_right hge] at hk
      rcases Nat.eq_zero_or_pos (k - H.length) with h0 | h0
      · rw [h0] at hk
        simp only [List.getElem?_cons_zero, Option.some.injEq, GB.cells.injEq] at hk
        subst hk
        obtain ⟨b, q1, q2, q3⟩ := h.cells k cs (by rw [List.getElem?_append_right hge, h0]; rfl)
        obtain ⟨r1, r2⟩ := BR_self l q2 q3
        exact ⟨b, q1, r1, r2⟩
      · obtain ⟨m, hm⟩ : ∃ m, k - H.length = m + 1 := ⟨k - H.length - 1, by omega⟩
        rw [hm] at hk
        simp at hk
  maps := fun k es hk => by
    rcases Nat.lt_or_ge k H.length with hlt | hge
    · exact h.maps k es (by rw [List.getElem?_append_left hlt] at hk ⊢; exact hk)
    · rw [List.getElem?_append_right hge] at hk
      rcases Nat.eq_zero_or_pos (k - H.length) with h0 | h0
      · rw [h0] at hk
        simp at hk
      · obtain ⟨m, hm⟩ : ∃ m, k - H.length = m + 1 := ⟨k - H.length - 1, by omega⟩
        rw [hm] at hk
        simp at hk

omit hT in
theorem allocOp_sound {fid : Nat} {dst : Option Nat} {cs : List AV} {arr : Array Value} {e : TypeId} (hR : Rel g st a w) (h : den C Lp (allocOp T fid st dst cs) = some st') (hl : cs.length ≤ arr.size)
    (hcs : ∀ (j : Nat) x, cs[j]? = some x → ∃ v, arr[j]? = some v ∧ VR g w x v ∧ x.isCell = true ∧ x.slOwn = .no) :
    Nx g w st' (a.put dst (.pointer (some ⟨w.heap.size, 0, none⟩))) (w.alloc (.cells arr e)) := by
  unfold allocOp at h
  cases dst with
  | none => simp at h
  | some d =>
    simp only at h
    split at h
    · obtain ⟨h1, h⟩ := den_chk_some C Lp h
      simp only [den_ret, Option.some.injEq] at h
      simp only [Bool.and_eq_true, Bool.not_eq_true'] at h1
      subst h
      have hx : Nx g w (St.set { st with H := st.H ++ [GB.cells cs] } d (.gp st.H.length 0)) (a.put (some d) (.pointer (some ⟨w.heap.size, 0, none⟩))) (w.alloc (.cells arr e)) := by
        refine rel_allocG hR h1.2 d (fun g' hg' => .gp _ _ _ hg') rfl (.inl ⟨cs, arr, e, rfl, rfl, hl, fun y hy => List.all_eq_true.1 h1.1 y hy, fun j y hy => ?_⟩)
        obtain ⟨v, q1, q2, _, q4⟩ := hcs j y hy
        exact ⟨v, q1, q2, q4⟩
      obtain ⟨g', q1, q2⟩ := hx
      exact ⟨g', q1, q2.df, q2.sz, q2.tr, q2.lr, HRel_self _ q2.hr, q2.wf, q2.ro⟩
    · obtain ⟨h1, h⟩ := den_chk_some C Lp h
      simp only [den_ret, Option.some.injEq] at h
      subst h
      exact rel_allocL (hlen := hl) (hcs := hcs) (hR := hR) (d := d) (e := e) (hdep := fun x hx => List.all_eq_true.1 h1 x hx) (hX := fun g' hg' => .lp _ _ _ hg') (hown := rfl)

theorem alloc_sound {fid e : Nat} {dst : Option Nat} (hR : Rel g st a w) (h : den C Lp (chk (decide (T.sh e ≠ .other)) (allocOp T fid st dst (zeros T e))) = some st') :
    ∃ v w', (Instr.alloc e true (.tuple #[])).run P w = .ok v w' ∧ Nx g w st' (a.put dst v) w' := by
  obtain ⟨h1, h⟩ := den_chk_some C Lp h
  simp only [decide_eq_true_eq] at h1
  obtain ⟨z, hz, hzc, _⟩ := info_zero hT h1
  refine ⟨_, _, by simp [Instr.alloc, hz, newVar, newRow]; exact ⟨rfl, rfl⟩, ?_⟩
  rw [hzc]
  exact allocOp_sound hR h (by simp [zeros]) fun j x hx => zeros_get hx

theorem box_sound {fid e : Nat} {dst : Option Nat} {x : AV} {v : Value} (hR : Rel g st a w) (hx : VR g w x v)
    (h : den C Lp (chk (decide (T.sh e ≠ .other) && decide (x.cells.length = size T e) && x.cells.all AV.solid) (allocOp T fid st dst (x.cells.map AV.strip))) = some st') :
    ∃ u w', (Instr.box e v).run P w = .ok u w' ∧ Nx g w st' (a.put dst u) w' := by
  obtain ⟨h1, h⟩ := den_chk_some C Lp h
  simp only [Bool.and_eq_true, decide_eq_true_eq, List.all_eq_true] at h1
  obtain ⟨_, hcell⟩ := h1
  refine ⟨_, _, by simp [Instr.box, newVar, newRow]; exact ⟨rfl, rfl⟩, ?_⟩
  have key : v.cells.size = x.cells.length ∧ ∀ (j : Nat) y, x.cells[j]? = some y → ∃ u, v.cells[j]? = some u ∧ VR g w y u := by
    cases hx with
    | agg cs vals val hs hc hv hp => exact ⟨hs, fun j y hy => ⟨val j, hc j y hy, hv j y hy⟩⟩
    | junk v =>
      have := hcell .junk (by simp [AV.cells])
      simp [AV.solid] at this
    | _ =>
      refine ⟨rfl, fun j y hy => ?_⟩
      cases j with
      | succ j => simp [AV.cells] at hy
      | zero =>
        simp only [AV.cells, List.getElem?_cons_zero, Option.some.injEq] at hy
        subst hy
        refine ⟨_, rfl, ?_⟩
        first
          | (constructor; done)
          | (constructor <;> assumption)
  refine allocOp_sound hR h (by simp [key.1]) fun j y hy => ?_
  rw [List.getElem?_map] at hy
  cases hj : x.cells[j]? with
  | none => rw [hj] at hy; simp at hy
  | some z =>
    rw [hj] at hy
    simp only [Option.map_some, Option.some.injEq] at hy
    subst hy
    obtain ⟨u, q1, q2⟩ := key.2 j z hj
    have := hcell z (mem_of_getElem? hj)
    have := solid_isCell this
    exact ⟨u, q1, VR_strip q2, by cases z <;> simp_all [AV.strip, AV.isCell], strip_own z⟩
end
end Go.Ab
namespace Go.Ab

theorem chunk_length (sz : Nat) : ∀ (n : Nat) (l : List AV), (chunk sz n l).length = n
  | 0, _ => rfl
  | n + 1, l => by simp [chunk, chunk_length sz n]

theorem chunk_row {sz : Nat} : ∀ {n : Nat} {l : List AV} {i : Nat} {r : List AV}, n * sz ≤ l.length → (chunk sz n l)[i]? = some r → i < n ∧ r = (l.drop (i * sz)).take sz ∧ r.length = sz
  | 0, l, i, r, _, h => by simp [chunk] at h
  | n + 1, l, 0, r, hl, h => by
    simp only [chunk, List.getElem?_cons_zero, Option.some.injEq] at h
    subst h
    rw [Nat.add_mul] at hl
    refine ⟨by omega, by simp, ?_⟩
    rw [List.length_take]
    omega
  | n + 1, l, i + 1, r, hl, h => by
    simp only [chunk, List.getElem?_cons_succ] at h
    rw [Nat.add_mul] at hl
    obtain ⟨h1, h2, h3⟩ := chunk_row (l := l.drop sz) (by rw [List.length_drop]; omega) h
    refine ⟨by omega, ?_, h3⟩
    rw [h2, List.drop_drop]
    congr 2
    rw [Nat.add_mul]
    omega

theorem chunk_cell {sz n : Nat} {l : List AV} {i j : Nat} {r : List AV} {x : AV} (hl : n * sz ≤ l.length) (h : (chunk sz n l)[i]? = some r) (hx : r[j]? = some x) : l[i * sz + j]? = some x := by
  obtain ⟨h1, h2, h3⟩ := chunk_row hl h
  subst h2
  rw [List.getElem?_take] at hx
  split at hx
  · rw [List.getElem?_drop] at hx
    exact hx
  · simp at hx

theorem chunk_mem {sz n : Nat} {l : List AV} {r : List AV} {x : AV} (hl : n * sz ≤ l.length) (h : r ∈ chunk sz n l) (hx : x ∈ r) : x ∈ l := by
  obtain ⟨i, hi⟩ := List.getElem?_of_mem h
  obtain ⟨j, hj⟩ := List.getElem?_of_mem hx
  exact mem_of_getElem? (chunk_cell hl hi hj)

theorem chunk_rows {sz n : Nat} {l : List AV} (hl : n * sz ≤ l.length) : ∀ r ∈ chunk sz n l, r.length = sz := fun r hr => by
  obtain ⟨i, hi⟩ := List.getElem?_of_mem hr
  exact (chunk_row hl hi).2.2

/-- The cells of a value that can be stored. -/
theorem cells_sound {g : Gh} {w : World} {x : AV} {v : Value} (hx : VR g w x v) (hs : (x.cells.map AV.strip).all AV.solid = true) :
    v.cells.size = (x.cells.map AV.strip).length ∧ ∀ (j : Nat) y, (x.cells.map AV.strip)[j]? = some y → ∃ u, v.cells[j]? = some u ∧ VR g w y u ∧ y.isCell = true ∧ y.slOwn = .no ∧ u.oneCell' = true := by
  have key : v.cells.size = x.cells.length ∧ ∀ (j : Nat) y, x.cells[j]? = some y → ∃ u, v.cells[j]? = some u ∧ VR g w y u := by
    cases hx with
    | agg cs vals val hs' hc hv hp => exact ⟨hs', fun j y hy => ⟨val j, hc j y hy, hv j y hy⟩⟩
    | junk v => simp [AV.cells, AV.strip, AV.solid] at hs
    | tup => simp [AV.cells, AV.strip, AV.solid] at hs
    | und => simp [AV.cells, AV.strip, AV.solid] at hs
    | _ =>
      refine ⟨rfl, fun j y hy => ?_⟩
      cases j with
      | succ j => simp [AV.cells] at hy
      | zero =>
        simp only [AV.cells, List.getElem?_cons_zero, Option.some.injEq] at hy
        subst hy
        refine ⟨_, rfl, ?_⟩
        first
          | (constructor; done)
          | (constructor <;> assumption)
  refine ⟨by rw [List.length_map]; exact key.1, fun j y hy => ?_⟩
  have hsol := List.all_eq_true.1 hs y (mem_of_getElem? hy)
  rw [List.getElem?_map] at hy
  cases hj : x.cells[j]? with
  | none => rw [hj] at hy; simp at hy
  | some z =>
    rw [hj] at hy
    simp only [Option.map_some, Option.some.injEq] at hy
    subst hy
    obtain ⟨u, q1, q2⟩ := key.2 j z hj
    exact ⟨u, q1, VR_strip q2, solid_isCell hsol, strip_own z, solid_one hsol (VR_strip q2)⟩

/-- Lists of cells against arrays of values. -/
def CR (g : Gh) (w : World) (cs : List AV) (vals : Array Value) : Prop :=
  vals.size = cs.length ∧ ∀ (j : Nat) x, cs[j]? = some x → ∃ u, vals[j]? = some u ∧ VR g w x u ∧ x.isCell = true ∧ x.slOwn = .no

theorem foldl_set_get : ∀ (vs : List Value) (k off : Nat) (cells : Array Value), off + k + vs.length ≤ cells.size →
    ((vs.zipIdx k).foldl (fun cs (x : Value × Nat) => cs.setIfInBounds (off + x.2) x.1) cells).size = cells.size ∧
      ∀ i : Nat, ((vs.zipIdx k).foldl (fun cs (x : Value × Nat) => cs.setIfInBounds (off + x.2) x.1) cells)[i]? = if off + k ≤ i ∧ i < off + k + vs.length then vs[i - (off + k)]? else cells[i]?
  | [], k, off, cells, _ => ⟨rfl, fun i => by rw [if_neg (by simp only [List.length_nil]; omega)]; rfl⟩
  | v :: vs, k, off, cells, h => by
    simp only [List.length_cons] at h
    simp only [List.zipIdx_cons, List.foldl_cons]
    obtain ⟨h1, h2⟩ := foldl_set_get vs (k + 1) off (cells.setIfInBounds (off + k) v) (by simp; omega)
    refine ⟨by simpa using h1, fun i => ?_⟩
    rw [h2 i]
    simp only [List.length_cons, Array.getElem?_setIfInBounds]
    by_cases hik : i = off + k
    · subst hik
      rw [if_neg (by omega), if_pos rfl, if_pos (by omega), if_pos (by omega)]
      simp
    · by_cases hin : off + k ≤ i ∧ i < off + k + (vs.length + 1)
      · rw [if_pos (by omega), if_pos hin]
        obtain ⟨d, rfl⟩ : ∃ d, i = off + k + 1 + d := ⟨i - (off + k) - 1, by omega⟩
        rw [show off + k + 1 + d - (off + k) = d + 1 by omega, show off + k + 1 + d - (off + (k + 1)) = d by omega]
        rfl
      · rw [if_neg (by omega), if_neg hin, if_neg (fun h => hik h.symm)]

section
variable {C : Nat → List AV → List GB → Option (AV × List GB)} {Lp : Nat → Nat → Code → St → Option (Ex × St)} {g : Gh} {w : World}

theorem fill_sound {place : Nat → Option (Nat × Nat)} : ∀ {parts : List (Nat × AV)} {vparts : List (Nat × Value)} {cs cs' : List AV} {vals : Array Value},
    den C Lp (fillAt place cs parts) = some cs' → CR g w cs vals → vparts.length = parts.length → (∀ (j : Nat) i x, parts[j]? = some (i, x) → ∃ v, vparts[j]? = some (i, v) ∧ VR g w x v) →
    ∃ vals', Instr.fill place vals vparts = some vals' ∧ CR g w cs' vals'
  | [], vparts, cs, cs', vals, h, hc, hl, _ => by
    have : vparts = [] := by simpa using hl
    subst this
    simp only [fillAt, den_ret, Option.some.injEq] at h
    subst h
    exact ⟨vals, rfl, hc⟩
  | (i, x) :: parts, [], cs, cs', vals, h, hc, hl, _ => by simp at hl
  | (i, x) :: parts, (i', v) :: vparts, cs, cs', vals, h, hc, hl, hp => by
    obtain ⟨v', hv, hx⟩ := hp 0 i x rfl
    simp only [List.getElem?_cons_zero, Option.some.injEq, Prod.mk.injEq] at hv
    obtain ⟨rfl, rfl⟩ := hv
    simp only [fillAt] at h
    cases hpl : place i' with
    | none => rw [hpl] at h; simp at h
    | some on =>
      obtain ⟨o, n⟩ := on
      rw [hpl] at h
      simp only at h
      obtain ⟨h1, h⟩ := den_chk_some C Lp h
      simp only [Bool.and_eq_true, decide_eq_true_eq] at h1
      obtain ⟨⟨hn, hle⟩, hs⟩ := h1
      obtain ⟨s1, s2⟩ := cells_sound hx hs
      have hsz : v.cells.size = n := s1.trans hn
      obtain ⟨f1, f2⟩ := foldl_set_get v.cells.toList 0 o vals (by simp only [Array.length_toList, Nat.add_zero]; rw [hc.1]; omega)
      have hfill : Instr.fill place vals ((i', v) :: vparts) = Instr.fill place (v.cells.zipIdx.foldl (fun cs (c, j) => cs.setIfInBounds (o + j) c) vals) vparts := by
        simp only [Instr.fill, hpl]
        rw [if_neg]
        simp only [ne_eq, Bool.or_eq_true, decide_eq_true_eq, not_or, Nat.not_lt]
        refine ⟨by simpa using hsz, ?_⟩
        rw [hc.1]
        omega
      have hfold : v.cells.zipIdx.foldl (fun cs (c, j) => cs.setIfInBounds (o + j) c) vals = (v.cells.toList.zipIdx 0).foldl (fun cs (x : Value × Nat) => cs.setIfInBounds (o + x.2) x.1) vals := by
        rw [← Array.foldl_toList, Array.toList_zipIdx]
      rw [hfill, hfold]
      refine fill_sound h ⟨by rw [f1, hc.1, splice_length (by rw [hn]; exact hle)], fun j y hy => ?_⟩ (by simpa using hl) (fun j i x hj => hp (j + 1) i x hj)
      rw [splice_get (by rw [hn]; exact hle)] at hy
      rw [f2 j]
      simp only [Nat.add_zero, Array.length_toList]
      rw [hsz]
      rw [hn] at hy
      split at hy
      · rename_i hj
        rw [if_pos hj, Array.getElem?_toList]
        obtain ⟨u, q1, q2, q3, q4, _⟩ := s2 _ y hy
        exact ⟨u, q1, q2, q3, q4⟩
      · rename_i hj
        rw [if_neg hj]
        exact hc.2 j y hy

theorem CR.agg {cs : List AV} {vals : Array Value} (h : CR g w cs vals) : VR g w (.agg cs) (.agg vals) := by
  refine .agg cs vals (fun j => vals.getD j undef) h.1 (fun j x hx => ?_) (fun j x hx => ?_) (fun x hx => ?_)
  · obtain ⟨u, h1, _⟩ := h.2 j x hx
    rw [h1, Array.getD_eq_getD_getElem?, h1]; rfl
  · obtain ⟨u, h1, h2, _⟩ := h.2 j x hx
    rw [Array.getD_eq_getD_getElem?, h1]; exact h2
  · obtain ⟨j, hj⟩ := List.getElem?_of_mem hx
    obtain ⟨_, _, _, h3, _⟩ := h.2 j x hj
    exact h3

theorem zeros_CR (T : Tab) (t : Nat) : CR g w (zeros T t) ((T.ks t).map zeroV).toArray :=
  ⟨by simp [zeros], fun _ _ hx => zeros_get hx⟩

variable {T : Tab} {P : Program} (hT : TabOK T P)
include hT

theorem build_sound {t : Nat} {parts : List (Nat × AV)} {vparts : Array (Nat × Value)} {y : AV} (h : den C Lp (buildOp T t parts) = some y) (hl : vparts.size = parts.length)
    (hp : ∀ (j : Nat) i x, parts[j]? = some (i, x) → ∃ v, vparts[j]? = some (i, v) ∧ VR g w x v) : ∃ v, (Instr.build t vparts).run P w = .ok v w ∧ VR g w y v ∧ y.slOwn = .no := by
  have hs := hT.sh t
  have hk := hT.ks t
  unfold buildOp at h
  unfold ksOk at hk
  have hl' : vparts.toList.length = parts.length := by simpa using hl
  have hp' : ∀ (j : Nat) i x, parts[j]? = some (i, x) → ∃ v, vparts.toList[j]? = some (i, v) ∧ VR g w x v := by
    intro j i x hj
    obtain ⟨v, h1, h2⟩ := hp j i x hj
    exact ⟨v, by rw [Array.getElem?_toList]; exact h1, h2⟩
  cases hsh : T.sh t with
  | struct fs =>
    rw [hsh] at h hs hk
    obtain ⟨F, hF, hfs, _⟩ := hs
    simp only at h
    obtain ⟨cs, h1, h⟩ := den_bind_some C Lp h
    simp only [den_ret, Option.some.injEq] at h
    subst h
    obtain ⟨z, hz, hzc, _⟩ := info_zero hT (t := t) (by rw [hsh]; simp)
    obtain ⟨vals, hv, hcr⟩ := fill_sound h1 (zeros_CR T t) hl' hp'
    have hpl : ∀ w, (F.mapM (fun f => (do pure (f.offset, ← sizeOf f.type) : Sem (Nat × Nat)))).run P w = .ok (fs.map (fun f => (f.1, size T f.2))).toArray w := by
      intro w
      have : ∀ (l : List Field) (w : World), (∀ f ∈ l, T.sh f.type ≠ .other) → (l.mapM (fun f => (do pure (f.offset, ← sizeOf f.type) : Sem (Nat × Nat)))).run P w = .ok (l.map fun f => (f.offset, size T f.type)) w := by
        intro l
        induction l with
        | nil => intro w _; rfl
        | cons f l ih =>
          intro w hne
          rw [List.mapM_cons, Sem.run_bind, Sem.run_bind, run_sizeOf hT (hne f (by simp))]
          simp only [Result.andThen_ok, Sem.run_pure, Sem.run_bind, ih w (fun f hf => hne f (by simp [hf]))]
          rfl
      rw [Array.mapM_eq_mapM_toList, Sem.run_map, this F.toList w]
      · simp [← hfs]
      · intro f hf
        obtain ⟨i, hi⟩ := List.getElem?_of_mem hf
        exact (hk.2 i f.offset f.type (by rw [← hfs, List.getElem?_map, hi]; rfl)).2.1
    refine ⟨.agg vals, ?_, hcr.agg, rfl⟩
    have hplace : (fun i : Nat => (fs.map (fun f => (f.1, size T f.2))).toArray[i]?) = (fun i => match fs[i]? with | some (o, e) => some (o, size T e) | none => none) := by
      funext i
      simp only [List.getElem?_toArray, List.getElem?_map]
      cases fs[i]? <;> rfl
    have hu : ∀ w, (underlying t).run P w = .ok (.struct F) w := fun w => by simp [underlying, hF]
    have hv' : Instr.fill (fun i : Nat => (fs.map (fun f => (f.1, size T f.2))).toArray[i]?) ((T.ks t).map zeroV).toArray vparts.toList = some vals := by rw [hplace]; exact hv
    simp only [Instr.build, Sem.run_bind, hz, Result.andThen_ok, hzc, hu, hpl, hv', Sem.run_pure]
  | arr n e =>
    rw [hsh] at h hs hk
    simp only at h
    obtain ⟨cs, h1, h⟩ := den_bind_some C Lp h
    simp only [den_ret, Option.some.injEq] at h
    subst h
    obtain ⟨z, hz, hzc, _⟩ := info_zero hT (t := t) (by rw [hsh]; simp)
    obtain ⟨vals, hv, hcr⟩ := fill_sound h1 (zeros_CR T t) hl' hp'
    refine ⟨.agg vals, ?_, hcr.agg, rfl⟩
    have hse : ∀ w, (sizeOf e).run P w = .ok (size T e) w := fun w => run_sizeOf hT hk.2.1 w
    simp [Instr.build, hz, hzc, underlying, show P.underlying t = some (.array n e) from hs, hse, hv]
  | _ => rw [hsh] at h; simp at h
end
end Go.Ab
