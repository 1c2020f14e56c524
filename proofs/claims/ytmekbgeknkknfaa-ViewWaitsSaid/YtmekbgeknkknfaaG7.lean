/- Regions, code, loops, functions, calls, depth. -/
import Derived.Test.YtmekbgeknkknfaaG6
import Derived.Orders
set_option linter.unusedVariables false
set_option linter.unusedSimpArgs false
set_option linter.unusedSectionVars false
set_option linter.constructorNameAsVariable false
namespace Go.Ab

section
variable {T : Tab} {P : Program} {C : Nat → List AV → List GB → Option (AV × List GB)} {Lp : Nat → Nat → Code → St → Option (Ex × St)}
  {g : Gh} {w : World} {st st' : St} {a : Act}

/-- Classes under other names. -/
def renG (r : Own → Own) (g : Gh) : Gh := { g with ow := fun b => r (g.ow b) }
structure RenOk (r : Own → Own) : Prop where
  no : r .no = .no
  lc : ∀ k j, r (.lc k j) = .lc k j
  gc : ∀ k j, r (.gc k j) = .gc k j
theorem ren_vext (r : Own → Own) (g : Gh) (w : World) : VExt (fun _ => true) g w (renG r g) w := ⟨fun _ _ _ h => h, fun _ _ h => h, fun _ => Nat.le_refl _, fun _ _ _ => rfl, fun _ arr e _ _ h => ⟨arr, e, h, rfl⟩⟩
theorem ren_VR (r : Own → Own) {x : AV} {v : Value} (h : VR g w x v) : VR (renG r g) w x v := h.mono (ren_vext r g w) (VR_dep h)
theorem ren_ext {r : Own → Own} (hr : RenOk r) : Ext g w (renG r g) w := { Ext.refl g w with keep := fun b _ _ _ ho => ⟨rfl, rfl, by show r (g.ow b) = .no; rw [ho]; exact hr.no⟩ }
theorem ren_wf {r : Own → Own} (hr : RenOk r) (h : WF g w) : WF (renG r g) w where
  inj := h.inj
  lbgb := h.lbgb
  nd := h.nd
  ltl := h.ltl
  ltg := h.ltg
  mrl := fun k b hk => ⟨(h.mrl k b hk).1, by show r (g.ow b) = .no; rw [(h.mrl k b hk).2]; exact hr.no⟩
  mrg := fun b hb => ⟨(h.mrg b hb).1, by show r (g.ow b) = .no; rw [(h.mrg b hb).2]; exact hr.no⟩
  mrb := h.mrb
  owlt := fun b hb => h.owlt b fun h0 => hb (by show r (g.ow b) = .no; rw [h0]; exact hr.no)
theorem ren_hrel {r : Own → Own} (hr : RenOk r) {H : List GB} (h : HRel g w H) : HRel (renG r g) w H :=
  HRel_t (ren_vext r g w) rfl (fun _ _ => rfl) (fun k j b hb => ⟨by show r (g.ow b) = _; rw [hb]; exact hr.gc k j, rfl, rfl⟩) h
theorem ren_lrel {r : Own → Own} (hr : RenOk r) {L : List (List AV)} (h : LRel g w L) : LRel (renG r g) w L :=
  LRel_t (ren_vext r g w) rfl (fun _ _ _ _ => rfl) (fun k j b hb => ⟨by show r (g.ow b) = _; rw [hb]; exact hr.lc k j, rfl, rfl⟩) h
theorem ren_FLo {r : Own → Own} {own own' : Own} {sz n : Nat} {v : Value} (ho : own = .no ∨ own = .self → own' = .no ∨ own' = .self) (hc : ¬ (own = .no ∨ own = .self) → own' = r own) (h : FLo g w own sz n v) : FLo (renG r g) w own' sz n v := by
  by_cases hn : own = .no ∨ own = .self
  · rcases ho hn with h | h
    · exact .inl h
    · exact .inr (.inl h)
  · rcases h with h | h | h | ⟨b, off, cap, arr, e, fr, h1, h2, h3⟩
    · exact absurd (.inl h) hn
    · exact absurd (.inr h) hn
    · exact .inr (.inr (.inl h))
    · exact .inr (.inr (.inr ⟨b, off, cap, arr, e, fr, h1, by show r (g.ow b) = _; rw [h2]; exact (hc hn).symm, h3⟩))
theorem ownR_ok : RenOk ownR := ⟨rfl, fun _ _ => rfl, fun _ _ => rfl⟩

theorem rel_settle (h : Rel g st a w) : Nx g w (settle st) a w := by
  unfold settle
  cases st.cons.isEmpty && !st.conG && !st.conL with
  | true => exact ⟨g, Ext.refl g w, h⟩
  | false =>
    simp only [cond_false]
    refine ⟨renG ownR g, ren_ext ownR_ok, h.df, by simp only [List.length_map]; exact h.sz, fun i x hx => ?_, ren_lrel ownR_ok h.lr, ren_hrel ownR_ok h.hr, ren_wf ownR_ok h.wf, h.ro⟩
    simp only [List.getElem?_map] at hx
    cases hi : st.tm[i]? with
    | none => rw [hi] at hx; simp at hx
    | some y =>
      rw [hi] at hx
      simp only [Option.map_some, Option.some.injEq] at hx
      subst hx
      obtain ⟨v, h1, h2, h3⟩ := h.tr i y hi
      have h4 := VR_fresh st (ren_VR ownR h2)
      refine ⟨v, h1, ?_⟩
      generalize fresh st y = z at h3 h4
      cases z with
      | sl sz n rows own =>
        refine ⟨VR_own _ h4, ?_⟩
        have h5 : FLo (renG ownR g) w (ownR own) sz rows.length v := ren_FLo (fun h => by rcases h with rfl | rfl <;> simp [ownR]) (fun _ => rfl) h3
        exact FL_fresh _ (show FL _ _ (avR (.sl sz n rows own)) v from h5)
      | _ => exact ⟨h4, trivial⟩

theorem Nx_settle {a' : Act} {w' : World} (h : Nx g w st' a' w') : Nx g w (settle st') a' w' :=
  let ⟨_, h1, h2⟩ := h
  let ⟨g'', h3, h4⟩ := rel_settle h2
  ⟨g'', h1.trans h3, h4⟩

theorem Nx_trans {g' : Gh} {w' : World} {st'' : St} {a'' : Act} {w'' : World} (h : Ext g w g' w') (h' : Nx g' w' st'' a'' w'') : Nx g w st'' a'' w'' :=
  let ⟨g'', h1, h2⟩ := h'
  ⟨g'', h.trans h1, h2⟩

/-- What a guard says. -/
theorem wanted_sound {ops : Array Oper} {o : Oper} {yes no : St → R St} (hR : Rel g st a w) (h : den C Lp (wantedR ops st o yes no) = some st') :
    (Region.wanted o (yielded ops a.tmps) = true ∧ den C Lp (yes st) = some st') ∨ (Region.wanted o (yielded ops a.tmps) = false ∧ den C Lp (no st) = some st') := by
  unfold wantedR at h
  unfold Region.wanted
  cases hg : o.guard with
  | none => rw [hg] at h; exact .inl ⟨rfl, h⟩
  | some jw =>
    obtain ⟨j, want⟩ := jw
    rw [hg] at h
    simp only at h ⊢
    cases hd : (ops[j]?).bind (·.dst) with
    | none => rw [hd] at h; simp at h
    | some d =>
      rw [hd] at h
      simp only at h
      cases hv : st.get d with
      | bool b =>
        rw [hv] at h
        simp only [den_br] at h
        have hset : ∀ b', b = b' → st.set d (.bool b') = st := by
          rintro b' rfl
          exact litBool_id (c := .tmp d) hv
        have hy : yielded ops a.tmps j = some b := by
          obtain ⟨h1, _⟩ := rel_rho hR (.tmp d)
          have h2 : rho st (.tmp d) = .bool b := hv
          rw [h2] at h1
          generalize hu : a.eval (.tmp d) = u at h1
          cases h1
          unfold yielded
          rw [hd]
          simp only [Option.bind_some]
          simp only [Act.eval, Array.getD_eq_getD_getElem?] at hu
          cases ht : a.tmps[d]? with
          | none => rw [ht] at hu; cases hu
          | some t => rw [ht] at hu; simp only [Option.getD_some] at hu; rw [hu]
        rw [hy]
        cases b with
        | true =>
          rw [hset true rfl] at h
          simp only [cond_true] at h
          cases want with
          | true => exact .inl ⟨rfl, h⟩
          | false => exact .inr ⟨rfl, h⟩
        | false =>
          rw [hset false rfl] at h
          simp only [cond_false] at h
          cases want with
          | true => exact .inr ⟨rfl, h⟩
          | false => exact .inl ⟨rfl, h⟩
      | und =>
        rw [hv] at h
        simp only at h
        have hy : yielded ops a.tmps j = none := by
          obtain ⟨h1, _⟩ := rel_rho hR (.tmp d)
          have h2 : rho st (.tmp d) = .und := hv
          rw [h2] at h1
          generalize hu : a.eval (.tmp d) = u at h1
          cases h1
          unfold yielded
          rw [hd]
          simp only [Option.bind_some]
          simp only [Act.eval, Array.getD_eq_getD_getElem?] at hu
          cases ht : a.tmps[d]? with
          | none => rfl
          | some t => rw [ht] at hu; simp only [Option.getD_some] at hu; rw [hu]; rfl
        rw [hy]
        exact .inr ⟨rfl, h⟩
      | _ => rw [hv] at h; simp at h

theorem evOps_cons (fid : Nat) (drawn : Bool) (cks : Nat → Ck) (ops : Array Oper) (i : Nat) (l : List Nat) (st : St) :
    evOps T fid drawn cks ops (i :: l) st = (match ops[i]? with
      | none => .fail
      | some o => (wantedR ops st o (fun st => withCk (cks i) o st (evOp T fid drawn (ngOf drawn ops i) o st)) (fun st => .ret (st.put o.dst .und))).bind (evOps T fid drawn cks ops l)) := rfl

theorem withCk_den {ck : Ck} {o : Oper} {r : R St} (h : den C Lp (withCk ck o st r) = some st') : den C Lp r = some st' := by
  unfold withCk at h
  cases hp : ck.plain with
  | true => rw [hp, cond_true] at h; exact h
  | false =>
    rw [hp, cond_false] at h
    obtain ⟨_, h1⟩ := den_chk_some C Lp h
    obtain ⟨x, h2, h3⟩ := den_bind_some C Lp h1
    obtain ⟨_, h4⟩ := den_chk_some C Lp h3
    simp only [den_ret, Option.some.injEq] at h4
    subst h4
    exact h2

variable (hT : TabOK T P)
include hT

theorem evOps_sound {fid : Nat} {drawn : Bool} {cks : Nat → Ck} {ops : Array Oper} (hcall : CallLaw T P C Lp fid) {Q : Exit → Act → World → Prop} : ∀ {l : List Nat} {g : Gh} {st : St} {a : Act} {w : World},
    Rel g st a w → den C Lp (evOps T fid drawn cks ops l st) = some st' → (∀ a' w', Nx g w st' a' w' → Q .normal a' w') → wpOps P ops Q l a w
  | [], g, st, a, w, hR, h, hQ => by
    have : settle st = st' := by
      have h' : den C Lp (.ret (settle st)) = some st' := h
      simpa using h'
    subst this
    exact hQ a w (rel_settle hR)
  | i :: l, g, st, a, w, hR, h, hQ => by
    rw [evOps_cons] at h
    cases ho : ops[i]? with
    | none => rw [ho] at h; simp at h
    | some o =>
      rw [ho] at h
      simp only at h
      obtain ⟨st1, h1, h2⟩ := den_bind_some C Lp h
      simp only [wpOps, ho]
      rcases wanted_sound hR h1 with ⟨hw, h3⟩ | ⟨hw, h3⟩
      · rw [if_pos hw]
        refine .inl (Oper.wp_mono (fun a' w' hn => ?_) (evOp_sound hT hcall hR (withCk_den h3)))
        obtain ⟨g', q1, q2⟩ := hn
        exact evOps_sound hcall q2 h2 fun a'' w'' h'' => hQ a'' w'' (Nx_trans q1 h'')
      · rw [if_neg (by rw [hw]; simp)]
        simp only [den_ret, Option.some.injEq] at h3
        subst h3
        exact evOps_sound hcall (rel_put hR o.dst .und trivial) h2 hQ
end
end Go.Ab
namespace Go.Ab

def Ex.exit' : Ex → Exit
  | .normal => .normal
  | .exit id => .exit id
  | .ret => .ret

section
variable {T : Tab} {P : Program} {C : Nat → List AV → List GB → Option (AV × List GB)} {Lp : Nat → Nat → Code → St → Option (Ex × St)}
  {g : Gh} {w : World} {st st' : St} {a : Act}

/-- Regions whose order is drawn stand it. -/
def DrawLaw (T : Tab) (P : Program) (C : Nat → List AV → List GB → Option (AV × List GB)) (Lp : Nat → Nat → Code → St → Option (Ex × St)) (fid : Nat) (ok : Nat → Array Oper → Bool) : Prop :=
  ∀ (id : Nat) (ops : Array Oper) (g : Gh) (st : St) (a : Act) (w : World) (st' : St) (Q : Exit → Act → World → Prop), ok id ops = true → Rel g st a w →
    den C Lp (evOps T fid true (T.ck fid id) ops (List.range ops.size) st) = some st' → (∀ a' w', Nx g w st' a' w' → Q .normal a' w') → (Code.region id ops true).wp P Q a w

/-- All drawn regions of a code are such ones. -/
def drawsOk (ok : Nat → Array Oper → Bool) : Code → Bool
  | .region id ops true => ok id ops
  | .seq a b => drawsOk ok a && drawsOk ok b
  | .cond _ a b => drawsOk ok a && drawsOk ok b
  | .block _ c => drawsOk ok c
  | .loop c => drawsOk ok c
  | .scope c => drawsOk ok c
  | _ => true

/-- What a loop does. -/
def LoopLaw (P : Program) (Lp : Nat → Nat → Code → St → Option (Ex × St)) (fid : Nat) (ok : Nat → Array Oper → Bool) : Prop :=
  ∀ (rid : Nat) (c : Code) (g : Gh) (st : St) (a : Act) (w : World) (e : Ex) (st' : St) (Q : Exit → Act → World → Prop), drawsOk ok c = true → Rel g st a w →
    Lp fid rid c st = some (e, st') → (∀ a' w', Nx g w st' a' w' → Q e.exit' a' w') → (Code.loop c).wp P Q a w

def CodeLaw (T : Tab) (P : Program) (C : Nat → List AV → List GB → Option (AV × List GB)) (Lp : Nat → Nat → Code → St → Option (Ex × St)) (fid : Nat) (c : Code) : Prop :=
  ∀ (g : Gh) (st : St) (a : Act) (w : World) (e : Ex) (st' : St) (Q : Exit → Act → World → Prop), Rel g st a w → den C Lp (evCode T fid c st) = some (e, st') →
    (∀ a' w', Nx g w st' a' w' → Q e.exit' a' w') → c.wp P Q a w

theorem evCode_region (fid id : Nat) (ops : Array Oper) (dr : Bool) (st : St) : evCode T fid (.region id ops dr) st = (evOps T fid dr (T.ck fid id) ops (List.range ops.size) st).bind fun st => .ret (.normal, st) := rfl
theorem evCode_seq (fid : Nat) (x y : Code) (st : St) : evCode T fid (.seq x y) st = (evCode T fid x st).bind fun x => match x with | (.normal, st) => evCode T fid y st | x => .ret x := rfl
theorem evCode_cond (fid : Nat) (c : Operand) (x y : Code) (st : St) : evCode T fid (.cond c x y) st = (match rho st c with
      | .bool t => .br t (evCode T fid x (litBool st c true)) (evCode T fid y (litBool st c false))
      | _ => .fail) := rfl
theorem evCode_block (fid id : Nat) (c : Code) (st : St) : evCode T fid (.block id c) st = (evCode T fid c st).bind fun x => match x with | (.exit i, st) => .ret (if i == id then .normal else .exit i, st) | x => .ret x := rfl
theorem evCode_loop (fid : Nat) (c : Code) (st : St) : evCode T fid (.loop c) st = .loop fid (firstRegion c) c (norm (T.lv fid (firstRegion c)).1 st) .ret := rfl
theorem evCode_scope (fid : Nat) (c : Code) (st : St) : evCode T fid (.scope c) st = evCode T fid c st := rfl

theorem Nx_refl (h : Rel g st a w) : Nx g w st a w := ⟨g, Ext.refl g w, h⟩

theorem nilFix_sound {sz : Nat} {o : Own} {x : AV} {v : Value} (h : VR g w x v) (hf : FL g w x v) : VR g w (nilFix sz o x) v ∧ FL g w (nilFix sz o x) v := by
  cases x with
  | sl z n rows o' =>
    simp only [nilFix]
    cases Nat.beq z sz with
    | true => exact ⟨h, hf⟩
    | false =>
      cases n with
      | true => cases h; exact ⟨.slnil _ _, .inr (.inr (.inl rfl))⟩
      | false => exact ⟨h, hf⟩
  | _ => exact ⟨h, hf⟩

theorem ownN_ok (lv : List Nat) (tm : List AV) : RenOk (ownN lv tm) := ⟨rfl, fun _ _ => rfl, fun _ _ => rfl⟩

theorem keepAt_sound {lv : List Nat} {i : Nat} {x : AV} {v : Value} (h : VR g w x v) (hf : FL g w x v) : VR g w (keepAt lv i x) v ∧ FL g w (keepAt lv i x) v := by
  unfold keepAt
  cases kd lv i with
  | none => exact ⟨.junk _, trivial⟩
  | some k =>
    show VR g w (keepAs i x k) v ∧ _
    unfold keepAs
    match k with
    | 0 => exact ⟨h, hf⟩
    | 1 =>
      refine ⟨VR_strip h, ?_⟩
      cases x <;> first
        | exact .inl rfl
        | trivial
    | k + 2 => exact nilFix_sound h hf

theorem rel_norm (lv : List Nat) (h : Rel g st a w) : Nx g w (norm lv st) a w := by
  have hr := ownN_ok lv (st.tm.map (fresh st))
  refine ⟨renG (ownN lv (st.tm.map (fresh st))) g, ren_ext hr, h.df, by simp only [norm, List.length_map, List.length_zipIdx]; exact h.sz, fun i x hx => ?_, fun k cs hk hne => ?_, ren_hrel hr h.hr, ren_wf hr h.wf, h.ro⟩
  · simp only [norm, List.getElem?_map, List.getElem?_zipIdx] at hx
    cases hi : st.tm[i]? with
    | none => rw [hi] at hx; simp at hx
    | some y =>
      rw [hi] at hx
      simp only [Option.map_some, Option.some.injEq, Nat.zero_add] at hx
      obtain ⟨v, h1, h2, h3⟩ := h.tr i y hi
      refine ⟨v, h1, ?_⟩
      subst hx
      have h4 := VR_fresh st h2
      generalize fresh st y = z at h3 h4
      have h5 : VR (renG (ownN lv (st.tm.map (fresh st))) g) w (avN lv (st.tm.map (fresh st)) z) v ∧ FL (renG (ownN lv (st.tm.map (fresh st))) g) w (avN lv (st.tm.map (fresh st)) z) v := by
        cases z with
        | sl sz n rows own =>
          refine ⟨VR_own _ (ren_VR _ h4), ren_FLo (fun h => by rcases h with rfl | rfl <;> simp [ownN]) (fun _ => rfl) h3⟩
        | _ => exact ⟨ren_VR _ h4, trivial⟩
      have h6 := keepAt_sound (lv := lv) (i := i) h5.1 h5.2
      exact ⟨h6.1, FL_fresh _ h6.2⟩
  · simp only [norm, List.getElem?_map, List.getElem?_zipIdx] at hk
    cases hi : st.L[k]? with
    | none => rw [hi] at hk; simp at hk
    | some b =>
      rw [hi] at hk
      simp only [Option.map_some, Option.some.injEq, Nat.zero_add] at hk
      subst hk
      split at hne
      · rename_i hc
        rw [if_pos hc]
        exact ren_lrel hr h.lr k b hi hne
      · exact absurd rfl hne

variable (hT : TabOK T P)
include hT

theorem evCode_sound {fid : Nat} {ok : Nat → Array Oper → Bool} (hcall : CallLaw T P C Lp fid) (hdraw : DrawLaw T P C Lp fid ok) (hloop : LoopLaw P Lp fid ok) :
    ∀ c : Code, drawsOk ok c = true → CodeLaw T P C Lp fid c := by
  intro c
  induction c with
  | skip =>
    intro _ g st a w e st' Q hR h hQ
    have h' : den C Lp (.ret (Ex.normal, st)) = some (e, st') := h
    simp only [den_ret, Option.some.injEq, Prod.mk.injEq] at h'
    obtain ⟨rfl, rfl⟩ := h'
    exact wp_skip (hQ a w (Nx_refl hR))
  | region id ops dr =>
    intro hok g st a w e st' Q hR h hQ
    rw [evCode_region] at h
    obtain ⟨st1, h1, h2⟩ := den_bind_some C Lp h
    simp only [den_ret, Option.some.injEq, Prod.mk.injEq] at h2
    obtain ⟨rfl, rfl⟩ := h2
    cases dr with
    | false => exact wp_region (evOps_sound hT hcall hR h1 hQ)
    | true => exact hdraw id ops g st a w _ Q hok hR h1 hQ
  | seq x y ihx ihy =>
    intro hok g st a w e st' Q hR h hQ
    simp only [drawsOk, Bool.and_eq_true] at hok
    rw [evCode_seq] at h
    obtain ⟨⟨e1, st1⟩, h1, h2⟩ := den_bind_some C Lp h
    refine wp_seq (ihx hok.1 g st a w e1 st1 _ hR h1 fun a' w' hn => ?_)
    cases e1 with
    | normal =>
      obtain ⟨g', q1, q2⟩ := hn
      exact ihy hok.2 g' st1 a' w' e st' Q q2 h2 fun a'' w'' h'' => hQ a'' w'' (Nx_trans q1 h'')
    | exit id =>
      simp only [den_ret, Option.some.injEq, Prod.mk.injEq] at h2
      obtain ⟨rfl, rfl⟩ := h2
      exact hQ a' w' hn
    | ret =>
      simp only [den_ret, Option.some.injEq, Prod.mk.injEq] at h2
      obtain ⟨rfl, rfl⟩ := h2
      exact hQ a' w' hn
  | cond c x y ihx ihy =>
    intro hok g st a w e st' Q hR h hQ
    simp only [drawsOk, Bool.and_eq_true] at hok
    rw [evCode_cond] at h
    obtain ⟨hc, _⟩ := rel_rho hR c
    cases hrc : rho st c with
    | bool b =>
      rw [hrc] at h hc
      simp only [den_br] at h
      generalize hvc : a.eval c = vc at hc
      cases hc
      refine wp_cond hvc ?_
      cases b with
      | true =>
        rw [litBool_id hrc] at h
        exact ihx hok.1 g st a w e st' Q hR h hQ
      | false =>
        rw [litBool_id hrc] at h
        exact ihy hok.2 g st a w e st' Q hR h hQ
    | _ => rw [hrc] at h; simp at h
  | block id c ih =>
    intro hok g st a w e st' Q hR h hQ
    rw [evCode_block] at h
    obtain ⟨⟨e1, st1⟩, h1, h2⟩ := den_bind_some C Lp h
    refine wp_block (ih hok g st a w e1 st1 _ hR h1 fun a' w' hn => ?_)
    cases e1 with
    | normal =>
      simp only [den_ret, Option.some.injEq, Prod.mk.injEq] at h2
      obtain ⟨rfl, rfl⟩ := h2
      exact hQ a' w' hn
    | exit i =>
      simp only [den_ret, Option.some.injEq, Prod.mk.injEq] at h2
      obtain ⟨rfl, rfl⟩ := h2
      simp only [Ex.exit', Exit.inBlock]
      by_cases hi : i = id
      · subst hi
        rw [if_pos rfl]
        have := hQ a' w' hn
        simpa [Ex.exit'] using this
      · rw [if_neg hi]
        have := hQ a' w' hn
        simpa [Ex.exit', hi] using this
    | ret =>
      simp only [den_ret, Option.some.injEq, Prod.mk.injEq] at h2
      obtain ⟨rfl, rfl⟩ := h2
      exact hQ a' w' hn
  | loop c ih =>
    intro hok g st a w e st' Q hR h hQ
    rw [evCode_loop] at h
    rw [den_loop] at h
    cases hl : Lp fid (firstRegion c) c (norm (T.lv fid (firstRegion c)).1 st) with
    | none => rw [hl] at h; simp at h
    | some x =>
      rw [hl] at h
      simp only [Option.bind_some, den_ret, Option.some.injEq] at h
      subst h
      obtain ⟨g1, k1, k2⟩ := rel_norm (T.lv fid (firstRegion c)).1 hR
      exact hloop _ c g1 _ a w e st' Q hok k2 hl fun a' w' h'' => hQ a' w' (Nx_trans k1 h'')
  | scope c ih =>
    intro hok g st a w e st' Q hR h hQ
    rw [evCode_scope] at h
    refine wp_scope_straight (ih hok g st a w e st' _ hR h fun a' w' hn => ?_)
    cases e <;> exact hQ a' w' hn
  | exit id =>
    intro _ g st a w e st' Q hR h hQ
    have h' : den C Lp (.ret (Ex.exit id, st)) = some (e, st') := h
    simp only [den_ret, Option.some.injEq, Prod.mk.injEq] at h'
    obtain ⟨rfl, rfl⟩ := h'
    exact wp_exit (hQ a w (Nx_refl hR))
  | label l =>
    intro _ g st a w e st' Q hR h hQ
    have h' : den C Lp (.ret (Ex.normal, st)) = some (e, st') := h
    simp only [den_ret, Option.some.injEq, Prod.mk.injEq] at h'
    obtain ⟨rfl, rfl⟩ := h'
    exact wp_label (hQ a w (Nx_refl hR))
  | ret =>
    intro _ g st a w e st' Q hR h hQ
    have h' : den C Lp (.ret (Ex.ret, st)) = some (e, st') := h
    simp only [den_ret, Option.some.injEq, Prod.mk.injEq] at h'
    obtain ⟨rfl, rfl⟩ := h'
    exact wp_ret (hQ a w (Nx_refl hR))
  | rangeFunc f ps x y ihx ihy =>
    intro _ g st a w e st' Q hR h hQ
    have h' : den C Lp (.fail) = some (e, st') := h
    simp at h'
  | goto l =>
    intro _ g st a w e st' Q hR h hQ
    have h' : den C Lp (.fail) = some (e, st') := h
    simp at h'
  | refuse s =>
    intro _ g st a w e st' Q hR h hQ
    have h' : den C Lp (.fail) = some (e, st') := h
    simp at h'

theorem sem_loop (n fid rid : Nat) (c : Code) (st : St) : (sem T (n + 1)).2 fid rid c st = Option.rec none (fun x => match x with
      | (.normal, st') => (sem T n).2 fid rid c (norm (T.lv fid rid).1 st')
      | (e, st') => some (e, norm (T.lv fid rid).2 st')) (den (sem T n).1 (sem T n).2 (evCode T fid c st)) := rfl

/-- Loops, from what one round does. -/
theorem loop_sound {fid : Nat} {ok : Nat → Array Oper → Bool} (N : Nat) (hcode : ∀ n, n < N → ∀ c, drawsOk ok c = true → CodeLaw T P (sem T n).1 (sem T n).2 fid c) : LoopLaw P (sem T N).2 fid ok := by
  intro rid c g st a w e st' Q hok hR h hQ
  refine wp_loop_ghost (fun k a1 w1 => k ≤ N ∧ ∃ st1 g1, Ext g w g1 w1 ∧ Rel g1 st1 a1 w1 ∧ (sem T k).2 fid rid c st1 = some (e, st')) N ⟨Nat.le_refl _, st, g, Ext.refl g w, hR, h⟩ ?_
  rintro k a1 w1 ⟨hk, st1, g1, hE, hR1, h1⟩
  cases k with
  | zero => cases h1
  | succ k =>
    rw [sem_loop hT] at h1
    cases hd : den (sem T k).1 (sem T k).2 (evCode T fid c st1) with
    | none => rw [hd] at h1; cases h1
    | some x =>
      obtain ⟨e2, st2⟩ := x
      rw [hd] at h1
      refine hcode k (by omega) c hok g1 st1 a1 w1 e2 st2 _ hR1 hd fun a' w' hn => ?_
      obtain ⟨g', q1, q2⟩ := hn
      cases e2 with
      | normal =>
        obtain ⟨g2, k1, k2⟩ := rel_norm (T.lv fid rid).1 q2
        exact ⟨k, Nat.lt_succ_self k, by omega, _, g2, (hE.trans q1).trans k1, k2, h1⟩
      | exit id =>
        simp only [Option.some.injEq, Prod.mk.injEq] at h1
        obtain ⟨rfl, rfl⟩ := h1
        exact hQ a' w' (Nx_trans (hE.trans q1) (rel_norm _ q2))
      | ret =>
        simp only [Option.some.injEq, Prod.mk.injEq] at h1
        obtain ⟨rfl, rfl⟩ := h1
        exact hQ a' w' (Nx_trans (hE.trans q1) (rel_norm _ q2))
end
end Go.Ab
namespace Go.Ab

section
variable {T : Tab} {P : Program} {C : Nat → List AV → List GB → Option (AV × List GB)} {Lp : Nat → Nat → Code → St → Option (Ex × St)}
  {g : Gh} {w : World} {st st' : St} {a : Act}

def blockSize (w : World) (b : Nat) : Nat := match w.heap[b]? with | some (.cells arr _ _) => arr.size | _ => 0

open Classical in
/-- The function's own blocks are nobody's to write any more. -/
noncomputable def finG (g : Gh) (w : World) : Gh := ⟨fun _ => none, g.gb, fun b => if ∃ k, g.lb k = some b then blockSize w b else g.mrk b, g.ow, g.ro⟩

theorem finG_mrk_lb {k b : Nat} (h : g.lb k = some b) : (finG g w).mrk b = blockSize w b := by
  simp only [finG]
  rw [if_pos ⟨k, h⟩]
theorem finG_mrk {b : Nat} (h : ∀ k, g.lb k ≠ some b) : (finG g w).mrk b = g.mrk b := by
  simp only [finG]
  rw [if_neg (fun ⟨k, hk⟩ => h k hk)]

theorem fin_vext (hw : WF g w) : VExt (fun _ => false) g w (finG g w) w where
  lb := fun k b h => by cases h
  gb := fun _ _ h => h
  mrk := fun b => by
    by_cases h : ∃ k, g.lb k = some b
    · obtain ⟨k, hk⟩ := h
      rw [(hw.mrl k b hk).1]
      exact Nat.zero_le _
    · rw [finG_mrk (fun k hk => h ⟨k, hk⟩)]
      exact Nat.le_refl _
  cell := fun _ _ _ => rfl
  shp := fun b arr e fr _ h => ⟨arr, e, h, rfl⟩

theorem fin_hF (hw : WF g w) : ∀ o, cls o = true → ∀ b, g.ow b = o → (finG g w).ow b = o ∧ (finG g w).mrk b = g.mrk b ∧ w.heap[b]? = w.heap[b]? := by
  intro o ho b hb
  refine ⟨hb, finG_mrk (fun k hk => ?_), rfl⟩
  rw [(hw.mrl k b hk).2] at hb
  subst hb
  simp [cls] at ho

theorem fin_wf (hw : WF g w) : WF (finG g w) w where
  inj := fun k k' b h => by cases h
  lbgb := fun k b h => by cases h
  nd := hw.nd
  ltl := fun k b h => by cases h
  ltg := hw.ltg
  mrl := fun k b h => by cases h
  mrg := fun b h => by
    rw [finG_mrk (fun k hk => hw.lbgb k b hk h)]
    exact hw.mrg b h
  mrb := fun b hb => by
    by_cases h : ∃ k, g.lb k = some b
    · obtain ⟨k, hk⟩ := h
      rw [finG_mrk_lb hk] at hb ⊢
      unfold blockSize at hb ⊢
      cases hbl : w.heap[b]? with
      | none => rw [hbl] at hb; simp at hb
      | some o =>
        cases o with
        | cells arr e fr => exact ⟨arr, e, fr, rfl, Nat.le_refl _⟩
        | _ => rw [hbl] at hb; simp at hb
    · rw [finG_mrk (fun k hk => h ⟨k, hk⟩)] at hb ⊢
      exact hw.mrb b hb
  owlt := hw.owlt

theorem fin_hrel (hw : WF g w) {H : List GB} (h : HRel g w H) : HRel (finG g w) w H :=
  HRel_t (fin_vext hw) rfl (fun _ _ => rfl) (fun k j b hb => fin_hF hw _ rfl b hb) h

theorem fin_ext {g0 : Gh} {w0 : World} (hw : WF g w) (h0 : ∀ k, g0.lb k = none) (h : Ext g0 w0 g w) : Ext g0 w0 (finG g w) w where
  size := h.size
  gb := h.gb
  mrk := fun b => Nat.le_trans (h.mrk b) ((fin_vext hw).mrk b)
  cell := h.cell
  shp := h.shp
  keep := fun b hb hl hg ho => by
    obtain ⟨h1, h2, h3⟩ := h.keep b hb hl hg ho
    refine ⟨h1, ?_, h3⟩
    rw [finG_mrk (fun k hk => ?_)]
    · exact h2
    · rcases h.nlb k b hk with ⟨k', hk'⟩ | hk'
      · rw [h0] at hk'; cases hk'
      · omega
  nlb := fun k b h => by cases h
  ngb := h.ngb
  os := h.os
  out := h.out
  tape := h.tape
  roe := h.roe
  rog := h.rog

/-- A local block, handed back. -/
theorem frozen_sound {x y : AV} {v : Value} (hR : Rel g st a w) (h : den C Lp (frozenV st x) = some y) (hx : VR g w x v) (hf : FL g w x v) (hl : y.noLp = true) :
    VR (finG g w) w y v ∧ FL (finG g w) w y v := by
  have hw := hR.wf
  have hdep : ∀ {z : AV}, z.noLp = true → z.depOk (fun _ => false) = true := by
    intro z hz
    cases z with
    | agg cs =>
      simp only [AV.noLp, List.all_eq_true] at hz
      simp only [AV.depOk, List.all_eq_true]
      intro c hc
      have := noLp1_cellDep (fun _ => false) (hz c hc)
      rw [depOk_cell _ (noLp1_isCell (hz c hc))] at this
      exact this
    | tup ws =>
      simp only [AV.noLp, List.all_eq_true] at hz
      simp only [AV.depOk, List.all_eq_true]
      intro c hc
      have h1 := hz c hc
      cases c with
      | agg cs =>
        simp only [List.all_eq_true] at h1 ⊢
        intro d hd
        have := noLp1_cellDep (fun _ => false) (h1 d hd)
        rw [depOk_cell _ (noLp1_isCell (h1 d hd))] at this
        exact this
      | _ => simp_all [AV.noLp1, AV.cellDep]
    | _ => exact noLp1_cellDep _ hz
  unfold frozenV at h
  split at h
  · rename_i k o n sz
    obtain ⟨h1, h⟩ := den_chk_some C Lp h
    simp only [den_ret, Option.some.injEq] at h
    subst h
    simp only [Bool.and_eq_true, wholeVs, beq_iff_eq, decide_eq_true_eq, List.all_eq_true] at h1
    obtain ⟨⟨⟨ho, hlen⟩, hsz⟩, hp⟩ := h1
    subst ho
    rw [nthL_eq_getD] at hlen hp ⊢
    generalize hLk : st.L.getD k [] = Lk at hlen hp ⊢
    cases hx with
    | vs _ _ _ _ b cap arr e fr hb hcap hbl hbs =>
      refine ⟨?_, .inl rfl⟩
      have hcell : ∀ (j : Nat) x, Lk[j]? = some x → ∃ u, arr[j]? = some u ∧ VR g w x u := by
        intro j x hj
        have hget : st.L[k]? = some Lk := by
          cases hq : st.L[k]? with
          | none =>
            have : Lk = [] := by rw [← hLk]; simp [List.getD, hq]
            subst this
            simp at hj
          | some L0 => rw [← hLk]; simp [List.getD, hq]
        obtain ⟨b', hb', arr2, e2, fr2, r1, r2, r3, r4⟩ := hR.lr k Lk hget (by rintro rfl; simp at hj)
        rw [hb] at hb'
        obtain rfl : b = b' := by simpa using hb'
        rw [hbl] at r1
        cases r1
        obtain ⟨u, q1, q2, _⟩ := r4 j x hj
        exact ⟨u, q1, q2⟩
      have hle : n * sz ≤ cap * sz := Nat.mul_le_mul_right _ hcap
      have hck := chunk_length sz n Lk
      have := VR.sl (g := finG g w) (w := w) sz (chunk sz n Lk) .no b 0 cap (fun i j => arr.getD (i * sz + j) undef) (by rw [hck]; exact hcap) (chunk_rows (by omega))
        (fun i r j x hi hj => by
          obtain ⟨u, q1, _⟩ := hcell _ x (chunk_cell (by omega) hi hj)
          rw [Nat.zero_add, cell?_of_block hbl, Array.getD_eq_getD_getElem?, q1]
          rfl)
        (fun i r j x hi hj => by
          have hcj := chunk_cell (by omega) hi hj
          obtain ⟨u, q1, q2⟩ := hcell _ x hcj
          rw [Array.getD_eq_getD_getElem?, q1]
          exact q2.mono (fin_vext hw) (pure1_cellDep _ (hp x (mem_of_getElem? hcj))))
        (fun r hr x hx => hp x (chunk_mem (by omega) hr hx))
        (by rw [hck, finG_mrk_lb hb]; unfold blockSize; rw [hbl]; simp only; omega)
      rw [hck] at this
      exact this
  · simp only [den_ret, Option.some.injEq] at h
    subst h
    exact ⟨hx.mono (fin_vext hw) (hdep hl), FL_t (fun hc b hb => fin_hF hw _ hc b hb) hf⟩
end
end Go.Ab
namespace Go.Ab

section
variable {T : Tab} {P : Program} {C : Nat → List AV → List GB → Option (AV × List GB)} {Lp : Nat → Nat → Code → St → Option (Ex × St)}
  {g : Gh} {w : World} {st st' : St} {a : Act}

/-- How a call that was reckoned ends. -/
def FunOut (g : Gh) (w : World) (v : AV) (H' : List GB) : Ending → World → Prop
  | .returned r, w' => ∃ g', Ext g w g' w' ∧ WF g' w' ∧ HRel g' w' H' ∧ VR g' w' v r ∧ FL g' w' v r ∧ v.noLp = true
  | _, _ => False

def realF (f : Nat) : Nat := bif Nat.ble 1000000 f then f - 1000000 else f

/-- What is reckoned of functions holds of the model's. -/
def FunLaw (P : Program) (C : Nat → List AV → List GB → Option (AV × List GB)) : Prop :=
  ∀ (f : Nat) (args : List AV) (H : List GB) (v : AV) (H' : List GB) (g : Gh) (w : World) (vals : List Value), C f args H = some (v, H') → ArgsR g w args vals → (∀ x ∈ args, x.slOwn = .no) →
    (∀ k, g.lb k = none) → WF g w → HRel g w H → g.ro = Nat.ble 1000000 f →
    (∃ fn, P.funcs[realF f]? = some fn ∧ fn.body.isNone = false ∧ (fn.name == "runtime.NumGoroutine") = false) ∧ Calls P (realF f) vals.toArray w (FunOut g w v H')

/-- One result. -/
def resOne (tmps : Array Value) (r : ResultVar) : Sem Value :=
  match r with
  | .tmp t => pure (tmps.getD t undef)
  | .cell x t => do loadVar t (← asAddr (tmps.getD x undef))

theorem results_eq (fn : Func) (tmps : Array Value) : results fn tmps = (do
    let vs ← fn.results.mapM (resOne tmps)
    pure (if h : vs.size = 1 then vs[0] else .tuple vs)) := rfl

variable (hT : TabOK T P)
include hT

theorem resVals_sound (hR : Rel g st a w) : ∀ {rs : List ResultVar} {vs : List AV}, den C Lp (resVals T st rs) = some vs → vs.all AV.noLp = true →
    ∃ vals : List Value, (rs.mapM (resOne a.tmps)).run P w = .ok vals w ∧ vals.length = vs.length ∧
      ∀ (i : Nat) x, vs[i]? = some x → ∃ v, vals[i]? = some v ∧ VR (finG g w) w x v ∧ FL (finG g w) w x v
  | [], vs, h, _ => by
    have h' : den C Lp (.ret []) = some vs := h
    simp only [den_ret, Option.some.injEq] at h'
    subst h'
    exact ⟨[], rfl, rfl, fun i x hx => by simp at hx⟩
  | r :: rs, vs, h, hl => by
    simp only [resVals] at h
    obtain ⟨x, h1, h⟩ := den_bind_some C Lp h
    obtain ⟨xs, h2, h⟩ := den_bind_some C Lp h
    simp only [den_ret, Option.some.injEq] at h
    subst h
    simp only [List.all_cons, Bool.and_eq_true] at hl
    obtain ⟨vals, q1, q2, q3⟩ := resVals_sound hR h2 hl.2
    have hone : ∃ v, (resOne a.tmps r).run P w = .ok v w ∧ VR (finG g w) w x v ∧ FL (finG g w) w x v := by
      cases r with
      | tmp t =>
        simp only [resVal] at h1
        obtain ⟨r1, r2⟩ := rel_rho hR (.tmp t)
        refine ⟨a.tmps.getD t undef, rfl, ?_⟩
        exact frozen_sound hR h1 (VR_fresh st r1) r2 hl.1
      | cell y t =>
        simp only [resVal] at h1
        obtain ⟨z, h3, h4⟩ := den_bind_some C Lp h1
        simp only [den_ret, Option.some.injEq] at h4
        subst h4
        obtain ⟨r1, _⟩ := rel_rho hR (.tmp y)
        obtain ⟨u, s1, s2, s3⟩ := load_sound hT hR h3 r1
        refine ⟨u, ?_, ?_⟩
        · have hsame : (do loadVar t (← asAddr (a.tmps.getD y undef)) : Sem Value).run P w = .ok u w := by
            have hv : a.eval (.tmp y) = a.tmps.getD y undef := rfl
            rw [hv] at s1
            unfold Instr.loadAt at s1
            simp only [Sem.run_bind] at s1
            cases hp : a.tmps.getD y undef with
            | pointer p =>
              rw [hp] at s1
              cases p with
              | none => simp [Instr.sureAddr] at s1
              | some p =>
                simp only [Sem.run_bind]
                exact s1
            | _ => rw [hp] at s1; simp [Instr.sureAddr] at s1
          exact hsame
        · have h5 : den C Lp (frozenV st (fresh st z)) = some (fresh st z) := by
            unfold frozenV
            split
            · rename_i hz
              rw [hz] at hl
              simp [AV.noLp, AV.noLp1] at hl
            · rfl
          exact frozen_sound hR h5 (VR_fresh st s2) s3 hl.1
    obtain ⟨v, s1, s2, s3⟩ := hone
    refine ⟨v :: vals, ?_, by simp [q2], fun i y hi => ?_⟩
    · rw [List.mapM_cons, Sem.run_bind, s1, Result.andThen_ok, Sem.run_bind, q1, Result.andThen_ok, Sem.run_pure]
    · cases i with
      | zero =>
        simp only [List.getElem?_cons_zero, Option.some.injEq] at hi
        subst hi
        exact ⟨v, rfl, s2, s3⟩
      | succ i => exact q3 i y (by simpa using hi)

omit hT in
theorem VR_stripAll {x : AV} {v : Value} (h : VR g w x v) : VR g w x.stripAll v := by
  have hagg : ∀ {cs : List AV} {v : Value}, VR g w (.agg cs) v → VR g w (.agg (cs.map AV.strip)) v := by
    intro cs v h
    cases h with
    | agg _ vals val hs hc hv hp =>
      refine .agg _ vals val (by simpa using hs) (fun j x hx => ?_) (fun j x hx => ?_) (fun x hx => ?_)
      · rw [List.getElem?_map] at hx
        cases hj : cs[j]? with
        | none => rw [hj] at hx; simp at hx
        | some y => exact hc j y hj
      · rw [List.getElem?_map] at hx
        cases hj : cs[j]? with
        | none => rw [hj] at hx; simp at hx
        | some y =>
          rw [hj] at hx
          simp only [Option.map_some, Option.some.injEq] at hx
          subst hx
          exact VR_strip (hv j y hj)
      · obtain ⟨y, hy, rfl⟩ := List.mem_map.1 hx
        exact strip_isCell (hp y hy)
  cases x with
  | agg cs => exact hagg h
  | tup ws =>
    cases h with
    | tup _ vals val hs hc hv hp =>
      refine .tup _ vals val (by simpa using hs) (fun j x hx => ?_) (fun j x hx => ?_) (fun x hx qs => ?_)
      · rw [List.getElem?_map] at hx
        cases hj : ws[j]? with
        | none => rw [hj] at hx; simp at hx
        | some y => exact hc j y hj
      · rw [List.getElem?_map] at hx
        cases hj : ws[j]? with
        | none => rw [hj] at hx; simp at hx
        | some y =>
          rw [hj] at hx
          simp only [Option.map_some, Option.some.injEq] at hx
          subst hx
          have h1 := hv j y hj
          cases y with
          | agg cs => exact hagg h1
          | _ => exact VR_strip h1
      · obtain ⟨y, hy, rfl⟩ := List.mem_map.1 hx
        have := hp y hy
        cases y with
        | tup us => exact absurd rfl (this us)
        | _ => intro h; cases h
  | _ => exact VR_strip h

omit hT in
theorem ownZ_ok : RenOk ownZ := ⟨rfl, fun _ _ => rfl, fun _ _ => rfl⟩
omit hT in
theorem resOwn_sound {g : Gh} {w : World} {x : AV} {v : Value} (sz : Nat) (h : VR g w x v) (hf : FL g w x v) : VR (renG ownZ g) w (resOwn sz x) v ∧ FL (renG ownZ g) w (resOwn sz x) v := by
  cases x with
  | sl z n rows own =>
    have hz : VR (renG ownZ g) w (.sl z n rows (ownZ own)) v ∧ FL (renG ownZ g) w (.sl z n rows (ownZ own)) v := by
      refine ⟨VR_own _ (ren_VR _ h), ren_FLo (fun h => ?_) (fun _ => rfl) hf⟩
      rcases h with rfl | rfl
      · exact .inl rfl
      · exact .inr rfl
    simp only [resOwn]
    cases Nat.beq z sz with
    | true => exact hz
    | false =>
      cases n with
      | true => cases h; exact ⟨.slnil _ _, .inr (.inr (.inl rfl))⟩
      | false => exact hz
  | _ => exact ⟨ren_VR _ h, trivial⟩
omit hT in
theorem nilFix_VR {g : Gh} {w : World} {sz : Nat} {o : Own} {x : AV} {v : Value} (h : VR g w x v) : VR g w (nilFix sz o x) v := by
  cases x with
  | sl z n rows o' =>
    simp only [nilFix]
    cases Nat.beq z sz with
    | true => exact h
    | false =>
      cases n with
      | true => cases h; exact .slnil _ _
      | false => exact h
  | _ => exact h
omit hT in
theorem nilFix_noLp1 {sz : Nat} {o : Own} {x : AV} (h : x.noLp1 = true) : (nilFix sz o x).noLp1 = true := by
  cases x with
  | sl z n rows o' =>
    simp only [nilFix]
    cases Nat.beq z sz <;> cases n <;> rfl
  | _ => exact h
omit hT in
theorem nilFix_tup {sz : Nat} {o : Own} {x : AV} (h : ∀ ws, x ≠ .tup ws) : ∀ ws, nilFix sz o x ≠ .tup ws := by
  intro ws
  cases x with
  | sl z n rows o' =>
    simp only [nilFix]
    cases Nat.beq z sz <;> cases n <;> (intro h; cases h)
  | _ => exact h ws
omit hT in
theorem fixAll_get : ∀ (vs : List AV) (szs : List Nat) (i : Nat) (x : AV), (fixAll szs vs)[i]? = some x → ∃ y sz, vs[i]? = some y ∧ x = nilFix sz .no y.stripAll
  | [], _, i, x, h => by simp [fixAll] at h
  | v :: vs, szs, 0, x, h => by
    have h' : (nilFix (szs.headD 0) .no v.stripAll :: fixAll szs.tail vs)[0]? = some x := h
    simp only [List.getElem?_cons_zero, Option.some.injEq] at h'
    exact ⟨v, _, rfl, h'.symm⟩
  | v :: vs, szs, i + 1, x, h => by
    have h' : (nilFix (szs.headD 0) .no v.stripAll :: fixAll szs.tail vs)[i + 1]? = some x := h
    simp only [List.getElem?_cons_succ] at h' ⊢
    exact fixAll_get vs szs.tail i x h'
omit hT in
theorem fixAll_length : ∀ (vs : List AV) (szs : List Nat), (fixAll szs vs).length = vs.length
  | [], _ => rfl
  | v :: vs, szs => congrArg (· + 1) (fixAll_length vs szs.tail)

theorem results_sound (hR : Rel g st a w) {fn : Func} {vs : List AV} (szs : List Nat) (h : den C Lp (resVals T st fn.results.toList) = some vs) (hl : vs.all AV.plainV = true) :
    ∃ v, (results fn a.tmps).run P w = .ok v w ∧ VR (renG ownZ (finG g w)) w (resOf szs vs) v ∧ FL (renG ownZ (finG g w)) w (resOf szs vs) v ∧
      (resOf szs vs).noLp = true := by
  have hlp : vs.all AV.noLp = true := List.all_eq_true.2 fun x hx => by
    have := List.all_eq_true.1 hl x hx
    simp only [AV.plainV, Bool.and_eq_true] at this
    exact this.1
  obtain ⟨vals, q1, q2, q3⟩ := resVals_sound hT hR h hlp
  have hrun : (results fn a.tmps).run P w = .ok (if h : vals.toArray.size = 1 then vals.toArray[0] else .tuple vals.toArray) w := by
    rw [results_eq, Sem.run_bind, Array.mapM_eq_mapM_toList, Sem.run_map]
    simp only [Sem.run_pure, q1, Result.andThen_ok]
  have htup : (∀ x, vs ≠ [x]) → VR (finG g w) w (.tup (fixAll szs vs)) (.tuple vals.toArray) ∧ (AV.tup (fixAll szs vs)).noLp = true := by
    intro _
    refine ⟨.tup _ _ (fun j => vals.getD j undef) (by simpa [fixAll_length] using q2) (fun j x hx => ?_) (fun j x hx => ?_) (fun x hx => ?_), ?_⟩
    · obtain ⟨y, sz, hj, rfl⟩ := fixAll_get vs szs j x hx
      obtain ⟨v, r1, _⟩ := q3 j y hj
      rw [List.getElem?_toArray, r1]
      simp [List.getD, r1]
    · obtain ⟨y, sz, hj, rfl⟩ := fixAll_get vs szs j x hx
      obtain ⟨v, r1, r2, _⟩ := q3 j y hj
      simp only [List.getD, r1, Option.getD_some]
      exact nilFix_VR (VR_stripAll r2)
    · obtain ⟨j, hj0⟩ := List.mem_iff_getElem?.1 hx
      obtain ⟨y, sz, hj, rfl⟩ := fixAll_get vs szs j x hj0
      have := List.all_eq_true.1 hl y (mem_of_getElem? hj)
      refine nilFix_tup fun ws hw => ?_
      cases y <;> simp [AV.stripAll, AV.strip] at hw
      simp [AV.plainV] at this
    · simp only [AV.noLp, List.all_eq_true]
      intro x hx
      obtain ⟨j, hj0⟩ := List.mem_iff_getElem?.1 hx
      obtain ⟨y, sz, hj, rfl⟩ := fixAll_get vs szs j x hj0
      have hy := mem_of_getElem? hj
      have h1 := List.all_eq_true.1 hlp y hy
      have h2 := List.all_eq_true.1 hl y hy
      have strip_lp : ∀ {z : AV}, z.noLp1 = true → z.strip.noLp1 = true := by
        intro z hz
        cases z <;> simp_all [AV.strip, AV.noLp1]
      cases y with
      | agg cs =>
        simp only [AV.noLp, List.all_eq_true] at h1
        simp only [AV.stripAll, nilFix, List.all_eq_true]
        intro c hc
        obtain ⟨d, hd, rfl⟩ := List.mem_map.1 hc
        exact strip_lp (h1 d hd)
      | tup ws => simp [AV.plainV] at h2
      | sl z n rows o' =>
        simp only [AV.stripAll, AV.strip, nilFix]
        cases Nat.beq z sz <;> cases n <;> rfl
      | _ => simp_all [AV.stripAll, AV.strip, nilFix, AV.noLp, AV.noLp1]
  refine ⟨_, hrun, ?_⟩
  clear hrun q1 h
  revert q2 q3 htup hl hlp
  match vs, vals with
  | [x], [v] =>
    intro _ hlp _ q3 _
    obtain ⟨v', r1, r2, r3⟩ := q3 0 x rfl
    simp only [List.getElem?_cons_zero, Option.some.injEq] at r1
    subst r1
    simp only [List.all_cons, List.all_nil, Bool.and_true] at hlp
    refine ⟨(resOwn_sound _ r2 r3).1, (resOwn_sound _ r2 r3).2, ?_⟩
    cases x with
    | sl z n rows o' =>
      simp only [resOf, resOwn]
      cases Nat.beq z (szs.headD 0) <;> cases n <;> rfl
    | _ => exact hlp
  | [], [] =>
    intro _ _ _ _ htup
    exact ⟨ren_VR _ (htup (by simp)).1, trivial, (htup (by simp)).2⟩
  | x :: y :: vs, u :: v :: vals =>
    intro _ _ _ _ htup
    rw [dif_neg (by simp)]
    exact ⟨ren_VR _ (htup (by simp)).1, trivial, (htup (by simp)).2⟩
  | [], _ :: _ => intro _ _ h; simp at h
  | [_], [] => intro _ _ h; simp at h
  | [_], _ :: _ :: _ => intro _ _ h; simp at h
  | _ :: _ :: _, [] => intro _ _ h; simp at h
  | _ :: _ :: _, [_] => intro _ _ h; simp at h

/-- One function, from what its code does. -/
theorem fun_sound {f : Nat} {args : List AV} {H : List GB} {v : AV} {H' : List GB} {vals : List Value} (hcode : ∀ fn c, T.fn (realF f) = some fn → fn.body = some c → CodeLaw T P C Lp (realF f) c)
    (h : den C Lp (evFunc T f args H) = some (v, H')) (hargs : ArgsR g w args vals) (hown : ∀ x ∈ args, x.slOwn = .no) (hlb : ∀ k, g.lb k = none) (hw : WF g w) (hH : HRel g w H) (hro : g.ro = Nat.ble 1000000 f) :
    (∃ fn, P.funcs[realF f]? = some fn ∧ fn.body.isNone = false ∧ (fn.name == "runtime.NumGoroutine") = false) ∧ Calls P (realF f) vals.toArray w (FunOut g w v H') := by
  unfold evFunc at h
  simp only at h
  change den C Lp (match T.fn (realF f) with | none => _ | some fn => _) = _ at h
  cases hfn : T.fn (realF f) with
  | none => rw [hfn] at h; simp at h
  | some fn =>
    rw [hfn] at h
    simp only at h
    cases hb : fn.body with
    | none => rw [hb] at h; simp at h
    | some c =>
      rw [hb] at h
      simp only at h
      obtain ⟨hlen, h⟩ := den_chk_some C Lp h
      simp only [decide_eq_true_eq] at hlen
      obtain ⟨⟨e, st1⟩, h1, h2⟩ := den_bind_some C Lp h
      have hR : Rel g { tm := args ++ List.replicate (fn.ntmps - args.length) .und, L := List.replicate fn.ntmps [], H, cons := [], conG := false, conL := false, ro := Nat.ble 1000000 f }
          { tmps := vals.toArray ++ Array.replicate (fn.ntmps - vals.toArray.size) undef, defers := [] } w := by
        refine ⟨rfl, ?_, fun i x hx => ?_, fun k cs hk hne => ?_, hH, hw, hro.symm⟩
        · simp [hargs.1]
        · rcases Nat.lt_or_ge i args.length with hlt | hge
          · rw [List.getElem?_append_left hlt] at hx
            obtain ⟨u, q1, q2⟩ := hargs.2 i x hx
            refine ⟨u, ?_, q2, FL_no (fresh_no _ (hown x (mem_of_getElem? hx)))⟩
            simp only
            rw [Array.getElem?_append_left (by simpa using lt_of_getElem? q1)]
            simpa using q1
          · rw [List.getElem?_append_right hge, List.getElem?_replicate] at hx
            split at hx
            · rename_i hlt
              simp only [Option.some.injEq] at hx
              subst hx
              refine ⟨undef, ?_, .und, trivial⟩
              simp only
              rw [Array.getElem?_append_right (by simp [hargs.1]; exact hge), Array.getElem?_replicate, if_pos (by simp [hargs.1]; exact hlt)]
            · simp at hx
        · rw [List.getElem?_replicate] at hk
          split at hk
          · simp only [Option.some.injEq] at hk
            exact absurd hk.symm hne
          · simp at hk
      refine ⟨⟨fn, hT.fn _ fn hfn, by rw [hb]; rfl, hT.nm _ fn hfn⟩, ?_⟩
      refine calls_of_wp (hT.fn _ fn hfn) hb (hcode fn c hfn hb g _ _ w e st1 _ hR h1 fun a' w' hn => ?_)
      obtain ⟨g', q1, q2⟩ := hn
      have hend : ∀ {x : R (AV × List GB)}, den C Lp ((resVals T st1 fn.results.toList).bind fun vs => chk (vs.all AV.plainV) (.ret (resOf (resSz T fn) vs, st1.H))) = some (v, H') →
          a'.defers = [] ∧ ∃ r, (results fn a'.tmps).run P w' = .ok r w' ∧ FunOut g w v H' (.returned r) w' := by
        intro _ h3
        obtain ⟨vs, h4, h5⟩ := den_bind_some C Lp h3
        obtain ⟨h6, h5⟩ := den_chk_some C Lp h5
        simp only [den_ret, Option.some.injEq, Prod.mk.injEq] at h5
        obtain ⟨rfl, rfl⟩ := h5
        obtain ⟨r, r1, r2, r3, r4⟩ := results_sound hT q2 (resSz T fn) h4 h6
        exact ⟨q2.df, r, r1, renG ownZ (finG g' w'), (fin_ext q2.wf hlb q1).trans (ren_ext ownZ_ok), ren_wf ownZ_ok (fin_wf q2.wf), ren_hrel ownZ_ok (fin_hrel q2.wf q2.hr), r2, r3, r4⟩
      cases e with
      | exit id => simp at h2
      | normal =>
        obtain ⟨k1, r, k2, k3⟩ := hend (x := .fail) h2
        exact ⟨k1, r, k2, k3⟩
      | ret =>
        obtain ⟨k1, r, k2, k3⟩ := hend (x := .fail) h2
        exact ⟨k1, r, k2, k3⟩
end
end Go.Ab
namespace Go.Ab

section
variable {T : Tab} {P : Program} {C : Nat → List AV → List GB → Option (AV × List GB)} {Lp : Nat → Nat → Code → St → Option (Ex × St)}
  {g g' : Gh} {w w' : World} {st st' : St} {a : Act}

theorem pure1_noRef {x : AV} (h : x.pure1 = true) : x.noRef = true := by
  cases x <;> simp_all [AV.pure1, AV.noRef]

/-- Values that point to no block read so wherever their rows lie. -/
theorem VR.pure {x : AV} {v : Value} (hm : ∀ b, g.mrk b ≤ g'.mrk b) (hcell : ∀ b j, j < g.mrk b → w'.cell? ⟨b, j, none⟩ = w.cell? ⟨b, j, none⟩) (h : VR g w x v) (hp : x.noRef = true) : VR g' w' x v := by
  induction h with
  | bool b => exact .bool b
  | int k n => exact .int k n
  | str l s h => exact .str l s h
  | np => exact .np
  | nm => exact .nm
  | nf => exact .nf
  | ni => exact .ni
  | slnil sz own => exact .slnil sz own
  | sl sz rows own b o cap val hcap hz hc hv hpp hmm ih =>
    refine .sl sz rows own b o cap val hcap hz (fun i r j x hi hx => ?_) (fun i r j x hi hx => ih i r j x hi hx (pure1_noRef (hpp r (mem_of_getElem? hi) x (mem_of_getElem? hx)))) hpp (Nat.le_trans hmm (hm b))
    rw [hcell b _ (row_lt hz hmm hi hx)]
    exact hc i r j x hi hx
  | fn f cap vals val hs hc hv hpp ih =>
    have : cap = [] := by simpa [AV.noRef, AV.pure1] using hp
    subst this
    exact .fn f [] vals val hs (fun j x hx => by simp at hx) (fun j x hx => by simp at hx) (fun x hx => by simp at hx)
  | agg cs vals val hs hc hv hpp ih =>
    refine .agg cs vals val hs hc (fun j x hx => ih j x hx ?_) hpp
    simp only [AV.noRef, List.all_eq_true] at hp
    exact pure1_noRef (hp x (mem_of_getElem? hx))
  | tup cs vals val hs hc hv hpp ih =>
    refine .tup cs vals val hs hc (fun j x hx => ih j x hx ?_) hpp
    simp only [AV.noRef, List.all_eq_true] at hp
    have := hp x (mem_of_getElem? hx)
    cases x with
    | agg cs => exact this
    | tup ws => exact absurd rfl (hpp _ (mem_of_getElem? hx) ws)
    | _ => exact pure1_noRef this
  | _ => simp [AV.noRef, AV.pure1] at hp

/-- What a callee that is alone knows of memory. -/
def hideG (g : Gh) (mrk : Nat → Nat) : Gh := ⟨fun _ => none, [], mrk, fun _ => .no, false⟩

theorem hide_wf (hw : WF g w) (mrk : Nat → Nat) (hm : ∀ b, mrk b ≠ 0 → ∃ arr e fr, w.heap[b]? = some (.cells arr e fr) ∧ mrk b ≤ arr.size) : WF (hideG g mrk) w where
  inj := fun k k' b h => by cases h
  lbgb := fun k b h => by cases h
  nd := by simp [hideG]
  ltl := fun k b h => by cases h
  ltg := fun b h => by simp [hideG] at h
  mrl := fun k b h => by cases h
  mrg := fun b h => by simp [hideG] at h
  mrb := hm
  owlt := fun b h => absurd rfl h

theorem hide_hrel (mrk : Nat → Nat) : HRel (hideG g mrk) w [] where
  len := rfl
  cells := fun k cs h => by simp at h
  maps := fun k es h => by simp at h

/-- Behind such a call: what the caller knows. -/
def backG (g g' : Gh) (w : World) (ow : Nat → Own) : Gh :=
  ⟨g.lb, g.gb, fun b => if b < w.heap.size then g.mrk b else g'.mrk b, fun b => if b < w.heap.size then g.ow b else ow b, g.ro⟩

theorem hide_old {mrk : Nat → Nat} (hE : Ext (hideG g mrk) w g' w') {b : Nat} (hb : b < w.heap.size) : w'.heap[b]? = w.heap[b]? ∧ g'.mrk b = mrk b ∧ g'.ow b = .no :=
  hE.keep b hb (fun k h => by cases h) (by simp [hideG]) rfl

theorem back_grow {mrk : Nat → Nat} (hw : WF g w) (hmk : ∀ b, g.mrk b ≤ mrk b) (hE : Ext (hideG g mrk) w g' w') (ow : Nat → Own) : Grow g w (backG g g' w ow) w' where
  ext := {
    size := hE.size
    gb := fun _ _ h => h
    mrk := fun b => by
      simp only [backG]
      split
      · exact Nat.le_refl _
      · rename_i hb
        rw [(hw.noMrk (by omega)).1]
        exact Nat.zero_le _
    cell := fun b j hj => hE.cell b j (Nat.lt_of_lt_of_le hj (hmk b))
    shp := hE.shp
    keep := fun b hb _ _ ho => ⟨(hide_old hE hb).1, by simp only [backG, if_pos hb], by simp only [backG, if_pos hb]; exact ho⟩
    nlb := fun k b h => .inl ⟨k, h⟩
    ngb := fun _ h => .inl h
    os := hE.os
    out := hE.out
    tape := hE.tape
    roe := rfl
    rog := fun _ => ⟨rfl, fun b hb => (hide_old hE (hw.ltg b hb)).1⟩ }
  lb := rfl
  old := fun b hb => ⟨(hide_old hE hb).1, by simp only [backG, if_pos hb], by simp only [backG, if_pos hb]⟩

theorem back_wf {mrk : Nat → Nat} (hw : WF g w) (hw' : WF g' w') (hE : Ext (hideG g mrk) w g' w') (ow : Nat → Own) (how : ∀ b, ow b ≠ .no → b < w'.heap.size) : WF (backG g g' w ow) w' where
  inj := hw.inj
  lbgb := hw.lbgb
  nd := hw.nd
  ltl := fun k b h => Nat.lt_of_lt_of_le (hw.ltl k b h) hE.size
  ltg := fun b h => Nat.lt_of_lt_of_le (hw.ltg b h) hE.size
  mrl := fun k b h => by
    have := hw.ltl k b h
    simp only [backG, if_pos this]
    exact hw.mrl k b h
  mrg := fun b h => by
    have := hw.ltg b h
    simp only [backG, if_pos this]
    exact hw.mrg b h
  mrb := fun b hb => by
    simp only [backG] at hb ⊢
    split at hb
    · rename_i hlt
      obtain ⟨arr, e, fr, h1, h2⟩ := hw.mrb b hb
      rw [if_pos hlt]
      exact ⟨arr, e, fr, by rw [(hide_old hE hlt).1]; exact h1, h2⟩
    · rename_i hlt
      rw [if_neg hlt]
      exact hw'.mrb b hb
  owlt := fun b hb => by
    simp only [backG] at hb
    split at hb
    · rename_i hlt
      exact Nat.lt_of_lt_of_le hlt hE.size
    · exact how b hb

theorem back_rel {mrk : Nat → Nat} (hR : Rel g st a w) (hmk : ∀ b, g.mrk b ≤ mrk b) (hw' : WF g' w') (hE : Ext (hideG g mrk) w g' w') (ow : Nat → Own) (how : ∀ b, ow b ≠ .no → b < w'.heap.size) : Rel (backG g g' w ow) st a w' :=
  have hG := back_grow hR.wf hmk hE ow
  ⟨hR.df, hR.sz, hG.tr hR, hG.lr hR, hG.hr hR rfl, back_wf hR.wf hw' hE ow how, hR.ro⟩
end
end Go.Ab
namespace Go.Ab

section
variable {T : Tab} {P : Program} {C : Nat → List AV → List GB → Option (AV × List GB)} {Lp : Nat → Nat → Code → St → Option (Ex × St)}
  {g g' : Gh} {w w' : World} {st st' : St} {a : Act}

theorem run_callFunc {f : Nat} {vals : Array Value} (h : ∃ fn, P.funcs[f]? = some fn ∧ fn.body.isNone = false ∧ (fn.name == "runtime.NumGoroutine") = false) : (callFunc f vals).run P w = .ok (.enter f vals) w := by
  obtain ⟨fn, h1, h2, h3⟩ := h
  have h3' : fn.name ≠ "runtime.NumGoroutine" := by simpa using h3
  have h2' : fn.body ≠ none := by
    intro h
    rw [h] at h2
    simp at h2
  simp [callFunc, h1, h2', h3']

theorem realF_lt {f : Nat} (h : f < 1000000) : realF f = f ∧ Nat.ble 1000000 f = false := by
  have : Nat.ble 1000000 f = false := by
    cases hb : Nat.ble 1000000 f with
    | false => rfl
    | true => have := Nat.le_of_ble_eq_true hb; omega
  exact ⟨by unfold realF; rw [this]; rfl, this⟩

theorem stripAll_own (x : AV) : x.stripAll.slOwn = .no := by
  cases x <;> first
    | rfl
    | exact strip_own _

/-- What a value's flag names. -/
theorem flag_block {sz : Nat} {n : Bool} {rows : List (List AV)} {o : Own} {r : Value} (hc : cls o = true) (hf : FL g' w' (.sl sz n rows o) r) :
    r = .slice none 0 0 ∨ ∃ b cap arr e fr, r = .slice (some ⟨b, 0, none⟩) rows.length cap ∧ g'.ow b = o ∧ rows.length * sz = g'.mrk b ∧ w'.heap[b]? = some (.cells arr e fr) ∧ arr.size = cap * sz ∧ (∀ j, j < arr.size → ¬(fr.1 ≤ j ∧ j < fr.2)) ∧ (1 < sz → ¬(fr.1 ≤ arr.size ∧ arr.size < fr.2)) := by
  rcases hf with h | h | h | ⟨b, off, cap, arr, e, fr, h1, h2, h3, h4, h5, h6, rfl, h7⟩
  · subst h; simp [cls] at hc
  · subst h; simp [cls] at hc
  · exact .inl h
  · exact .inr ⟨b, cap, arr, e, fr, h1, h2, by omega, h4, by omega, h6, h7⟩

/-- Behind a call that was alone: a value without a flag. -/
theorem back_plain {mrk : Nat → Nat} {d : Option Nat} {x : AV} {r : Value} (hR : Rel g st a w) (hmk : mrk = g.mrk) (hw' : WF g' w') (hE : Ext (hideG g mrk) w g' w') (hx : VR g' w' x r) (hp : x.noRef = true) (hown : x.slOwn = .no) :
    Nx g w (st.put d x) (a.put d r) w' := by
  subst hmk
  have hle : ∀ b, g.mrk b ≤ g.mrk b := fun _ => Nat.le_refl _
  refine ⟨backG g g' w (fun _ => .no), (back_grow hR.wf hle hE _).ext, rel_put (back_rel hR hle hw' hE _ (fun b h => absurd rfl h)) d (hx.pure (fun b => ?_) (fun _ _ _ => rfl) hp) (FL_no (fresh_no _ hown))⟩
  simp only [backG]
  split
  · rename_i hb
    rw [(hide_old hE hb).2.1]
    exact Nat.le_refl _
  · exact Nat.le_refl _

/-- A value with one: the row is the caller's now. -/
theorem back_flag {mrk : Nat → Nat} {d sz : Nat} {n : Bool} {rows : List (List AV)} {o : Own} {r : Value} (hR : Rel g st a w) (hmk : mrk = g.mrk) (hw' : WF g' w') (hE : Ext (hideG g mrk) w g' w') (hx : VR g' w' (.sl sz n rows o) r)
    (hc : cls o = true) (hf : FL g' w' (.sl sz n rows o) r) : Nx g w (st.set d (.sl sz n rows (.tc d))) (a.put (some d) r) w' := by
  subst hmk
  have hle : ∀ b, g.mrk b ≤ g.mrk b := fun _ => Nat.le_refl _
  have hm : ∀ ow b, g'.mrk b ≤ (backG g g' w ow).mrk b := by
    intro ow b
    simp only [backG]
    split
    · rename_i hb
      rw [(hide_old hE hb).2.1]
      exact Nat.le_refl _
    · exact Nat.le_refl _
  rcases flag_block hc hf with rfl | ⟨b, cap, arr, e, fr, rfl, h2, h3, h4, h5, h6, h7⟩
  · refine ⟨backG g g' w (fun _ => .no), (back_grow hR.wf hle hE _).ext, rel_put (back_rel hR hle hw' hE _ (fun b h => absurd rfl h)) (some d) ((VR_own (.tc d) hx).pure (hm _) (fun _ _ _ => rfl) rfl) (FL_fresh _ (.inr (.inr (.inl rfl))))⟩
  · have hnew : ¬ b < w.heap.size := by
      intro hb
      rw [(hide_old hE hb).2.2] at h2
      rw [← h2] at hc
      simp [cls] at hc
    refine ⟨backG g g' w (fun b' => if b' = b then .tc d else .no), (back_grow hR.wf hle hE _).ext, rel_put (back_rel hR hle hw' hE _ (fun b' h => ?_)) (some d) ((VR_own (.tc d) hx).pure (hm _) (fun _ _ _ => rfl) rfl) (FL_fresh _ ?_)⟩
    · by_cases hb : b' = b
      · subst hb; exact lt_of_heap h4
      · rw [if_neg hb] at h; exact absurd rfl h
    · refine .inr (.inr (.inr ⟨b, 0, cap, arr, e, fr, rfl, ?_, ?_, h4, by omega, h6, rfl, h7⟩))
      · simp only [backG, if_neg hnew, if_true]
      · simp only [backG, if_neg hnew]
        omega
end
end Go.Ab
namespace Go.Ab

section
variable {T : Tab} {P : Program} {C : Nat → List AV → List GB → Option (AV × List GB)} {Lp : Nat → Nat → Code → St → Option (Ex × St)}
  {g g' : Gh} {w w' : World} {st st' : St} {a : Act}

/-- One more local block. -/
def lbG (g : Gh) (d b : Nat) : Gh := ⟨fun k => if k = d then some b else g.lb k, g.gb, g.mrk, g.ow, g.ro⟩

theorem ext_lb {d b : Nat} (h : Ext g w g' w') (hb : w.heap.size ≤ b) : Ext g w (lbG g' d b) w' where
  size := h.size
  gb := h.gb
  mrk := h.mrk
  cell := h.cell
  shp := h.shp
  keep := h.keep
  nlb := fun k b' hk => by
    simp only [lbG] at hk
    split at hk
    · simp only [Option.some.injEq] at hk
      subst hk
      exact .inr hb
    · exact h.nlb k b' hk
  ngb := h.ngb
  os := h.os
  out := h.out
  tape := h.tape
  roe := h.roe
  rog := h.rog

theorem lb_vext (d b : Nat) : VExt (fun k => !(k == d)) g w (lbG g d b) w where
  lb := fun k b' hk h => by
    simp only [Bool.not_eq_true', beq_eq_false_iff_ne, ne_eq] at hk
    simp only [lbG, if_neg hk]
    exact h
  gb := fun _ _ h => h
  mrk := fun _ => Nat.le_refl _
  cell := fun _ _ _ => rfl
  shp := fun b arr e fr _ h => ⟨arr, e, h, rfl⟩

theorem rel_adopt {b d : Nat} (hR : Rel g st a w) {cs : List AV} {arr : Array Value} {e : TypeId} {fr : Nat × Nat} (hb : w.heap[b]? = some (.cells arr e fr)) (hfr : ∀ j, j < arr.size → ¬(fr.1 ≤ j ∧ j < fr.2)) (hlen : cs.length ≤ arr.size)
    (hcs : ∀ (j : Nat) x, cs[j]? = some x → ∃ v, arr[j]? = some v ∧ VR g w x v ∧ x.isCell = true ∧ x.slOwn = .no) (hdep : ∀ x ∈ cs, x.depOk (fun k => !(k == d)) = true)
    (hnl : ∀ k, g.lb k ≠ some b) (hng : b ∉ g.gb) (hm : g.mrk b = 0) (ho : g.ow b = .no) {X : AV} {V : Value} (hX : ∀ g', g'.lb d = some b → VR g' w X V) (hown : X.slOwn = .no) :
    Rel (lbG g d b) (St.set { killLp st d with L := upd (killLp st d).L d cs } d X) (a.put (some d) V) w := by
  have hw := hR.wf
  have hE := lb_vext (g := g) (w := w) d b
  have hF : ∀ o, cls o = true → ∀ b', g.ow b' = o → g.ow b' = o ∧ g.mrk b' = g.mrk b' ∧ w.heap[b']? = w.heap[b']? := fun o _ b' hb' => ⟨hb', rfl, rfl⟩
  refine ⟨hR.df, ?_, ?_, ?_, ?_, ?_, hR.ro⟩
  · simp [St.set, upd_eq_set, killLp, Act.put, hR.sz]
  · intro i x hx
    simp only [St.set, upd_eq_set, killLp] at hx
    rw [List.getElem?_set] at hx
    simp only [Act.put]
    rw [Array.getElem?_setIfInBounds]
    by_cases hdi : d = i
    · subst hdi
      rw [if_pos rfl] at hx
      split at hx
      · rename_i hlt
        simp only [Option.some.injEq] at hx
        subst hx
        refine ⟨V, ?_, hX _ (by simp [lbG]), FL_no (fresh_no _ hown)⟩
        simp at hlt
        simp [hR.sz, hlt]
      · simp at hx
    · rw [if_neg hdi] at hx
      rw [if_neg hdi]
      rw [List.getElem?_map] at hx
      cases hti : st.tm[i]? with
      | none => rw [hti] at hx; simp at hx
      | some y =>
        rw [hti] at hx
        simp only [Option.map_some, Option.some.injEq] at hx
        obtain ⟨v, h1, h2, h3⟩ := hR.tr i y hti
        refine ⟨v, h1, ?_⟩
        subst hx
        split
        · rename_i hok
          exact TR_t hE (fun x => freshU _ _ ⟨rfl, rfl, rfl⟩ x) hF ⟨h2, h3⟩ hok
        · exact ⟨.junk _, trivial⟩
  · intro k L hk hne
    simp only [St.set, upd_eq_set, killLp] at hk
    rw [List.getElem?_set] at hk
    by_cases hdk : d = k
    · subst hdk
      rw [if_pos rfl] at hk
      split at hk
      · simp only [Option.some.injEq] at hk
        subst hk
        refine ⟨b, by simp [lbG], arr, e, fr, hb, hlen, hfr, fun j x hx => ?_⟩
        obtain ⟨v, h1, h2, h3, h4⟩ := hcs j x hx
        refine ⟨v, h1, h2.mono hE (hdep x (mem_of_getElem? hx)), ?_, h3, ?_⟩
        · cases x <;> first
            | trivial
            | (simp only [AV.slOwn] at h4; subst h4; exact .inl rfl)
        · cases x <;> first
            | rfl
            | (simp only [AV.slOwn] at h4; subst h4; rfl)
      · simp at hk
    · rw [if_neg hdk] at hk
      rw [List.getElem?_map] at hk
      cases hLk : st.L[k]? with
      | none => rw [hLk] at hk; simp at hk
      | some L0 =>
        rw [hLk] at hk
        simp only [Option.map_some, Option.some.injEq] at hk
        subst hk
        have hne0 : L0 ≠ [] := by rintro rfl; simp at hne
        obtain ⟨b0, h1, h2⟩ := hR.lr k L0 hLk hne0
        refine ⟨b0, by simp only [lbG]; rw [if_neg (fun h => hdk h.symm)]; exact h1, ?_⟩
        obtain ⟨arr0, e0, fr0, q1, q2, q3, q4⟩ := h2
        refine ⟨arr0, e0, fr0, q1, by simpa using q2, q3, fun j x hx => ?_⟩
        rw [List.getElem?_map] at hx
        cases hj : L0[j]? with
        | none => rw [hj] at hx; simp at hx
        | some y =>
          rw [hj] at hx
          simp only [Option.map_some, Option.some.injEq] at hx
          obtain ⟨v, r1, r2, r3, r4, r5⟩ := q4 j y hj
          refine ⟨v, r1, ?_⟩
          subst hx
          split
          · rename_i hok
            exact ⟨r2.mono hE hok, FL_t (fun hc b' hb' => ⟨hb', rfl, rfl⟩) r3, r4, r5⟩
          · exact ⟨.junk _, trivial, rfl, rfl⟩
  · exact HRel_t hE rfl (fun _ _ => rfl) (fun k j b' hb' => ⟨hb', rfl, rfl⟩) hR.hr
  · refine ⟨?_, ?_, hw.nd, ?_, hw.ltg, ?_, hw.mrg, hw.mrb, hw.owlt⟩
    · intro k k' b' h1 h2
      simp only [lbG] at h1 h2
      split at h1 <;> split at h2
      · omega
      · simp only [Option.some.injEq] at h1
        subst h1
        exact absurd h2 (hnl k')
      · simp only [Option.some.injEq] at h2
        subst h2
        exact absurd h1 (hnl k)
      · exact hw.inj k k' b' h1 h2
    · intro k b' h1
      simp only [lbG] at h1
      split at h1
      · simp only [Option.some.injEq] at h1
        subst h1
        exact hng
      · exact hw.lbgb k b' h1
    · intro k b' h1
      simp only [lbG] at h1
      split at h1
      · simp only [Option.some.injEq] at h1
        subst h1
        exact lt_of_heap hb
      · exact hw.ltl k b' h1
    · intro k b' h1
      simp only [lbG] at h1
      split at h1
      · simp only [Option.some.injEq] at h1
        subst h1
        exact ⟨hm, ho⟩
      · exact hw.mrl k b' h1
end
end Go.Ab
namespace Go.Ab

section
variable {T : Tab} {P : Program} {C : Nat → List AV → List GB → Option (AV × List GB)} {Lp : Nat → Nat → Code → St → Option (Ex × St)}
  {g g' : Gh} {w w' : World} {st st' : St} {a : Act}

theorem VR_noSl {x : AV} {v : Value} (h : VR g w x v) (hn : noSl x = true) : VR g' w' x v := by
  cases h <;> first
    | exact .bool _
    | exact .int _ _
    | (exact .str _ _ (by assumption))
    | simp [noSl] at hn

theorem noSl_pure {x : AV} (h : noSl x = true) : x.pure1 = true ∧ x.strip = x ∧ x.slOwn = .no := by
  cases x <;> simp_all [noSl, AV.pure1, AV.strip, AV.slOwn]

theorem back_thaw {mrk : Nat → Nat} {d sz : Nat} {rows : List (List AV)} {o : Own} {r : Value} (hR : Rel g st a w) (hmk : mrk = g.mrk) (hw' : WF g' w') (hE : Ext (hideG g mrk) w g' w') (hx : VR g' w' (.sl sz false rows o) r)
    (hc : cls o = true) (hf : FL g' w' (.sl sz false rows o) r) (hns : ∀ q ∈ rows, ∀ x ∈ q, noSl x = true) :
    Nx g w (St.set { killLp st d with L := upd (killLp st d).L d (rows.flatten.map AV.strip) } d (.vs d 0 rows.length sz)) (a.put (some d) r) w' := by
  subst hmk
  have hw := hR.wf
  have hle : ∀ b, g.mrk b ≤ g.mrk b := fun _ => Nat.le_refl _
  rcases flag_block hc hf with rfl | ⟨b, cap, arr, e, fr, rfl, h2, h3, h4, h5, h6, _⟩
  · cases hx
  · have hnew : w.heap.size ≤ b := by
      rcases Nat.lt_or_ge b w.heap.size with hb | hb
      · rw [(hide_old hE hb).2.2] at h2
        rw [← h2] at hc
        simp [cls] at hc
      · exact hb
    have hE2 : Ext (hideG g g.mrk) w ⟨g'.lb, g'.gb, fun b' => if b' = b then 0 else g'.mrk b', fun b' => if b' = b then .no else g'.ow b', g'.ro⟩ w' := by
      refine ⟨hE.size, hE.gb, fun b' => ?_, hE.cell, hE.shp, fun b' hb' h1 h2 h3 => ?_, hE.nlb, hE.ngb, hE.os, hE.out, hE.tape, hE.roe, hE.rog⟩
      · by_cases hbb : b' = b
        · subst hbb
          have : (hideG g g.mrk).mrk b' = 0 := (hw.noMrk hnew).1
          rw [this]
          exact Nat.zero_le _
        · simp only [if_neg hbb]
          exact hE.mrk b'
      · have hbb : b' ≠ b := by omega
        obtain ⟨k1, k2, k3⟩ := hE.keep b' hb' h1 h2 h3
        exact ⟨k1, by simp only [if_neg hbb]; exact k2, by simp only [if_neg hbb]; exact k3⟩
    have hW2 : WF ⟨g'.lb, g'.gb, fun b' => if b' = b then 0 else g'.mrk b', fun b' => if b' = b then .no else g'.ow b', g'.ro⟩ w' := by
      refine ⟨hw'.inj, hw'.lbgb, hw'.nd, hw'.ltl, hw'.ltg, fun k b' h => ?_, fun b' h => ?_, fun b' h => ?_, fun b' h => ?_⟩
      · by_cases hbb : b' = b
        · simp [hbb]
        · simp only [if_neg hbb]; exact hw'.mrl k b' h
      · by_cases hbb : b' = b
        · simp [hbb]
        · simp only [if_neg hbb]; exact hw'.mrg b' h
      · by_cases hbb : b' = b
        · simp [hbb] at h
        · simp only [if_neg hbb] at h ⊢; exact hw'.mrb b' h
      · by_cases hbb : b' = b
        · simp [hbb] at h
        · simp only [if_neg hbb] at h; exact hw'.owlt b' h
    have hR1 := back_rel hR hle hW2 hE2 (fun _ => .no) (fun b' h => absurd rfl h)
    refine ⟨_, ext_lb (d := d) (back_grow hw hle hE2 (fun _ => .no)).ext hnew, rel_adopt hR1 h4 h6 ?_ (fun j x hj => ?_) (fun x hx' => ?_) (fun k hk => ?_) (fun hk => ?_) ?_ ?_ (fun g2 hg2 => ?_) rfl⟩
    · cases hx with
      | sl _ _ _ _ _ _ val hcap hz hcc hv hp hm =>
        rw [List.length_map, rows_flat hz, h5]
        exact Nat.mul_le_mul_right _ hcap
    · cases hx with
      | sl _ _ _ _ _ _ val hcap hz hcc hv hp hm =>
        rw [List.getElem?_map] at hj
        cases hfj : rows.flatten[j]? with
        | none => rw [hfj] at hj; simp at hj
        | some y =>
          rw [hfj] at hj
          simp only [Option.map_some, Option.some.injEq] at hj
          subst hj
          obtain ⟨q, q1, q2⟩ := List.mem_flatten.1 (mem_of_getElem? hfj)
          have hn := hns q q1 y q2
          obtain ⟨n1, n2, n3⟩ := noSl_pure hn
          obtain ⟨news, s1, s2, s3, _⟩ := sl_news hz hcc hv
          obtain ⟨u, t1, t2⟩ := s3 j y hfj
          have t3 := s2 j u t1
          rw [add_none, cell?_of_block h4, Nat.zero_add] at t3
          rw [n2]
          exact ⟨u, t3, VR_noSl t2 hn, noLp1_isCell (pure1_noLp1 n1), n3⟩
    · obtain ⟨y, hy, rfl⟩ := List.mem_map.1 hx'
      obtain ⟨q, q1, q2⟩ := List.mem_flatten.1 hy
      obtain ⟨n1, n2, _⟩ := noSl_pure (hns q q1 y q2)
      rw [n2]
      exact pure1_cellDep _ n1
    · have := hw.ltl k b hk
      omega
    · have := hw.ltg b hk
      omega
    · simp only [backG, if_neg (show ¬ b < w.heap.size by omega), if_true]
    · simp only [backG, if_neg (show ¬ b < w.heap.size by omega)]
    · cases hx with
      | sl _ _ _ _ _ _ val hcap hz hcc hv hp hm => exact .vs d 0 rows.length sz b cap arr e fr hg2 hcap h4 (by omega) h6
end
end Go.Ab
namespace Go.Ab

section
variable {T : Tab} {P : Program} {C : Nat → List AV → List GB → Option (AV × List GB)} {Lp : Nat → Nat → Code → St → Option (Ex × St)}
  {g g' : Gh} {w w' : World} {st st' : St} {a : Act}

/-- A view of a local array, as the callee reads it. -/
theorem snap_sound {x : AV} {v : Value} (hw : WF g w) (hL : LRel g w st.L) (h : VR g w x v) (hok : snapOk st x = true) (hp : (snapOf st x).stripAll.noRef = true) :
    VR (hideG g (finG g w).mrk) w (snapOf st x).stripAll v := by
  have hle : ∀ b, g.mrk b ≤ (finG g w).mrk b := (fin_vext hw).mrk
  cases x with
  | vs k o n sz =>
    simp only [snapOk, Bool.and_eq_true, decide_eq_true_eq, List.all_eq_true] at hok
    obtain ⟨⟨h1, h2⟩, h3⟩ := hok
    simp only [snapOf, AV.stripAll, AV.strip]
    rw [nthL_eq_getD] at h1 h3 ⊢
    generalize hLk : st.L.getD k [] = Lk at h1 h3 ⊢
    cases h with
    | vs _ _ _ _ b cap arr e fr hb hcap hbl hbs =>
      have hdl : n * sz ≤ (Lk.drop o).length := by rw [List.length_drop]; omega
      have hcell : ∀ (j : Nat) x, Lk[j]? = some x → ∃ u, arr[j]? = some u ∧ VR g w x u := by
        intro j x hj
        have hget : st.L[k]? = some Lk := by
          cases hq : st.L[k]? with
          | none =>
            have : Lk = [] := by rw [← hLk]; simp [List.getD, hq]
            subst this
            simp at hj
          | some L0 => rw [← hLk]; simp [List.getD, hq]
        obtain ⟨b', hb', arr2, e2, fr2, r1, r2, r3, r4⟩ := hL k Lk hget (by rintro rfl; simp at hj)
        rw [hb] at hb'
        obtain rfl : b = b' := by simpa using hb'
        rw [hbl] at r1
        cases r1
        obtain ⟨u, q1, q2, _⟩ := r4 j x hj
        exact ⟨u, q1, q2⟩
      have hcell2 : ∀ (i : Nat) r j x, (chunk sz n (Lk.drop o))[i]? = some r → r[j]? = some x → ∃ u, arr[o + i * sz + j]? = some u ∧ VR g w x u ∧ x.pure1 = true := by
        intro i r j x hi hj
        have hcj := chunk_cell hdl hi hj
        have hlt : i * sz + j < n * sz := by
          obtain ⟨q1, _, q3⟩ := chunk_row hdl hi
          have q4 := lt_of_getElem? hj
          have : (i + 1) * sz ≤ n * sz := Nat.mul_le_mul_right _ q1
          rw [Nat.add_mul] at this
          omega
        have hpx : x.pure1 = true := h3 x (by
          refine mem_of_getElem? (i := i * sz + j) ?_
          rw [List.getElem?_take, if_pos hlt]
          exact hcj)
        rw [List.getElem?_drop] at hcj
        obtain ⟨u, q1, q2⟩ := hcell _ x hcj
        exact ⟨u, by rw [Nat.add_assoc]; exact q1, q2, hpx⟩
      have hck := chunk_length sz n (Lk.drop o)
      have hle2 : n * sz ≤ cap * sz := Nat.mul_le_mul_right _ hcap
      have := VR.sl (g := hideG g (finG g w).mrk) (w := w) sz (chunk sz n (Lk.drop o)) .no b o cap (fun i j => arr.getD (o + i * sz + j) undef) (by rw [hck]; exact hcap) (chunk_rows hdl)
        (fun i r j x hi hj => by
          obtain ⟨u, q1, _⟩ := hcell2 i r j x hi hj
          rw [cell?_of_block hbl, Array.getD_eq_getD_getElem?, q1]
          rfl)
        (fun i r j x hi hj => by
          obtain ⟨u, q1, q2, q3⟩ := hcell2 i r j x hi hj
          rw [Array.getD_eq_getD_getElem?, q1]
          exact q2.pure (g' := hideG g (finG g w).mrk) hle (fun _ _ _ => rfl) (pure1_noRef q3))
        (fun r hr x hx => by
          obtain ⟨i, hi⟩ := List.getElem?_of_mem hr
          obtain ⟨j, hj⟩ := List.getElem?_of_mem hx
          obtain ⟨_, _, _, q3⟩ := hcell2 i r j x hi hj
          exact q3)
        (by
          have : (hideG g (finG g w).mrk).mrk b = arr.size := by
            show (finG g w).mrk b = _
            rw [finG_mrk_lb hb]
            unfold blockSize
            rw [hbl]
          rw [hck, this]
          omega)
      rw [hck] at this
      exact this
  | _ => exact (VR_stripAll h).pure (g' := hideG g (finG g w).mrk) hle (fun _ _ _ => rfl) hp
end
end Go.Ab
namespace Go.Ab

section
variable {T : Tab} {P : Program} {C : Nat → List AV → List GB → Option (AV × List GB)} {Lp : Nat → Nat → Code → St → Option (Ex × St)}
  {g g' : Gh} {w w' : World} {st st' : St} {a : Act}

/-- A call that was reckoned, made from a callee's view of memory. -/
theorem upon_call {o : Oper} {f f' : Nat} {vals : List Value} {as : List AV} {H H' : List GB} {v : AV} {gc : Gh} {next : Act → World → Prop} {Q : Exit → Act → World → Prop} (hF : FunLaw P C) (hC : C f' as H = some (v, H')) (hf : realF f' = f)
    (hargs : ArgsR gc w as vals) (hown : ∀ x ∈ as, x.slOwn = .no) (hlb : ∀ k, gc.lb k = none) (hw : WF gc w) (hH : HRel gc w H) (hro : gc.ro = Nat.ble 1000000 f')
    (hn : ∀ r w' g', Ext gc w g' w' → WF g' w' → HRel g' w' H' → VR g' w' v r → FL g' w' v r → v.noLp = true → next (a.put o.dst r) w') :
    o.upon P a next Q ((callFunc f vals.toArray).run P w) := by
  obtain ⟨h1, h2⟩ := hF f' as H v H' gc w vals hC hargs hown hlb hw hH hro
  rw [hf] at h1 h2
  rw [run_callFunc h1]
  simp only [Oper.upon_enter]
  refine h2.mono fun e w' he => ?_
  cases e with
  | returned r =>
    obtain ⟨g', q1, q2, q3, q4, q5, q6⟩ := he
    exact hn r w' g' q1 q2 q3 q4 q5 q6
  | panicked ch => exact he.elim
  | outgrown => exact he.elim

theorem noRef_own_tc {v : AV} : v.slOwn = .no ∨ ∃ sz n rows o, v = .sl sz n rows o := by
  cases v <;> first
    | exact .inl rfl
    | exact .inr ⟨_, _, _, _, rfl⟩

theorem back_fin {d : Option Nat} {x : AV} {r : Value} (hR : Rel g st a w) (hw' : WF g' w') (hE : Ext (hideG g (finG g w).mrk) w g' w') (hx : VR g' w' x r) (hn : noSl x = true) : Nx g w (st.put d x) (a.put d r) w' := by
  have hle : ∀ b, g.mrk b ≤ (finG g w).mrk b := (fin_vext hR.wf).mrk
  exact ⟨backG g g' w (fun _ => .no), (back_grow hR.wf hle hE _).ext, rel_put (back_rel hR hle hw' hE _ (fun b h => absurd rfl h)) d (VR_noSl hx hn) (FL_no (fresh_no _ (noSl_pure hn).2.2))⟩

theorem snap_not {x : AV} (h : isVs x = false) : snapOf st x = x := by
  cases x <;> simp_all [isVs, snapOf]

theorem call0_sound {fid f : Nat} {o : Oper} {args : List AV} {vals : List Value} {Q : Exit → Act → World → Prop} (hF : FunLaw P C) (hR : Rel g st a w) (hargs : ArgsR g w args vals) (hok : args.all (snapOk st) = true) (hf : f < 1000000)
    (hnr : (args.map fun v => (snapOf st v).stripAll).all AV.noRef = true)
    (h : den C Lp (.call 0 f (args.map fun v => (snapOf st v).stripAll) [] fun (v, _) => chk (v.noRef && (!args.any isVs || noSl v)) (match o.dst with
      | none => .ret st
      | some d => match v with
        | .sl sz n rows o => (match o with | .no | .self => .ret (st.set d (.sl sz n rows .no)) | _ => chk (!T.thaw fid d || rows.all (fun r => r.all noSl)) (thawed T fid d st (.sl sz n rows (.tc d))))
        | v => .ret (st.set d v))) = some st') :
    o.upon P a (fun a' w' => Nx g w st' a' w') Q ((callFunc f vals.toArray).run P w) := by
  obtain ⟨f1, f2⟩ := realF_lt hf
  rw [den_call] at h
  cases hC : C f (args.map fun v => (snapOf st v).stripAll) [] with
  | none => rw [hC] at h; simp at h
  | some vH =>
    obtain ⟨v, H'⟩ := vH
    rw [hC] at h
    simp only [Option.bind_some] at h
    obtain ⟨h1, h⟩ := den_chk_some C Lp h
    simp only [Bool.and_eq_true] at h1
    obtain ⟨hvr, hsn⟩ := h1
    have hown : ∀ x ∈ args.map fun v => (snapOf st v).stripAll, x.slOwn = .no := fun x hx => by
      obtain ⟨y, _, rfl⟩ := List.mem_map.1 hx
      exact stripAll_own _
    by_cases hs : args.any isVs = true
    · -- views of local arrays go in: nothing but a plain value comes out
      rw [hs] at hsn
      simp only [Bool.not_true, Bool.false_or] at hsn
      refine upon_call hF hC f1 (gc := hideG g (finG g w).mrk) ⟨by rw [List.length_map]; exact hargs.1, fun i x hx => ?_⟩ hown (fun _ => rfl) (hide_wf hR.wf _ (fin_wf hR.wf).mrb) (hide_hrel _) f2.symm (fun r w' g' q1 q2 q3 q4 q5 q6 => ?_)
      · rw [List.getElem?_map] at hx
        cases hi : args[i]? with
        | none => rw [hi] at hx; simp at hx
        | some y =>
          rw [hi] at hx
          simp only [Option.map_some, Option.some.injEq] at hx
          subst hx
          obtain ⟨u, r1, r2⟩ := hargs.2 i y hi
          exact ⟨u, r1, snap_sound hR.wf hR.lr r2 (List.all_eq_true.1 hok y (mem_of_getElem? hi)) (List.all_eq_true.1 hnr _ (List.mem_map.2 ⟨y, mem_of_getElem? hi, rfl⟩))⟩
      · have hst : st' = st.put o.dst v := by
          cases hd : o.dst with
          | none => rw [hd] at h; simp only [den_ret, Option.some.injEq] at h; exact h.symm
          | some d =>
            rw [hd] at h
            cases v <;> first
              | (simp only [den_ret, Option.some.injEq] at h; exact h.symm)
              | simp [noSl] at hsn
        subst hst
        exact back_fin hR q2 q1 q4 hsn
    · have hs' : args.any isVs = false := by simpa using hs
      refine upon_call hF hC f1 (gc := hideG g g.mrk) ⟨by rw [List.length_map]; exact hargs.1, fun i x hx => ?_⟩ hown (fun _ => rfl) (hide_wf hR.wf _ hR.wf.mrb) (hide_hrel _) f2.symm (fun r w' g' q1 q2 q3 q4 q5 q6 => ?_)
      · rw [List.getElem?_map] at hx
        cases hi : args[i]? with
        | none => rw [hi] at hx; simp at hx
        | some y =>
          rw [hi] at hx
          simp only [Option.map_some, Option.some.injEq] at hx
          subst hx
          obtain ⟨u, r1, r2⟩ := hargs.2 i y hi
          have hmem := mem_of_getElem? hi
          have hnv : isVs y = false := by
            have := List.any_eq_false.1 hs' y hmem
            simpa using this
          have hnry := List.all_eq_true.1 hnr _ (List.mem_map.2 ⟨y, hmem, rfl⟩)
          rw [snap_not hnv] at hnry ⊢
          exact ⟨u, r1, VR.pure (g := g) (w := w) (g' := hideG g g.mrk) (w' := w) (fun _ => Nat.le_refl _) (fun _ _ _ => rfl) (VR_stripAll r2) hnry⟩
      · cases hd : o.dst with
        | none =>
          rw [hd] at h
          simp only [den_ret, Option.some.injEq] at h
          subst h
          have hle : ∀ b, g.mrk b ≤ g.mrk b := fun _ => Nat.le_refl _
          exact ⟨backG g g' w (fun _ => .no), (back_grow hR.wf hle q1 _).ext, back_rel hR hle q2 q1 _ (fun b h => absurd rfl h)⟩
        | some d =>
          rw [hd] at h
          rcases noRef_own_tc (v := v) with hno | ⟨sz, n, rows, o', rfl⟩
          · have hst : st' = st.set d v := by
              cases v <;> first
                | (simp only [den_ret, Option.some.injEq] at h; exact h.symm)
                | (simp only [AV.slOwn] at hno; subst hno; simp only [den_ret, Option.some.injEq] at h; exact h.symm)
            subst hst
            exact back_plain (d := some d) hR rfl q2 q1 q4 hvr hno
          · by_cases hc : cls o' = true
            · have h' : den C Lp (chk (!T.thaw fid d || rows.all (fun r => r.all noSl)) (thawed T fid d st (.sl sz n rows (.tc d)))) = some st' := by
                cases o' <;> first
                  | exact h
                  | simp [cls] at hc
              obtain ⟨hth, h'⟩ := den_chk_some C Lp h'
              unfold thawed at h'
              split at h'
              · rename_i ht
                rw [ht] at hth
                simp only [Bool.not_true, Bool.false_or, List.all_eq_true] at hth
                simp only [den_br, den_ret] at h'
                cases n with
                | true =>
                  simp only [cond_true, Option.some.injEq] at h'
                  subst h'
                  have hq : VR g' w' (.sl sz true [] .no) r := by
                    cases q4
                    exact .slnil _ _
                  exact back_plain (d := some d) hR rfl q2 q1 hq rfl rfl
                | false =>
                  simp only [cond_false, Option.some.injEq] at h'
                  subst h'
                  exact back_thaw hR rfl q2 q1 q4 hc q5 hth
              · simp only [den_ret, Option.some.injEq] at h'
                subst h'
                exact back_flag hR rfl q2 q1 q4 hc q5
            · have h' : st' = st.set d (.sl sz n rows .no) := by
                cases o' <;> first
                  | (simp only [den_ret, Option.some.injEq] at h; exact h.symm)
                  | simp [cls] at hc
              subst h'
              exact back_plain (d := some d) hR rfl q2 q1 (VR_own .no q4) rfl rfl
end
end Go.Ab
namespace Go.Ab

section
variable {T : Tab} {P : Program} {C : Nat → List AV → List GB → Option (AV × List GB)} {Lp : Nat → Nat → Code → St → Option (Ex × St)}
  {g g' : Gh} {w w' : World} {st st' : St} {a : Act}

theorem noLp_dep {z : AV} (hz : z.noLp = true) : z.depOk (fun _ => false) = true := by
  cases z with
  | agg cs =>
    simp only [AV.noLp, List.all_eq_true] at hz
    simp only [AV.depOk, List.all_eq_true]
    intro c hc
    have := noLp1_cellDep (fun _ => false) (hz c hc)
    rw [depOk_cell _ (noLp1_isCell (hz c hc))] at this
    exact this
  | tup ws =>
    simp only [AV.noLp, List.all_eq_true] at hz
    simp only [AV.depOk, List.all_eq_true]
    intro c hc
    have h1 := hz c hc
    cases c with
    | agg cs =>
      simp only [List.all_eq_true] at h1 ⊢
      intro d hd
      have := noLp1_cellDep (fun _ => false) (h1 d hd)
      rw [depOk_cell _ (noLp1_isCell (h1 d hd))] at this
      exact this
    | _ => simp_all [AV.noLp1, AV.cellDep]
  | _ => exact noLp1_cellDep _ hz

/-- What a callee that only reads knows of memory. -/
def readG (g : Gh) : Gh := ⟨fun _ => none, g.gb, g.mrk, fun _ => .no, true⟩

theorem read_vext : VExt (fun _ => false) g w (readG g) w where
  lb := fun k b h => by cases h
  gb := fun _ _ h => h
  mrk := fun _ => Nat.le_refl _
  cell := fun _ _ _ => rfl
  shp := fun b arr e fr _ h => ⟨arr, e, h, rfl⟩

theorem read_wf (hw : WF g w) : WF (readG g) w where
  inj := fun k k' b h => by cases h
  lbgb := fun k b h => by cases h
  nd := hw.nd
  ltl := fun k b h => by cases h
  ltg := hw.ltg
  mrl := fun k b h => by cases h
  mrg := fun b h => ⟨(hw.mrg b h).1, rfl⟩
  mrb := hw.mrb
  owlt := fun b h => absurd rfl h

theorem read_hrel {H : List GB} (h : HRel g w H) : HRel (readG g) w (H.map stripGB) where
  len := by rw [List.length_map]; exact h.len
  cells := fun k cs hk => by
    rw [List.getElem?_map] at hk
    cases hi : H[k]? with
    | none => rw [hi] at hk; simp at hk
    | some B =>
      rw [hi] at hk
      cases B with
      | map es => simp [stripGB] at hk
      | cells cs0 =>
        simp only [Option.map_some, stripGB, Option.some.injEq, GB.cells.injEq] at hk
        subst hk
        obtain ⟨b, h1, ⟨arr, e, fr, r1, r2, r3, r4⟩, h3⟩ := h.cells k cs0 hi
        refine ⟨b, h1, ⟨arr, e, fr, r1, by rw [List.length_map]; exact r2, r3, fun j x hx => ?_⟩, fun x hx => ?_⟩
        · rw [List.getElem?_map] at hx
          cases hj : cs0[j]? with
          | none => rw [hj] at hx; simp at hx
          | some y =>
            rw [hj] at hx
            simp only [Option.map_some, Option.some.injEq] at hx
            subst hx
            obtain ⟨v, q1, q2, q3, q4, q5⟩ := r4 j y hj
            have hy := h3 y (mem_of_getElem? hj)
            refine ⟨v, q1, VR_strip (q2.mono read_vext (noLp1_cellDep _ hy)), ?_, strip_isCell q4, strip_okOwn y⟩
            rw [strip_atLoc]
            exact FL_no (strip_own y)
        · obtain ⟨y, hy, rfl⟩ := List.mem_map.1 hx
          have := h3 y hy
          cases y <;> simp_all [AV.strip, AV.noLp1]
  maps := fun k es hk => by
    rw [List.getElem?_map] at hk
    cases hi : H[k]? with
    | none => rw [hi] at hk; simp at hk
    | some B =>
      rw [hi] at hk
      cases B with
      | cells cs => simp [stripGB] at hk
      | map es0 =>
        simp only [Option.map_some, stripGB, Option.some.injEq, GB.map.injEq] at hk
        subst hk
        obtain ⟨b, ents, clk, h1, h2, h3⟩ := h.maps k es0 hi
        exact ⟨b, ents, clk, h1, h2, MR_t read_vext h3⟩
end
end Go.Ab
namespace Go.Ab

section
variable {T : Tab} {P : Program} {C : Nat → List AV → List GB → Option (AV × List GB)} {Lp : Nat → Nat → Code → St → Option (Ex × St)}
  {g g' : Gh} {w w' : World} {st st' : St} {a : Act}

theorem read_old (hw : WF g w) (hw' : WF g' w') (hE : Ext (readG g) w g' w') {b : Nat} (hb : b < w.heap.size) : w'.heap[b]? = w.heap[b]? ∧ g'.mrk b = g.mrk b := by
  obtain ⟨r1, r2⟩ := hE.rog rfl
  by_cases hg : b ∈ g.gb
  · refine ⟨r2 b hg, ?_⟩
    rw [(hw.mrg b hg).1]
    refine (hw'.mrg b ?_).1
    rw [r1]
    exact hg
  · obtain ⟨h1, h2, _⟩ := hE.keep b hb (fun k h => by cases h) hg rfl
    exact ⟨h1, h2⟩

theorem read_grow (hw : WF g w) (hw' : WF g' w') (hE : Ext (readG g) w g' w') : Grow g w (backG g g' w fun _ => .no) w' where
  ext := {
    size := hE.size
    gb := fun _ _ h => h
    mrk := fun b => by
      simp only [backG]
      split
      · exact Nat.le_refl _
      · rename_i hb
        rw [(hw.noMrk (by omega)).1]
        exact Nat.zero_le _
    cell := fun b j hj => hE.cell b j hj
    shp := hE.shp
    keep := fun b hb _ _ ho => ⟨(read_old hw hw' hE hb).1, by simp only [backG, if_pos hb], by simp only [backG, if_pos hb]; exact ho⟩
    nlb := fun k b h => .inl ⟨k, h⟩
    ngb := fun _ h => .inl h
    os := hE.os
    out := hE.out
    tape := hE.tape
    roe := rfl
    rog := fun _ => ⟨rfl, fun b hb => (read_old hw hw' hE (hw.ltg b hb)).1⟩ }
  lb := rfl
  old := fun b hb => ⟨(read_old hw hw' hE hb).1, by simp only [backG, if_pos hb], by simp only [backG, if_pos hb]⟩

theorem read_back_wf (hw : WF g w) (hw' : WF g' w') (hE : Ext (readG g) w g' w') : WF (backG g g' w fun _ => .no) w' where
  inj := hw.inj
  lbgb := hw.lbgb
  nd := hw.nd
  ltl := fun k b h => Nat.lt_of_lt_of_le (hw.ltl k b h) hE.size
  ltg := fun b h => Nat.lt_of_lt_of_le (hw.ltg b h) hE.size
  mrl := fun k b h => by
    have := hw.ltl k b h
    simp only [backG, if_pos this]
    exact hw.mrl k b h
  mrg := fun b h => by
    have := hw.ltg b h
    simp only [backG, if_pos this]
    exact hw.mrg b h
  mrb := fun b hb => by
    simp only [backG] at hb ⊢
    split at hb
    · rename_i hlt
      obtain ⟨arr, e, fr, h1, h2⟩ := hw.mrb b hb
      rw [if_pos hlt]
      exact ⟨arr, e, fr, by rw [(read_old hw hw' hE hlt).1]; exact h1, h2⟩
    · rename_i hlt
      rw [if_neg hlt]
      exact hw'.mrb b hb
  owlt := fun b hb => by
    simp only [backG] at hb
    split at hb
    · rename_i hlt
      exact Nat.lt_of_lt_of_le hlt hE.size
    · exact absurd rfl hb

theorem read_back {d : Option Nat} {x : AV} {r : Value} (hR : Rel g st a w) (hw' : WF g' w') (hE : Ext (readG g) w g' w') (hx : VR g' w' x r) (hp : x.noLp = true) : Nx g w (st.put d x.stripAll) (a.put d r) w' := by
  have hG := read_grow hR.wf hw' hE
  have hR1 : Rel (backG g g' w fun _ => .no) st a w' := ⟨hR.df, hR.sz, hG.tr hR, hG.lr hR, hG.hr hR rfl, read_back_wf hR.wf hw' hE, hR.ro⟩
  refine ⟨_, hG.ext, rel_put hR1 d (VR_stripAll (hx.mono (S := fun _ => false) ⟨fun k b h => (by cases h), fun k b h => ?_, fun b => ?_, fun _ _ _ => rfl, fun b arr e fr _ h => ⟨arr, e, h, rfl⟩⟩ (noLp_dep hp))) (FL_no (fresh_no _ (stripAll_own _)))⟩
  · have := (hE.rog rfl).1
    rw [this] at h
    exact h
  · simp only [backG]
    split
    · rename_i hb
      rw [(read_old hR.wf hw' hE hb).2]
      exact Nat.le_refl _
    · exact Nat.le_refl _
end
end Go.Ab
namespace Go.Ab

def gcOnly : Own → Own
  | .gc k j => .gc k j
  | _ => .no

section
variable {T : Tab} {P : Program} {C : Nat → List AV → List GB → Option (AV × List GB)} {Lp : Nat → Nat → Code → St → Option (Ex × St)}
  {g g' : Gh} {w w' : World} {st st' : St} {a : Act}

/-- What a callee that writes knows of memory. -/
def wrG (g : Gh) : Gh := ⟨fun _ => none, g.gb, g.mrk, fun b => gcOnly (g.ow b), false⟩

theorem wr_vext : VExt (fun _ => false) g w (wrG g) w where
  lb := fun k b h => by cases h
  gb := fun _ _ h => h
  mrk := fun _ => Nat.le_refl _
  cell := fun _ _ _ => rfl
  shp := fun b arr e fr _ h => ⟨arr, e, h, rfl⟩

theorem wr_wf (hw : WF g w) : WF (wrG g) w where
  inj := fun k k' b h => by cases h
  lbgb := fun k b h => by cases h
  nd := hw.nd
  ltl := fun k b h => by cases h
  ltg := hw.ltg
  mrl := fun k b h => by cases h
  mrg := fun b h => ⟨(hw.mrg b h).1, by simp only [wrG, (hw.mrg b h).2]; rfl⟩
  mrb := hw.mrb
  owlt := fun b h => hw.owlt b (fun h0 => h (by simp only [wrG, h0]; rfl))

theorem wr_hrel {H : List GB} (h : HRel g w H) : HRel (wrG g) w H :=
  HRel_t wr_vext rfl (fun _ _ => rfl) (fun k j b hb => ⟨by simp only [wrG, hb]; rfl, rfl, rfl⟩) h

/-- Behind such a call: what the caller knows. -/
def wbG (g g' : Gh) (w : World) : Gh := ⟨g.lb, g'.gb, g'.mrk, fun b => if b < w.heap.size ∧ gcOnly (g.ow b) = .no then g.ow b else gcOnly (g'.ow b), g.ro⟩

theorem wr_keep (hE : Ext (wrG g) w g' w') {b : Nat} (hb : b < w.heap.size) (hg : b ∉ g.gb) (ho : gcOnly (g.ow b) = .no) : w'.heap[b]? = w.heap[b]? ∧ g'.mrk b = g.mrk b ∧ g'.ow b = .no :=
  hE.keep b hb (fun k h => by cases h) hg ho

theorem wr_back {d : Option Nat} {x : AV} {r : Value} {H' : List GB} (hR : Rel g st a w) (hro : st.ro = false) (hw' : WF g' w') (hE : Ext (wrG g) w g' w') (hH : HRel g' w' H') (hx : VR g' w' x r) (hp : x.noLp = true) :
    Nx g w (St.put { st with H := H', conG := true } d x.stripAll) (a.put d r) w' := by
  have hw := hR.wf
  have hgro : g.ro = false := by rw [← hR.ro]; exact hro
  have hlb : ∀ k b, g.lb k = some b → w'.heap[b]? = w.heap[b]? ∧ g'.mrk b = g.mrk b ∧ g'.ow b = .no := fun k b hb =>
    wr_keep hE (hw.ltl k b hb) (hw.lbgb k b hb) (by rw [(hw.mrl k b hb).2]; rfl)
  have hcl : ∀ o, cls o = true → gcOnly o = .no → ∀ b, g.ow b = o → (wbG g g' w).ow b = o ∧ (wbG g g' w).mrk b = g.mrk b ∧ w'.heap[b]? = w.heap[b]? := by
    intro o ho hgo b hb
    have hlt := hw.owlt b (by rw [hb]; rintro rfl; simp [cls] at ho)
    have hg : b ∉ g.gb := fun h => by rw [(hw.mrg b h).2] at hb; subst hb; simp [cls] at ho
    obtain ⟨k1, k2, _⟩ := wr_keep hE hlt hg (by rw [hb]; exact hgo)
    exact ⟨by simp only [wbG]; rw [if_pos ⟨hlt, by rw [hb]; exact hgo⟩]; exact hb, k2, k1⟩
  have hExt : Ext g w (wbG g g' w) w' := by
    refine ⟨hE.size, hE.gb, hE.mrk, hE.cell, hE.shp, fun b hb hl hg ho => ?_, fun k b h => .inl ⟨k, h⟩, hE.ngb, hE.os, hE.out, hE.tape, rfl, fun h => by rw [hgro] at h; cases h⟩
    have hgo : gcOnly (g.ow b) = .no := by rw [ho]; rfl
    obtain ⟨k1, k2, _⟩ := wr_keep hE hb hg hgo
    exact ⟨k1, k2, by simp only [wbG]; rw [if_pos ⟨hb, hgo⟩]; exact ho⟩
  have hV : VExt (fun _ => true) g w (wbG g g' w) w' := hExt.vext (fun _ _ _ h => h)
  have hV' : VExt (fun _ => false) g' w' (wbG g g' w) w' := ⟨fun k b h => (by cases h), fun _ _ h => h, fun _ => Nat.le_refl _, fun _ _ _ => rfl, fun b arr e fr _ h => ⟨arr, e, h, rfl⟩⟩
  have hWF : WF (wbG g g' w) w' := by
    refine ⟨hw.inj, fun k b hb h => ?_, hw'.nd, fun k b hb => Nat.lt_of_lt_of_le (hw.ltl k b hb) hE.size, hw'.ltg, fun k b hb => ?_, fun b hb => ?_, hw'.mrb, fun b hb => ?_⟩
    · rcases hE.ngb b h with h' | h'
      · exact hw.lbgb k b hb h'
      · have := hw.ltl k b hb
        omega
    · obtain ⟨k1, k2, k3⟩ := hlb k b hb
      refine ⟨k2.trans (hw.mrl k b hb).1, ?_⟩
      simp only [wbG]
      rw [(hw.mrl k b hb).2, k3]
      split <;> rfl
    · refine ⟨(hw'.mrg b hb).1, ?_⟩
      simp only [wbG]
      rw [(hw'.mrg b hb).2]
      split
      · rename_i hc
        rcases hE.ngb b hb with h' | h'
        · exact (hw.mrg b h').2
        · omega
      · rfl
    · simp only [wbG] at hb
      split at hb
      · rename_i hc
        exact Nat.lt_of_lt_of_le hc.1 hE.size
      · exact hw'.owlt b (fun h0 => hb (by rw [h0]; rfl))
  have hR1 : Rel (wbG g g' w) { st with H := H', conG := true } a w' := by
    refine ⟨hR.df, hR.sz, fun i y hy => ?_, fun k cs hk hne => ?_, HRel_t hV' rfl (fun _ _ => rfl) (fun k j b hb => ⟨?_, rfl, rfl⟩) hH, hWF, hR.ro⟩
    · obtain ⟨v, q1, q2, q3⟩ := hR.tr i y hy
      refine ⟨v, q1, q2.mono hV (VR_dep q2), ?_⟩
      cases y with
      | sl sz n rows own =>
        by_cases hu : usable { st with H := H', conG := true } own = true
        · have hu0 : usable st own = true := by
            cases own <;> simp_all [usable]
          simp only [fresh, if_pos hu]
          simp only [fresh, if_pos hu0] at q3
          refine FL_t (fun hc b hb => hcl own hc ?_ b hb) q3
          cases own <;> simp_all [usable, gcOnly]
        · simp only [fresh, if_neg hu]
          exact .inl rfl
      | _ => trivial
    · obtain ⟨b, q1, q2⟩ := hR.lr k cs hk hne
      exact ⟨b, q1, BR_t hV (hlb k b q1).1 (fun x hx => isCell_dep (LRel_cells hR.lr hk x hx)) (fun j _ b hb => hcl _ rfl rfl b hb) q2⟩
    · simp only [wbG]
      rw [hb]
      split
      · rename_i hc
        have hg : b ∉ g.gb := fun h => by
          have := (hw'.mrg b ((by
            obtain ⟨i, hi⟩ := List.getElem?_of_mem h
            exact mem_of_getElem? (hE.gb i b hi)))).2
          rw [hb] at this
          cases this
        have := (wr_keep hE hc.1 hg hc.2).2.2
        rw [hb] at this
        cases this
      · rfl
  exact ⟨_, hExt, rel_put hR1 d (VR_stripAll (hx.mono hV' (noLp_dep hp))) (FL_no (fresh_no _ (stripAll_own _)))⟩
end
end Go.Ab
namespace Go.Ab

section
variable {T : Tab} {P : Program} {C : Nat → List AV → List GB → Option (AV × List GB)} {Lp : Nat → Nat → Code → St → Option (Ex × St)}
  {g g' : Gh} {w w' : World} {st st' : St} {a : Act}

/-- The functions that the evaluator knows. -/
def KnownLaw (T : Tab) (P : Program) (C : Nat → List AV → List GB → Option (AV × List GB)) (Lp : Nat → Nat → Code → St → Option (Ex × St)) (fid : Nat) : Prop :=
  ∀ (g : Gh) (st : St) (a : Act) (w : World) (o : Oper) (drawn : Bool) (f : Nat) (args : List AV) (vals : List Value) (st' : St) (Q : Exit → Act → World → Prop),
    T.known f = 1 ∨ T.known f = 2 ∨ T.known f = 3 → Rel g st a w → den C Lp (callOp T fid st o.dst drawn f args) = some st' → ArgsR g w args vals → ArgsF g w st args vals →
    o.upon P a (fun a' w' => Nx g w st' a' w') Q ((callFunc f vals.toArray).run P w)

theorem args_mono {S : Nat → Bool} {args : List AV} {vals : List Value} (hE : VExt S g w g' w') (h : ArgsR g w args vals) (hns : args.any isVs = false) (hd : ∀ x ∈ args, x.stripAll.depOk S = true) :
    ArgsR g' w' (args.map fun v => (snapOf st v).stripAll) vals := by
  refine ⟨by rw [List.length_map]; exact h.1, fun i x hx => ?_⟩
  rw [List.getElem?_map] at hx
  cases hi : args[i]? with
  | none => rw [hi] at hx; simp at hx
  | some y =>
    rw [hi] at hx
    simp only [Option.map_some, Option.some.injEq] at hx
    subst hx
    obtain ⟨u, r1, r2⟩ := h.2 i y hi
    have hmem := mem_of_getElem? hi
    have hnv : isVs y = false := by
      have := List.any_eq_false.1 hns y hmem
      simpa using this
    rw [snap_not hnv]
    exact ⟨u, r1, (VR_stripAll r2).mono hE (hd y hmem)⟩

theorem callLaw {fid : Nat} (hF : FunLaw P C) (hK : KnownLaw T P C Lp fid) : CallLaw T P C Lp fid := by
  intro g st a w o drawn f args vals st' Q hR h hargs hfl
  by_cases hk : T.known f = 1 ∨ T.known f = 2 ∨ T.known f = 3
  · exact hK g st a w o drawn f args vals st' Q hk hR h hargs hfl
  · have h' := h
    unfold callOp at h'
    split at h'
    · rename_i h1; exact absurd (.inl h1) hk
    · rename_i h1; exact absurd (.inr (.inl h1)) hk
    · rename_i h1; exact absurd (.inr (.inr h1)) hk
    · clear h hk
      obtain ⟨hok, h⟩ := den_chk_some C Lp h'
      simp only [Bool.and_eq_true] at hok
      obtain ⟨hok, hlt⟩ := hok
      have hf : f < 1000000 := Nat.le_of_ble_eq_true hlt
      simp only at h
      split at h
      · rename_i hc
        simp only [Bool.and_eq_true] at hc
        exact call0_sound hF hR hargs hok hf hc.1 h
      · obtain ⟨hlp, h⟩ := den_chk_some C Lp h
        simp only [Bool.and_eq_true, Bool.not_eq_true'] at hlp
        obtain ⟨hlp, hns⟩ := hlp
        have hown : ∀ x ∈ args.map fun v => (snapOf st v).stripAll, x.slOwn = .no := fun x hx => by
          obtain ⟨y, _, rfl⟩ := List.mem_map.1 hx
          exact stripAll_own _
        have hdep : ∀ x ∈ args, x.stripAll.depOk (fun _ => false) = true := fun x hx => by
          have h1 := List.all_eq_true.1 hlp _ (List.mem_map.2 ⟨x, hx, rfl⟩)
          have hnv : isVs x = false := by
            have := List.any_eq_false.1 hns x hx
            simpa using this
          rw [snap_not hnv] at h1
          exact noLp_dep h1
        split at h
        · rw [den_call] at h
          cases hC : C (f + 1000000) (args.map fun v => (snapOf st v).stripAll) (st.H.map stripGB) with
          | none => rw [hC] at h; simp at h
          | some vH =>
            obtain ⟨v, H'⟩ := vH
            rw [hC] at h
            simp only [Option.bind_some] at h
            obtain ⟨hvl, h⟩ := den_chk_some C Lp h
            simp only [den_ret, Option.some.injEq] at h
            subst h
            have hb : Nat.ble 1000000 (f + 1000000) = true := Nat.ble_eq_true_of_le (by omega)
            have hreal : realF (f + 1000000) = f := by
              unfold realF
              rw [hb]
              simp
            exact upon_call hF hC hreal (gc := readG g) (args_mono read_vext hargs hns hdep) hown (fun _ => rfl) (read_wf hR.wf) (read_hrel hR.hr) hb.symm fun r w' g' q1 q2 q3 q4 q5 q6 => read_back hR q2 q1 q4 hvl
        · rename_i hro
          have hro' : st.ro = false := by
            cases hr : st.ro with
            | false => rfl
            | true => rw [hr] at hro; simp at hro
          rw [den_call] at h
          obtain ⟨f1, f2⟩ := realF_lt hf
          cases hC : C f (args.map fun v => (snapOf st v).stripAll) st.H with
          | none => rw [hC] at h; simp at h
          | some vH =>
            obtain ⟨v, H'⟩ := vH
            rw [hC] at h
            simp only [Option.bind_some] at h
            obtain ⟨hvl, h⟩ := den_chk_some C Lp h
            simp only [den_ret, Option.some.injEq] at h
            subst h
            exact upon_call hF hC f1 (gc := wrG g) (args_mono wr_vext hargs hns hdep) hown (fun _ => rfl) (wr_wf hR.wf) (wr_hrel hR.hr) f2.symm fun r w' g' q1 q2 q3 q4 q5 q6 => wr_back hR hro' q2 q1 q3 q4 hvl
end
end Go.Ab
namespace Go.Ab

section
variable {T : Tab} {P : Program} {g : Gh} {w : World}

theorem sem_fun (n f : Nat) (args : List AV) (H : List GB) : (sem T (n + 1)).1 f args H = den (sem T n).1 (sem T n).2 (evFunc T f args H) := rfl

/-- What the induction leans on: known functions and drawn regions, whatever the calls and loops are. -/
structure Base (T : Tab) (P : Program) (ok : Nat → Nat → Array Oper → Bool) : Prop where
  tab : TabOK T P
  known : ∀ C Lp fid, FunLaw P C → KnownLaw T P C Lp fid
  draw : ∀ C Lp fid, CallLaw T P C Lp fid → DrawLaw T P C Lp fid (ok fid)
  codes : ∀ f fn c, T.fn f = some fn → fn.body = some c → drawsOk (ok f) c = true

theorem sem_sound {ok : Nat → Nat → Array Oper → Bool} (hB : Base T P ok) : ∀ n, FunLaw P (sem T n).1 ∧ ∀ fid, LoopLaw P (sem T n).2 fid (ok fid) := by
  intro n
  induction n using Nat.strongRecOn with
  | _ n ih =>
    have hcode : ∀ m, m < n → ∀ fid c, drawsOk (ok fid) c = true → CodeLaw T P (sem T m).1 (sem T m).2 fid c := fun m hm fid c hc => by
      obtain ⟨h1, h2⟩ := ih m hm
      have hcall := callLaw h1 (hB.known (sem T m).1 (sem T m).2 fid h1)
      exact evCode_sound hB.tab hcall (hB.draw _ _ fid hcall) (h2 fid) c hc
    refine ⟨?_, fun fid => loop_sound hB.tab n fun m hm c hc => hcode m hm fid c hc⟩
    cases n with
    | zero =>
      intro f args H v H' g w vals h
      cases h
    | succ n =>
      intro f args H v H' g w vals h hargs hown hlb hw hH hro
      rw [sem_fun] at h
      exact fun_sound hB.tab (fun fn c h1 h2 => hcode n (Nat.lt_succ_self n) (realF f) c (hB.codes _ fn c h1 h2)) h hargs hown hlb hw hH hro
end
end Go.Ab
