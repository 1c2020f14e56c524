/- Rows, append. -/
import Derived.Test.YtmekbgeknkknfaaG4
import Derived.Laws.AppendOwn
import Derived.Deep.Upon
set_option linter.unusedVariables false
set_option linter.unusedSimpArgs false
set_option linter.unusedSectionVars false
set_option linter.constructorNameAsVariable false
namespace Go.Ab

theorem rows_get {sz : Nat} : ∀ {rows : List (List AV)} {k : Nat} {x : AV}, (∀ r ∈ rows, r.length = sz) → rows.flatten[k]? = some x → ∃ r, rows[k / sz]? = some r ∧ r[k % sz]? = some x ∧ 0 < sz
  | [], k, x, _, h => by simp at h
  | r :: rows, k, x, hz, h => by
    have hr := hz r (by simp)
    rw [List.flatten_cons] at h
    rcases Nat.lt_or_ge k sz with hk | hk
    · rw [List.getElem?_append_left (by rw [hr]; exact hk)] at h
      exact ⟨r, by rw [Nat.div_eq_of_lt hk]; rfl, by rw [Nat.mod_eq_of_lt hk]; exact h, by omega⟩
    · rw [List.getElem?_append_right (by rw [hr]; exact hk), hr] at h
      obtain ⟨r', h1, h2, h3⟩ := rows_get (sz := sz) (fun r hr => hz r (by simp [hr])) h
      refine ⟨r', ?_, ?_, h3⟩
      · rw [Nat.div_eq_sub_div h3 hk]
        exact h1
      · rw [Nat.mod_eq_sub_mod hk]
        exact h2

theorem rows_flat {sz : Nat} : ∀ {rows : List (List AV)}, (∀ r ∈ rows, r.length = sz) → rows.flatten.length = rows.length * sz
  | [], _ => by simp
  | r :: rows, hz => by
    rw [List.flatten_cons, List.length_append, rows_flat (fun r hr => hz r (by simp [hr])), hz r (by simp), List.length_cons, Nat.add_mul]
    omega

theorem chunk_flatten {sz : Nat} : ∀ {rows : List (List AV)}, (∀ r ∈ rows, r.length = sz) → chunk sz rows.length rows.flatten = rows
  | [], _ => rfl
  | r :: rows, hz => by
    have hr := hz r (by simp)
    simp only [List.length_cons, chunk, List.flatten_cons]
    rw [List.take_left' hr, List.drop_left' hr, chunk_flatten (fun r hr => hz r (by simp [hr]))]

section
variable {g g' : Gh} {w w' : World} {st : St} {a : Act}

/-- The ghost that knows of one more row. -/
def rowG (g : Gh) (b m : Nat) (own : Own) : Gh := ⟨g.lb, g.gb, fun b' => if b' = b then m else g.mrk b', fun b' => if b' = b then own else g.ow b', g.ro⟩

theorem grow_row {o : Obj} (hw : WF g w) (m : Nat) (own : Own) : Grow g w (rowG g w.heap.size m own) (w.alloc o) :=
  grow_alloc hw _ _ _ (fun _ _ h => h) (fun _ h => .inl h) (fun b hb => ⟨by simp only [if_neg (Nat.ne_of_lt hb)], by simp only [if_neg (Nat.ne_of_lt hb)]⟩) (fun _ => rfl)

theorem WF_row {arr : Array Value} {e : TypeId} {fr : Nat × Nat} (hw : WF g w) {m : Nat} (own : Own) (hm : m ≤ arr.size) : WF (rowG g w.heap.size m own) (w.alloc (.cells arr e fr)) where
  inj := hw.inj
  lbgb := hw.lbgb
  nd := hw.nd
  ltl := fun k b hb => by have := hw.ltl k b hb; simp; omega
  ltg := fun b hb => by have := hw.ltg b hb; simp; omega
  mrl := fun k b hb => by
    have := hw.ltl k b hb
    simp only [rowG, if_neg (Nat.ne_of_lt this)]
    exact hw.mrl k b hb
  mrg := fun b hb => by
    have := hw.ltg b hb
    simp only [rowG, if_neg (Nat.ne_of_lt this)]
    exact hw.mrg b hb
  mrb := fun b hb => by
    simp only [rowG] at hb ⊢
    by_cases hbs : b = w.heap.size
    · subst hbs
      exact ⟨arr, e, fr, heap_alloc_new w _, by rw [if_pos rfl]; exact hm⟩
    · rw [if_neg hbs] at hb ⊢
      obtain ⟨arr0, e0, fr0, q1, q2⟩ := hw.mrb b hb
      exact ⟨arr0, e0, fr0, by rw [heap_alloc_old (lt_of_heap q1)]; exact q1, q2⟩
  owlt := fun b hb => by
    simp only [rowG] at hb
    simp only [World.alloc, Array.size_push]
    by_cases hbs : b = w.heap.size
    · omega
    · rw [if_neg hbs] at hb
      have := hw.owlt b hb
      omega

theorem rel_row {arr : Array Value} {e : TypeId} {fr : Nat × Nat} (hR : Rel g st a w) {m : Nat} (own : Own) (hm : m ≤ arr.size) : Rel (rowG g w.heap.size m own) st a (w.alloc (.cells arr e fr)) :=
  have hG := grow_row (o := .cells arr e fr) hR.wf m own
  ⟨hR.df, hR.sz, hG.tr hR, hG.lr hR, hG.hr hR rfl, WF_row hR.wf own hm, hR.ro⟩

/-- The new row, as the value of a slice. -/
theorem row_VR {arr : Array Value} {e : TypeId} (fr : Nat × Nat := (0, 0)) (hfr : ∀ j, j < arr.size → ¬(fr.1 ≤ j ∧ j < fr.2) := by intro j _ h; simp at h) (hw : WF g w) {cs : List AV} {n sz cap : Nat} (own : Own) (hlen : cs.length = n * sz) (harr : arr.size = cap * sz) (hcap : n ≤ cap)
    (hcs : ∀ (j : Nat) x, cs[j]? = some x → ∃ v, arr[j]? = some v ∧ VR g w x v) (hfe : 1 < sz → ¬(fr.1 ≤ arr.size ∧ arr.size < fr.2) := by intro _ h; simp at h) :
    (cs.all AV.pure1 = true → VR (rowG g w.heap.size (n * sz) own) (w.alloc (.cells arr e fr)) (.sl sz false (chunk sz n cs) own) (.slice (some ⟨w.heap.size, 0, none⟩) n cap) ∧
      FL (rowG g w.heap.size (n * sz) own) (w.alloc (.cells arr e fr)) (.sl sz false (chunk sz n cs) own) (.slice (some ⟨w.heap.size, 0, none⟩) n cap)) ∧
    (cs.all AV.noLp1 = true → VR (rowG g w.heap.size (n * sz) own) (w.alloc (.cells arr e fr)) (.psl sz (chunk sz n cs)) (.slice (some ⟨w.heap.size, 0, none⟩) n cap)) := by
  have hG := grow_row (o := .cells arr e fr) hw (n * sz) own
  have hcell : ∀ (i : Nat) r j x, (chunk sz n cs)[i]? = some r → r[j]? = some x → ∃ v, arr[i * sz + j]? = some v ∧ VR g w x v := fun i r j x hi hj => hcs _ x (chunk_cell (by omega) hi hj)
  have hc : ∀ (i : Nat) r j x, (chunk sz n cs)[i]? = some r → r[j]? = some x → (w.alloc (.cells arr e fr)).cell? ⟨w.heap.size, 0 + i * sz + j, none⟩ = some (arr.getD (i * sz + j) undef) := by
    intro i r j x hi hj
    obtain ⟨v, h1, _⟩ := hcell i r j x hi hj
    rw [cell?_of_block (heap_alloc_new w _), Nat.zero_add, Array.getD_eq_getD_getElem?, h1]
    rfl
  have hv : ∀ (i : Nat) r j x, (chunk sz n cs)[i]? = some r → r[j]? = some x → VR (rowG g w.heap.size (n * sz) own) (w.alloc (.cells arr e fr)) x (arr.getD (i * sz + j) undef) := by
    intro i r j x hi hj
    obtain ⟨v, h1, h2⟩ := hcell i r j x hi hj
    rw [Array.getD_eq_getD_getElem?, h1]
    exact h2.mono hG.vext (VR_dep h2)
  have hlenc := chunk_length sz n cs
  have hmrk : 0 + (chunk sz n cs).length * sz ≤ (rowG g w.heap.size (n * sz) own).mrk w.heap.size := by simp [rowG, hlenc]
  refine ⟨fun hp => ⟨?_, ?_⟩, fun hp => ?_⟩
  · have := VR.sl sz (chunk sz n cs) own w.heap.size 0 cap _ (by rw [hlenc]; exact hcap) (chunk_rows (by omega)) hc hv (fun r hr x hx => List.all_eq_true.1 hp x (chunk_mem (by omega) hr hx)) hmrk
    rw [hlenc] at this
    exact this
  · simp only [FL]
    refine .inr (.inr (.inr ⟨w.heap.size, 0, cap, arr, e, fr, by rw [hlenc], by simp [rowG], by simp [rowG, hlenc], heap_alloc_new w _, by omega, hfr, rfl, hfe⟩))
  · have := VR.psl sz (chunk sz n cs) w.heap.size 0 cap _ (by rw [hlenc]; exact hcap) (chunk_rows (by omega)) hc hv (fun r hr x hx => List.all_eq_true.1 hp x (chunk_mem (by omega) hr hx)) hmrk
    rw [hlenc] at this
    exact this

theorem fresh_tc {g : Gh} {w : World} {st : St} {x : AV} {v : Value} (h : FL g w x v) : FL g w (fresh st x) v := FL_fresh st h
end

section
variable {T : Tab} {P : Program} (hT : TabOK T P) {C : Nat → List AV → List GB → Option (AV × List GB)} {Lp : Nat → Nat → Code → St → Option (Ex × St)}
  {g : Gh} {w : World} {st st' : St} {a : Act}

theorem makeMap_sound {d t : Nat} (hR : Rel g st a w) (hro : st.ro = false) :
    ∃ v w', (Instr.makeMap t none).run P w = .ok v w' ∧ Nx g w (St.set { st with H := st.H ++ [GB.map []] } d (.mp st.H.length)) (a.put (some d) v) w' :=
  ⟨_, _, by simp [Instr.makeMap]; first | done | exact ⟨rfl, rfl⟩, rel_allocG hR hro d (fun g' hg' => .mp _ _ hg') rfl (.inr ⟨rfl, 0, rfl⟩)⟩

theorem rep_get {l : List AV} : ∀ {n : Nat} {j : Nat} {x : AV}, (rep n l)[j]? = some x → l[j % l.length]? = some x ∧ j < n * l.length
  | 0, j, x, h => by simp [rep] at h
  | n + 1, j, x, h => by
    simp only [rep] at h
    rw [Nat.add_mul]
    rcases Nat.lt_or_ge j l.length with hj | hj
    · rw [List.getElem?_append_left hj] at h
      exact ⟨by rw [Nat.mod_eq_of_lt hj]; exact h, by omega⟩
    · rw [List.getElem?_append_right hj] at h
      obtain ⟨h1, h2⟩ := rep_get h
      refine ⟨by rw [Nat.mod_eq_sub_mod hj]; exact h1, by omega⟩
theorem rep_length (l : List AV) : ∀ n, (rep n l).length = n * l.length
  | 0 => by simp [rep]
  | n + 1 => by simp only [rep, List.length_append, rep_length l n, Nat.add_mul]; omega

include hT

theorem fill_length {place : Nat → Option (Nat × Nat)} : ∀ {parts : List (Nat × AV)} {cs cs' : List AV}, den C Lp (fillAt place cs parts) = some cs' → cs'.length = cs.length
  | [], cs, cs', h => by
    simp only [fillAt, den_ret, Option.some.injEq] at h
    rw [h]
  | (i, x) :: parts, cs, cs', h => by
    simp only [fillAt] at h
    cases hpl : place i with
    | none => rw [hpl] at h; simp at h
    | some on =>
      obtain ⟨o, n⟩ := on
      rw [hpl] at h
      simp only at h
      obtain ⟨h1, h⟩ := den_chk_some C Lp h
      simp only [Bool.and_eq_true, decide_eq_true_eq] at h1
      rw [fill_length h, splice_length (by rw [h1.1.1]; exact h1.1.2)]

theorem buildSlice_sound {t len : Nat} {dst : Option Nat} {parts : List (Nat × AV)} {vparts : Array (Nat × Value)} {y : AV} (hR : Rel g st a w) (h : den C Lp (buildSliceOp T dst t len parts) = some y) (hl : vparts.size = parts.length)
    (hp : ∀ (j : Nat) i x, parts[j]? = some (i, x) → ∃ v, vparts[j]? = some (i, v) ∧ VR g w x v) :
    ∃ v w', (Instr.buildSlice t len vparts).run P w = .ok v w' ∧ Nx g w (st.put dst y) (a.put dst v) w' := by
  have hs := hT.sh t
  have hk := hT.ks t
  unfold buildSliceOp at h
  unfold ksOk at hk
  have hl' : vparts.toList.length = parts.length := by simpa using hl
  have hp' : ∀ (j : Nat) i x, parts[j]? = some (i, x) → ∃ v, vparts.toList[j]? = some (i, v) ∧ VR g w x v := by
    intro j i x hj
    obtain ⟨v, h1, h2⟩ := hp j i x hj
    exact ⟨v, by rw [Array.getElem?_toList]; exact h1, h2⟩
  cases hsh : T.sh t with
  | slice e =>
    rw [hsh] at h hs hk
    cases dst with
    | none => simp at h
    | some d =>
      simp only at h
      obtain ⟨h1, h⟩ := den_chk_some C Lp h
      simp only [decide_eq_true_eq] at h1
      obtain ⟨cs, h2, h⟩ := den_bind_some C Lp h
      obtain ⟨z, hz, hzc, _⟩ := info_zero hT hk.2
      have hzl : ((T.ks e).map zeroV).length = size T e := by simp [size]
      have hzeros : CR g w (rep len (zeros T e)) ((Array.range (len * size T e)).map fun i => z.cells[i % z.cells.size]!) := by
        have hzr : (zeros T e).length = size T e := by simp [zeros, size]
        refine ⟨by simp [rep_length, hzr], fun j x hx => ?_⟩
        obtain ⟨q1, q2⟩ := rep_get hx
        rw [hzr] at q1 q2
        obtain ⟨v, r1, r2, r3, r4⟩ := zeros_get (g := g) (w := w) q1
        refine ⟨v, ?_, r2, r3, r4⟩
        rw [Array.getElem?_map, Array.getElem?_range, if_pos q2]
        simp only [Option.map_some, Option.some.injEq]
        have hsize : z.cells.size = size T e := by rw [hzc]; simp [size]
        rw [hsize, Array.getElem!_eq_getD, Array.getD_eq_getD_getElem?, hzc, r1]
        rfl
      obtain ⟨vals, hv, hcr⟩ := fill_sound h2 hzeros hl' hp'
      have hcl : cs.length = len * size T e := by
        rw [fill_length hT h2, rep_length]
        simp [zeros, size]
      have hse : ∀ w, (sizeOf e).run P w = .ok (size T e) w := fun w => run_sizeOf hT hk.2 w
      have hu : ∀ w, (underlying t).run P w = .ok (.slice e) w := fun w => by simp [underlying, show P.underlying t = some (.slice e) from hs]
      have hrun : (Instr.buildSlice t len vparts).run P w = .ok (.slice (some ⟨w.heap.size, 0, none⟩) len len) (w.alloc (.cells vals e)) := by
        have hbig : ¬ (len * size T e > 2 ^ 24) := by omega
        clear hcl hzeros h2
        generalize hN : len * size T e = N at *
        by_cases h0 : N = 0
        · subst h0
          have hr0 : ∀ f : Nat → Value, (Array.range 0).map f = #[] := fun f => Array.eq_empty_of_size_eq_zero (by simp)
          rw [hr0] at hv
          simp only [Instr.buildSlice, Sem.run_bind, hu, Result.andThen_ok, hse, hN, if_neg hbig, if_true, hr0, hv, Sem.run_pure]
          simp [newRow]
        · simp only [Instr.buildSlice, Sem.run_bind, hu, Result.andThen_ok, hse, hN, if_neg hbig, if_neg h0, hz, hv, Sem.run_pure]
          simp [newRow]
      have hval : ∀ (j : Nat) x, cs[j]? = some x → ∃ v, vals[j]? = some v ∧ VR g w x v := fun j x hx => by
        obtain ⟨u, q1, q2, _⟩ := hcr.2 j x hx
        exact ⟨u, q1, q2⟩
      split at h
      · rename_i hpure
        simp only [den_ret, Option.some.injEq] at h
        subst h
        obtain ⟨k1, k2⟩ := (row_VR (e := e) (hw := hR.wf) (own := .tc d) (hlen := hcl) (harr := by rw [hcr.1, hcl]) (hcap := Nat.le_refl _) (hcs := hval)).1 hpure
        exact ⟨_, _, hrun, _, (grow_row hR.wf _ _).ext, rel_put (rel_row hR _ (by rw [hcr.1, hcl]; exact Nat.le_refl _)) (some d) k1 (FL_fresh _ k2)⟩
      · obtain ⟨h3, h⟩ := den_chk_some C Lp h
        simp only [den_ret, Option.some.injEq] at h
        subst h
        have k1 := (row_VR (e := e) (hw := hR.wf) (own := .no) (hlen := hcl) (harr := by rw [hcr.1, hcl]) (hcap := Nat.le_refl _) (hcs := hval)).2 h3
        exact ⟨_, _, hrun, _, (grow_row hR.wf _ _).ext, rel_put (rel_row hR _ (by rw [hcr.1, hcl]; exact Nat.le_refl _)) (some d) k1 trivial⟩
  | _ => rw [hsh] at h; simp at h
end
end Go.Ab
namespace Go.Ab

/-- Values in a row against rows of cells. -/
def RowsR (g : Gh) (w : World) (rows : List (List AV)) (news : List Value) : Prop :=
  ∀ (k : Nat) x, rows.flatten[k]? = some x → ∃ v, news[k]? = some v ∧ VR g w x v

section
variable {g : Gh} {w : World} {P : Program}

theorem pure1_solid {x : AV} (h : x.pure1 = true) : x.solid = true := by
  cases x <;> simp_all [AV.pure1, AV.solid]

/-- A slice's elements, as they lie. -/
theorem sl_news {sz : Nat} {rows : List (List AV)} {b o : Nat} {val : Nat → Nat → Value} (hz : ∀ r ∈ rows, r.length = sz)
    (hc : ∀ i r j x, rows[i]? = some r → r[j]? = some x → w.cell? ⟨b, o + i * sz + j, none⟩ = some (val i j))
    (hv : ∀ i r j x, rows[i]? = some r → r[j]? = some x → VR g w x (val i j)) :
    ∃ news : List Value, news.length = rows.length * sz ∧ (∀ j u, news[j]? = some u → w.cell? ((⟨b, o, none⟩ : Addr).add j) = some u) ∧ RowsR g w rows news ∧ ∀ u ∈ news, ∃ x ∈ rows.flatten, VR g w x u := by
  have key : ∀ k x, rows.flatten[k]? = some x → w.cell? ⟨b, o + k, none⟩ = some (val (k / sz) (k % sz)) ∧ VR g w x (val (k / sz) (k % sz)) := by
    intro k x hx
    obtain ⟨r, h1, h2, h3⟩ := rows_get hz hx
    refine ⟨?_, hv _ _ _ _ h1 h2⟩
    rw [← hc _ _ _ _ h1 h2]
    congr 2
    have := Nat.div_add_mod k sz
    rw [Nat.mul_comm] at this
    omega
  refine ⟨(List.range (rows.length * sz)).map fun k => val (k / sz) (k % sz), by simp, ?_, ?_, ?_⟩
  · intro j u hj
    obtain ⟨hlt, rfl⟩ := mapRange_get hj
    rw [add_none]
    rw [← rows_flat hz] at hlt
    exact (key j _ (List.getElem?_eq_getElem hlt)).1
  · intro k x hx
    have hlt := lt_of_getElem? hx
    rw [rows_flat hz] at hlt
    exact ⟨_, by rw [List.getElem?_map, List.getElem?_range hlt]; rfl, (key k x hx).2⟩
  · intro u hu
    obtain ⟨j, hj⟩ := List.getElem?_of_mem hu
    obtain ⟨hlt, rfl⟩ := mapRange_get hj
    rw [← rows_flat hz] at hlt
    exact ⟨_, List.getElem_mem hlt, (key j _ (List.getElem?_eq_getElem hlt)).2⟩

theorem bytes_flat (s : List UInt8) : (s.map byteRow).flatten = s.map fun b => AV.int .u8 b.toNat := by
  induction s with
  | nil => rfl
  | cons b s ih => simp [byteRow, ih]

variable {C : Nat → List AV → List GB → Option (AV × List GB)} {Lp : Nat → Nat → Code → St → Option (Ex × St)} {T : Tab} {st st' : St} {a : Act}

theorem src_sound {t2 e : Nat} (hk : (∃ e', P.underlying t2 = some (.slice e')) ∨ P.underlying t2 = some .string) {y : AV} {u : Value} {r2 : List (List AV)} (hy : VR g w y u) (hL : LRel g w st.L)
    (h : moreOf T st e y = some r2) (hr : ∀ r ∈ r2, r.length = size T e ∧ ∀ x ∈ r, x.pure1 = true) :
    ∃ news, Src P (size T e) t2 u r2.length news w ∧ RowsR g w r2 news := by
  have hone : ∀ news : List Value, (∀ u ∈ news, ∃ x ∈ r2.flatten, VR g w x u) → ∀ u ∈ news, u.oneCell' = true := by
    intro news hn u hu
    obtain ⟨x, hx, hxu⟩ := hn u hu
    obtain ⟨r, hr', hxr⟩ := List.mem_flatten.1 hx
    exact solid_one (pure1_solid ((hr r hr').2 x hxr)) hxu
  cases hy with
  | slnil sz own =>
    simp only [moreOf, Option.some.injEq] at h
    subst h
    refine ⟨[], ⟨hk, fun _ => rfl, run_firstCells_none w _ _ _ _, run_firstCells_none w.drew _ _ _ _, by simp, fun _ h => by cases h⟩, fun k x hx => by simp at hx⟩
  | sl sz rows own b o cap val hcap hz hc hv hp hm =>
    simp only [moreOf, Option.some.injEq] at h
    subst h
    have hlen : rows.length * sz = rows.length * size T e := by
      cases rows with
      | nil => simp
      | cons r rows =>
        have h1 := hz r (by simp)
        have h2 := (hr r (by simp)).1
        rw [← h1, h2]
    obtain ⟨news, n1, n2, n3, n4⟩ := sl_news hz hc hv
    rw [hlen] at n1
    exact ⟨news, ⟨hk, fun _ => rfl, run_firstCells_some w _ _ _ _ _ news n1 n2, run_firstCells_some w.drew _ _ _ _ _ news n1 (by simpa using n2), n1, hone news n4⟩, n3⟩
  | str l s hl =>
    simp only [moreOf, Option.some.injEq] at h
    subst h
    have hsl : s.size = l.length := by rw [← hl]; exact Array.length_toList.symm
    have hbl : (byteCells s).length = l.length := by rw [byteCells_length, hsl]
    have hflat : RowsR g w (l.map byteRow) (byteCells s) := by
      intro k x hx
      rw [bytes_flat, List.getElem?_map] at hx
      unfold byteCells
      rw [hl, List.getElem?_map]
      cases hk : l[k]? with
      | none => rw [hk] at hx; simp at hx
      | some b =>
        rw [hk] at hx
        simp only [Option.map_some, Option.some.injEq] at hx
        subst hx
        exact ⟨_, rfl, .int _ _⟩
    have hmul : l.length = l.length * size T e := by
      cases l with
      | nil => simp
      | cons b l =>
        have := (hr (byteRow b) (by simp)).1
        simp only [byteRow, List.length_cons, List.length_nil] at this
        rw [← this]
        simp
    refine ⟨byteCells s, ⟨hk, fun _ => by simp [Builtin.lenOf, hsl], ?_, ?_, by rw [hbl, List.length_map]; exact hmul, fun u hu => ?_⟩, hflat⟩
    · rw [List.length_map, ← hsl]
      simp [Builtin.firstCells, byteCells]
      apply Array.ext'
      simp
    · rw [List.length_map, ← hsl]
      simp [Builtin.firstCells, byteCells]
      apply Array.ext'
      simp
    · obtain ⟨_, _, rfl⟩ := List.mem_map.1 hu
      rfl
  | vs k off n sz b cap arr e' fr hb hcap hheap hsz =>
    simp only [moreOf] at h
    split at h
    · rename_i hcond
      simp only [Bool.and_eq_true, beq_iff_eq, decide_eq_true_eq] at hcond
      obtain ⟨rfl, hle⟩ := hcond
      simp only [Option.some.injEq] at h
      rw [nthL_eq_getD] at h hle
      generalize hLk : st.L.getD k [] = Lk at h hle
      subst h
      have hdl : n * size T e ≤ (Lk.drop off).length := by rw [List.length_drop]; omega
      have hcl : (chunk (size T e) n (Lk.drop off)).length = n := chunk_length _ _ _
      rcases Nat.eq_zero_or_pos (n * size T e) with h0 | hpos
      · have hfl : (chunk (size T e) n (Lk.drop off)).flatten = [] := by
          apply List.eq_nil_of_length_eq_zero
          rw [rows_flat (chunk_rows hdl), hcl, h0]
        refine ⟨[], ⟨hk, fun _ => by rw [hcl]; rfl, ?_, ?_, by rw [hcl, h0]; rfl, fun _ h => by cases h⟩, fun k x hx => by rw [hfl] at hx; simp at hx⟩
        · exact run_firstCells_some w _ _ _ _ _ [] (by rw [hcl, h0]; rfl) (fun j v h => by simp at h)
        · exact run_firstCells_some w.drew _ _ _ _ _ [] (by rw [hcl, h0]; rfl) (fun j v h => by simp at h)
      · have hget : st.L[k]? = some Lk := by
          cases hq : st.L[k]? with
          | none =>
            have : Lk = [] := by rw [← hLk]; simp [List.getD, hq]
            subst this
            simp at hle
            omega
          | some L0 => rw [← hLk]; simp [List.getD, hq]
        obtain ⟨b', hb', arr2, e2, fr2, r1, r2, r3, r4⟩ := hL k Lk hget (by rintro rfl; simp at hle; omega)
        rw [hb] at hb'
        obtain rfl : b = b' := by simpa using hb'
        obtain ⟨news, n1, n2, n3, n4⟩ := sl_news (g := g) (w := w) (b := b) (o := off) (val := fun i j => arr2.getD (off + i * size T e + j) undef) (chunk_rows hdl)
          (fun i r j x hi hj => by
            have hcj := chunk_cell hdl hi hj
            rw [List.getElem?_drop] at hcj
            obtain ⟨v, q1, _⟩ := r4 _ x hcj
            rw [cell?_of_block r1, Array.getD_eq_getD_getElem?, Nat.add_assoc, q1]
            rfl)
          (fun i r j x hi hj => by
            have hcj := chunk_cell hdl hi hj
            rw [List.getElem?_drop] at hcj
            obtain ⟨v, q1, q2, _⟩ := r4 _ x hcj
            rw [Array.getD_eq_getD_getElem?, Nat.add_assoc, q1]
            exact q2)
        rw [hcl] at n1 
        refine ⟨news, ⟨hk, fun _ => by rw [hcl]; rfl, run_firstCells_some w _ _ _ _ _ news (by rw [hcl]; exact n1) n2, run_firstCells_some w.drew _ _ _ _ _ news (by rw [hcl]; exact n1) (by simpa using n2), by rw [hcl]; exact n1, hone news n4⟩, n3⟩
    · simp at h
  | _ => simp [moreOf] at h

/-- Cells without the flag at one place. -/
theorem strip_get {cs : List AV} {o j : Nat} {x : AV} (h : (stripOwnAt cs o)[j]? = some x) : ∃ y, cs[j]? = some y ∧ (x = y ∨ x = y.strip) ∧ (j = o → x = y.strip) := by
  unfold stripOwnAt at h
  rw [List.getElem?_set] at h
  by_cases hjo : o = j
  · subst hjo
    rw [if_pos rfl] at h
    split at h
    · rename_i hlt
      simp only [Option.some.injEq] at h
      have hg : cs[o]? = some cs[o] := List.getElem?_eq_getElem hlt
      refine ⟨cs[o], hg, ?_⟩
      have : cs.getD o .junk = cs[o] := by simp [List.getD, hg]
      rw [this] at h
      exact ⟨.inr h.symm, fun _ => h.symm⟩
    · simp at h
  · rw [if_neg hjo] at h
    exact ⟨x, h, .inl rfl, fun hj => absurd hj.symm hjo⟩

theorem strip_isCell {x : AV} (h : x.isCell = true) : x.strip.isCell = true := by
  cases x <;> simp_all [AV.strip, AV.isCell]

theorem BR_strip {b : Nat} {loc : Nat → Own} {cs : List AV} (o : Nat) (h : BR g w b loc cs) : BR g w b loc (stripOwnAt cs o) := by
  obtain ⟨arr, e, fr, h1, h2, h3, h4⟩ := h
  refine ⟨arr, e, fr, h1, by unfold stripOwnAt; rw [List.length_set]; exact h2, h3, fun j x hx => ?_⟩
  obtain ⟨y, q1, q2, _⟩ := strip_get hx
  obtain ⟨v, r1, r2, r3, r4, r5⟩ := h4 j y q1
  refine ⟨v, r1, ?_⟩
  rcases q2 with rfl | rfl
  · exact ⟨r2, r3, r4, r5⟩
  · refine ⟨VR_strip r2, ?_, strip_isCell r4, strip_okOwn y⟩
    rw [strip_atLoc]
    exact FL_no (strip_own y)

/-- Behind the use of a class: blocks in which no flag of it stands. -/
theorem BR_used {g' : Gh} {w' : World} {b : Nat} {loc : Nat → Own} {cs : List AV} {c : Own} (hE : VExt (fun _ => true) g w g' w') (hb : w'.heap[b]? = w.heap[b]?)
    (hF : ∀ own, cls own = true → own ≠ c → ∀ b, g.ow b = own → g'.ow b = own ∧ g'.mrk b = g.mrk b ∧ w'.heap[b]? = w.heap[b]?)
    (hc : ∀ (j : Nat) x, cs[j]? = some x → x.slOwn = .self → loc j ≠ c) (h : BR g w b loc cs) : BR g' w' b loc cs := by
  obtain ⟨arr, e, fr, h1, h2, h3, h4⟩ := h
  refine ⟨arr, e, fr, by rw [hb]; exact h1, h2, h3, fun j x hx => ?_⟩
  obtain ⟨v, q1, q2, q3, q4, q5⟩ := h4 j x hx
  refine ⟨v, q1, q2.mono hE (VR_dep q2), ?_, q4, q5⟩
  cases x with
  | sl sz n rows own =>
    cases own with
    | self => exact FL_t (fun hcl b hb => hF _ hcl (hc j _ hx rfl) b hb) q3
    | no => exact .inl rfl
    | _ => simp [okOwn] at q5
  | _ => trivial

theorem fresh_used (st : St) (c : Own) (hc : cls c = true) (x : AV) : (fresh (useUp st c) x).slOwn = .no ∨ ((fresh (useUp st c) x) = fresh st x ∧ (fresh st x).slOwn ≠ c) := by
  cases x with
  | sl sz nl rows own =>
    simp only [fresh]
    by_cases hu : usable (useUp st c) own = true
    · rw [if_pos hu]
      right
      have hu2 : usable st own = true := by
        cases c <;> cases own <;> simp_all [usable, useUp]
      rw [if_pos hu2]
      refine ⟨rfl, ?_⟩
      rintro h
      simp only [AV.slOwn] at h
      subst h
      cases own <;> simp_all [usable, useUp, cls]
    · rw [if_neg hu]
      exact .inl rfl
  | _ => exact .inl rfl

/-- Blocks, behind the stripping of the cell that a class names. -/
noncomputable def stripCell (st : St) (own : Own) : St :=
  match own with
  | .gc k o => (match st.H.getD k (.map []) with | .cells cs => { st with H := st.H.set k (.cells (stripOwnAt cs o)) } | _ => st)
  | .lc k o => { st with L := upd st.L k (stripOwnAt (nthL st.L k) o) }
  | _ => st

theorem stripCell_tm (st : St) (own : Own) : (stripCell st own).tm = st.tm ∧ ∀ x, fresh (stripCell st own) x = fresh st x := by
  unfold stripCell
  split
  · split <;> exact ⟨rfl, fun x => freshU _ _ ⟨rfl, rfl, rfl⟩ x⟩
  · exact ⟨rfl, fun x => freshU _ _ ⟨rfl, rfl, rfl⟩ x⟩
  · exact ⟨rfl, fun _ => rfl⟩

theorem stripCell_ro (st : St) (own : Own) : (stripCell st own).ro = st.ro := by
  unfold stripCell
  split
  · split <;> rfl
  · rfl
  · rfl

theorem stripOwnAt_nil (o : Nat) : stripOwnAt [] o = [] := rfl

theorem strip_L {own : Own} (h : LRel g w st.L) (hH : HRel g w st.H) : LRel g w (stripCell st own).L ∧ HRel g w (stripCell st own).H ∧
    (∀ k cs, (stripCell st own).L[k]? = some cs → ∀ (j : Nat) x, cs[j]? = some x → x.slOwn = .self → Own.lc k j ≠ own) ∧
    (∀ k cs, (stripCell st own).H[k]? = some (.cells cs) → ∀ (j : Nat) x, cs[j]? = some x → x.slOwn = .self → Own.gc k j ≠ own) := by
  unfold stripCell
  split
  · rename_i k o
    cases hHk : st.H[k]? with
    | none =>
      have : st.H.getD k (.map []) = .map [] := by simp [List.getD, hHk]
      rw [this]
      refine ⟨h, hH, fun _ _ _ _ _ _ _ hh => (by cases hh), fun k' cs hk' j x _ _ hh => ?_⟩
      cases hh
      rw [hHk] at hk'
      cases hk'
    | some B =>
      have e1 : st.H.getD k (.map []) = B := by simp [List.getD, hHk]
      rw [e1]
      cases B with
      | map es =>
        refine ⟨h, hH, fun _ _ _ _ _ _ _ hh => (by cases hh), fun k' cs hk' j x _ _ hh => ?_⟩
        cases hh
        simp only at hk'
        rw [hHk] at hk'
        cases hk'
      | cells cs0 =>
        refine ⟨h, ⟨by simp only [List.length_set]; exact hH.len, fun k' cs hk' => ?_, fun k' es hk' => ?_⟩, fun _ _ _ _ _ _ _ hh => (by cases hh), fun k' cs hk' j x hx hs hh => ?_⟩
        · simp only [List.getElem?_set] at hk'
          by_cases hkk : k = k'
          · subst hkk
            rw [if_pos rfl] at hk'
            split at hk'
            · simp only [Option.some.injEq, GB.cells.injEq] at hk'
              subst hk'
              obtain ⟨b, h1, h2, h3⟩ := hH.cells k cs0 hHk
              refine ⟨b, h1, BR_strip o h2, fun x hx => ?_⟩
              obtain ⟨j, hj⟩ := List.getElem?_of_mem hx
              obtain ⟨y, q1, q2, _⟩ := strip_get hj
              have := h3 y (mem_of_getElem? q1)
              rcases q2 with rfl | rfl
              · exact this
              · cases y <;> simp_all [AV.strip, AV.noLp1]
            · simp at hk'
          · rw [if_neg hkk] at hk'
            exact hH.cells k' cs hk'
        · simp only [List.getElem?_set] at hk'
          by_cases hkk : k = k'
          · subst hkk
            rw [if_pos rfl] at hk'
            split at hk' <;> simp at hk'
          · rw [if_neg hkk] at hk'
            exact hH.maps k' es hk'
        · cases hh
          simp only [List.getElem?_set, if_true] at hk'
          split at hk'
          · simp only [Option.some.injEq, GB.cells.injEq] at hk'
            subst hk'
            obtain ⟨y, _, _, q3⟩ := strip_get hx
            rw [q3 rfl, strip_own] at hs
            cases hs
          · simp at hk'
  · rename_i k o
    refine ⟨fun k' cs hk' hne => ?_, hH, fun k' cs hk' j x hx hs hh => ?_, fun _ _ _ _ _ _ _ hh => (by cases hh)⟩
    · simp only [upd_eq_set, List.getElem?_set] at hk'
      by_cases hkk : k = k'
      · subst hkk
        rw [if_pos rfl] at hk'
        split at hk'
        · rename_i hlt
          simp only [Option.some.injEq] at hk'
          subst hk'
          have hg : st.L[k]? = some st.L[k] := List.getElem?_eq_getElem hlt
          have e1 : nthL st.L k = st.L[k] := by rw [nthL_eq_getD]; simp [List.getD, hg]
          rw [e1] at hne ⊢
          obtain ⟨b, h1, h2⟩ := h k st.L[k] hg (by intro h0; rw [h0] at hne; exact hne rfl)
          exact ⟨b, h1, BR_strip o h2⟩
        · simp at hk'
      · rw [if_neg hkk] at hk'
        exact h k' cs hk' hne
    · cases hh
      simp only [upd_eq_set, List.getElem?_set, if_true] at hk'
      split at hk'
      · simp only [Option.some.injEq] at hk'
        subst hk'
        obtain ⟨y, _, _, q3⟩ := strip_get hx
        rw [q3 rfl, strip_own] at hs
        cases hs
      · simp at hk'
  · rename_i h1 h2
    exact ⟨h, hH, fun k cs _ j x _ _ hh => h2 k j hh.symm, fun k cs _ j x _ _ hh => h1 k j hh.symm⟩

/-- A class is used up. -/
theorem rel_used {g' : Gh} {w' : World} {own : Own} (hR : Rel g st a w) (hc : cls own = true) (hE : VExt (fun _ => true) g w g' w') (hlb : g'.lb = g.lb) (hgb : g'.gb = g.gb) (hro : g'.ro = g.ro) (hw' : WF g' w')
    (hF : ∀ o, cls o = true → o ≠ own → ∀ b, g.ow b = o → g'.ow b = o ∧ g'.mrk b = g.mrk b ∧ w'.heap[b]? = w.heap[b]?)
    (hb : ∀ b, (∃ k, g.lb k = some b) ∨ b ∈ g.gb → w'.heap[b]? = w.heap[b]?) : Rel g' (useUp (stripCell st own) own) a w' := by
  obtain ⟨u1, u2, u3⟩ := useUp_fields (stripCell st own) own
  obtain ⟨s1, s2⟩ := stripCell_tm st own
  obtain ⟨l1, l2, l3, l4⟩ := strip_L (own := own) hR.lr hR.hr
  refine ⟨hR.df, by rw [u1, s1]; exact hR.sz, fun i x hx => ?_, ?_, ?_, hw', by rw [useUp_ro, stripCell_ro, hro]; exact hR.ro⟩
  · rw [u1, s1] at hx
    obtain ⟨v, q1, q2, q3⟩ := hR.tr i x hx
    refine ⟨v, q1, q2.mono hE (VR_dep q2), ?_⟩
    rcases fresh_used (stripCell st own) own hc x with h | ⟨h, hne⟩
    · exact FL_no h
    · rw [h]
      rw [s2] at hne ⊢
      exact FL_t (fun hcl b hb => hF _ hcl hne b hb) q3
  · rw [u2]
    intro k cs hk hne
    obtain ⟨b, h1, h2⟩ := l1 k cs hk hne
    exact ⟨b, by rw [hlb]; exact h1, BR_used hE (hb b (.inl ⟨k, h1⟩)) hF (fun j x hx hs => l3 k cs hk j x hx hs) h2⟩
  · rw [u3]
    refine ⟨by rw [hgb]; exact l2.len, fun k cs hk => ?_, fun k es hk => ?_⟩
    · obtain ⟨b, h1, h2, h3⟩ := l2.cells k cs hk
      exact ⟨b, by rw [hgb]; exact h1, BR_used hE (hb b (.inr (mem_of_getElem? h1))) hF (fun j x hx hs => l4 k cs hk j x hx hs) h2, h3⟩
    · obtain ⟨b, ents, clk, h1, h2, h3⟩ := l2.maps k es hk
      exact ⟨b, ents, clk, by rw [hgb]; exact h1, by rw [hb b (.inr (mem_of_getElem? h1))]; exact h2, MR_t hE h3⟩
end
end Go.Ab
namespace Go.Ab

section
variable {T : Tab} {P : Program} (hT : TabOK T P) {C : Nat → List AV → List GB → Option (AV × List GB)} {Lp : Nat → Nat → Code → St → Option (Ex × St)}
  {g : Gh} {w : World} {st st' : St} {a : Act}

/-- A new row that this run alone holds: as a slice, or as a local block. -/
theorem thawRow_sound {fid d sz n cap : Nat} {rows : List (List AV)} {arr : Array Value} {e : TypeId} (fr : Nat × Nat := (0, 0)) (hfr : ∀ j, j < arr.size → ¬(fr.1 ≤ j ∧ j < fr.2) := by intro j _ h; simp at h) (hR : Rel g st a w) (h : den C Lp (thawed T fid d st (.sl sz false rows (.tc d))) = some st')
    (hn : rows.length = n) (hz : ∀ r ∈ rows, r.length = sz) (harr : arr.size = cap * sz) (hcap : n ≤ cap) (hp : ∀ r ∈ rows, ∀ x ∈ r, x.pure1 = true)
    (hcs : ∀ (j : Nat) x, rows.flatten[j]? = some x → ∃ v, arr[j]? = some v ∧ VR g w x v) (hfe : 1 < sz → ¬(fr.1 ≤ arr.size ∧ arr.size < fr.2) := by intro _ h; simp at h) :
    Nx g w st' (a.put (some d) (.slice (some ⟨w.heap.size, 0, none⟩) n cap)) (w.alloc (.cells arr e fr)) := by
  have hfl : rows.flatten.length = n * sz := by rw [rows_flat hz, hn]
  have hpf : ∀ x ∈ rows.flatten, x.pure1 = true := fun x hx => by
    obtain ⟨r, h1, h2⟩ := List.mem_flatten.1 hx
    exact hp r h1 x h2
  have hle : n * sz ≤ cap * sz := Nat.mul_le_mul_right _ hcap
  unfold thawed at h
  split at h
  · simp only [den_br, Bool.cond_false, den_ret, Option.some.injEq] at h
    subst h
    refine rel_allocL (fr := fr) (hfr := hfr) (hR := hR) (d := d) (e := e) (hlen := by rw [List.length_map]; omega) (hcs := fun j x hx => ?_) (hdep := fun x hx => ?_) (hX := fun g' hg' => ?_) (hown := rfl)
    · rw [List.getElem?_map] at hx
      cases hj : rows.flatten[j]? with
      | none => rw [hj] at hx; simp at hx
      | some y =>
        rw [hj] at hx
        simp only [Option.map_some, Option.some.injEq] at hx
        subst hx
        obtain ⟨v, q1, q2⟩ := hcs j y hj
        exact ⟨v, q1, VR_strip q2, strip_isCell (noLp1_isCell (pure1_noLp1 (hpf y (mem_of_getElem? hj)))), strip_own y⟩
    · obtain ⟨y, hy, rfl⟩ := List.mem_map.1 hx
      refine pure1_cellDep _ ?_
      have := hpf y hy
      cases y <;> simp_all [AV.strip, AV.pure1]
    · rw [hn]
      exact .vs d 0 n sz w.heap.size cap arr e fr hg' hcap (heap_alloc_new w _) (by omega) hfr
  · simp only [den_ret, Option.some.injEq] at h
    subst h
    have hall : rows.flatten.all AV.pure1 = true := List.all_eq_true.2 hpf
    obtain ⟨k1, k2⟩ := (row_VR (e := e) (fr := fr) (hfr := hfr) (hw := hR.wf) (own := .tc d) (hlen := hfl) (harr := harr) (hcap := hcap) (hcs := hcs) (hfe := hfe)).1 hall
    have hck : chunk sz n rows.flatten = rows := by rw [← hn]; exact chunk_flatten hz
    rw [hck] at k1 k2
    exact ⟨_, (grow_row hR.wf _ _).ext, rel_put (rel_row hR _ (by omega)) (some d) k1 (FL_fresh _ k2)⟩

theorem Ext_drew (g : Gh) (w : World) : Ext g w g w.drew := (Grow.heap (g := g) (w := w) (w' := w.drew) rfl rfl rfl rfl).ext
theorem Rel_drew (hR : Rel g st a w) : Rel g st a w.drew := Rel.heap (w := w) (w' := w.drew) rfl rfl rfl rfl hR
theorem Nx_drew {st' : St} {a' : Act} {w' : World} (h : Nx g w.drew st' a' w') : Nx g w st' a' w' :=
  let ⟨g', h1, h2⟩ := h
  ⟨g', (Ext_drew g w).trans h1, h2⟩
theorem VR_drew {x : AV} {v : Value} (h : VR g w x v) : VR g w.drew x v :=
  h.mono (Grow.heap (g := g) (w := w) (w' := w.drew) rfl rfl rfl rfl).vext (VR_dep h)

theorem nextCls_cls (d : Nat) (o : Own) : cls (nextCls d o) = true ∧ nextCls d o ≠ o := by
  unfold nextCls
  split
  · rename_i h
    subst h
    exact ⟨rfl, fun h => by injection h; omega⟩
  · rename_i h
    exact ⟨rfl, fun h' => h h'.symm⟩

theorem inplace_sound {own : Own} {sz b o cap d : Nat} {arr : Array Value} {e' : TypeId} {fr : Nat × Nat} {rows r2 : List (List AV)} {news : List Value} (hR : Rel g st a w) (hcls : cls own = true)
    (k2 : g.ow b = own) (k3 : o + rows.length * sz = g.mrk b) (k4 : w.heap[b]? = some (.cells arr e' fr)) (k5 : arr.size = o + cap * sz) (k6 : (∀ j, j < arr.size → ¬(fr.1 ≤ j ∧ j < fr.2)) ∧ o = 0 ∧ (1 < sz → ¬(fr.1 ≤ arr.size ∧ arr.size < fr.2)))
    (hz' : ∀ r ∈ rows ++ r2, r.length = sz) (hp' : ∀ r ∈ rows ++ r2, ∀ x ∈ r, x.pure1 = true) (hnl : news.length = r2.length * sz) (hroom : rows.length + r2.length ≤ cap)
    (hold : ∀ (k : Nat) x, rows.flatten[k]? = some x → ∃ v, arr[o + k]? = some v ∧ VR g w x v) (hrows : RowsR g w r2 news) :
    Nx g w ((useUp (stripCell st own) own).set d (.sl sz false (rows ++ r2) (nextCls d own))) (a.put (some d) (.slice (some ⟨b, o, none⟩) (rows.length + r2.length) cap)) (w.setCells b (o + rows.length * sz) news) := by
  have hall : (rows ++ r2).flatten.length = (rows.length + r2.length) * sz := by
    rw [rows_flat hz', List.length_append]
  have hrl : rows.flatten.length = rows.length * sz := rows_flat fun r hr => hz' r (by simp [hr])
  have hadd : o + rows.length * sz + news.length ≤ arr.size := by
    rw [hnl, k5, Nat.add_assoc, ← Nat.add_mul]
    exact Nat.add_le_add_left (Nat.mul_le_mul_right _ hroom) _
  obtain ⟨arr', q1, q2, q3⟩ := setCells_block b e' fr news (o + rows.length * sz) w arr k4 hadd
  obtain ⟨r1, r2', r3, r4⟩ := setCells_rest b news (o + rows.length * sz) w
  have hoth : ∀ b', b' ≠ b → (w.setCells b (o + rows.length * sz) news).heap[b']? = w.heap[b']? := fun b' hb' => setCells_other b news _ w hb'
  generalize w.setCells b (o + rows.length * sz) news = W at *
  have hmk : o + (rows.length + r2.length) * sz = g.mrk b + news.length := by rw [← k3, hnl, Nat.add_mul]; omega
  have hno : ∀ b', (∃ k, g.lb k = some b') ∨ b' ∈ g.gb → b' ≠ b := by
    rintro b' hb' rfl
    have : g.ow b' = .no := by
      rcases hb' with ⟨k, hk⟩ | hk
      · exact (hR.wf.mrl k b' hk).2
      · exact (hR.wf.mrg b' hk).2
    rw [k2] at this
    rw [this] at hcls
    simp [cls] at hcls
  obtain ⟨nc1, nc2⟩ := nextCls_cls d own
  generalize hG : rowG g b (o + (rows.length + r2.length) * sz) (nextCls d own) = G
  have hGlb : G.lb = g.lb := by rw [← hG]; rfl
  have hGgb : G.gb = g.gb := by rw [← hG]; rfl
  have hGro : G.ro = g.ro := by rw [← hG]; rfl
  have hGb : G.mrk b = o + (rows.length + r2.length) * sz ∧ G.ow b = nextCls d own := by rw [← hG]; simp [rowG]
  have hGo : ∀ b', b' ≠ b → G.mrk b' = g.mrk b' ∧ G.ow b' = g.ow b' := by
    intro b' hbb
    rw [← hG]
    simp [rowG, hbb]
  clear hG
  have hE : Ext g w G W := by
    refine ⟨by rw [r4]; exact Nat.le_refl _, fun _ _ h => by rw [hGgb]; exact h, fun b' => ?_, fun b' j hj => ?_, fun b' arr0 e0 fr0 hb' => ?_, fun b' hb' hl hg ho => ?_, fun k b h => .inl ⟨k, by rw [← hGlb]; exact h⟩, fun _ h => .inl (by rw [← hGgb]; exact h), r1, r2', r3, hGro, fun _ => ⟨hGgb, fun b' hb' => hoth b' (hno b' (.inr hb'))⟩⟩
    · by_cases hbb : b' = b
      · subst hbb
        rw [hGb.1]
        omega
      · rw [(hGo b' hbb).1]
        exact Nat.le_refl _
    · by_cases hbb : b' = b
      · subst hbb
        rw [cell?_of_block q1, cell?_of_block k4, q3 j, if_neg (by omega)]
      · simp only [World.cell?, hoth b' hbb]
    · by_cases hbb : b' = b
      · subst hbb
        rw [k4] at hb'
        cases hb'
        exact ⟨arr', q1, q2⟩
      · exact ⟨arr0, by rw [hoth b' hbb]; exact hb', rfl⟩
    · have hbb : b' ≠ b := by
        rintro rfl
        rw [k2] at ho
        rw [ho] at hcls
        simp [cls] at hcls
      exact ⟨hoth b' hbb, (hGo b' hbb).1, (hGo b' hbb).2.trans ho⟩
  have hV : VExt (fun _ => true) g w G W := hE.vext (fun _ _ _ h => by rw [hGlb]; exact h)
  have hW : WF G W := by
    have hw := hR.wf
    refine ⟨by rw [hGlb]; exact hw.inj, by rw [hGlb, hGgb]; exact hw.lbgb, by rw [hGgb]; exact hw.nd, fun k b' hb' => by rw [r4]; rw [hGlb] at hb'; exact hw.ltl k b' hb', fun b' hb' => by rw [r4]; rw [hGgb] at hb'; exact hw.ltg b' hb', fun k b' hb' => ?_, fun b' hb' => ?_, fun b' hb' => ?_, fun b' hb' => ?_⟩
    · rw [hGlb] at hb'
      obtain ⟨h1, h2⟩ := hGo b' (hno b' (.inl ⟨k, hb'⟩))
      rw [h1, h2]
      exact hw.mrl k b' hb'
    · rw [hGgb] at hb'
      obtain ⟨h1, h2⟩ := hGo b' (hno b' (.inr hb'))
      rw [h1, h2]
      exact hw.mrg b' hb'
    · by_cases hbb : b' = b
      · subst hbb
        exact ⟨arr', e', fr, q1, by rw [hGb.1, q2, k5]; exact Nat.add_le_add_left (Nat.mul_le_mul_right _ hroom) _⟩
      · rw [(hGo b' hbb).1] at hb' ⊢
        rw [hoth b' hbb]
        exact hw.mrb b' hb'
    · rw [r4]
      by_cases hbb : b' = b
      · subst hbb
        exact lt_of_heap k4
      · rw [(hGo b' hbb).2] at hb'
        exact hw.owlt b' hb'
  have hRel := rel_used hR hcls hV hGlb hGgb hGro hW (fun ow' ho' hne b' hb' => by
    have hbb : b' ≠ b := by
      rintro rfl
      rw [k2] at hb'
      exact hne hb'.symm
    exact ⟨(hGo b' hbb).2.trans hb', (hGo b' hbb).1, hoth b' hbb⟩) (fun b' hb' => hoth b' (hno b' hb'))
  have hnewcell : ∀ (k : Nat) x, (rows ++ r2).flatten[k]? = some x → ∃ v, arr'[o + k]? = some v ∧ VR G W x v := by
    intro k x hk
    rw [List.flatten_append] at hk
    rcases Nat.lt_or_ge k rows.flatten.length with hlt | hge
    · rw [List.getElem?_append_left hlt] at hk
      obtain ⟨v, p1, p2⟩ := hold k x hk
      refine ⟨v, ?_, p2.mono hV (VR_dep p2)⟩
      rw [q3, if_neg (by omega)]
      exact p1
    · rw [List.getElem?_append_right hge] at hk
      obtain ⟨v, p1, p2⟩ := hrows _ x hk
      refine ⟨v, ?_, p2.mono hV (VR_dep p2)⟩
      have hkl := lt_of_getElem? p1
      rw [q3, if_pos (by omega)]
      rw [← p1]
      congr 1
      omega
  have hcell2 : ∀ (i : Nat) r j x, (rows ++ r2)[i]? = some r → r[j]? = some x → ∃ v, arr'[o + i * sz + j]? = some v ∧ VR G W x v := by
    intro i r j x hi hj
    have hck := chunk_flatten hz'
    rw [← hck] at hi
    have := chunk_cell (by rw [hall, List.length_append]; exact Nat.le_refl _) hi hj
    obtain ⟨v, p1, p2⟩ := hnewcell _ x this
    exact ⟨v, by rw [Nat.add_assoc]; exact p1, p2⟩
  refine ⟨_, hE, rel_put hRel (some d) ?_ (FL_fresh _ ?_)⟩
  · have := VR.sl (g := G) (w := W) sz (rows ++ r2) (nextCls d own) b o cap (fun i j => arr'.getD (o + i * sz + j) undef) (by rw [List.length_append]; exact hroom) hz'
      (fun i r j x hi hj => by
        obtain ⟨v, p1, _⟩ := hcell2 i r j x hi hj
        rw [cell?_of_block q1, Array.getD_eq_getD_getElem?, p1]
        rfl)
      (fun i r j x hi hj => by
        obtain ⟨v, p1, p2⟩ := hcell2 i r j x hi hj
        rw [Array.getD_eq_getD_getElem?, p1]
        exact p2)
      hp' (by rw [hGb.1, List.length_append]; exact Nat.le_refl _)
    rw [List.length_append] at this
    exact this
  · simp only [FL]
    refine .inr (.inr (.inr ⟨b, o, cap, arr', e', fr, by rw [List.length_append], hGb.2, by rw [hGb.1, List.length_append], q1, by rw [q2]; exact k5, fun j hj => k6.1 j (by omega), k6.2.1, by rw [q2]; exact k6.2.2⟩))

theorem regrow_sound {own : Own} {sz cap d : Nat} {arr : Array Value} {e : TypeId} {rows r2 : List (List AV)} (hR : Rel g st a w) (hcls : cls own = true)
    (hz' : ∀ r ∈ rows ++ r2, r.length = sz) (hp' : ∀ r ∈ rows ++ r2, ∀ x ∈ r, x.pure1 = true) (harr : arr.size = cap * sz) (hge : rows.length + r2.length ≤ cap)
    (hcs : ∀ (j : Nat) x, (rows ++ r2).flatten[j]? = some x → ∃ v, arr[j]? = some v ∧ VR g w x v) :
    Nx g w ((useUp (stripCell st own) own).set d (.sl sz false (rows ++ r2) (nextCls d own))) (a.put (some d) (.slice (some ⟨w.heap.size, 0, none⟩) (rows.length + r2.length) cap)) (w.alloc (.cells arr e)) := by
  have hall : (rows ++ r2).flatten.length = (rows.length + r2.length) * sz := by
    rw [rows_flat hz', List.length_append]
  have hpall : (rows ++ r2).flatten.all AV.pure1 = true := List.all_eq_true.2 fun x hx => by
    obtain ⟨r, q1, q2⟩ := List.mem_flatten.1 hx
    exact hp' r q1 x q2
  obtain ⟨p1, p2⟩ := (row_VR (e := e) (hw := hR.wf) (own := nextCls d own) (n := rows.length + r2.length) (hlen := hall) (harr := harr) (hcap := hge) (hcs := hcs)).1 hpall
  have hck : chunk sz (rows.length + r2.length) (rows ++ r2).flatten = rows ++ r2 := by rw [← List.length_append]; exact chunk_flatten hz'
  rw [hck] at p1 p2
  have hG := grow_row (o := .cells arr e) hR.wf ((rows.length + r2.length) * sz) (nextCls d own)
  have hRel := rel_used hR hcls hG.vext rfl rfl rfl (WF_row hR.wf _ (by rw [harr]; exact Nat.mul_le_mul_right _ hge)) (fun ow' ho' _ b' hb' => hG.hF hR.wf ow' ho' b' hb') (fun b' hb' => (hG.old b' (by
    rcases hb' with ⟨k, hk⟩ | hk
    · exact hR.wf.ltl k b' hk
    · exact hR.wf.ltg b' hk)).1)
  exact ⟨_, hG.ext, rel_put hRel (some d) p1 (FL_fresh _ p2)⟩

include hT

set_option maxHeartbeats 1000000 in
theorem append_sound {fid t t2 ty : Nat} {dst : Option Nat} {x y : AV} {v u : Value} (hR : Rel g st a w) (h : den C Lp (appendOp T fid st dst t x y) = some st') (hx : VR g w x v) (hfx : FL g w (fresh st x) v) (hy : VR g w y u)
    (hk : (∃ e', P.underlying t2 = some (.slice e')) ∨ P.underlying t2 = some .string) :
    ∃ r w', (Builtin.append_ #[t, t2] ty #[v, u]).run P w = .ok r w' ∧ Nx g w st' (a.put dst r) w' := by
  have hs := hT.sh t
  have hks := hT.ks t
  unfold appendOp at h
  unfold ksOk at hks
  cases hsh : T.sh t with
  | slice e =>
    rw [hsh] at h hs hks
    have hut : P.underlying t = some (.slice e) := hs
    obtain ⟨i, hi, hisz, hiby, hiz⟩ := hT.info e hks.2
    have hisz' : i.size = size T e := hisz
    have hzcells : (if isAgg T e then Value.agg ((T.ks e).map zeroV).toArray else (((T.ks e).map zeroV).headD undef)).cells.size = size T e := by
      obtain ⟨z, _, h2, h3⟩ := info_zero hT hks.2
      rw [← h3, h2]
      simp [size]
    cases hx with
    | slnil sz own =>
      cases dst with
      | none => simp at h
      | some d =>
        simp only at h
        change den C Lp (match moreOf T st e y with | none => R.fail | some r2 => _) = some st' at h
        cases hm : moreOf T st e y with
        | none => rw [hm] at h; simp at h
        | some r2 =>
          rw [hm] at h
          simp only at h
          obtain ⟨h1, h⟩ := den_chk_some C Lp h
          obtain ⟨h2, h⟩ := den_chk_some C Lp h
          obtain ⟨h3, h⟩ := den_chk_some C Lp h
          simp only [den_br, Bool.cond_true] at h
          simp only [decide_eq_true_eq, List.length_nil, Nat.zero_add] at h1 h2
          have hr : ∀ r ∈ r2, r.length = size T e ∧ ∀ x ∈ r, x.pure1 = true := fun r hr => by
            have := List.all_eq_true.1 h3 r hr
            simp only [Bool.and_eq_true, List.all_eq_true, beq_iff_eq] at this
            exact ⟨this.2, this.1⟩
          obtain ⟨news, hsrc, hrows⟩ := src_sound hk hy hR.lr hm hr
          rw [← hisz'] at hsrc
          cases hr2 : r2 with
          | nil =>
            subst hr2
            have hnews : news = [] := by
              have := hsrc.newsLen
              simpa using this
            subst hnews
            refine ⟨.slice none 0 0, w, run_append_nothing w t t2 ty e i hut hi none 0 0 (Nat.le_refl _) u hsrc, ?_⟩
            simp only [List.isEmpty_nil] at h
            unfold thawed at h
            split at h
            · simp only [den_br, Bool.cond_true, den_ret, Option.some.injEq] at h
              subst h
              exact nx_put hR (some d) (.slnil _ _) (FL_fresh _ (.inl rfl))
            · simp only [den_ret, Option.some.injEq] at h
              subst h
              exact nx_put hR (some d) (.slnil _ _) (FL_fresh _ (.inr (.inr (.inl rfl))))
          | cons r0 rs =>
            have hpos : 0 < r2.length := by rw [hr2]; simp
            have hemp : r2.isEmpty = false := by rw [hr2]; rfl
            rw [hemp] at h
            have hrun := run_append_grow_src (P := P) (ty := ty) w t t2 e i _ hut hi hiz none 0 0 [] (run_firstCells_none w.drew i.size 0 0 0) u r2.length news hsrc (by omega) (by omega)
              (growslice_fits (by omega) (by
                rw [hiby, Nat.zero_add]
                have : r2.length * T.bytes e ≤ 268435456 * 4096 := Nat.mul_le_mul h1 h2
                omega))
            simp only [Nat.zero_add, List.nil_append] at hrun
            refine ⟨_, _, hrun, Nx_drew ?_⟩
            have hge := grownCap_ge w r2.length 0 e
            have hnl := hsrc.newsLen
            rw [hisz'] at hnl
            refine thawRow_sound (w := w.drew) (cap := grownCap w r2.length 0 e) (hR := Rel_drew hR) (h := h) (hn := rfl) (hz := fun r h => (hr r h).1) (harr := ?_) (hcap := hge) (hp := fun r h x hx => (hr r h).2 x hx) (hcs := fun j x hj => ?_)
            · rw [Array.size_append, size_zeroCells, hzcells, List.size_toArray, hnl, ← Nat.add_mul]
              congr 1
              omega
            · obtain ⟨v, q1, q2⟩ := hrows j x hj
              refine ⟨v, ?_, VR_drew q2⟩
              rw [Array.getElem?_append_left (by simpa using lt_of_getElem? q1)]
              simpa using q1
    | sl sz rows own b o cap val hcap hz hc hv hp hm0 =>
      cases dst with
      | none => simp at h
      | some d =>
        simp only at h
        change den C Lp (match moreOf T st e y with | none => R.fail | some r2 => _) = some st' at h
        cases hm : moreOf T st e y with
        | none => rw [hm] at h; simp at h
        | some r2 =>
          rw [hm] at h
          simp only at h
          obtain ⟨h1, h⟩ := den_chk_some C Lp h
          obtain ⟨h2, h⟩ := den_chk_some C Lp h
          obtain ⟨h3, h⟩ := den_chk_some C Lp h
          simp only [den_br, Bool.cond_false] at h
          obtain ⟨h4, h⟩ := den_chk_some C Lp h
          simp only [decide_eq_true_eq, Bool.and_eq_true] at h1 h2 h4
          obtain ⟨hus, hsz⟩ := h4
          simp only [den_ret, Option.some.injEq] at h
          have hr : ∀ r ∈ r2, r.length = size T e ∧ ∀ x ∈ r, x.pure1 = true := fun r hr => by
            have := List.all_eq_true.1 h3 r hr
            simp only [Bool.and_eq_true, List.all_eq_true, beq_iff_eq] at this
            exact ⟨this.2, this.1⟩
          obtain ⟨news, hsrc, hrows⟩ := src_sound hk hy hR.lr hm hr
          rw [← hisz'] at hsrc
          have hnl := hsrc.newsLen
          rw [hisz', ← hsz] at hnl
          have hcls : cls own = true := by
            cases own <;> first
              | rfl
              | simp [usable] at hus
          have hfl : FLo g w own sz rows.length (.slice (some ⟨b, o, none⟩) rows.length cap) := by
            simp only [fresh, if_pos hus] at hfx
            exact hfx
          obtain ⟨b', o', cap', arr, e', fr, k1, k2, k3, k4, k5, k6⟩ : ∃ b' off cap' arr e' fr, (Value.slice (some ⟨b, o, none⟩) rows.length cap) = .slice (some ⟨b', off, none⟩) rows.length cap' ∧ g.ow b' = own ∧ off + rows.length * sz = g.mrk b' ∧ w.heap[b']? = some (.cells arr e' fr) ∧
              arr.size = off + cap' * sz ∧ (∀ j, j < arr.size → ¬(fr.1 ≤ j ∧ j < fr.2)) ∧ off = 0 ∧ (1 < sz → ¬(fr.1 ≤ arr.size ∧ arr.size < fr.2)) := by
            rcases hfl with h | h | h | h
            · rw [h] at hcls; simp [cls] at hcls
            · rw [h] at hcls; simp [cls] at hcls
            · cases h
            · exact h
          cases k1
          have hall : (rows ++ r2).flatten.length = (rows.length + r2.length) * sz := by
            rw [rows_flat (sz := sz) (fun r hr' => ?_), List.length_append]
            rcases List.mem_append.1 hr' with h | h
            · exact hz r h
            · rw [(hr r h).1, hsz]
          have hz' : ∀ r ∈ rows ++ r2, r.length = sz := fun r hr' => by
            rcases List.mem_append.1 hr' with h | h
            · exact hz r h
            · rw [(hr r h).1, hsz]
          have hp' : ∀ r ∈ rows ++ r2, ∀ x ∈ r, x.pure1 = true := fun r hr' => by
            rcases List.mem_append.1 hr' with h | h
            · exact hp r h
            · exact (hr r h).2
          obtain ⟨olds, o1, o2, o3, o4⟩ := sl_news (g := g) hz hc hv
          have hflat : (rows ++ r2).flatten = rows.flatten ++ r2.flatten := List.flatten_append
          have hrl : rows.flatten.length = rows.length * sz := rows_flat hz
          have hst' : st' = (useUp (stripCell st own) own).set d (.sl sz false (rows ++ r2) (nextCls d own)) := by
            rw [← h]
            unfold stripCell
            cases own <;> first
              | rfl
              | (simp only; congr 2; split <;> rfl)
          subst hst'
          obtain ⟨nc1, nc2⟩ := nextCls_cls d own
          by_cases hroom : rows.length + r2.length ≤ cap
          · -- there is room
            have hadd : o + rows.length * sz + news.length ≤ arr.size := by
              rw [hnl, k5, Nat.add_assoc, ← Nat.add_mul]
              exact Nat.add_le_add_left (Nat.mul_le_mul_right _ hroom) _
            have hrun := run_append_room_src (P := P) (ty := ty) w t t2 e i hut hi b o rows.length cap u r2.length news hsrc hroom
              (fun j hj => by
                rw [cell?_of_block k4, hisz', ← hsz]
                have : o + rows.length * sz + j < arr.size := by omega
                simp [this])
              (fun j hj => by
                rw [hisz', ← hsz]
                simp only [World.frozen?, k4]
                have := k6.1 (o + rows.length * sz + j) (by omega)
                simp only [Bool.and_eq_false_iff, decide_eq_false_iff_not]
                omega)
            rw [hisz', ← hsz] at hrun
            refine ⟨_, _, hrun, inplace_sound hR hcls k2 k3 k4 k5 k6 hz' hp' hnl hroom (fun k x hk => ?_) hrows⟩
            obtain ⟨v, p1, p2⟩ := o3 k x hk
            refine ⟨v, ?_, p2⟩
            have := o2 k v p1
            rw [add_none, cell?_of_block k4] at this
            exact this
          · -- a new row
            have hgt : cap < rows.length + r2.length := by omega
            have hold : (Builtin.firstCells i.size rows.length (.slice (some ⟨b, o, none⟩) rows.length cap)).run P w.drew = .ok olds.toArray w.drew :=
              run_firstCells_some w.drew _ _ _ _ _ olds (by rw [hisz', ← hsz]; exact o1) (by simpa using o2)
            have hrun := run_append_grow_src (P := P) (ty := ty) w t t2 e i _ hut hi hiz (some ⟨b, o, none⟩) rows.length cap olds hold u r2.length news hsrc hgt (by omega)
              (growslice_fits hgt (by
                rw [hiby]
                have : (rows.length + r2.length) * T.bytes e ≤ 268435456 * 4096 := Nat.mul_le_mul h1 h2
                omega))
            refine ⟨_, _, hrun, Nx_drew (regrow_sound (w := w.drew) (Rel_drew hR) hcls hz' hp' ?_ (grownCap_ge w (rows.length + r2.length) cap e) (fun k x hk => ?_))⟩
            · have hge := grownCap_ge w (rows.length + r2.length) cap e
              rw [Array.size_append, size_zeroCells, hzcells, List.size_toArray, List.length_append, o1, hnl, ← hsz, ← Nat.add_mul, ← Nat.add_mul]
              congr 1
              omega
            · have hlk := lt_of_getElem? hk
              rw [hall] at hlk
              rw [Array.getElem?_append_left (by rw [List.size_toArray, List.length_append, o1, hnl, ← Nat.add_mul]; exact hlk), List.getElem?_toArray]
              rw [hflat] at hk
              rcases Nat.lt_or_ge k rows.flatten.length with hlt | hge
              · rw [List.getElem?_append_left hlt] at hk
                obtain ⟨v, p1, p2⟩ := o3 k x hk
                exact ⟨v, by rw [List.getElem?_append_left (by omega)]; exact p1, VR_drew p2⟩
              · rw [List.getElem?_append_right hge] at hk
                obtain ⟨v, p1, p2⟩ := hrows _ x hk
                exact ⟨v, by rw [List.getElem?_append_right (by omega), o1, ← hrl]; exact p1, VR_drew p2⟩
    | _ => simp at h
  | _ => rw [hsh] at h; simp at h
end
end Go.Ab
