/- Equality, arithmetic. -/
import Derived.Test.YtmekbgeknkknfaaG1
import Derived.Laws.StructEq
set_option linter.unusedVariables false
set_option linter.unusedSimpArgs false
set_option linter.unusedSectionVars false
set_option linter.constructorNameAsVariable false
namespace Go.Ab

theorem wrapF_eq (k : IntKind) (n : Int) : wrapF k n = k.wrap n := by
  unfold wrapF
  split
  · rename_i m
    cases h : Nat.ble m (match k with | .i8 => 127 | .i16 => 32767 | .i32 => 2147483647 | .i64 => 9223372036854775807 | .u8 => 255 | .u16 => 65535 | .u32 => 4294967295 | .u64 => 18446744073709551615)
    · rfl
    · rw [Nat.ble_eq] at h
      simp only [cond_true, IntKind.wrap]
      cases k <;> simp only [IntKind.bits, IntKind.signed] at h ⊢ <;> simp <;> omega
  · rename_i m
    cases h : (Nat.ble m (match k with | .i8 => 127 | .i16 => 32767 | .i32 => 2147483647 | .i64 => 9223372036854775807 | _ => 0) && k.signed)
    · rfl
    · rw [Bool.and_eq_true, Nat.ble_eq] at h
      simp only [cond_true, IntKind.wrap]
      cases k <;> simp only [IntKind.bits, IntKind.signed] at h ⊢ <;> simp at h ⊢ <;> omega

theorem eqCells_append : ∀ (k1 k2 : List CK) (x1 x2 y1 y2 : List AV), x1.length = k1.length → y1.length = k1.length →
    eqCells (k1 ++ k2) (x1 ++ x2) (y1 ++ y2) = (eqCells k1 x1 y1 && eqCells k2 x2 y2)
  | [], k2, x1, x2, y1, y2, hx, hy => by
    cases x1 <;> cases y1 <;> simp_all [eqCells]
  | k :: k1, k2, x1, x2, y1, y2, hx, hy => by
    cases x1 with
    | nil => simp at hx
    | cons x x1 =>
      cases y1 with
      | nil => simp at hy
      | cons y y1 =>
        simp only [List.cons_append, eqCells]
        rw [eqCells_append k1 k2 x1 x2 y1 y2 (by simpa using hx) (by simpa using hy), Bool.and_assoc]

theorem canonOks_length : ∀ {ks : List CK} {cs : List AV}, canonOks ks cs = true → cs.length = ks.length
  | [], [], _ => rfl
  | [], _ :: _, h => by simp [canonOks] at h
  | _ :: _, [], h => by simp [canonOks] at h
  | k :: ks, c :: cs, h => by
    simp only [canonOks, Bool.and_eq_true] at h
    simp [canonOks_length h.2]

theorem canonOks_append : ∀ (k1 k2 : List CK) (cs : List AV), canonOks (k1 ++ k2) cs = true →
    canonOks k1 (cs.take k1.length) = true ∧ canonOks k2 (cs.drop k1.length) = true
  | [], k2, cs, h => by simpa [canonOks] using h
  | k :: k1, k2, [], h => by simp [canonOks] at h
  | k :: k1, k2, c :: cs, h => by
    simp only [List.cons_append, canonOks, Bool.and_eq_true] at h
    have := canonOks_append k1 k2 cs h.2
    simp [canonOks, h.1, this.1, this.2]

/-- A value of a type, cell by cell. -/
def VRt (T : Tab) (g : Gh) (w : World) (t : Nat) (cs : List AV) (X : Value) : Prop :=
  if isAgg T t then ∃ (vals : Array Value) (val : Nat → Value), X = .agg vals ∧ vals.size = cs.length ∧ (∀ (j : Nat) x, cs[j]? = some x → vals[j]? = some (val j)) ∧ (∀ (j : Nat) x, cs[j]? = some x → VR g w x (val j)) ∧ ∀ x ∈ cs, x.isCell = true
  else ∃ c, cs = [c] ∧ VR g w c X

section
variable {T : Tab} {P : Program} (hT : TabOK T P) {g : Gh} {w : World}
include hT

theorem part_VRt {e : Nat} (he : T.sh e ≠ .other) {cs : List AV} {vals : Array Value} {val : Nat → Value} (hs : vals.size = cs.length)
    (hc : ∀ (j : Nat) x, cs[j]? = some x → vals[j]? = some (val j)) (hv : ∀ (j : Nat) x, cs[j]? = some x → VR g w x (val j)) (hp : ∀ x ∈ cs, x.isCell = true) {o : Nat}
    (hn : isAgg T e = true ∨ ((T.ks e).length = 1 ∧ o + (T.ks e).length ≤ cs.length)) :
    ∃ u, (part e vals o).run P w = .ok u w ∧ VRt T g w e ((cs.drop o).take (T.ks e).length) u := by
  have ha := run_isAgg hT he w
  have hse := run_sizeOf hT he w
  have hsub : ∀ (j : Nat) x, ((cs.drop o).take (T.ks e).length)[j]? = some x → cs[o + j]? = some x ∧ j < (T.ks e).length := by
    intro j x hx
    rw [List.getElem?_take] at hx
    split at hx
    · rename_i hj
      rw [List.getElem?_drop] at hx
      exact ⟨hx, hj⟩
    · simp at hx
  by_cases hA : isAgg T e = true
  · refine ⟨.agg (vals.extract o (o + (T.ks e).length)), by simp [part, ha, hA, hse], ?_⟩
    unfold VRt
    rw [if_pos hA]
    refine ⟨_, fun j => val (o + j), rfl, ?_, ?_, ?_, ?_⟩
    · simp only [Array.size_extract, List.length_take, List.length_drop]
      omega
    · intro j x hx
      obtain ⟨h1, h2⟩ := hsub j x hx
      have := lt_of_getElem? h1
      rw [Array.getElem?_extract, if_pos (by omega)]
      exact hc _ _ h1
    · intro j x hx
      exact hv _ _ (hsub j x hx).1
    · intro x hx
      exact hp x (List.mem_of_mem_drop (List.mem_of_mem_take hx))
  · obtain ⟨h1, hlen⟩ := hn.resolve_left hA
    have hlt : o < cs.length := by omega
    have hx0 : cs[o]? = some cs[o] := List.getElem?_eq_getElem hlt
    refine ⟨val o, ?_, ?_⟩
    · simp [part, ha, hA, hc _ _ hx0]
    · unfold VRt
      rw [if_neg hA]
      refine ⟨cs[o], ?_, hv _ _ hx0⟩
      rw [h1, List.drop_eq_getElem_cons hlt]
      rfl

theorem ks_one {t : Nat} (ht : T.sh t ≠ .other) : isAgg T t = true ∨ (T.ks t).length = 1 := by
  have hk := hT.ks t
  unfold ksOk at hk
  unfold isAgg
  cases hs : T.sh t <;> simp_all

theorem eqFields_sound {n d : Nat} (ih : ∀ e, T.rk e < n → T.sh e ≠ .other → (T.ks e).all eqKind = true → ∀ (cs ds : List AV) (X Y : Value),
      canonOks (T.ks e) cs = true → canonOks (T.ks e) ds = true → VRt T g w e cs X → VRt T g w e ds Y → (Op.equalIn d e X Y).run P w = .ok (eqCells (T.ks e) cs ds) w)
    {cs ds : List AV} {vx vy : Array Value} {valx valy : Nat → Value}
    (hsx : vx.size = cs.length) (hcx : ∀ (j : Nat) x, cs[j]? = some x → vx[j]? = some (valx j)) (hvx : ∀ (j : Nat) x, cs[j]? = some x → VR g w x (valx j)) (hpx : ∀ x ∈ cs, x.isCell = true)
    (hsy : vy.size = ds.length) (hcy : ∀ (j : Nat) x, ds[j]? = some x → vy[j]? = some (valy j)) (hvy : ∀ (j : Nat) x, ds[j]? = some x → VR g w x (valy j)) (hpy : ∀ x ∈ ds, x.isCell = true) :
    ∀ (fs : List Field) (o : Nat), (∀ f ∈ fs, f.name ≠ "_" ∧ T.sh f.type ≠ .other ∧ T.rk f.type < n ∧ (T.ks f.type).all eqKind = true) →
      (∀ i f, fs[i]? = some f → f.offset = o + ((fs.take i).map fun f => (T.ks f.type).length).sum) →
      canonOks ((fs.map fun f => T.ks f.type).flatten) (cs.drop o) = true → canonOks ((fs.map fun f => T.ks f.type).flatten) (ds.drop o) = true →
      (Op.eqFields d vx vy fs).run P w = .ok (eqCells ((fs.map fun f => T.ks f.type).flatten) (cs.drop o) (ds.drop o)) w
  | [], o, _, _, _, _ => by simp [Op.eqFields, eqCells]
  | f :: fs, o, hf, ho, hcs, hds => by
    obtain ⟨hn, hne, hrk, hek⟩ := hf f (by simp)
    have hof : f.offset = o := by simpa using ho 0 f rfl
    simp only [List.map_cons, List.flatten_cons] at hcs hds ⊢
    obtain ⟨c1, c2⟩ := canonOks_append _ _ _ hcs
    obtain ⟨d1, d2⟩ := canonOks_append _ _ _ hds
    have lx : o + (T.ks f.type).length ≤ cs.length ∨ (T.ks f.type).length = 0 := by
      have := canonOks_length c1
      rw [List.length_take, List.length_drop] at this
      omega
    have lx' : o + (T.ks f.type).length ≤ cs.length ∨ (T.ks f.type).length = 0 := lx
    have ly : o + (T.ks f.type).length ≤ ds.length ∨ (T.ks f.type).length = 0 := by
      have := canonOks_length d1
      rw [List.length_take, List.length_drop] at this
      omega
    have hcsplit : cs.drop o = (cs.drop o).take (T.ks f.type).length ++ cs.drop (o + (T.ks f.type).length) := by
      rw [← List.drop_drop, List.take_append_drop]
    have hdsplit : ds.drop o = (ds.drop o).take (T.ks f.type).length ++ ds.drop (o + (T.ks f.type).length) := by
      rw [← List.drop_drop, List.take_append_drop]
    rw [List.drop_drop] at c2 d2
    rw [hcsplit, hdsplit, eqCells_append _ _ _ _ _ _ (canonOks_length c1) (canonOks_length d1)]
    have hpos : ∀ (zs : List AV), o + (T.ks f.type).length ≤ zs.length ∨ (T.ks f.type).length = 0 → isAgg T f.type = true ∨ ((T.ks f.type).length = 1 ∧ o + (T.ks f.type).length ≤ zs.length) := by
      intro zs hz
      rcases ks_one hT hne with h | h
      · exact .inl h
      · exact .inr ⟨h, by omega⟩
    obtain ⟨X, hX, hX'⟩ := part_VRt hT (g := g) (w := w) hne hsx hcx hvx hpx (hpos cs lx)
    obtain ⟨Y, hY, hY'⟩ := part_VRt hT (g := g) (w := w) hne hsy hcy hvy hpy (hpos ds ly)
    have he := ih f.type hrk hne hek _ _ X Y c1 d1 hX' hY'
    have hr := eqFields_sound ih hsx hcx hvx hpx hsy hcy hvy hpy fs (o + (T.ks f.type).length) (fun f' hf' => hf f' (by simp [hf'])) (fun i f' hi => by
      have := ho (i + 1) f' (by simpa using hi)
      rw [this]
      simp [Nat.add_assoc]) c2 d2
    rw [Op.eqFields, if_pos hn]
    simp only [Sem.run_bind, hof, hX, hY, Result.andThen_ok, he]
    cases eqCells (T.ks f.type) (List.take (T.ks f.type).length (List.drop o cs)) (List.take (T.ks f.type).length (List.drop o ds))
    · simp
    · simpa using hr

omit hT in
def eqElems (d e n : Nat) (xs ys : Array Value) : List Nat → Sem Bool
  | [] => pure true
  | i :: is => do
    let a ← part e xs (i * n)
    let b ← part e ys (i * n)
    let r ← Op.equalIn d e a b
    if (!r) = true then pure false else eqElems d e n xs ys is

omit hT in
theorem run_equalIn_array (d t len e : Nat) (xs ys : Array Value) (n : Nat) (w : World) (ht : P.underlying t = some (.array len e)) (hn : ∀ w, (sizeOf e).run P w = .ok n w) :
    (Op.equalIn (d + 1) t (.agg xs) (.agg ys)).run P w = (eqElems d e n xs ys (List.range len)).run P w := by
  have hu : ∀ w, (underlying t).run P w = .ok (.array len e) w := fun w => by simp [underlying, ht]
  simp only [Op.equalIn, Sem.run_bind, hu, Result.andThen_ok, hn]
  rw [Std.Legacy.Range.forIn_eq_forIn_range']
  have : List.range' ([:len] : Std.Legacy.Range).start ([:len] : Std.Legacy.Range).size ([:len] : Std.Legacy.Range).step = List.range len := by
    simp [Std.Legacy.Range.size, List.range_eq_range']
  rw [this]
  generalize List.range len = l
  clear this
  induction l generalizing w with
  | nil => simp [eqElems]
  | cons i l ih =>
    simp only [List.forIn_cons, eqElems, Sem.run_bind, Sem.run_ite]
    generalize (part e xs (i * n)).run P w = r1
    cases r1 with
    | ok a w1 =>
      simp only [Result.andThen_ok]
      generalize (part e ys (i * n)).run P w1 = r2
      cases r2 with
      | ok b w2 =>
        simp only [Result.andThen_ok]
        generalize (Op.equalIn d e a b).run P w2 = r3
        cases r3 with
        | ok r w3 =>
          cases r
          · simp only [Result.andThen_ok, Bool.not_false, if_true, Sem.run_pure]
          · simp only [Result.andThen_ok, Bool.not_true, Bool.false_eq_true, if_false, Sem.run_pure]
            exact ih w3
        | halt x w3 => simp [Result.andThen]
      | halt x w2 => simp [Result.andThen]
    | halt x w1 => simp [Result.andThen]

theorem eqElems_sound {d e : Nat} (hne : T.sh e ≠ .other) (ih : ∀ (cs ds : List AV) (X Y : Value),
      canonOks (T.ks e) cs = true → canonOks (T.ks e) ds = true → VRt T g w e cs X → VRt T g w e ds Y → (Op.equalIn d e X Y).run P w = .ok (eqCells (T.ks e) cs ds) w)
    {cs ds : List AV} {vx vy : Array Value} {valx valy : Nat → Value}
    (hsx : vx.size = cs.length) (hcx : ∀ (j : Nat) x, cs[j]? = some x → vx[j]? = some (valx j)) (hvx : ∀ (j : Nat) x, cs[j]? = some x → VR g w x (valx j)) (hpx : ∀ x ∈ cs, x.isCell = true)
    (hsy : vy.size = ds.length) (hcy : ∀ (j : Nat) x, ds[j]? = some x → vy[j]? = some (valy j)) (hvy : ∀ (j : Nat) x, ds[j]? = some x → VR g w x (valy j)) (hpy : ∀ x ∈ ds, x.isCell = true) :
    ∀ (n i : Nat), canonOks ((List.replicate n (T.ks e)).flatten) (cs.drop (i * (T.ks e).length)) = true → canonOks ((List.replicate n (T.ks e)).flatten) (ds.drop (i * (T.ks e).length)) = true →
      (eqElems d e (T.ks e).length vx vy (List.range' i n)).run P w = .ok (eqCells ((List.replicate n (T.ks e)).flatten) (cs.drop (i * (T.ks e).length)) (ds.drop (i * (T.ks e).length))) w
  | 0, i, _, _ => by simp [eqElems, eqCells]
  | n + 1, i, hcs, hds => by
    simp only [List.replicate_succ, List.flatten_cons] at hcs hds ⊢
    obtain ⟨c1, c2⟩ := canonOks_append _ _ _ hcs
    obtain ⟨d1, d2⟩ := canonOks_append _ _ _ hds
    have lx : i * (T.ks e).length + (T.ks e).length ≤ cs.length ∨ (T.ks e).length = 0 := by
      have := canonOks_length c1
      rw [List.length_take, List.length_drop] at this
      omega
    have ly : i * (T.ks e).length + (T.ks e).length ≤ ds.length ∨ (T.ks e).length = 0 := by
      have := canonOks_length d1
      rw [List.length_take, List.length_drop] at this
      omega
    have hi : (i + 1) * (T.ks e).length = i * (T.ks e).length + (T.ks e).length := by rw [Nat.add_mul, Nat.one_mul]
    have hcsplit : cs.drop (i * (T.ks e).length) = (cs.drop (i * (T.ks e).length)).take (T.ks e).length ++ cs.drop ((i + 1) * (T.ks e).length) := by
      rw [hi, ← List.drop_drop, List.take_append_drop]
    have hdsplit : ds.drop (i * (T.ks e).length) = (ds.drop (i * (T.ks e).length)).take (T.ks e).length ++ ds.drop ((i + 1) * (T.ks e).length) := by
      rw [hi, ← List.drop_drop, List.take_append_drop]
    rw [List.drop_drop, ← hi] at c2 d2
    rw [hcsplit, hdsplit, eqCells_append _ _ _ _ _ _ (canonOks_length c1) (canonOks_length d1)]
    have hpos : ∀ (zs : List AV), i * (T.ks e).length + (T.ks e).length ≤ zs.length ∨ (T.ks e).length = 0 → isAgg T e = true ∨ ((T.ks e).length = 1 ∧ i * (T.ks e).length + (T.ks e).length ≤ zs.length) := by
      intro zs hz
      rcases ks_one hT hne with h | h
      · exact .inl h
      · exact .inr ⟨h, by omega⟩
    obtain ⟨X, hX, hX'⟩ := part_VRt hT (g := g) (w := w) hne hsx hcx hvx hpx (hpos cs lx)
    obtain ⟨Y, hY, hY'⟩ := part_VRt hT (g := g) (w := w) hne hsy hcy hvy hpy (hpos ds ly)
    have he := ih _ _ X Y c1 d1 hX' hY'
    have hr := eqElems_sound hne ih hsx hcx hvx hpx hsy hcy hvy hpy n (i + 1) c2 d2
    rw [List.range'_succ, eqElems]
    simp only [Sem.run_bind, hX, hY, Result.andThen_ok, he]
    cases eqCells (T.ks e) (List.take (T.ks e).length (List.drop (i * (T.ks e).length) cs)) (List.take (T.ks e).length (List.drop (i * (T.ks e).length) ds))
    · simp
    · simpa using hr

theorem eq_sound : ∀ (n t : Nat), T.rk t < n → T.sh t ≠ .other → (T.ks t).all eqKind = true → ∀ d, n ≤ d → ∀ (cs ds : List AV) (X Y : Value),
    canonOks (T.ks t) cs = true → canonOks (T.ks t) ds = true → VRt T g w t cs X → VRt T g w t ds Y →
    (Op.equalIn d t X Y).run P w = .ok (eqCells (T.ks t) cs ds) w := by
  intro n
  induction n with
  | zero => intro t h; omega
  | succ n ih =>
    intro t hrk hne hek d hd cs ds X Y hcs hds hX hY
    obtain ⟨d, rfl⟩ : ∃ d', d = d' + 1 := ⟨d - 1, by omega⟩
    have hs := hT.sh t
    have hk := hT.ks t
    unfold ksOk at hk
    unfold VRt isAgg at hX hY
    cases hsh : T.sh t with
    | bool =>
      rw [hsh] at hs hk
      simp only [shOk, hsh, Bool.false_eq_true, if_false] at hs hk hX hY
      obtain ⟨c, rfl, hc⟩ := hX
      obtain ⟨c', rfl, hc'⟩ := hY
      rw [hk] at hcs hds ⊢
      cases c <;> simp [canonOks, canonOk, AV.isBool] at hcs
      cases c' <;> simp [canonOks, canonOk, AV.isBool] at hds
      cases hc; cases hc'
      simp [Op.equalIn, run_underlying hT hs, eqCells, eqCell, AV.boolOf]
    | int k =>
      rw [hsh] at hs hk
      simp only [shOk, hsh, Bool.false_eq_true, if_false] at hs hk hX hY
      obtain ⟨c, rfl, hc⟩ := hX
      obtain ⟨c', rfl, hc'⟩ := hY
      rw [hk] at hcs hds ⊢
      cases c <;> simp [canonOks, canonOk, AV.isInt] at hcs
      cases c' <;> simp [canonOks, canonOk, AV.isInt] at hds
      cases hc; cases hc'
      subst hcs; subst hds
      simp [Op.equalIn, run_underlying hT hs, eqCells, eqCell, AV.intOf]
    | str =>
      rw [hsh] at hs hk
      simp only [shOk, hsh, Bool.false_eq_true, if_false] at hs hk hX hY
      obtain ⟨c, rfl, hc⟩ := hX
      obtain ⟨c', rfl, hc'⟩ := hY
      rw [hk] at hcs hds ⊢
      cases c <;> simp [canonOks, canonOk, AV.isStr] at hcs
      cases c' <;> simp [canonOks, canonOk, AV.isStr] at hds
      cases hc with
      | str l s h1 =>
        cases hc' with
        | str l' s' h2 =>
          subst h1; subst h2
          simp [Op.equalIn, run_underlying hT hs, eqCells, eqCell, AV.strOf, beq_toListBytes, ByteArray.toList_eq]
    | struct fs =>
      have hheld := hT.held t fs hsh hek
      have hrkS := hT.rkS t fs
      rw [hsh] at hs hk
      simp only [shOk, hsh, if_true] at hs hk hX hY
      obtain ⟨vx, valx, rfl, hsx, hcx, hvx, hpx⟩ := hX
      obtain ⟨vy, valy, rfl, hsy, hcy, hvy, hpy⟩ := hY
      obtain ⟨F, hu, hF, hnm⟩ := hs
      have hfo : P.fieldsOf t = F := by simp [Program.fieldsOf, hu]
      rw [run_equalIn_struct (P := P) w d t vx vy (by rw [hfo]; exact hu) hheld, hfo]
      have hks : T.ks t = (F.toList.map fun f => T.ks f.type).flatten := by
        rw [hk.1, ← hF, List.map_map]; rfl
      rw [hks] at hcs hds ⊢
      have hall : ∀ (i : Nat) f, F.toList[i]? = some f → fs[i]? = some (f.offset, f.type) := by
        intro i f hi
        rw [← hF, List.getElem?_map, hi]; rfl
      have := eqFields_sound hT (n := n) (d := d) (g := g) (w := w) (fun e h1 h2 h3 cs ds X Y h4 h5 h6 h7 => ih e h1 h2 h3 d (by omega) cs ds X Y h4 h5 h6 h7) hsx hcx hvx hpx hsy hcy hvy hpy F.toList 0
        (fun f hf => by
          obtain ⟨i, hi⟩ := List.getElem?_of_mem hf
          have hfi := hall i f hi
          refine ⟨hnm f hf, (hk.2 i _ _ hfi).2.1, by have := hrkS i _ _ hsh hfi; omega, ?_⟩
          rw [hks] at hek
          simp only [List.all_eq_true] at hek ⊢
          intro x hx
          exact hek x (List.mem_flatten.2 ⟨_, List.mem_map.2 ⟨f, hf, rfl⟩, hx⟩))
        (fun i f hi => by
          have := (hk.2 i _ _ (hall i f hi)).1
          rw [this, ← hF, List.map_take, List.map_map, Nat.zero_add, List.map_take]
          rfl) (by simpa using hcs) (by simpa using hds)
      simpa using this
    | arr len e =>
      have hrkA := hT.rkA t len e hsh
      rw [hsh] at hs hk
      simp only [shOk, hsh, if_true] at hs hk hX hY
      obtain ⟨vx, valx, rfl, hsx, hcx, hvx, hpx⟩ := hX
      obtain ⟨vy, valy, rfl, hsy, hcy, hvy, hpy⟩ := hY
      rw [run_equalIn_array d t len e vx vy (T.ks e).length w hs (fun w => run_sizeOf hT hk.2.1 w)]
      rw [hk.1] at hcs hds ⊢
      by_cases hlen : len = 0
      · subst hlen
        simp [eqElems, eqCells]
      · have := eqElems_sound hT (d := d) (g := g) (w := w) hk.2.1 (fun cs ds X Y h4 h5 h6 h7 => ih e (by omega) hk.2.1 (by
            rw [hk.1] at hek
            simp only [List.all_eq_true] at hek ⊢
            intro x hx
            exact hek x (List.mem_flatten.2 ⟨_, List.mem_replicate.2 ⟨hlen, rfl⟩, hx⟩)) d (by omega) cs ds X Y h4 h5 h6 h7) hsx hcx hvx hpx hsy hcy hvy hpy len 0 (by simpa using hcs) (by simpa using hds)
        simpa [List.range_eq_range'] using this
    | other => exact absurd hsh hne
    | _ =>
      rw [hsh] at hk
      simp_all [eqKind]
end
end Go.Ab
namespace Go.Ab

section
variable {T : Tab} {P : Program} (hT : TabOK T P) {C : Nat → List AV → List GB → Option (AV × List GB)} {Lp : Nat → Nat → Code → St → Option (Ex × St)}
  {g : Gh} {w : World}

theorem binInt_sound {op : BinOp} {t : Nat} {k k' : IntKind} {a b : Int} {z : AV} (h : den C Lp (binOpR T op t (.int k a) (.int k' b)) = some z) :
    ∃ r, (binOp op t (.int k a) (.int k' b)).run P w = .ok r w ∧ VR g w z r ∧ z.slOwn = .no := by
  cases op <;> simp only [binOpR] at h
  case shl =>
    obtain ⟨h1, h⟩ := den_chk_some C Lp h
    simp only [decide_eq_true_eq] at h1
    simp only [den_ret, Option.some.injEq] at h
    subst h
    refine ⟨_, ?_, .int _ _, rfl⟩
    simp only [binOp, Op.shift]
    rw [if_neg (by omega)]
    simp [wrapF_eq]
  case shr =>
    obtain ⟨h1, h⟩ := den_chk_some C Lp h
    simp only [decide_eq_true_eq] at h1
    simp only [den_ret, Option.some.injEq] at h
    subst h
    refine ⟨_, ?_, .int _ _, rfl⟩
    simp only [binOp, Op.shift]
    rw [if_neg (by omega)]
    simp
  all_goals
    have hkk := (den_chk_some C Lp h).1
    replace h := (den_chk_some C Lp h).2
    obtain rfl : k = k' := by simpa using hkk
    simp only [intArith] at h
  case quo =>
    obtain ⟨h1, h⟩ := den_chk_some C Lp h
    simp only [den_ret, Option.some.injEq] at h
    subst h
    refine ⟨_, ?_, .int _ _, rfl⟩
    simp at h1
    simp [binOp, Op.intDiv, h1, wrapF_eq]
  case rem =>
    obtain ⟨h1, h⟩ := den_chk_some C Lp h
    simp only [den_ret, Option.some.injEq] at h
    subst h
    refine ⟨_, ?_, .int _ _, rfl⟩
    simp at h1
    simp [binOp, Op.intDiv, h1]
  all_goals
    first | (simp at h; done) | skip
    simp only [den_ret, Option.some.injEq] at h
    subst h
    first
      | refine ⟨_, ?_, .int _ _, rfl⟩
      | refine ⟨_, ?_, .bool _, rfl⟩
    simp [binOp, Op.intArith, Op.intBits, Op.intCmp, wrapF_eq, bne]

theorem binStr_sound {op : BinOp} {t : Nat} {a b : List UInt8} {z : AV} {sa sb : ByteArray} (h : den C Lp (binOpR T op t (.str a) (.str b)) = some z) (ha : sa.data.toList = a) (hb : sb.data.toList = b) :
    ∃ r, (binOp op t (.string sa) (.string sb)).run P w = .ok r w ∧ VR g w z r ∧ z.slOwn = .no := by
  subst ha; subst hb
  cases op <;> simp only [binOpR] at h
  case add =>
    obtain ⟨h1, h⟩ := den_chk_some C Lp h
    simp only [decide_eq_true_eq] at h1
    simp only [den_ret, Option.some.injEq] at h
    subst h
    refine ⟨.string (sa ++ sb), ?_, .str _ _ (by simp), rfl⟩
    have e1 : sa.data.toList.length = sa.size := by rw [Array.length_toList]; rfl
    have e2 : sb.data.toList.length = sb.size := by rw [Array.length_toList]; rfl
    rw [e1, e2] at h1
    simp only [binOp, Op.stringOp]
    rw [if_neg (by simp [IntKind.max, IntKind.signed, IntKind.bits]; omega)]
    rfl
  case eql =>
    simp only [den_ret, Option.some.injEq] at h
    subst h
    refine ⟨_, ?_, .bool _, rfl⟩
    simp [binOp, Op.stringOp, ByteArray.toList_eq]
  case neq =>
    simp only [den_ret, Option.some.injEq] at h
    subst h
    refine ⟨_, ?_, .bool _, rfl⟩
    simp [binOp, Op.stringOp, ByteArray.toList_eq]
  all_goals simp at h

theorem guard_plain {op : BinOp} {t : Nat} {x y : Operand} {a b : Value} (h : ¬ (a matches .nilIface) ∧ ¬ (a matches .agg _)) : (eqGuard op t x y a b).run P w = .ok () w := by
  unfold eqGuard
  cases op <;> simp <;> cases a <;> simp_all

include hT

theorem equal_sound' (d : Nat) (hd : 9999 ≤ d) {t : Nat} {x y : AV} {r : Bool} {v u : Value} (h : den C Lp (equalOp T t x y) = some r) (hx : VR g w x v) (hy : VR g w y u) :
    (Op.equalIn (d + 1) t v u).run P w = .ok r w := by
  have hs := hT.sh t
  have hk := hT.ks t
  unfold ksOk at hk
  cases hsh : T.sh t with
  | bool =>
    rw [hsh] at hs
    simp only [shOk] at hs
    unfold equalOp at h
    simp only [hsh] at h
    cases hx <;> try (simp at h; done)
    cases hy <;> try (simp at h; done)
    simp only [den_ret, Option.some.injEq] at h
    subst h
    simp [Op.equalIn, run_underlying hT hs]
  | ptr e =>
    rw [hsh] at hs
    simp only [shOk] at hs
    unfold equalOp at h
    simp only [hsh] at h
    cases hx with
    | np =>
      cases hy <;> simp at h <;> subst h <;> simp [Op.equalIn, run_underlying hT hs]
    | lp k o b hb =>
      cases hy <;> simp at h <;> subst h <;> simp [Op.equalIn, run_underlying hT hs]
    | gp k o b hb =>
      cases hy with
      | np =>
        simp at h
        subst h
        simp [Op.equalIn, run_underlying hT hs]
      | gp k' o' b' hb' =>
        have h1 := (den_chk_some C Lp h).1
        replace h := (den_chk_some C Lp h).2
        simp only [Bool.and_eq_true, beq_iff_eq, decide_eq_true_eq] at h1
        obtain ⟨⟨hkk, hne⟩, hpos⟩ := h1
        subst hkk
        have hbb : b = b' := by
          rw [hb] at hb'
          simpa using hb'
        subst hbb
        simp only [den_ret, Option.some.injEq] at h
        subst h
        have hse := run_sizeOf hT hne w
        have : (T.ks e).length ≠ 0 := by unfold size at hpos; omega
        have hab : ((⟨b, o, none⟩ : Addr) == ⟨b, o', none⟩) = (o == o') := by
          rw [Bool.eq_iff_iff]
          simp
        simp [Op.equalIn, run_underlying hT hs, hse, this, sameAddr, hab]
      | _ => cases h
    | _ => simp at h
  | slice e =>
    rw [hsh] at hs
    simp only [shOk] at hs
    unfold equalOp at h
    simp only [hsh] at h
    cases hy with
    | slnil sz own =>
      cases hx <;> simp at h <;> subst h <;> simp [Op.equalIn, run_underlying hT hs]
    | sl =>
      cases hx <;> simp at h <;> subst h <;> simp [Op.equalIn, run_underlying hT hs]
    | _ => simp at h
  | struct fs =>
    unfold equalOp at h
    simp only [hsh] at h
    cases hx with
    | agg cs vx valx hsx hcx hvx hpx =>
      cases hy with
      | agg ds vy valy hsy hcy hvy hpy =>
        obtain ⟨h1, h⟩ := den_chk_some C Lp h
        simp only [Bool.and_eq_true] at h1
        simp only [den_ret, Option.some.injEq] at h
        subst h
        refine eq_sound hT (g := g) (T.rk t + 1) t (Nat.lt_succ_self _) (by rw [hsh]; simp) h1.1.1 (d + 1) (by have := hT.rk t; omega) cs ds _ _ h1.1.2 h1.2 ?_ ?_
        · unfold VRt isAgg
          rw [hsh]
          exact ⟨vx, valx, rfl, hsx, hcx, hvx, hpx⟩
        · unfold VRt isAgg
          rw [hsh]
          exact ⟨vy, valy, rfl, hsy, hcy, hvy, hpy⟩
      | _ => simp at h
    | _ => simp at h
  | arr n e =>
    unfold equalOp at h
    simp only [hsh] at h
    cases hx with
    | agg cs vx valx hsx hcx hvx hpx =>
      cases hy with
      | agg ds vy valy hsy hcy hvy hpy =>
        obtain ⟨h1, h⟩ := den_chk_some C Lp h
        simp only [Bool.and_eq_true] at h1
        simp only [den_ret, Option.some.injEq] at h
        subst h
        refine eq_sound hT (g := g) (T.rk t + 1) t (Nat.lt_succ_self _) (by rw [hsh]; simp) h1.1.1 (d + 1) (by have := hT.rk t; omega) cs ds _ _ h1.1.2 h1.2 ?_ ?_
        · unfold VRt isAgg
          rw [hsh]
          exact ⟨vx, valx, rfl, hsx, hcx, hvx, hpx⟩
        · unfold VRt isAgg
          rw [hsh]
          exact ⟨vy, valy, rfl, hsy, hcy, hvy, hpy⟩
      | _ => simp at h
    | _ => simp at h
  | _ =>
    unfold equalOp at h
    simp [hsh] at h

theorem equal_sound {t : Nat} {x y : AV} {r : Bool} {v u : Value} (h : den C Lp (equalOp T t x y) = some r) (hx : VR g w x v) (hy : VR g w y u) :
    (Op.equal t v u).run P w = .ok r w := equal_sound' hT 9999 (Nat.le_refl _) h hx hy

omit hT in
def noFit : AV → Bool
  | .ni | .junk => true
  | _ => false

theorem guard_sound {op : BinOp} {t : Nat} {X Y : Operand} {x y : AV} {r : Bool} {v u : Value} (h : den C Lp (equalOp T t x y) = some r) (hx : VR g w x v) (hy : VR g w y u) :
    (eqGuard op t X Y v u).run P w = .ok () w := by
  cases hx with
  | agg cs vx valx hsx hcx hvx hpx =>
    unfold equalOp at h
    cases hsh : T.sh t <;> simp only [hsh] at h <;> try (simp at h; done)
    all_goals
      cases hy <;> first
        | (simp at h; done)
        | (have hm : P.eqGuardType P.depth t = false := by
             obtain ⟨h1, _⟩ := den_chk_some C Lp h
             simp only [Bool.and_eq_true] at h1
             exact hT.eqg t (by unfold isAgg; rw [hsh]) h1.1.1
           exact run_eqGuard_agg w op t X Y _ _ hm)
  | ni =>
    unfold equalOp at h
    cases hsh : T.sh t <;> simp only [hsh] at h <;> cases y <;> simp at h
  | junk =>
    unfold equalOp at h
    cases hsh : T.sh t <;> simp only [hsh] at h <;> cases y <;> simp at h
  | _ => cases op <;> simp [eqGuard, undef]

omit hT in
theorem plainV {t : Nat} {x y : AV} {r : Bool} {v : Value} (h : den C Lp (equalOp T t x y) = some r) (hx : VR g w x v) :
    (∃ b, v = .bool b) ∨ (∃ p, v = .pointer p) ∨ (∃ a l c, v = .slice a l c) ∨ ∃ cs, v = .agg cs := by
  unfold equalOp at h
  cases hsh : T.sh t with
  | bool =>
    simp only [hsh] at h
    cases hx <;> first
      | exact .inl ⟨_, rfl⟩
      | (cases y <;> simp at h)
  | ptr e =>
    simp only [hsh] at h
    cases hx <;> first
      | exact .inr (.inl ⟨_, rfl⟩)
      | (cases y <;> simp at h)
  | slice e =>
    simp only [hsh] at h
    cases hx <;> first
      | exact .inr (.inr (.inl ⟨_, _, _, rfl⟩))
      | (cases y <;> simp at h)
  | struct e =>
    simp only [hsh] at h
    cases hx <;> first
      | exact .inr (.inr (.inr ⟨_, rfl⟩))
      | (cases y <;> simp at h)
  | arr n e =>
    simp only [hsh] at h
    cases hx <;> first
      | exact .inr (.inr (.inr ⟨_, rfl⟩))
      | (cases y <;> simp at h)
  | _ => simp [hsh] at h

theorem run_eqOp {op : BinOp} {t : Nat} {x y : AV} {r : Bool} {v u : Value} (hop : op = .eql ∨ op = .neq) (h : den C Lp (equalOp T t x y) = some r) (hx : VR g w x v) (hy : VR g w y u) :
    (binOp op t v u).run P w = .ok (.bool (if op = .eql then r else !r)) w := by
  have he := equal_sound hT h hx hy
  rcases plainV h hx with ⟨b, rfl⟩ | ⟨p, rfl⟩ | ⟨a, l, c, rfl⟩ | ⟨cs, rfl⟩ <;> rcases hop with rfl | rfl <;> simp [binOp, he]

theorem binOp_sound {op : BinOp} {t : Nat} {X Y : Operand} {x y z : AV} {v u : Value} (h : den C Lp (binOpR T op t x y) = some z) (hx : VR g w x v) (hy : VR g w y u) :
    ∃ r, (do eqGuard op t X Y v u; binOp op t v u : Sem Value).run P w = .ok r w ∧ VR g w z r ∧ z.slOwn = .no := by
  have key : ∀ {v u : Value}, (eqGuard op t X Y v u).run P w = .ok () w → (∃ r, (binOp op t v u).run P w = .ok r w ∧ VR g w z r ∧ z.slOwn = .no) →
      ∃ r, (do eqGuard op t X Y v u; binOp op t v u : Sem Value).run P w = .ok r w ∧ VR g w z r ∧ z.slOwn = .no := by
    intro v u h1 ⟨r, h2, h3⟩
    exact ⟨r, by simp [h1, h2], h3⟩
  by_cases hI : (∃ k n, x = .int k n) ∧ ∃ k n, y = .int k n
  · obtain ⟨⟨k, n, rfl⟩, k', n', rfl⟩ := hI
    cases hx; cases hy
    exact key (guard_plain ⟨by simp, by simp⟩) (binInt_sound h)
  · by_cases hS : (∃ s, x = .str s) ∧ ∃ s, y = .str s
    · obtain ⟨⟨s, rfl⟩, s', rfl⟩ := hS
      cases hx with
      | str l s1 h1 =>
        cases hy with
        | str l' s2 h2 => exact key (guard_plain ⟨by simp, by simp⟩) (binStr_sound h h1 h2)
    · have h' : (op = .eql ∨ op = .neq) ∧ ∃ r, den C Lp (equalOp T t x y) = some r ∧ z = .bool (if op = .eql then r else !r) := by
        unfold binOpR at h
        split at h
        · exact absurd ⟨⟨_, _, rfl⟩, _, _, rfl⟩ hI
        · exact absurd ⟨⟨_, rfl⟩, _, rfl⟩ hS
        · split at h
          · obtain ⟨r, h1, h2⟩ := den_bind_some C Lp h
            simp only [den_ret, Option.some.injEq] at h2
            exact ⟨.inl rfl, r, h1, by simp [← h2]⟩
          · obtain ⟨r, h1, h2⟩ := den_bind_some C Lp h
            simp only [den_ret, Option.some.injEq] at h2
            exact ⟨.inr rfl, r, h1, by simp [← h2]⟩
          · simp at h
      obtain ⟨hop, r, h1, rfl⟩ := h'
      exact key (guard_sound hT h1 hx hy) ⟨_, run_eqOp hT hop h1 hx hy, .bool _, rfl⟩
end
end Go.Ab
